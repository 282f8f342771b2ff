/- coilref.NewMachine. -/
import Derived.Test.YtdjnomeabadbnaaDoorVendNew
namespace Go.Proofs.YtdjnomeabadbnaaDoor
open Go.RowKit
attribute [local go_sem ↓] Go.wp_at_zero Go.wp_at_succ

/-- A machine of the document's answer, of which nothing was sold. -/
structure RefV (w : World) (base M : Nat) (c : Cfg) (esc : List Int) (tv kv sv ev : Value) (b1 b2 : Nat) : Prop where
  blk : w.heap[M]? = some (.cells #[tv, kv, sv, .int .i64 c.high, .map (some b1), ev, .int .i64 0, .map (some b2), .slice none 0 0, .slice none 0 0, .slice none 0 0, .slice none 0 0] 148 (0, 0))
  t : w.ownsRow base 41 3 tv c.tubes.length (tubes c.tubes)
  k : w.ownsRow base 3 1 kv c.takes.length (ints c.takes)
  s : w.ownsRow base 43 5 sv c.slots.length (flat encSlot c.slots)
  e : w.ownsRow base 3 1 ev esc.length (ints esc)
  m1 : w.heap[b1]? = some (.map #[] 0)
  m2 : w.heap[b2]? = some (.map #[] 0)
  low : base ≤ M
theorem RefV.keep0 {w w1 : World} {base M : Nat} {c : Cfg} {esc : List Int} {tv kv sv ev : Value} {b1 b2 : Nat} (h : RefV w base M c esc tv kv sv ev b1 b2) (g : w.grownBy w1 none) : RefV w1 base M c esc tv kv sv ev b1 b2 :=
  ⟨(g.block M (lt_of_block h.blk) (by simp)).trans h.blk, own_keep0 h.t g, own_keep0 h.k g, own_keep0 h.s g, own_keep0 h.e g, (g.block b1 (lt_of_block h.m1) (by simp)).trans h.m1, (g.block b2 (lt_of_block h.m2) (by simp)).trans h.m2, h.low⟩
theorem getD_tf {l : Array Bool} {i : Nat} (h : i < l.size) (ht : l.getD i true = true) : l.getD i false = true := by
  rw [Array.getD_eq_getD_getElem?, Array.getElem?_eq_getElem h] at ht ⊢
  exact ht
def RefNV (c : Cfg) (ta ka sa : Option Addr) (tc kc sc C R : Nat) (j : Nat) (v : Value) (w : World) : Prop :=
  match j with
  | 0 => v = .pointer (some ⟨C, 0, none⟩)
  | 1 => v = .slice ta c.tubes.length tc
  | 2 => w.ownsRow R 41 3 v c.tubes.length (tubes c.tubes)
  | 3 => v = .pointer (some ⟨C, 1, none⟩)
  | 4 => v = .slice ka c.takes.length kc
  | 5 => w.ownsRow R 3 1 v c.takes.length (ints c.takes)
  | 6 => v = .pointer (some ⟨C, 2, none⟩)
  | 7 => v = .slice sa c.slots.length sc
  | 8 => w.ownsRow R 43 5 v c.slots.length (flat encSlot c.slots)
  | 9 => v = .pointer (some ⟨C, 0, none⟩)
  | 11 => v = .pointer (some ⟨C, 1, none⟩)
  | 13 => v = .pointer (some ⟨C, 2, none⟩)
  | _ => True
def RefG (C : Nat) (w w' : World) : Prop := w.grownBy w' none ∨ ((∃ cs, w.heap[C]? = some (.cells cs 29 (0, 0))) ∧ w.grownBy w' (some C))
theorem RefG.own {C : Nat} {w w' : World} (g : RefG C w w') {base e z n : Nat} {v : Value} {xs : List Value} (h : w.ownsRow base e z v n xs) (he : e ≠ 29) : w'.ownsRow base e z v n xs := by
  rcases g with g | ⟨⟨cs, hc⟩, g⟩
  · exact own_keep0 h g
  · exact own_keep h g (.inr (own_ne h hc he))
theorem RefNV.keep {c : Cfg} {ta ka sa : Option Addr} {tc kc sc C R : Nat} {j : Nat} {v : Value} {w w1 : World} (h : RefNV c ta ka sa tc kc sc C R j v w) (g : RefG C w w1) : RefNV c ta ka sa tc kc sc C R j v w1 := by
  unfold RefNV at h ⊢
  split at h
  all_goals first
    | exact h
    | exact g.own h (by decide)
structure RefS (w : World) (c : Cfg) (tv kv sv : Value) (C R : Nat) (listed : Array Bool) (wx : World) : Prop where
  ex : ∃ a0 a1 a2, wx.heap[C]? = some (.cells #[a0, a1, a2, .int .i64 c.high] 29 (0, 0)) ∧
    (listed.getD 10 false = false → a0 = tv) ∧ (listed.getD 10 false = true → wx.ownsRow R 41 3 a0 c.tubes.length (tubes c.tubes)) ∧
    (listed.getD 12 false = false → a1 = kv) ∧ (listed.getD 12 false = true → wx.ownsRow R 3 1 a1 c.takes.length (ints c.takes)) ∧
    (listed.getD 14 false = false → a2 = sv) ∧ (listed.getD 14 false = true → wx.ownsRow R 43 5 a2 c.slots.length (flat encSlot c.slots))
  gr : w.grownBy wx none
theorem RefS.skip {w : World} {c : Cfg} {tv kv sv : Value} {C R : Nat} {listed : Array Bool} {wx wy : World} (h : RefS w c tv kv sv C R listed wx) {i : Nat} (h1 : i ≠ 10) (h2 : i ≠ 12) (h3 : i ≠ 14) (g : wx.grownBy wy none) : RefS w c tv kv sv C R (listed.setIfInBounds i true) wy := by
  obtain ⟨a0, a1, a2, hb, q0, q1, q2, q3, q4, q5⟩ := h.ex
  have e : ∀ j, i ≠ j → (listed.setIfInBounds i true).getD j false = listed.getD j false := fun j hj => getD_set_off (fun e => hj e.symm)
  refine ⟨⟨a0, a1, a2, (g.block C (lt_of_block hb) (by simp)).trans hb, ?_, ?_, ?_, ?_, ?_, ?_⟩, gr_trans h.gr g⟩
  · rw [e 10 h1]; exact q0
  · rw [e 10 h1]; exact fun h => own_keep0 (q1 h) g
  · rw [e 12 h2]; exact q2
  · rw [e 12 h2]; exact fun h => own_keep0 (q3 h) g
  · rw [e 14 h3]; exact q4
  · rw [e 14 h3]; exact fun h => own_keep0 (q5 h) g
set_option maxRecDepth 100000 in
set_option maxHeartbeats 4000000 in
theorem refNew_any (c : Cfg) (ta ka sa : Option Addr) (tc kc sc : Nat) (w : World) (hT : CellsAt w ta (tubes c.tubes)) (hK : CellsAt w ka (ints c.takes)) (hS : CellsAt w sa (flat encSlot c.slots)) (hnT : ta = none → c.tubes.length = 0 ∧ tc = 0) (hnK : ka = none → c.takes.length = 0 ∧ kc = 0) (hnS : sa = none → c.slots.length = 0 ∧ sc = 0) (hT1 : c.tubes.length ≤ 1000) (hK1 : c.takes.length ≤ 1000) (hS1 : c.slots.length ≤ 1000) :
    Calls Tryd.prog 16 #[.agg #[.slice ta c.tubes.length tc, .slice ka c.takes.length kc, .slice sa c.slots.length sc, .int .i64 c.high]] w (fun e w' => ∃ q tv kv sv b1 b2, e = .returned (.pointer (some ⟨q, 0, none⟩)) ∧ w.heap.size ≤ q ∧ RefV w' w.heap.size q c [] tv kv sv (.slice none 0 0) b1 b2 ∧ w.grownBy w' none) := by
  have hmm := @run_makeMap Tryd.prog
  have HT := Lib.hid hT; have HK := Lib.hid hK; have HS := Lib.hid hS
  clear hT hK hS
  go_enter Tryd.func16, Tryd.ntmps16
  go_wp2_with (fail)
  have hC1 := heap_alloc_new w (.cells #[.slice ta c.tubes.length tc, .slice ka c.takes.length kc, .slice sa c.slots.length sc, .int .i64 c.high] 29)
  have hg1 := gr_alloc (gr_refl w none) (.cells #[.slice ta c.tubes.length tc, .slice ka c.takes.length kc, .slice sa c.slots.length sc, .int .i64 c.high] 29)
  obtain ⟨w1, hw1⟩ : ∃ w1, w1 = w.alloc (.cells #[.slice ta c.tubes.length tc, .slice ka c.takes.length kc, .slice sa c.slots.length sc, .int .i64 c.high] 29) := ⟨_, rfl⟩
  rw [← hw1] at hC1 hg1
  rw [← hw1]
  obtain ⟨C, hC⟩ : ∃ C, C = w.heap.size := ⟨_, rfl⟩
  rw [← hC] at hC1
  rw [← hC]
  have HC := Lib.hid hC
  clear hw1 hC
  have hCl := lt_of_block hC1
  have hS0 : RefS w c (.slice ta c.tubes.length tc) (.slice ka c.takes.length kc) (.slice sa c.slots.length sc) C w.heap.size (Array.replicate 15 false) w1.drew :=
    ⟨⟨_, _, _, hC1, fun _ => rfl, (by intro h; simp at h), fun _ => rfl, (by intro h; simp at h), fun _ => rfl, (by intro h; simp at h)⟩, gr_drew hg1⟩
  have HC1 := Lib.hid hC1
  clear hC1
  refine wp_region_plan (by kernel_rfl) (by kernel_rfl) (by kernel_rfl) (by decide) (by kernel_rfl) 12 (fun _ w w' => RefG C w w') (RefNV c ta ka sa tc kc sc C w.heap.size) (fun i j v wx wy _ _ _ _ h g => h.keep g) (RefS w c (.slice ta c.tubes.length tc) (.slice ka c.takes.length kc) (.slice sa c.slots.length sc) C w.heap.size) hS0 ?_ ?_
  · intro i o listed a wx ho hls hun hpre hde hld hS hout hval
    have hi : i < 15 := (List.getElem?_eq_some_iff.1 ho).1
    have e1 : a.eval (.tmp 1) = .pointer (some ⟨C, 0, none⟩) := hout 1 (by decide)
    obtain rfl | rfl | rfl | rfl | rfl | rfl | rfl | rfl | rfl | rfl | rfl | rfl | rfl | rfl | rfl : i = 0 ∨ i = 1 ∨ i = 2 ∨ i = 3 ∨ i = 4 ∨ i = 5 ∨ i = 6 ∨ i = 7 ∨ i = 8 ∨ i = 9 ∨ i = 10 ∨ i = 11 ∨ i = 12 ∨ i = 13 ∨ i = 14 := by omega
    · (change some _ = some o at ho; injection ho with ho; subst ho)
      go_simp
      exact ⟨_, rfl, .inl (gr_refl _ _), rfl, hS.skip (by decide) (by decide) (by decide) (gr_refl _ _)⟩
    · (change some _ = some o at ho; injection ho with ho; subst ho)
      have v0 : a.eval (.tmp 3) = .pointer (some ⟨C, 0, none⟩) := hval 0 _ 3 rfl rfl (hld 0 (by kernel_rfl))
      have v0' : a.tmps[3]?.getD undef = .pointer (some ⟨C, 0, none⟩) := (Array.getD_eq_getD_getElem? ..).symm.trans v0
      obtain ⟨a0, a1, a2, hb, q0, _, q2, _, q4, _⟩ := hS.ex
      obtain rfl := q0 (hde 10 (by kernel_rfl))
      have c0 := blkC hb 0 rfl
      go_simp
      exact ⟨_, rfl, .inl (gr_refl _ _), rfl, hS.skip (by decide) (by decide) (by decide) (gr_refl _ _)⟩
    · (change some _ = some o at ho; injection ho with ho; subst ho)
      have v0 : a.eval (.tmp 4) = .slice ta c.tubes.length tc := hval 1 _ 4 rfl rfl (hld 1 (by kernel_rfl))
      have v0' : a.tmps[4]?.getD undef = .slice ta c.tubes.length tc := (Array.getD_eq_getD_getElem? ..).symm.trans v0
      go_simp
      refine (cloneTube_any ta c.tubes.length tc (tubes c.tubes) wx (flat_length encTube_len _) (HT.out.keep0 hS.gr) hnT (flat_ones encTube_one _) (by omega)).mono ?_
      rintro e wy ⟨v, rfl, ho, hg⟩
      exact ⟨v, rfl, .inl hg, own_base ho hS.gr.size, hS.skip (by decide) (by decide) (by decide) hg⟩
    · (change some _ = some o at ho; injection ho with ho; subst ho)
      go_simp
      exact ⟨_, rfl, .inl (gr_refl _ _), rfl, hS.skip (by decide) (by decide) (by decide) (gr_refl _ _)⟩
    · (change some _ = some o at ho; injection ho with ho; subst ho)
      have v0 : a.eval (.tmp 6) = .pointer (some ⟨C, 1, none⟩) := hval 3 _ 6 rfl rfl (hld 3 (by kernel_rfl))
      have v0' : a.tmps[6]?.getD undef = .pointer (some ⟨C, 1, none⟩) := (Array.getD_eq_getD_getElem? ..).symm.trans v0
      obtain ⟨a0, a1, a2, hb, q0, _, q2, _, q4, _⟩ := hS.ex
      obtain rfl := q2 (hde 12 (by kernel_rfl))
      have c0 := blkC hb 1 rfl
      go_simp
      exact ⟨_, rfl, .inl (gr_refl _ _), rfl, hS.skip (by decide) (by decide) (by decide) (gr_refl _ _)⟩
    · (change some _ = some o at ho; injection ho with ho; subst ho)
      have v0 : a.eval (.tmp 7) = .slice ka c.takes.length kc := hval 4 _ 7 rfl rfl (hld 4 (by kernel_rfl))
      have v0' : a.tmps[7]?.getD undef = .slice ka c.takes.length kc := (Array.getD_eq_getD_getElem? ..).symm.trans v0
      go_simp
      refine (cloneInt_any ka c.takes.length kc (ints c.takes) wx (by simp [ints]) (HK.out.keep0 hS.gr) hnK (by intro u hu; simp only [ints, List.mem_map] at hu; obtain ⟨x, _, rfl⟩ := hu; rfl) (by omega)).mono ?_
      rintro e wy ⟨v, rfl, ho, hg⟩
      exact ⟨v, rfl, .inl hg, own_base ho hS.gr.size, hS.skip (by decide) (by decide) (by decide) hg⟩
    · (change some _ = some o at ho; injection ho with ho; subst ho)
      go_simp
      exact ⟨_, rfl, .inl (gr_refl _ _), rfl, hS.skip (by decide) (by decide) (by decide) (gr_refl _ _)⟩
    · (change some _ = some o at ho; injection ho with ho; subst ho)
      have v0 : a.eval (.tmp 9) = .pointer (some ⟨C, 2, none⟩) := hval 6 _ 9 rfl rfl (hld 6 (by kernel_rfl))
      have v0' : a.tmps[9]?.getD undef = .pointer (some ⟨C, 2, none⟩) := (Array.getD_eq_getD_getElem? ..).symm.trans v0
      obtain ⟨a0, a1, a2, hb, q0, _, q2, _, q4, _⟩ := hS.ex
      obtain rfl := q4 (hde 14 (by kernel_rfl))
      have c0 := blkC hb 2 rfl
      go_simp
      exact ⟨_, rfl, .inl (gr_refl _ _), rfl, hS.skip (by decide) (by decide) (by decide) (gr_refl _ _)⟩
    · (change some _ = some o at ho; injection ho with ho; subst ho)
      have v0 : a.eval (.tmp 10) = .slice sa c.slots.length sc := hval 7 _ 10 rfl rfl (hld 7 (by kernel_rfl))
      have v0' : a.tmps[10]?.getD undef = .slice sa c.slots.length sc := (Array.getD_eq_getD_getElem? ..).symm.trans v0
      go_simp
      refine (cloneSlot_any sa c.slots.length sc (flat encSlot c.slots) wx (flat_length encSlot_len _) (HS.out.keep0 hS.gr) hnS (flat_ones encSlot_one _) (by omega)).mono ?_
      rintro e wy ⟨v, rfl, ho, hg⟩
      exact ⟨v, rfl, .inl hg, own_base ho hS.gr.size, hS.skip (by decide) (by decide) (by decide) hg⟩
    · (change some _ = some o at ho; injection ho with ho; subst ho)
      go_simp
      exact ⟨_, rfl, .inl (gr_refl _ _), rfl, hS.skip (by decide) (by decide) (by decide) (gr_refl _ _)⟩
    · (change some _ = some o at ho; injection ho with ho; subst ho)
      have v0 : a.eval (.tmp 12) = .pointer (some ⟨C, 0, none⟩) := hval 9 _ 12 rfl rfl (hld 9 (by kernel_rfl))
      have v0' : a.tmps[12]?.getD undef = .pointer (some ⟨C, 0, none⟩) := (Array.getD_eq_getD_getElem? ..).symm.trans v0
      obtain ⟨x1, hx1⟩ : ∃ x, a.eval (.tmp 5) = x := ⟨_, rfl⟩
      have ox1 : wx.ownsRow w.heap.size 41 3 x1 c.tubes.length (tubes c.tubes) := hx1 ▸ hval 2 _ 5 rfl rfl (hld 2 (by kernel_rfl))
      have hx1' : a.tmps[5]?.getD undef = x1 := (Array.getD_eq_getD_getElem? ..).symm.trans hx1
      obtain ⟨sx1, sc1, rfl, _⟩ := own_shape ox1
      obtain ⟨a0, a1, a2, hb, q0, q1, q2, q3, q4, q5⟩ := hS.ex
      have c0 := blkC hb 0 rfl
      have z0 := blkF hb 0
      go_simp
      have gs := gr_set (q := ⟨C, 0, none⟩) (gr_refl wx (some C)) rfl (.slice sx1 (c.tubes.length) sc1)
      have hs := heap_setCell_same wx C 0 _ _ (.slice sx1 (c.tubes.length) sc1) hb
      exact ⟨undef, rfl, .inr ⟨⟨_, hb⟩, gs⟩, trivial, ⟨⟨_, _, _, hs, fun h => absurd h (by rw [getD_set_eq (by rw [hls]; decide)]; decide), fun _ => own_keep ox1 gs (.inr (own_ne ox1 hb (by decide))), fun h => q2 (by rw [getD_set_off (by decide)] at h; exact h), fun h => by rw [getD_set_off (by decide)] at h; exact own_keep (q3 h) gs (.inr (own_ne (q3 h) hb (by decide))), fun h => q4 (by rw [getD_set_off (by decide)] at h; exact h), fun h => by rw [getD_set_off (by decide)] at h; exact own_keep (q5 h) gs (.inr (own_ne (q5 h) hb (by decide)))⟩, gr_grown hS.gr gs (fun z hz => by injection hz with hz; rw [← hz, HC.out]; exact Nat.le_refl _)⟩⟩
    · (change some _ = some o at ho; injection ho with ho; subst ho)
      go_simp
      exact ⟨_, rfl, .inl (gr_refl _ _), rfl, hS.skip (by decide) (by decide) (by decide) (gr_refl _ _)⟩
    · (change some _ = some o at ho; injection ho with ho; subst ho)
      have v0 : a.eval (.tmp 13) = .pointer (some ⟨C, 1, none⟩) := hval 11 _ 13 rfl rfl (hld 11 (by kernel_rfl))
      have v0' : a.tmps[13]?.getD undef = .pointer (some ⟨C, 1, none⟩) := (Array.getD_eq_getD_getElem? ..).symm.trans v0
      obtain ⟨x1, hx1⟩ : ∃ x, a.eval (.tmp 8) = x := ⟨_, rfl⟩
      have ox1 : wx.ownsRow w.heap.size 3 1 x1 c.takes.length (ints c.takes) := hx1 ▸ hval 5 _ 8 rfl rfl (hld 5 (by kernel_rfl))
      have hx1' : a.tmps[8]?.getD undef = x1 := (Array.getD_eq_getD_getElem? ..).symm.trans hx1
      obtain ⟨sx1, sc1, rfl, _⟩ := own_shape ox1
      obtain ⟨a0, a1, a2, hb, q0, q1, q2, q3, q4, q5⟩ := hS.ex
      have c0 := blkC hb 1 rfl
      have z0 := blkF hb 1
      go_simp
      have gs := gr_set (q := ⟨C, 1, none⟩) (gr_refl wx (some C)) rfl (.slice sx1 (c.takes.length) sc1)
      have hs := heap_setCell_same wx C 1 _ _ (.slice sx1 (c.takes.length) sc1) hb
      exact ⟨undef, rfl, .inr ⟨⟨_, hb⟩, gs⟩, trivial, ⟨⟨_, _, _, hs, fun h => q0 (by rw [getD_set_off (by decide)] at h; exact h), fun h => by rw [getD_set_off (by decide)] at h; exact own_keep (q1 h) gs (.inr (own_ne (q1 h) hb (by decide))), fun h => absurd h (by rw [getD_set_eq (by rw [hls]; decide)]; decide), fun _ => own_keep ox1 gs (.inr (own_ne ox1 hb (by decide))), fun h => q4 (by rw [getD_set_off (by decide)] at h; exact h), fun h => by rw [getD_set_off (by decide)] at h; exact own_keep (q5 h) gs (.inr (own_ne (q5 h) hb (by decide)))⟩, gr_grown hS.gr gs (fun z hz => by injection hz with hz; rw [← hz, HC.out]; exact Nat.le_refl _)⟩⟩
    · (change some _ = some o at ho; injection ho with ho; subst ho)
      go_simp
      exact ⟨_, rfl, .inl (gr_refl _ _), rfl, hS.skip (by decide) (by decide) (by decide) (gr_refl _ _)⟩
    · (change some _ = some o at ho; injection ho with ho; subst ho)
      have v0 : a.eval (.tmp 14) = .pointer (some ⟨C, 2, none⟩) := hval 13 _ 14 rfl rfl (hld 13 (by kernel_rfl))
      have v0' : a.tmps[14]?.getD undef = .pointer (some ⟨C, 2, none⟩) := (Array.getD_eq_getD_getElem? ..).symm.trans v0
      obtain ⟨x1, hx1⟩ : ∃ x, a.eval (.tmp 11) = x := ⟨_, rfl⟩
      have ox1 : wx.ownsRow w.heap.size 43 5 x1 c.slots.length (flat encSlot c.slots) := hx1 ▸ hval 8 _ 11 rfl rfl (hld 8 (by kernel_rfl))
      have hx1' : a.tmps[11]?.getD undef = x1 := (Array.getD_eq_getD_getElem? ..).symm.trans hx1
      obtain ⟨sx1, sc1, rfl, _⟩ := own_shape ox1
      obtain ⟨a0, a1, a2, hb, q0, q1, q2, q3, q4, q5⟩ := hS.ex
      have c0 := blkC hb 2 rfl
      have z0 := blkF hb 2
      go_simp
      have gs := gr_set (q := ⟨C, 2, none⟩) (gr_refl wx (some C)) rfl (.slice sx1 (c.slots.length) sc1)
      have hs := heap_setCell_same wx C 2 _ _ (.slice sx1 (c.slots.length) sc1) hb
      exact ⟨undef, rfl, .inr ⟨⟨_, hb⟩, gs⟩, trivial, ⟨⟨_, _, _, hs, fun h => q0 (by rw [getD_set_off (by decide)] at h; exact h), fun h => by rw [getD_set_off (by decide)] at h; exact own_keep (q1 h) gs (.inr (own_ne (q1 h) hb (by decide))), fun h => q2 (by rw [getD_set_off (by decide)] at h; exact h), fun h => by rw [getD_set_off (by decide)] at h; exact own_keep (q3 h) gs (.inr (own_ne (q3 h) hb (by decide))), fun h => absurd h (by rw [getD_set_eq (by rw [hls]; decide)]; decide), fun _ => own_keep ox1 gs (.inr (own_ne ox1 hb (by decide)))⟩, gr_grown hS.gr gs (fun z hz => by injection hz with hz; rw [← hz, HC.out]; exact Nat.le_refl _)⟩⟩
  · intro vs listed wx hls hall hS hval
    obtain ⟨a0, a1, a2, hb, _, q1, _, q3, _, q5⟩ := hS.ex
    have o0 := q1 (getD_tf (by rw [hls]; decide) (hall 10 (by decide)))
    have o1 := q3 (getD_tf (by rw [hls]; decide) (hall 12 (by decide)))
    have o2 := q5 (getD_tf (by rw [hls]; decide) (hall 14 (by decide)))
    obtain ⟨x0, y0, rfl, _⟩ := own_shape o0
    obtain ⟨x1, y1, rfl, _⟩ := own_shape o1
    obtain ⟨x2, y2, rfl, _⟩ := own_shape o2
    have c0 := blkC hb 0 rfl
    have c1 := blkC hb 1 rfl
    have c2 := blkC hb 2 rfl
    have c3 := blkC hb 3 rfl
    simp only [putAll]
    clear hval hall
    go_wp2_with (fail)
    go_ret
    have m1 := heap_alloc_new wx (.map #[] 0)
    have m2 := heap_alloc_new (wx.alloc (.map #[] 0)) (.map #[] 0)
    rw [show (wx.alloc (.map #[] 0)).heap.size = wx.heap.size + 1 by simp] at m2
    have m3 := heap_alloc_new ((wx.alloc (.map #[] 0)).alloc (.map #[] 0)) (.cells #[.slice x0 c.tubes.length y0, .slice x1 c.takes.length y1, .slice x2 c.slots.length y2, .int .i64 c.high, .map (some wx.heap.size), .slice none 0 0, .int .i64 0, .map (some (wx.heap.size + 1)), .slice none 0 0, .slice none 0 0, .slice none 0 0, .slice none 0 0] 148)
    rw [show ((wx.alloc (.map #[] 0)).alloc (.map #[] 0)).heap.size = wx.heap.size + 2 by simp] at m3
    have ga := gr_alloc (gr_refl wx none) (.map #[] 0)
    have gb := gr_alloc (gr_refl (wx.alloc (.map #[] 0)) none) (.map #[] 0)
    have gc := gr_alloc (gr_refl ((wx.alloc (.map #[] 0)).alloc (.map #[] 0)) none) (.cells #[.slice x0 c.tubes.length y0, .slice x1 c.takes.length y1, .slice x2 c.slots.length y2, .int .i64 c.high, .map (some wx.heap.size), .slice none 0 0, .int .i64 0, .map (some (wx.heap.size + 1)), .slice none 0 0, .slice none 0 0, .slice none 0 0, .slice none 0 0] 148)
    have gbc := gr_trans gb gc
    have gac := gr_trans ga gbc
    have hsz := hS.gr.size
    refine ⟨_, _, _, _, _, _, rfl, ?_, ⟨m3, own_keep0 o0 gac, own_keep0 o1 gac, own_keep0 o2 gac, World.ownsRow_nil _ _ _ _, (gbc.block _ (lt_of_block m1) (by simp)).trans m1, (gc.block _ (lt_of_block m2) (by simp)).trans m2, ?_⟩, gr_trans hS.gr gac⟩
    · omega
    · omega
end Go.Proofs.YtdjnomeabadbnaaDoor
