/- vend.New of a right configuration. -/
import Derived.Test.YtdjnomeabadbnaaDoorCfgCheck
import Derived.Test.YtdjnomeabadbnaaDoorCloneTally
import Derived.Test.YtdjnomeabadbnaaDoorCloneTube
import Derived.Test.YtdjnomeabadbnaaDoorCloneInt
import Derived.Test.YtdjnomeabadbnaaDoorPlan
import Derived.Deep.OwnRows
import Derived.BigRegion
import Derived.Deep.CutRange
import Derived.Deep.Upon
import Derived.Laws.Cover4
namespace Go.Proofs.YtdjnomeabadbnaaDoor
open Go.RowKit
attribute [local go_sem ↓] Go.wp_at_zero Go.wp_at_succ

theorem MachAt.keep0 {w w1 : World} {base M : Nat} {m : Mach} (h : MachAt w base M m) (g : w.grownBy w1 none) : MachAt w1 base M m := by
  obtain ⟨tv, kv, sv, jv, ev, dv, hb, h1, h2, h3, h4, h5, h6, h7⟩ := h.ex
  exact ⟨tv, kv, sv, jv, ev, dv, (g.block M (lt_of_block hb) (by simp)).trans hb, own_keep0 h1 g, own_keep0 h2 g, own_keep0 h3 g, own_keep0 h4 g, own_keep0 h5 g, own_keep0 h6 g, h7⟩
theorem own_ge {w : World} {base e size n : Nat} {v : Value} {xs : List Value} (h : w.ownsRow base e size v n xs) {z : Nat} (hz : v.ownBlock = some z) : base ≤ z := by
  rcases h.2 with ⟨rfl, _⟩ | ⟨g, cap, cur, rfl, hb, _⟩
  · simp [Value.ownBlock] at hz
  · simp only [Value.ownBlock, Option.some.injEq] at hz
    omega
def machNew (c : Cfg) (k : Nat) : Mach := ⟨c.tubes, c.takes, c.slots, c.high, List.replicate c.slots.length false, [], (c.slots.take k).map fun s => ⟨s.key, 0, 0⟩, 0, 0, 0, 0, 0, 0⟩
def NewV (c : Cfg) (ta ka sa : Option Addr) (tc kc sc B R : Nat) (j : Nat) (v : Value) (w : World) : Prop :=
  match j with
  | 0 => v = .pointer (some ⟨B, 0, none⟩)
  | 1 => v = .slice ta c.tubes.length tc
  | 2 => w.ownsRow R 41 3 v c.tubes.length (tubes c.tubes)
  | 3 => v = .pointer (some ⟨B, 1, none⟩)
  | 4 => v = .slice ka c.takes.length kc
  | 5 => w.ownsRow R 3 1 v c.takes.length (ints c.takes)
  | 6 => v = .pointer (some ⟨B, 2, none⟩)
  | 7 => v = .slice sa c.slots.length sc
  | 8 => w.ownsRow R 43 5 v c.slots.length (flat encSlot c.slots)
  | 9 => v = .pointer (some ⟨B, 3, none⟩)
  | 10 => v = .int .i64 c.high
  | 11 => v = .pointer (some ⟨B, 2, none⟩)
  | 12 => v = .slice sa c.slots.length sc
  | 13 => v = .int .i64 c.slots.length
  | 14 => w.ownsRow R 4 1 v c.slots.length (bools (List.replicate c.slots.length false))
  | 15 => ∃ tv kv sv jv, v = .agg #[tv, kv, sv, .int .i64 c.high, jv, .slice none 0 0, .slice none 0 0, .int .i64 0, .int .i64 0, .int .i64 0, .int .i64 0, .int .i64 0, .int .i64 0, .slice none 0 0] ∧ w.ownsRow R 41 3 tv c.tubes.length (tubes c.tubes) ∧ w.ownsRow R 3 1 kv c.takes.length (ints c.takes) ∧ w.ownsRow R 43 5 sv c.slots.length (flat encSlot c.slots) ∧ w.ownsRow R 4 1 jv c.slots.length (bools (List.replicate c.slots.length false))
  | 16 | 17 => ∃ q, v = .pointer (some ⟨q, 0, none⟩) ∧ R ≤ q ∧ MachAt w R q (machNew c 0)
  | _ => True
theorem NewV.keep {c : Cfg} {ta ka sa : Option Addr} {tc kc sc B R : Nat} {j : Nat} {v : Value} {w w1 : World} (h : NewV c ta ka sa tc kc sc B R j v w) (g : w.grownBy w1 none) : NewV c ta ka sa tc kc sc B R j v w1 := by
  unfold NewV at h ⊢
  split at h
  all_goals first
    | exact h
    | exact own_keep0 h g
    | (obtain ⟨tv, kv, sv, jv, h0, h1, h2, h3, h4⟩ := h; exact ⟨tv, kv, sv, jv, h0, own_keep0 h1 g, own_keep0 h2 g, own_keep0 h3 g, own_keep0 h4 g⟩)
    | (obtain ⟨q, h0, h1, h2⟩ := h; exact ⟨q, h0, h1, h2.keep0 g⟩)
set_option maxRecDepth 100000 in
set_option maxHeartbeats 4000000 in
theorem new_ok (c : Cfg) (ta ka sa : Option Addr) (tc kc sc : Nat) (w : World) (hT : CellsAt w ta (tubes c.tubes)) (hK : CellsAt w ka (ints c.takes)) (hS : CellsAt w sa (flat encSlot c.slots)) (hnT : ta = none → c.tubes.length = 0 ∧ tc = 0) (hnK : ka = none → c.takes.length = 0 ∧ kc = 0) (hnS : sa = none → c.slots.length = 0 ∧ sc = 0) (hok : CfgOk c) (hk : ∀ s ∈ c.slots, s.key.size ≤ 100 ∧ s.prod.size ≤ 100) :
    Calls Tryd.prog 12 #[.agg #[.slice ta c.tubes.length tc, .slice ka c.takes.length kc, .slice sa c.slots.length sc, .int .i64 c.high]] w (fun e w' => ∃ q, e = .returned (.tuple #[.pointer (some ⟨q, 0, none⟩), .int .i64 0]) ∧ w.heap.size ≤ q ∧ MachAt w' w.heap.size q (machNew c c.slots.length) ∧ w.grownBy w' none) := by
  have htl := hok.tub.len
  have hkl20 := hok.tlen
  have hs60 := hok.s60
  have HKS := Lib.hid hk
  have HS0 := Lib.hid hS
  go_enter Tryd.func12, Tryd.ntmps12
  go_wp2_with (fail)
  have hB1 := heap_alloc_new w (.cells #[.slice ta c.tubes.length tc, .slice ka c.takes.length kc, .slice sa c.slots.length sc, .int .i64 c.high] 29)
  have hg1 := gr_alloc (gr_refl w none) (.cells #[.slice ta c.tubes.length tc, .slice ka c.takes.length kc, .slice sa c.slots.length sc, .int .i64 c.high] 29)
  obtain ⟨w1, hw1⟩ : ∃ w1, w1 = w.alloc (.cells #[.slice ta c.tubes.length tc, .slice ka c.takes.length kc, .slice sa c.slots.length sc, .int .i64 c.high] 29) := ⟨_, rfl⟩
  rw [← hw1] at hB1 hg1
  rw [← hw1]
  obtain ⟨B, hB⟩ : ∃ B, B = w.heap.size := ⟨_, rfl⟩
  rw [← hB] at hB1
  rw [← hB]
  have HB := Lib.hid hB
  clear hw1 hB
  have hBl := lt_of_block hB1
  have HT := Lib.hid (hT.keep0 hg1); have HK := Lib.hid (hK.keep0 hg1); have HSS := Lib.hid (hS.keep0 hg1)
  clear hT hK hS
  refine (checkConfig_ok c ta ka sa tc kc sc w1 HT.out HK.out HSS.out hok hk).mono ?_
  rintro e w2 ⟨rfl, hg2⟩
  have hgr2 := gr_trans hg1 hg2
  have hB2 := (hg2.block B hBl (by simp)).trans hB1
  have hBl2 := lt_of_block hB2
  have hT2 := HT.out.keep0 hg2
  have hK2 := HK.out.keep0 hg2
  have hS2 := HSS.out.keep0 hg2
  have HB2 := Lib.hid hB2
  have OK := Lib.hid hok
  clear hok hk hB1 hB2 HT HK HSS
  have HT := Lib.hid hT2; have HK := Lib.hid hK2; have HSS := Lib.hid hS2
  clear hT2 hK2 hS2
  go_wp2_with (fail)
  have hgd := gr_drew (gr_refl w2 none)
  refine wp_region_plan (by kernel_rfl) (by kernel_rfl) (by kernel_rfl) (by decide) (by kernel_rfl) 12 (fun _ w w' => w.grownBy w' none) (NewV c ta ka sa tc kc sc B B) (fun i j v wx wy _ _ _ _ h g => h.keep g) (fun _ wx => w2.grownBy wx none) hgd ?_ ?_
  · intro i o listed a wx ho hls hun hpre hde hld hS hout hval
    have hi : i < 18 := (List.getElem?_eq_some_iff.1 ho).1
    have e1 : a.eval (.tmp 1) = .pointer (some ⟨B, 0, none⟩) := hout 1 (by decide)
    obtain rfl | rfl | rfl | rfl | rfl | rfl | rfl | rfl | rfl | rfl | rfl | rfl | rfl | rfl | rfl | rfl | rfl | rfl : i = 0 ∨ i = 1 ∨ i = 2 ∨ i = 3 ∨ i = 4 ∨ i = 5 ∨ i = 6 ∨ i = 7 ∨ i = 8 ∨ i = 9 ∨ i = 10 ∨ i = 11 ∨ i = 12 ∨ i = 13 ∨ i = 14 ∨ i = 15 ∨ i = 16 ∨ i = 17 := by omega
    · (change some _ = some o at ho; injection ho with ho; subst ho)
      go_simp
      exact ⟨_, rfl, gr_refl _ _, rfl, hS⟩
    · (change some _ = some o at ho; injection ho with ho; subst ho)
      have v0 : a.eval (.tmp 13) = .pointer (some ⟨B, 0, none⟩) := hval 0 _ 13 rfl rfl (hld 0 (by kernel_rfl))
      have v0' : a.tmps[13]?.getD undef = .pointer (some ⟨B, 0, none⟩) := (Array.getD_eq_getD_getElem? ..).symm.trans v0
      have c0 := blkC ((hS.block B hBl2 (by simp)).trans HB2.out) 0 rfl
      go_simp
      exact ⟨_, rfl, gr_refl _ _, rfl, hS⟩
    · (change some _ = some o at ho; injection ho with ho; subst ho)
      have v0 : a.eval (.tmp 14) = .slice ta c.tubes.length tc := hval 1 _ 14 rfl rfl (hld 1 (by kernel_rfl))
      have v0' : a.tmps[14]?.getD undef = .slice ta c.tubes.length tc := (Array.getD_eq_getD_getElem? ..).symm.trans v0
      go_simp
      refine (cloneTube_any ta c.tubes.length tc (tubes c.tubes) wx (flat_length encTube_len _) (HT.out.keep0 hS) hnT (flat_ones encTube_one _) (by omega)).mono ?_
      rintro e wy ⟨v, rfl, ho, hg⟩
      exact ⟨v, rfl, hg, own_base ho (by have := hS.size; omega), gr_trans hS hg⟩
    · (change some _ = some o at ho; injection ho with ho; subst ho)
      go_simp
      exact ⟨_, rfl, gr_refl _ _, rfl, hS⟩
    · (change some _ = some o at ho; injection ho with ho; subst ho)
      have v0 : a.eval (.tmp 16) = .pointer (some ⟨B, 1, none⟩) := hval 3 _ 16 rfl rfl (hld 3 (by kernel_rfl))
      have v0' : a.tmps[16]?.getD undef = .pointer (some ⟨B, 1, none⟩) := (Array.getD_eq_getD_getElem? ..).symm.trans v0
      have c0 := blkC ((hS.block B hBl2 (by simp)).trans HB2.out) 1 rfl
      go_simp
      exact ⟨_, rfl, gr_refl _ _, rfl, hS⟩
    · (change some _ = some o at ho; injection ho with ho; subst ho)
      have v0 : a.eval (.tmp 17) = .slice ka c.takes.length kc := hval 4 _ 17 rfl rfl (hld 4 (by kernel_rfl))
      have v0' : a.tmps[17]?.getD undef = .slice ka c.takes.length kc := (Array.getD_eq_getD_getElem? ..).symm.trans v0
      go_simp
      refine (cloneInt_any ka c.takes.length kc (ints c.takes) wx (by simp [ints]) (HK.out.keep0 hS) hnK (by intro u hu; simp only [ints, List.mem_map] at hu; obtain ⟨x, _, rfl⟩ := hu; rfl) (by omega)).mono ?_
      rintro e wy ⟨v, rfl, ho, hg⟩
      exact ⟨v, rfl, hg, own_base ho (by have := hS.size; omega), gr_trans hS hg⟩
    · (change some _ = some o at ho; injection ho with ho; subst ho)
      go_simp
      exact ⟨_, rfl, gr_refl _ _, rfl, hS⟩
    · (change some _ = some o at ho; injection ho with ho; subst ho)
      have v0 : a.eval (.tmp 19) = .pointer (some ⟨B, 2, none⟩) := hval 6 _ 19 rfl rfl (hld 6 (by kernel_rfl))
      have v0' : a.tmps[19]?.getD undef = .pointer (some ⟨B, 2, none⟩) := (Array.getD_eq_getD_getElem? ..).symm.trans v0
      have c0 := blkC ((hS.block B hBl2 (by simp)).trans HB2.out) 2 rfl
      go_simp
      exact ⟨_, rfl, gr_refl _ _, rfl, hS⟩
    · (change some _ = some o at ho; injection ho with ho; subst ho)
      have v0 : a.eval (.tmp 20) = .slice sa c.slots.length sc := hval 7 _ 20 rfl rfl (hld 7 (by kernel_rfl))
      have v0' : a.tmps[20]?.getD undef = .slice sa c.slots.length sc := (Array.getD_eq_getD_getElem? ..).symm.trans v0
      go_simp
      refine (cloneSlot_any sa c.slots.length sc (flat encSlot c.slots) wx (flat_length encSlot_len _) (HSS.out.keep0 hS) hnS (flat_ones encSlot_one _) (by omega)).mono ?_
      rintro e wy ⟨v, rfl, ho, hg⟩
      exact ⟨v, rfl, hg, own_base ho (by have := hS.size; omega), gr_trans hS hg⟩
    · (change some _ = some o at ho; injection ho with ho; subst ho)
      go_simp
      exact ⟨_, rfl, gr_refl _ _, rfl, hS⟩
    · (change some _ = some o at ho; injection ho with ho; subst ho)
      have v0 : a.eval (.tmp 22) = .pointer (some ⟨B, 3, none⟩) := hval 9 _ 22 rfl rfl (hld 9 (by kernel_rfl))
      have v0' : a.tmps[22]?.getD undef = .pointer (some ⟨B, 3, none⟩) := (Array.getD_eq_getD_getElem? ..).symm.trans v0
      have c0 := blkC ((hS.block B hBl2 (by simp)).trans HB2.out) 3 rfl
      go_simp
      exact ⟨_, rfl, gr_refl _ _, rfl, hS⟩
    · (change some _ = some o at ho; injection ho with ho; subst ho)
      go_simp
      exact ⟨_, rfl, gr_refl _ _, rfl, hS⟩
    · (change some _ = some o at ho; injection ho with ho; subst ho)
      have v0 : a.eval (.tmp 24) = .pointer (some ⟨B, 2, none⟩) := hval 11 _ 24 rfl rfl (hld 11 (by kernel_rfl))
      have v0' : a.tmps[24]?.getD undef = .pointer (some ⟨B, 2, none⟩) := (Array.getD_eq_getD_getElem? ..).symm.trans v0
      have c0 := blkC ((hS.block B hBl2 (by simp)).trans HB2.out) 2 rfl
      go_simp
      exact ⟨_, rfl, gr_refl _ _, rfl, hS⟩
    · (change some _ = some o at ho; injection ho with ho; subst ho)
      have v0 : a.eval (.tmp 25) = .slice sa c.slots.length sc := hval 12 _ 25 rfl rfl (hld 12 (by kernel_rfl))
      have v0' : a.tmps[25]?.getD undef = .slice sa c.slots.length sc := (Array.getD_eq_getD_getElem? ..).symm.trans v0
      go_simp
      exact ⟨_, rfl, gr_refl _ _, rfl, hS⟩
    · (change some _ = some o at ho; injection ho with ho; subst ho)
      have v0 : a.eval (.tmp 26) = .int .i64 c.slots.length := hval 13 _ 26 rfl rfl (hld 13 (by kernel_rfl))
      have v0' : a.tmps[26]?.getD undef = .int .i64 c.slots.length := (Array.getD_eq_getD_getElem? ..).symm.trans v0
      have RM : ∀ w' : World, (Instr.makeSlice 137 (.int .i64 (c.slots.length : Int)) (.int .i64 (c.slots.length : Int))).run Tryd.prog w' = .ok (.slice (some ⟨w'.heap.size, 0, none⟩) c.slots.length c.slots.length) (w'.alloc (.cells (madeCells #[Value.bool false] c.slots.length) 4)) := fun w' =>
        run_make_row' 137 4 (.bool false) 1 eBool.und eBool.info rfl .i64 .i64 c.slots.length (by omega) (by omega) w'
      have hmc : (madeCells #[Value.bool false] c.slots.length).toList = List.replicate c.slots.length (.bool false) := by rw [toList_madeCells_one]
      have hms : (madeCells #[Value.bool false] c.slots.length).size = c.slots.length := by have := congrArg List.length hmc; simpa using this
      go_simp
      refine ⟨_, rfl, gr_alloc (gr_refl _ _) _, ?_, gr_alloc hS _⟩
      have hlt := hS.size
      show World.ownsRow _ _ _ _ _ _ _
      refine ⟨by simp [bools], .inr ⟨wx.heap.size, c.slots.length, madeCells #[Value.bool false] c.slots.length, rfl, by omega, heap_alloc_new _ _, Nat.le_refl _, by unfold maxLen; omega, by rw [hms]; omega, by rw [hmc]; simp [bools]⟩⟩
    · (change some _ = some o at ho; injection ho with ho; subst ho)
      obtain ⟨x1, hx1⟩ : ∃ x, a.eval (.tmp 15) = x := ⟨_, rfl⟩
      have ox1 : NewV c ta ka sa tc kc sc B B 2 x1 wx := hx1 ▸ hval 2 _ 15 rfl rfl (hld 2 (by kernel_rfl))
      have hx1' : a.tmps[15]?.getD undef = x1 := (Array.getD_eq_getD_getElem? ..).symm.trans hx1
      obtain ⟨x2, hx2⟩ : ∃ x, a.eval (.tmp 18) = x := ⟨_, rfl⟩
      have ox2 : NewV c ta ka sa tc kc sc B B 5 x2 wx := hx2 ▸ hval 5 _ 18 rfl rfl (hld 5 (by kernel_rfl))
      have hx2' : a.tmps[18]?.getD undef = x2 := (Array.getD_eq_getD_getElem? ..).symm.trans hx2
      obtain ⟨x3, hx3⟩ : ∃ x, a.eval (.tmp 21) = x := ⟨_, rfl⟩
      have ox3 : NewV c ta ka sa tc kc sc B B 8 x3 wx := hx3 ▸ hval 8 _ 21 rfl rfl (hld 8 (by kernel_rfl))
      have hx3' : a.tmps[21]?.getD undef = x3 := (Array.getD_eq_getD_getElem? ..).symm.trans hx3
      obtain ⟨x5, hx5⟩ : ∃ x, a.eval (.tmp 27) = x := ⟨_, rfl⟩
      have ox5 : NewV c ta ka sa tc kc sc B B 14 x5 wx := hx5 ▸ hval 14 _ 27 rfl rfl (hld 14 (by kernel_rfl))
      have hx5' : a.tmps[27]?.getD undef = x5 := (Array.getD_eq_getD_getElem? ..).symm.trans hx5
      have v4 : a.eval (.tmp 23) = .int .i64 c.high := hval 10 _ 23 rfl rfl (hld 10 (by kernel_rfl))
      have v4' : a.tmps[23]?.getD undef = .int .i64 c.high := (Array.getD_eq_getD_getElem? ..).symm.trans v4
      have ox1 : wx.ownsRow B 41 3 x1 c.tubes.length (tubes c.tubes) := ox1
      have ox2 : wx.ownsRow B 3 1 x2 c.takes.length (ints c.takes) := ox2
      have ox3 : wx.ownsRow B 43 5 x3 c.slots.length (flat encSlot c.slots) := ox3
      have ox5 : wx.ownsRow B 4 1 x5 c.slots.length (bools (List.replicate c.slots.length false)) := ox5
      obtain ⟨a1, c1, rfl, _⟩ := own_shape ox1
      obtain ⟨a2, c2, rfl, _⟩ := own_shape ox2
      obtain ⟨a3, c3, rfl, _⟩ := own_shape ox3
      obtain ⟨a5, c5, rfl, _⟩ := own_shape ox5
      go_simp
      exact ⟨_, rfl, gr_refl _ _, ⟨_, _, _, _, rfl, ox1, ox2, ox3, ox5⟩, hS⟩
    · (change some _ = some o at ho; injection ho with ho; subst ho)
      obtain ⟨x0, hx0⟩ : ∃ x, a.eval (.tmp 28) = x := ⟨_, rfl⟩
      have ox0 : NewV c ta ka sa tc kc sc B B 15 x0 wx := hx0 ▸ hval 15 _ 28 rfl rfl (hld 15 (by kernel_rfl))
      have hx0' : a.tmps[28]?.getD undef = x0 := (Array.getD_eq_getD_getElem? ..).symm.trans hx0
      obtain ⟨tv, kv, sv, jv, rfl, o1, o2, o3, o4⟩ := ox0
      go_simp
      have hga := gr_alloc (gr_refl wx none) (.cells #[tv, kv, sv, .int .i64 c.high, jv, .slice none 0 0, .slice none 0 0, .int .i64 0, .int .i64 0, .int .i64 0, .int .i64 0, .int .i64 0, .int .i64 0, .slice none 0 0] 139)
      have hlt := hS.size
      refine ⟨_, rfl, hga, ⟨wx.heap.size, rfl, by omega, ⟨tv, kv, sv, jv, .slice none 0 0, .slice none 0 0, heap_alloc_new _ _, own_keep0 o1 hga, own_keep0 o2 hga, own_keep0 o3 hga, ?_, World.ownsRow_nil _ _ _ _, World.ownsRow_nil _ _ _ _, fun _ _ => by simp [Value.ownBlock]⟩⟩, gr_trans hS hga⟩
      show World.ownsRow _ _ _ _ _ (List.length (List.replicate _ _)) _
      rw [List.length_replicate]
      exact own_keep0 o4 hga
    · (change some _ = some o at ho; injection ho with ho; subst ho)
      obtain ⟨x0, hx0⟩ : ∃ x, a.eval (.tmp 29) = x := ⟨_, rfl⟩
      have ox0 : NewV c ta ka sa tc kc sc B B 16 x0 wx := hx0 ▸ hval 16 _ 29 rfl rfl (hld 16 (by kernel_rfl))
      have hx0' : a.tmps[29]?.getD undef = x0 := (Array.getD_eq_getD_getElem? ..).symm.trans hx0
      go_simp
      exact ⟨_, rfl, gr_refl _ _, ox0, hS⟩
  · intro vs listed wx hls hall hS hval
    obtain ⟨M, hv5, hM, hMa⟩ : ∃ q, vs 17 = .pointer (some ⟨q, 0, none⟩) ∧ B ≤ q ∧ MachAt wx B q (machNew c 0) := hval 17 _ 5 rfl rfl
    have hBx := (hS.block B hBl2 (by simp)).trans HB2.out
    have hgx := gr_trans hgr2 hS
    have d2 : wx.cell? ⟨B, 2, none⟩ = some (.slice sa c.slots.length sc) := blkC hBx 2 rfl
    have HBx := Lib.hid hBx
    have HMA := Lib.hid hMa
    simp only [putAll]
    obtain ⟨V0, hV0⟩ : ∃ x, vs 0 = x := ⟨_, rfl⟩
    clear hval hall hls hgd hBx hMa
    go_wp2_with (fail)
    clear d2
    go_loopw [33] (fun i wr => ∃ k : Nat, k ≤ c.slots.length ∧ i = .int .i64 k ∧ MachAt wr B M (machNew c k) ∧ wr.heap[B]? = wx.heap[B]? ∧ w.grownBy wr none) (fun i _ => c.slots.length - (intOf i).toNat)
    case atStart => exact ⟨0, Nat.zero_le _, rfl, HMA.out, rfl, hgx⟩
    case round =>
      obtain ⟨k, hkl, rfl, hma, hbb, hgr⟩ := hrel
      obtain ⟨wo, rfl⟩ : ∃ wo : World, wo = wr := ⟨_, rfl⟩
      have hBo := hbb.trans HBx.out
      have HBB := Lib.hid hbb
      have HMO := Lib.hid hma
      clear hbb hma
      by_cases hlt : k < c.slots.length
      · obtain ⟨b, off, rfl, hcs⟩ := slot_cells (HS0.out.keep0 hgr) k hlt
        obtain ⟨c0, c1, c2, c3, c4⟩ := hcs k hlt
        obtain ⟨x, hx⟩ : ∃ x, x = slotAt c.slots k := ⟨_, rfl⟩
        rw [← hx] at c0 c1 c2 c3 c4
        have HX := Lib.hid hx
        clear hx hcs hBo
        go_upto_region 1 with (fail)
        have hq3 := heap_alloc_new wo (.cells #[.string x.key, .string x.prod, .int .i64 x.price, .int .i64 x.most, .int .i64 x.count] 43)
        have hg3 := gr_alloc (gr_refl wo none) (.cells #[.string x.key, .string x.prod, .int .i64 x.price, .int .i64 x.most, .int .i64 x.count] 43)
        obtain ⟨w3, hw3⟩ : ∃ w3, w3 = wo.alloc (.cells #[.string x.key, .string x.prod, .int .i64 x.price, .int .i64 x.most, .int .i64 x.count] 43) := ⟨_, rfl⟩
        rw [← hw3] at hq3 hg3
        rw [← hw3]
        obtain ⟨q, hqe⟩ : ∃ q, q = wo.heap.size := ⟨_, rfl⟩
        rw [← hqe] at hq3
        rw [← hqe]
        clear hw3 c0 c1 c2 c3 c4
        have e0 : w3.cell? ⟨q, 0, none⟩ = some (.string x.key) := blkC hq3 0 rfl
        have hql := lt_of_block hq3
        have hgr3 := gr_trans hgr hg3
        obtain ⟨tv, kv, sv, jv, ev, dv, hb, h1, h2, h3, h4, h5, h6, h7⟩ := (HMO.out.keep0 hg3).ex
        have hkn : (machNew c k).sold.length = k := by simp [machNew]; omega
        rw [hkn] at h6
        have hMl := lt_of_block hb
        have cM : w3.cell? ⟨M, 6, none⟩ = some dv := blkC hb 6 rfl
        have HMb := Lib.hid hb
        have HQE := Lib.hid hqe
        clear hb hqe hq3
        have SOLD : Hid ((machNew c (k + 1)).sold = (machNew c k).sold ++ [⟨x.key, 0, 0⟩]) := by
          show _ = _
          simp only [machNew]
          rw [List.take_add_one, List.getElem?_eq_getElem hlt, HX.out, List.map_append]
          simp [slotAt, List.getD_eq_getElem?_getD, List.getElem?_eq_getElem hlt]
        have h6d := own_keep0 h6 (gr_drew (gr_refl w3 none))
        have hMd : w3.drew.heap[M]? = _ := HMb.out
        have hBd : w3.drew.heap[B]? = _ := (hg3.block B (lt_of_block (HBB.out.trans HBx.out)) (by simp)).trans (HBB.out.trans HBx.out)
        have hMB : M ≠ B := by
          intro e
          have hh := HMb.out
          rw [e, show w3.heap[B]? = _ from hBd] at hh
          simp at hh
        go_region_law (first
          | (refine step_app1 eTally rfl _ _ rfl B _ k _ rfl w3.drew #[.string x.key, .int .i64 0, .int .i64 0] rfl h6d _ rfl rfl rfl rfl ?_ ?_ ?_; (· omega); (· (show B ≤ w3.heap.size); omega); intro v11 w11 hown11 hg11 hlt11 hk11; have hM11 := (hg11.block M (lt_of_block hMd) (fun e => own_ne h6d hMd (by decide) e.symm)).trans hMd; have c11 : w11.cell? ⟨M, 6, none⟩ = some dv := blkC hM11 6 rfl; have z11 := blkF hM11 6; obtain ⟨g11, cg11, rfl, _, _, _, _⟩ := own_some hown11 (by omega))
          | fail)
        all_goals (go_wp2_with (fail))
        all_goals (try go_simp)
        all_goals refine ⟨⟨k + 1, by omega, by go_num, ?_, ?_, ?_⟩, ?_⟩
        all_goals first
          | (simp [intOf]; omega; done)
          | skip
        all_goals
          have hgs := gr_set (q := ⟨M, 6, none⟩) (gr_refl w11 (some M)) rfl (.slice (some ⟨g11, 0, none⟩) (k + 1) cg11)
          have hMs := heap_setCell_same w11 M 6 _ _ (.slice (some ⟨g11, 0, none⟩) (k + 1) cg11) hM11
          have gd := gr_drew (gr_refl w3 none)
          have hB11 := (hg11.block B (lt_of_block hBd) (fun e => own_ne h6d hBd (by decide) e.symm)).trans hBd
          have row : ∀ {e z n : Nat} {v : Value} {l : List Value}, w3.ownsRow B e z v n l → e ≠ 79 → e ≠ 139 → (w11.setCell ⟨M, 6, none⟩ (.slice (some ⟨g11, 0, none⟩) (k + 1) cg11)).ownsRow B e z v n l := by
            intro e z n v l h he1 he2
            have h' := own_keepU (own_keep0 h gd) h6d he1 hg11
            exact own_keep h' hgs (.inr (own_ne h' hM11 he2))
          first
          | (have hso : (machNew c (k + 1)).sold = (machNew c k).sold ++ [⟨x.key, 0, 0⟩] := SOLD.out
             refine ⟨tv, kv, sv, jv, ev, .slice (some ⟨g11, 0, none⟩) (k + 1) cg11, hMs, row h1 (by decide) (by decide), row h2 (by decide) (by decide), row h3 (by decide) (by decide), row h4 (by decide) (by decide), row h5 (by decide) (by decide), ?_, h7⟩
             rw [hso, flat_append, List.length_append, hkn]
             exact own_keep hown11 hgs (.inr (own_ne hown11 hM11 (by decide)))
             done)
          | (refine (hgs.block B (lt_of_block hB11) (fun e => hMB (by injection e with e; exact e.symm))).trans (hB11.trans ?_)
             exact HBx.out.symm)
          | exact gr_grown (gr_grown (gr_drew hgr3) hg11 (fun z hz => Nat.le_trans (Nat.le_of_eq HB.out.symm) (own_ge h6d hz))) hgs (fun z hz => by injection hz with hz; have := HB.out; omega)
      · obtain rfl : k = c.slots.length := by omega
        go_wp2_with (fail)
        go_ret2
        exact ⟨M, rfl, by have := HB.out; omega, by rw [← HB.out]; exact HMO.out, hgr⟩
end Go.Proofs.YtdjnomeabadbnaaDoor
