/- Configurations, as the stream makes them. -/
import Derived.Test.YtdjnomeabadbnaaDoorTubes
import Derived.Test.YtdjnomeabadbnaaDoorMakeInts
import Derived.Test.YtdjnomeabadbnaaDoorStepApp
import Derived.Deep.RegionLaw
import Derived.Deep.DeepCutAuto
import Derived.Deep.DrawnRows
import Derived.Deep.CutBlock
import Derived.Test.YtdjnomeabadbnaaDoorFieldApp
import Derived.Deep.RegionHeld3
import Derived.IntWalk
import Derived.WalkLawsBesides
namespace Go.Proofs.YtdjnomeabadbnaaDoor
open Go.RowKit
variable {lw : Nat}
attribute [local go_sem ↓] Go.wp_at_zero Go.wp_at_succ

structure Slot where
  key : ByteArray
  prod : ByteArray
  price : Int
  most : Int
  count : Int
def encSlot (s : Slot) : List Value := [.string s.key, .string s.prod, .int .i64 s.price, .int .i64 s.most, .int .i64 s.count]
theorem encSlot_len (s : Slot) : (encSlot s).length = 5 := rfl
theorem encSlot_one (s : Slot) : (encSlot s).all (fun u => u.oneCell') = true := rfl
theorem eSlot : ElemT Tryd.prog 27 43 (.agg #[.string ⟨#[]⟩, .string ⟨#[]⟩, .int .i64 0, .int .i64 0, .int .i64 0]) 5 56 := ⟨by kernel_rfl, by kernel_rfl, by decide, by decide, by decide⟩
structure Cfg where
  tubes : List Tube
  takes : List Int
  slots : List Slot
  high : Int
def keyABC (i : Nat) : ByteArray := if i = 0 then ⟨#[97]⟩ else if i = 1 then ⟨#[98]⟩ else ⟨#[99]⟩
def cfgSlot (l : List Int) (j i : Nat) : Slot := ⟨keyABC i, oneS l (j + 1) [⟨#[99, 97, 110]⟩, ⟨#[98, 97, 114]⟩], pickM l (j + 2) [15, 35, 50, 80, 95], pickM l j [0, 1, 3, 5], nxt l (j + 3) (pickM l j [0, 1, 3, 5] + 1)⟩
def cfgSlots (l : List Int) (k : Nat) : Nat → List Slot × Nat
  | 0 => ([], k)
  | i + 1 =>
    if i = 0 then ((cfgSlots l k i).1 ++ [cfgSlot l (cfgSlots l k i).2 i], (cfgSlots l k i).2 + 4)
    else if flipM l (cfgSlots l k i).2 2 then ((cfgSlots l k i).1 ++ [cfgSlot l ((cfgSlots l k i).2 + 1) i], (cfgSlots l k i).2 + 5)
    else ((cfgSlots l k i).1, (cfgSlots l k i).2 + 1)
theorem cfgSlots_k (l : List Int) (k i : Nat) : (cfgSlots l k i).2 ≤ k + 5 * i := by
  induction i with
  | zero => exact Nat.le_refl _
  | succ i ih => simp only [cfgSlots]; split <;> (try split) <;> simp <;> omega
theorem cfgSlots_len (l : List Int) (k i : Nat) : (cfgSlots l k i).1.length ≤ i := by
  induction i with
  | zero => exact Nat.le_refl _
  | succ i ih => simp only [cfgSlots]; split <;> (try split) <;> simp <;> omega
def cfgTakes : List Int := [5, 10, 25, 50, 100, 200]
def cfg0 (l : List Int) (k : Nat) : Cfg := ⟨tubesM l k, cfgTakes, (cfgSlots l (tubesK l k + 1) 3).1, pickM l (tubesK l k) [200, 500, 60]⟩
def cfgJ (l : List Int) (k : Nat) : Nat := (cfgSlots l (tubesK l k + 1) 3).2
def cfgTurn (l : List Int) (j : Nat) (c : Cfg) (s : Int) : Cfg × Nat :=
  if s = 0 then ({ c with tubes := c.tubes ++ [⟨pickM l (j + 2) [150, 3, 200], 0, pickM l (j + 3) [5, -1]⟩] }, j + 4)
  else if s = 1 then ({ c with takes := c.takes ++ [pickM l (j + 2) [0, 200, 500, 20001]] }, j + 3)
  else if s = 2 then ({ c with slots := c.slots ++ [⟨oneS l (j + 2) [⟨#[]⟩, ⟨#[97]⟩, ⟨#[100]⟩], oneS l (j + 3) [⟨#[]⟩, ⟨#[99, 97, 110]⟩], pickM l (j + 4) [0, 5], pickM l (j + 5) [5, 1001], pickM l (j + 6) [0, 6]⟩] }, j + 7)
  else if s = 3 then ({ c with slots := [] }, j + 2)
  else if s = 4 then ({ c with takes := c.takes.drop 1 }, j + 2)
  else ({ c with high := pickM l (j + 2) [0, 20000, 20001] }, j + 3)
def cfgM (l : List Int) (k : Nat) : Cfg × Nat := if flipM l (cfgJ l k) 12 then cfgTurn l (cfgJ l k) (cfg0 l k) (nxt l (cfgJ l k + 1) 6) else (cfg0 l k, cfgJ l k + 1)
theorem tubesK_le (l : List Int) (k : Nat) : tubesK l k ≤ k + 15 := tubesTo_k l k 5
theorem cfgJ_le (l : List Int) (k : Nat) : cfgJ l k ≤ k + 31 := by
  have := cfgSlots_k l (tubesK l k + 1) 3
  have := tubesK_le l k
  unfold cfgJ; omega
theorem cfgM_k (l : List Int) (k : Nat) : (cfgM l k).2 ≤ k + 40 := by
  have := cfgJ_le l k
  unfold cfgM cfgTurn
  repeat' split
  all_goals simp only
  all_goals omega

structure CfgRow (w : World) (base C : Nat) (tv kv sv : Value) (c : Cfg) : Prop where
  blk : w.heap[C]? = some (.cells #[tv, kv, sv, .int .i64 c.high] 29 (0, 0))
  tub : w.ownsRow base 41 3 tv c.tubes.length (tubes c.tubes)
  tak : w.ownsRow base 3 1 kv c.takes.length (ints c.takes)
  slo : w.ownsRow base 43 5 sv c.slots.length (flat encSlot c.slots)
theorem CfgRow.keepS {w w1 : World} {base C p : Nat} {tv kv sv : Value} {c : Cfg} (h : CfgRow w base C tv kv sv c) (g : w.grownBy w1 (some p)) (hp : p < base) (hpC : C ≠ p) : CfgRow w1 base C tv kv sv c :=
  ⟨(g.block C (lt_of_block h.blk) (by simp; omega)).trans h.blk, own_keepS h.tub g hp, own_keepS h.tak g hp, own_keepS h.slo g hp⟩
theorem CfgRow.keep0 {w w1 : World} {base C : Nat} {tv kv sv : Value} {c : Cfg} (h : CfgRow w base C tv kv sv c) (g : w.grownBy w1 none) : CfgRow w1 base C tv kv sv c :=
  ⟨(g.block C (lt_of_block h.blk) (by simp)).trans h.blk, own_keep0 h.tub g, own_keep0 h.tak g, own_keep0 h.slo g⟩
/-- A row of ints that may lie behind the start of its block. -/
def TakesAt (w : World) (base : Nat) (v : Value) (ks : List Int) : Prop :=
  ∃ g o cap cs, v = .slice (some ⟨g, o, none⟩) ks.length cap ∧ base ≤ g ∧ w.heap[g]? = some (.cells cs 3 (0, 0)) ∧ o + ks.length ≤ cs.size ∧ ks.length ≤ cap ∧ cap ≤ maxLen ∧ ∀ (j : Nat) (x : Int), ks[j]? = some x → cs[o + j]? = some (.int .i64 x)
theorem TakesAt.of_own {w : World} {base : Nat} {v : Value} {ks : List Int} (h : w.ownsRow base 3 1 v ks.length (ints ks)) (h0 : 0 < ks.length) : TakesAt w base v ks := by
  rcases h.2 with ⟨_, h'⟩ | ⟨g, cap, cur, rfl, hb, hg, hn, hcap, hs, ht⟩
  · omega
  · refine ⟨g, 0, cap, cur, rfl, hb, hg, by omega, hn, hcap, fun j x hj => ?_⟩
    have hjl := (List.getElem?_eq_some_iff.1 hj).1
    have h1 : (ints ks)[j]? = some (.int .i64 x) := by simp [ints, hj]
    rw [← ht, List.getElem?_take, if_pos (by omega)] at h1
    rw [Nat.zero_add]
    simpa using h1
theorem TakesAt.drop {w : World} {base : Nat} {g o n cap : Nat} {ks : List Int} (h : TakesAt w base (.slice (some ⟨g, o, none⟩) n cap) ks) (h0 : 1 ≤ n) : TakesAt w base (.slice (some ⟨g, o + 1, none⟩) (n - 1) (cap - 1)) (ks.drop 1) := by
  obtain ⟨g', o', cap', cs, hv, hb, hg, h1, h2, h3, h4⟩ := h
  injection hv with hv hn hc
  injection hv with hv
  injection hv with hv1 hv2
  subst hv1 hv2 hn hc
  refine ⟨g, o + 1, cap - 1, cs, by rw [List.length_drop], hb, hg, by rw [List.length_drop]; omega, by rw [List.length_drop]; omega, by omega, fun j x hj => ?_⟩
  rw [List.getElem?_drop] at hj
  have := h4 _ _ hj
  rw [show o + 1 + j = o + (1 + j) by omega]; exact this
theorem TakesAt.keep {w w1 : World} {base : Nat} {v : Value} {ks : List Int} {r : Option Nat} (h : TakesAt w base v ks) (g : w.grownBy w1 r) (hr : ∀ q, v.ownBlock = some q → r ≠ some q) : TakesAt w1 base v ks := by
  obtain ⟨b, o, cap, cs, rfl, hb, hg, h1⟩ := h
  exact ⟨b, o, cap, cs, rfl, hb, (g.block b (lt_of_block hg) (fun e => hr b rfl e.symm)).trans hg, h1⟩
theorem TakesAt.ne {w : World} {base g : Nat} {v : Value} {ks : List Int} {cs : Array Value} {t : Nat} (h : TakesAt w base v ks) (hg : w.heap[g]? = some (.cells cs t (0, 0))) (ht : 3 ≠ t) : v.ownBlock ≠ some g := by
  obtain ⟨b, o, cap, cs', rfl, hb, hh, _⟩ := h
  intro e
  have : b = g := by simpa [Value.ownBlock] using e
  subst this
  rw [hg] at hh
  injection hh with hh
  injection hh with _ hh
  exact ht hh.symm
theorem TakesAt.base {w : World} {base base' : Nat} {v : Value} {ks : List Int} (h : TakesAt w base v ks) (hb : base' ≤ base) : TakesAt w base' v ks := by
  obtain ⟨b, o, cap, cs', hv, hb', h⟩ := h
  exact ⟨b, o, cap, cs', hv, by omega, h⟩
structure CfgVal (w : World) (base : Nat) (tv kv sv : Value) (c : Cfg) : Prop where
  tub : w.ownsRow base 41 3 tv c.tubes.length (tubes c.tubes)
  tak : TakesAt w base kv c.takes
  slo : w.ownsRow base 43 5 sv c.slots.length (flat encSlot c.slots)
theorem CfgVal.keep0 {w w1 : World} {base : Nat} {tv kv sv : Value} {c : Cfg} (h : CfgVal w base tv kv sv c) (g : w.grownBy w1 none) : CfgVal w1 base tv kv sv c :=
  ⟨own_keep0 h.tub g, h.tak.keep g (fun _ _ e => by cases e), own_keep0 h.slo g⟩
theorem CfgVal.keepB {w w1 : World} {base : Nat} {tv kv sv : Value} {c : Cfg} (h : CfgVal w base tv kv sv c) {q : Nat} {cs : Array Value} {t : Nat} (hq : w.heap[q]? = some (.cells cs t (0, 0))) (h1 : 41 ≠ t) (h2 : 3 ≠ t) (h3 : 43 ≠ t) (g : w.grownBy w1 (some q)) : CfgVal w1 base tv kv sv c :=
  ⟨own_keep h.tub g (.inr (own_ne h.tub hq h1)), h.tak.keep g (fun b hb e => h.tak.ne hq h2 (by rw [hb, ← e])), own_keep h.slo g (.inr (own_ne h.slo hq h3))⟩
theorem cfg_done {w w5 : World} {R p j : Nat} {l : List Int} {tv kv sv a b c' d : Value} {c : Cfg} (h : CfgVal w5 R tv kv sv c) (hR : w5.heap[R]? = some (.cells #[a, b, c', d] 29 (0, 0))) (hs : StreamAt w5 p lw l j) (hg : w.grownBy w5 (some p)) (hp : p < R) (hw : w.heap.size ≤ R) (x y z u : Value) :
    CfgVal ((((w5.setCell ⟨R, 0, none⟩ x).setCell ⟨R, 1, none⟩ y).setCell ⟨R, 2, none⟩ z).setCell ⟨R, 3, none⟩ u) w.heap.size tv kv sv c ∧ StreamAt ((((w5.setCell ⟨R, 0, none⟩ x).setCell ⟨R, 1, none⟩ y).setCell ⟨R, 2, none⟩ z).setCell ⟨R, 3, none⟩ u) p lw l j ∧ w.grownBy ((((w5.setCell ⟨R, 0, none⟩ x).setCell ⟨R, 1, none⟩ y).setCell ⟨R, 2, none⟩ z).setCell ⟨R, 3, none⟩ u) (some p) := by
  have g := set4_gr w5 R x y z u
  have h' := h.keepB hR (by decide) (by decide) (by decide) g
  exact ⟨⟨own_base h'.tub hw, h'.tak.base hw, own_base h'.slo hw⟩, hs.keep g (fun q e => by cases e; exact hp), gr_grown hg g (fun q e => by cases e; exact hw)⟩
def SlotsPost (l : List Int) (i : Nat) (w0 : World) (base C p lw j : Nat) (tv kv : Value) (c : Cfg) (wx : World) : Prop :=
  ∃ sv', CfgRow wx base C tv kv sv' { c with slots := c.slots ++ [cfgSlot l j i] } ∧ StreamAt wx p lw l (j + 4) ∧ w0.grownBy wx (some p)
set_option maxRecDepth 100000 in
set_option maxHeartbeats 4000000 in
theorem config_any (l : List Int) (k : Nat) (p : Nat) (w : World) (hs : StreamAt w p lw l k) (hk : k < 900000000) :
    Calls Tryd.prog 9 #[.pointer (some ⟨p, 0, none⟩)] w fun e w' => ∃ tv kv sv, e = .returned (.agg #[tv, kv, sv, .int .i64 (cfgM l k).1.high]) ∧ CfgVal w' w.heap.size tv kv sv (cfgM l k).1 ∧ StreamAt w' p lw l (cfgM l k).2 ∧ w.grownBy w' (some p) := by
  obtain ⟨dt, hd1⟩ := und_struct (P := Tryd.prog) (t := 29) (by kernel_rfl)
  have hlt := hs.lt
  have hR1 := heap_alloc_new w (.cells #[.slice none 0 0, .slice none 0 0, .slice none 0 0, .int .i64 0] 29)
  have hg1 := gr_alloc (gr_refl w none) (.cells #[.slice none 0 0, .slice none 0 0, .slice none 0 0, .int .i64 0] 29)
  obtain ⟨w1, hw1⟩ : ∃ w1, w1 = w.alloc (.cells #[.slice none 0 0, .slice none 0 0, .slice none 0 0, .int .i64 0] 29) := ⟨_, rfl⟩
  rw [← hw1] at hR1 hg1
  obtain ⟨R, hR⟩ : ∃ R, R = w.heap.size := ⟨_, rfl⟩
  rw [← hR] at hR1
  have HW1 := Lib.hid hw1
  have HR := Lib.hid hR
  have hs1 := hs.keep0 hg1
  have hz1 := lt_of_block hR1
  have hpR : p < R := by omega
  have HR1 := Lib.hid hR1
  clear hw1 hR hR1
  go_enter Tryd.func9, Tryd.ntmps9
  go_wp2_with (fail)
  rw [← HW1.out, ← HR.out]
  refine (rightTubes_any l k p w1 hs1 (by omega)).mono ?_
  rintro e w2 ⟨tv, rfl, hT2, hs2, hg2⟩
  have hT2 := own_base hT2 (Nat.le_of_lt hz1)
  have hkt := tubesK_le l k
  obtain ⟨k1, hk1⟩ : ∃ k1, k1 = tubesK l k := ⟨_, rfl⟩
  obtain ⟨T, hT⟩ : ∃ T, T = tubesM l k := ⟨_, rfl⟩
  rw [← hk1] at hkt hs2
  rw [← hT] at hT2
  obtain ⟨ta, tc, rfl, _, _, _, _⟩ := own_shape hT2
  have HK1 := Lib.hid hk1
  have HT := Lib.hid hT
  clear hk1 hT
  go_wp2_with (fail)
  have hsz2 := hg2.size
  have hT3 := own_keep0 hT2 (gr_alloc (gr_refl w2 none) (.cells #[.int .i64 5, .int .i64 10, .int .i64 25, .int .i64 50, .int .i64 100, .int .i64 200] 3))
  have hK3 : (w2.alloc (.cells #[.int .i64 5, .int .i64 10, .int .i64 25, .int .i64 50, .int .i64 100, .int .i64 200] 3)).ownsRow R 3 1 (.slice (some ⟨w2.heap.size, 0, none⟩) 6 6) 6 (ints cfgTakes) := by
    have := World.ownsRow_lit (base := R) (e := 3) (size := 1) w2 (ints cfgTakes).toArray 6 (by omega) (by decide) (by decide)
    simpa [ints, cfgTakes] using this
  have hg3 := gr_alloc (gr_refl w2 none) (.cells #[.int .i64 5, .int .i64 10, .int .i64 25, .int .i64 50, .int .i64 100, .int .i64 200] 3)
  obtain ⟨w3, hw3⟩ : ∃ w3, w3 = w2.alloc (.cells #[.int .i64 5, .int .i64 10, .int .i64 25, .int .i64 50, .int .i64 100, .int .i64 200] 3) := ⟨_, rfl⟩
  rw [← hw3] at hT3 hK3 hg3
  rw [← hw3]
  have e3 : w2.heap.size + 1 = w3.heap.size := by rw [hw3]; simp
  obtain ⟨G, hG⟩ : ∃ G, G = w2.heap.size := ⟨_, rfl⟩
  rw [e3]
  rw [← hG] at hK3 ⊢
  have hs3 := hs2.keep0 hg3
  have hg23 := gr_trans hg2 (gr_weak hg3 _)
  have hRR := (hg23.block R (lt_of_block HR1.out) (by simp; omega)).trans HR1.out
  have HRR := Lib.hid hRR
  clear hw3 hG e3 hRR hg2 hg3 hs2 hT2
  refine (pick_any l k1 [200, 500, 60] p w3 hs3 (by omega) (by decide) (by decide)).mono ?_
  rintro e w4 ⟨rfl, hs4, hg4⟩
  obtain ⟨hi, hhi⟩ : ∃ hi, hi = pickM l k1 [200, 500, 60] := ⟨_, rfl⟩
  rw [← hhi]
  have HHI := Lib.hid hhi
  have hT4 := own_keepS hT3 hg4 (by omega)
  have hK4 := own_keepS hK3 hg4 (by omega)
  have hg14 := gr_trans hg23 hg4
  have hR4 := (hg4.block R (lt_of_block HRR.out) (by simp; omega)).trans HRR.out
  have hsz4 := hg4.size
  have hsz3 := hg23.size
  clear hhi hT3 hK3 hg23 hg4 hs3
  go_wp2_with (fail)
  obtain ⟨w6, hw6⟩ : ∃ w6, w6 = (w4.alloc (.cells #[.slice ta T.length tc, .slice (some ⟨G, 0, none⟩) 6 6, .slice none 0 0, .int .i64 hi] 29)).alloc (.cells #[.string { data := #[97] }, .string { data := #[98] }, .string { data := #[99] }] 9) := ⟨_, rfl⟩
  obtain ⟨hC6, hD6⟩ := heap_2 w4 (.cells #[.slice ta T.length tc, .slice (some ⟨G, 0, none⟩) 6 6, .slice none 0 0, .int .i64 hi] 29) (.cells #[.string { data := #[97] }, .string { data := #[98] }, .string { data := #[99] }] 9)
  have hg6 := gr_alloc (gr_alloc (gr_refl w4 none) (.cells #[.slice ta T.length tc, .slice (some ⟨G, 0, none⟩) 6 6, .slice none 0 0, .int .i64 hi] 29)) (.cells #[.string { data := #[97] }, .string { data := #[98] }, .string { data := #[99] }] 9)
  rw [← hw6] at hC6 hD6 hg6
  rw [← hw6]
  obtain ⟨C, hC⟩ : ∃ C, C = w4.heap.size := ⟨_, rfl⟩
  obtain ⟨D, hD⟩ : ∃ D, D = C + 1 := ⟨_, rfl⟩
  rw [← hC] at hC6 hD6
  rw [← hD] at hD6
  rw [← hC, ← hD]
  have hcr6 : CfgRow w6 R C (.slice ta T.length tc) (.slice (some ⟨G, 0, none⟩) 6 6) (.slice none 0 0) ⟨T, cfgTakes, [], hi⟩ := ⟨hC6, own_keep0 hT4 hg6, own_keep0 hK4 hg6, World.ownsRow_nil _ _ _ _⟩
  have hs6 := hs4.keep0 hg6
  have hR6 := (hg6.block R (lt_of_block hR4) (by simp)).trans hR4
  have hgr6 : w.grownBy w6 (some p) := gr_trans (gr_weak hg1 _) (gr_trans hg14 (gr_weak hg6 _))
  have hRC : R < C := by have := lt_of_block hR4; omega
  have hwR : w.heap.size ≤ R := by have := HR.out; omega
  have hCD : C < D := by omega
  have hCD1 : C ≠ D := by omega
  clear hw6 hC hD hC6 hT4 hK4 hg6 hs4 hR4 hg1 hs1 hz1 hg14 hsz3 hsz4 hsz2 hs
  go_loopw [16] (fun s16 wr => ∃ (i : Nat) (sv : Value) (S : List Slot) (q : Nat), i ≤ 3 ∧ s16 = .int .i64 i ∧ S = (cfgSlots l (k1 + 1) i).1 ∧ q = (cfgSlots l (k1 + 1) i).2 ∧ CfgRow wr R C (.slice ta T.length tc) (.slice (some ⟨G, 0, none⟩) 6 6) sv ⟨T, cfgTakes, S, hi⟩ ∧ StreamAt wr p lw l q ∧ wr.heap[R]? = some (.cells #[.slice none 0 0, .slice none 0 0, .slice none 0 0, .int .i64 0] 29 (0, 0)) ∧ wr.heap[D]? = some (.cells #[.string { data := #[97] }, .string { data := #[98] }, .string { data := #[99] }] 9 (0, 0)) ∧ w.grownBy wr (some p)) (fun i _ => 3 - (intOf i).toNat)
  case atStart => exact ⟨0, _, [], k1 + 1, by omega, rfl, rfl, rfl, hcr6, hs6, hR6, hD6, hgr6⟩
  case round =>
    clear hcr6 hs6 hR6 hD6 hgr6
    obtain ⟨i, sv, S, q, hi3, rfl, hS, hq, hcr, hsj, hRj, hDj, hgj⟩ := hrel
    obtain ⟨wo, rfl⟩ : ∃ wo : World, wo = wr := ⟨_, rfl⟩
    have hqk := cfgSlots_k l (k1 + 1) i
    have hSl := cfgSlots_len l (k1 + 1) i
    rw [← hq] at hqk
    rw [← hS] at hSl
    have HS := Lib.hid hS
    have HQ := Lib.hid hq
    have HRj := Lib.hid hRj
    clear hS hq
    by_cases hin : i < 3
    · go_upto_block 1 with (fail)
      go_cut [29] (fun _ wx => ∃ (sv' : Value) (S' : List Slot) (q' : Nat), S' = (cfgSlots l (k1 + 1) (i + 1)).1 ∧ q' = (cfgSlots l (k1 + 1) (i + 1)).2 ∧ CfgRow wx R C (.slice ta T.length tc) (.slice (some ⟨G, 0, none⟩) 6 6) sv' ⟨T, cfgTakes, S', hi⟩ ∧ StreamAt wx p lw l q' ∧ wx.heap[R]? = some (.cells #[.slice none 0 0, .slice none 0 0, .slice none 0 0, .int .i64 0] 29 (0, 0)) ∧ wx.heap[D]? = some (.cells #[.string { data := #[97] }, .string { data := #[98] }, .string { data := #[99] }] 9 (0, 0)) ∧ w.grownBy wx (some p))
      case rest =>
        obtain ⟨sv', S', q', hS', hq', hcr', hs', hR', hD', hg'⟩ := hcut
        obtain ⟨wz, rfl⟩ : ∃ wz : World, wz = wc := ⟨_, rfl⟩
        have HS' := Lib.hid hS'
        have HQ' := Lib.hid hq'
        clear hS' hq'
        go_wp2_with (fail)
        go_roundw
        case rel =>
          exact ⟨i + 1, sv', S', q', by omega, by go_num, HS'.out, HQ'.out, hcr', hs', hR', hD', hg'⟩
        case measure => simp [intOf]; omega
      case first =>
      obtain ⟨K, hK⟩ : ∃ K, K = keyABC i := ⟨_, rfl⟩
      have dK : wo.cell? ⟨D, i, none⟩ = some (.string K) := by
        rw [hK]
        obtain rfl | rfl | rfl : i = 0 ∨ i = 1 ∨ i = 2 := by omega
        · exact blkC hDj 0 rfl
        · exact blkC hDj 1 rfl
        · exact blkC hDj 2 rfl
      have hKa : (K.toList == [97]) = decide (i = 0) := by
        rw [hK]
        rcases (show i = 0 ∨ i = 1 ∨ i = 2 by omega) with rfl | rfl | rfl <;> kernel_rfl
      have HKK := Lib.hid hK
      have HDj := Lib.hid hDj
      clear hK hRj hDj
      go_upto_region 5 with (fail)
      go_cut [25] (fun s25 wx => ∃ (j : Nat) (b : Bool), s25 = .bool b ∧ ((i = 0 ∧ b = true ∧ j = q) ∨ (i ≠ 0 ∧ b = flipM l q 2 ∧ j = q + 1)) ∧ CfgRow wx R C (.slice ta T.length tc) (.slice (some ⟨G, 0, none⟩) 6 6) sv ⟨T, cfgTakes, S, hi⟩ ∧ StreamAt wx p lw l j ∧ wx.heap[R]? = some (.cells #[.slice none 0 0, .slice none 0 0, .slice none 0 0, .int .i64 0] 29 (0, 0)) ∧ wx.heap[D]? = some (.cells #[.string { data := #[97] }, .string { data := #[98] }, .string { data := #[99] }] 9 (0, 0)) ∧ w.grownBy wx (some p))
      case first =>
        by_cases h0 : i = 0
        · have hKt : (K.toList == [97]) = true := by rw [hKa, h0]; rfl
          have H0 := Lib.hid h0
          clear hKa h0
          go_wp2_with (fail)
          go_meet
          exact ⟨q, true, rfl, .inl ⟨H0.out, rfl, rfl⟩, hcr, hsj, HRj.out, HDj.out, hgj⟩
        · have hKf : (K.toList == [97]) = false := by rw [hKa]; simpa using h0
          have H0 := Lib.hid h0
          clear hKa h0
          go_wp2_with (fail)
          refine (flip_any l q 2 p wo hsj (by omega) (by omega)).mono ?_
          rintro e w5 ⟨rfl, hs5, hg5⟩
          obtain ⟨fl, hfl⟩ : ∃ fl, fl = flipM l q 2 := ⟨_, rfl⟩
          rw [← hfl]
          have HFL := Lib.hid hfl
          clear hfl
          go_wp2_with (fail)
          go_meet
          exact ⟨q + 1, fl, rfl, .inr ⟨H0.out, HFL.out, rfl⟩, hcr.keepS hg5 (by omega) (by omega), hs5, (hg5.block R (lt_of_block HRj.out) (by simp; omega)).trans HRj.out, (hg5.block D (lt_of_block HDj.out) (by simp; omega)).trans HDj.out, gr_trans hgj hg5⟩
      case rest =>
      obtain ⟨j, b, rfl, hjb, hcr5, hs5, hR5, hD5, hgr5⟩ := hcut
      obtain ⟨w5, rfl⟩ : ∃ w5 : World, w5 = wc := ⟨_, rfl⟩
      have hjq : j ≤ q + 1 := by omega
      have HJB := Lib.hid hjb
      have HRj := Lib.hid hR5
      have HDj := Lib.hid hD5
      clear hcr hsj hgj hjb hR5 hD5 hKa dK
      have hcr := hcr5
      have hsj := hs5
      have hgj := hgr5
      clear hcr5 hs5 hgr5
      cases b with
      | false =>
        have HNX : Hid (cfgSlots l (k1 + 1) (i + 1) = (S, j)) := by
          show _ = _
          simp only [cfgSlots]
          rcases HJB.out with ⟨_, h, _⟩ | ⟨h0, hb, rfl⟩
          · cases h
          · rw [if_neg h0, ← HS.out, ← HQ.out, ← hb]
            rfl
        go_wp2_with (fail)
        go_meet
        exact ⟨sv, S, j, by rw [HNX.out], by rw [HNX.out], hcr, hsj, HRj.out, HDj.out, hgj⟩
      | true =>
        go_wp2_with (fail)
        refine (pick_any l j [0, 1, 3, 5] p w5 hsj (by omega) (by decide) (by decide)).mono ?_
        rintro e w7 ⟨rfl, hs7, hg7⟩
        have hmb := pickM_mem l j [0, 1, 3, 5] (by decide)
        simp only [List.mem_cons, List.not_mem_nil, or_false] at hmb
        obtain ⟨m, hm⟩ : ∃ m, m = pickM l j [0, 1, 3, 5] := ⟨_, rfl⟩
        rw [← hm]
        rw [← hm] at hmb
        have hm0 : 0 ≤ m := by omega
        have hm1 : m ≤ 5 := by omega
        have HM := Lib.hid hm
        have hwm : IntKind.i64.wrap (m + 1) = m + 1 := IntWalk.i64_in _ (by omega)
        have hcr7 := hcr.keepS hg7 (by omega) (by omega)
        have hR7 := (hg7.block R (lt_of_block HRj.out) (by simp; omega)).trans HRj.out
        have hD7 := (hg7.block D (lt_of_block HDj.out) (by simp; omega)).trans HDj.out
        have hgr7 := gr_trans hgj hg7
        have hCl := lt_of_block hcr7.blk
        have c2 : w7.cell? ⟨C, 2, none⟩ = some sv := blkC hcr7.blk 2 rfl
        have hsz7 := hgr7.size
        have hp7 := hs7.lt
        obtain ⟨pr, hpr⟩ : ∃ x, x = oneS l (j + 1) [⟨#[99, 97, 110]⟩, ⟨#[98, 97, 114]⟩] := ⟨_, rfl⟩
        obtain ⟨pc, hpc⟩ : ∃ x, x = pickM l (j + 1 + 1) [15, 35, 50, 80, 95] := ⟨_, rfl⟩
        obtain ⟨co, hco⟩ : ∃ x, x = nxt l (j + 1 + 1 + 1) (m + 1) := ⟨_, rfl⟩
        have ON : Hid (∀ (wx : World) (g : Nat), StreamAt wx p lw l (j + 1) → g ≠ p → wx.cell? ⟨g, 0, none⟩ = some (.string { data := #[99, 97, 110] }) → wx.cell? ⟨g, 1, none⟩ = some (.string { data := #[98, 97, 114] }) → Calls Tryd.prog 70 #[.pointer (some ⟨p, 0, none⟩), .slice (some ⟨g, 0, none⟩) 2 2] wx fun e w' => e = .returned (.string pr) ∧ StreamAt w' p lw l (j + 1 + 1) ∧ wx.grownBy w' (some p)) := by
          intro wx g h1 h2 h3 h4
          rw [hpr]
          exact one_in l (j + 1) [⟨#[99, 97, 110]⟩, ⟨#[98, 97, 114]⟩] p g wx h1 (by omega) (by decide) (by decide) h2 (fun i hi => by rcases (show i = 0 ∨ i = 1 by simp at hi; omega) with rfl | rfl; (· exact h3); exact h4)
        have PK : Hid (∀ (wx : World) (g : Nat), StreamAt wx p lw l (j + 1 + 1) → g ≠ p → wx.cell? ⟨g, 0, none⟩ = some (.int .i64 15) → wx.cell? ⟨g, 1, none⟩ = some (.int .i64 35) → wx.cell? ⟨g, 2, none⟩ = some (.int .i64 50) → wx.cell? ⟨g, 3, none⟩ = some (.int .i64 80) → wx.cell? ⟨g, 4, none⟩ = some (.int .i64 95) → Calls Tryd.prog 29 #[.pointer (some ⟨p, 0, none⟩), .slice (some ⟨g, 0, none⟩) 5 5] wx fun e w' => e = .returned (.int .i64 pc) ∧ StreamAt w' p lw l (j + 1 + 1 + 1) ∧ wx.grownBy w' (some p)) := by
          intro wx g h1 h2 h3 h4 h5 h6 h7
          rw [hpc]
          exact pick_in l (j + 1 + 1) [15, 35, 50, 80, 95] p g wx h1 (by omega) (by decide) (by decide) h2 (fun i hi => by rcases (show i = 0 ∨ i = 1 ∨ i = 2 ∨ i = 3 ∨ i = 4 by simp at hi; omega) with rfl | rfl | rfl | rfl | rfl; (· exact h3); (· exact h4); (· exact h5); (· exact h6); exact h7)
        have NX := Lib.hid (fun (wx : World) (h : StreamAt wx p lw l (j + 1 + 1 + 1)) => next_any l (j + 1 + 1 + 1) (m + 1) p wx h (by omega) (by omega))
        rw [← hco] at NX
        have HPR := Lib.hid hpr
        have HPC := Lib.hid hpc
        have HCO := Lib.hid hco
        have HCR := Lib.hid hcr7
        have HR7 := Lib.hid hR7
        have HD7 := Lib.hid hD7
        clear hm hmb hpr hpc hco hcr hcr7 hR7 hD7 hg7 hgj
        go_wp2_with (fail)
        have HNX : Hid (cfgSlots l (k1 + 1) (i + 1) = (S ++ [⟨K, pr, pc, m, co⟩], j + 1 + 1 + 1 + 1)) := by
          show _ = _
          have e : cfgSlot l j i = ⟨K, pr, pc, m, co⟩ := by
            unfold cfgSlot
            rw [← HKK.out, HPR.out, HPC.out, HCO.out, HM.out]
          simp only [cfgSlots]
          rcases HJB.out with ⟨h0, _, rfl⟩ | ⟨h0, hb, rfl⟩
          · rw [if_pos h0, ← HS.out, ← HQ.out, e]
          · rw [if_neg h0, ← HS.out, ← HQ.out, if_pos hb.symm, e]
        go_region_law (first
          | (go_simp; go_at_call 70; (with_reducible refine (ON.out _ _ ?_ ?_ ?_ ?_).mono ?_); (· exact hs7.keep0 (by (repeat (first | exact gr_refl _ _ | apply gr_drew | (refine gr_alloc ?_ _))))); (· first | omega | (simp; omega)); (· go_simp); (· go_simp); rintro e w8 ⟨rfl, hs8, hg8⟩; have hg78 := gr_trans (gr_weak (show w7.grownBy _ none by (repeat (first | exact gr_refl _ _ | apply gr_drew | (refine gr_alloc ?_ _)))) (some p)) hg8; have hcr8 := HCR.out.keepS hg78 (by omega) (by omega); have c8 : w8.cell? ⟨C, 2, none⟩ = some sv := blkC hcr8.blk 2 rfl; have hsz8 := hg78.size; have hCl8 := lt_of_cell c8; have hp8 := hs8.lt)
          | (go_simp; go_at_call 29; (with_reducible refine (PK.out _ _ ?_ ?_ ?_ ?_ ?_ ?_ ?_).mono ?_); (· exact hs8.keep0 (by (repeat (first | exact gr_refl _ _ | apply gr_drew | (refine gr_alloc ?_ _))))); (· first | omega | (simp; omega)); (· first | (go_simp; done) | exact hg8.cell (by go_simp) (by simp; omega)); (· first | (go_simp; done) | exact hg8.cell (by go_simp) (by simp; omega)); (· first | (go_simp; done) | exact hg8.cell (by go_simp) (by simp; omega)); (· first | (go_simp; done) | exact hg8.cell (by go_simp) (by simp; omega)); (· first | (go_simp; done) | exact hg8.cell (by go_simp) (by simp; omega)); rintro e w9 ⟨rfl, hs9, hg9⟩; have hg89 := gr_trans (gr_weak (show w8.grownBy _ none by (repeat (first | exact gr_refl _ _ | apply gr_drew | (refine gr_alloc ?_ _)))) (some p)) hg9; have hcr9 := hcr8.keepS hg89 (by omega) (by omega); have c9 : w9.cell? ⟨C, 2, none⟩ = some sv := blkC hcr9.blk 2 rfl; have hsz9 := hg89.size; have hCl9 := lt_of_cell c9)
          | (go_simp; go_at_call 28; (with_reducible refine (NX.out _ hs9).mono ?_); rintro e w10 ⟨rfl, hs10, hg10⟩; have hcr10 := hcr9.keepS hg10 (by omega) (by omega); have c10 : w10.cell? ⟨C, 2, none⟩ = some sv := blkC hcr10.blk 2 rfl; have z10 := blkF hcr10.blk 2; have hsz10 := hg10.size; have hCl10 := lt_of_cell c10)
          | (revert c10; intro c10; refine step_app1 eSlot rfl _ _ rfl R _ S.length _ rfl w10 #[.string K, .string pr, .int .i64 pc, .int .i64 m, .int .i64 co] rfl hcr10.slo _ rfl rfl rfl rfl ?_ ?_ ?_; (· omega); (· omega); intro v11 w11 hown11 hg11 hlt11 hk11; have hC11 := (hg11.block C (lt_of_block hcr10.blk) (fun e => own_ne hcr10.slo hcr10.blk (by decide) e.symm)).trans hcr10.blk; have c11 : w11.cell? ⟨C, 2, none⟩ = some sv := blkC hC11 2 rfl; have z11 := blkF hC11 2; obtain ⟨g11, cg11, rfl, _, _, _, _⟩ := own_some hown11 (by omega))
          | fail)
        all_goals (go_wp2_with (fail))
        all_goals (try go_simp)
        all_goals go_meet
        all_goals
          have hgs := gr_set (q := ⟨C, 2, none⟩) (gr_refl w11 (some C)) rfl (.slice (some ⟨g11, 0, none⟩) (S.length + 1) cg11)
          have hC12 := heap_setCell_same w11 C 2 _ _ (.slice (some ⟨g11, 0, none⟩) (S.length + 1) cg11) hC11
          have hg710 := gr_trans (gr_trans hg78 hg89) hg10
          have hslB : ∀ q, sv.ownBlock = some q → R ≤ q := hlt11
          refine ⟨.slice (some ⟨g11, 0, none⟩) (S.length + 1) cg11, S ++ [⟨K, pr, pc, m, co⟩], j + 1 + 1 + 1 + 1, by rw [HNX.out], by rw [HNX.out], ⟨hC12, ?_, ?_, ?_⟩, ?_, ?_, ?_, ?_⟩
          · exact own_keep (own_keepU hcr10.tub hcr10.slo (by decide) hg11) hgs (.inr (own_ne (own_keepU hcr10.tub hcr10.slo (by decide) hg11) hC11 (by decide)))
          · exact own_keep (own_keepU hcr10.tak hcr10.slo (by decide) hg11) hgs (.inr (own_ne (own_keepU hcr10.tak hcr10.slo (by decide) hg11) hC11 (by decide)))
          · have := own_keep hown11 hgs (.inr (own_ne hown11 hC11 (by decide)))
            rw [flat_append, List.length_append]
            simpa [flat, encSlot] using this
          · exact (hs10.keep hg11 (fun q e => by have := hslB q e; omega)).keep hgs (fun q e => by cases e; omega)
          · have h1 := (hg710.block R (lt_of_block HR7.out) (by simp; omega)).trans HR7.out
            have h2 := (hg11.block R (lt_of_block h1) (fun e => own_ne hcr10.slo h1 (by decide) e.symm)).trans h1
            exact (hgs.block R (lt_of_block h2) (by simp; omega)).trans h2
          · have h1 := (hg710.block D (lt_of_block HD7.out) (by simp; omega)).trans HD7.out
            have h2 := (hg11.block D (lt_of_block h1) (fun e => own_ne hcr10.slo h1 (by decide) e.symm)).trans h1
            exact (hgs.block D (lt_of_block h2) (by simp; omega)).trans h2
          · exact gr_grown (gr_grown (gr_trans hgr7 hg710) hg11 (fun q e => by have := hslB q e; omega)) hgs (fun q e => by cases e; omega)
    · have hi3' : i = 3 := by omega
      subst hi3'
      clear hin hi3
      clear hqk
      obtain ⟨jq, hjq⟩ : ∃ jq, jq = q := ⟨_, rfl⟩
      have hj31 : q ≤ k + 31 := by
        have := cfgJ_le l k
        unfold cfgJ at this
        rw [HQ.out, HK1.out]; exact this
      clear hjq jq
      have HC : Hid (cfgM l k = if flipM l q 12 then cfgTurn l q ⟨T, cfgTakes, S, hi⟩ (nxt l (q + 1) 6) else (⟨T, cfgTakes, S, hi⟩, q + 1)) := by
        show _ = _
        have e1 : q = cfgJ l k := by unfold cfgJ; rw [HQ.out, HK1.out]
        have e2 : cfg0 l k = ⟨T, cfgTakes, S, hi⟩ := by unfold cfg0; rw [← HT.out, ← HK1.out, ← HS.out, ← HHI.out]
        unfold cfgM
        rw [e2, ← e1]
      go_wp2_with (fail)
      refine (flip_any l q 12 p wo hsj (by omega) (by omega)).mono ?_
      rintro e w5 ⟨rfl, hs5, hg5⟩
      have hcr5 := hcr.keepS hg5 (by omega) (by omega)
      have hR5 := (hg5.block R (lt_of_block HRj.out) (by simp; omega)).trans HRj.out
      have hgr5 := gr_trans hgj hg5
      obtain ⟨fl, hfl⟩ : ∃ fl, fl = flipM l q 12 := ⟨_, rfl⟩
      rw [← hfl]
      have HFL := Lib.hid hfl
      clear hfl hcr hsj hgj hDj hg5 HRj
      cases fl with
      | false =>
        obtain ⟨sa, sc, rfl⟩ : ∃ sa sc, sv = .slice sa S.length sc := by obtain ⟨sa, sc, h, _⟩ := own_shape hcr5.slo; exact ⟨sa, sc, h⟩
        have c0 : w5.cell? ⟨C, 0, none⟩ = some (.slice ta T.length tc) := blkC hcr5.blk 0 rfl
        have c1 : w5.cell? ⟨C, 1, none⟩ = some (.slice (some ⟨G, 0, none⟩) 6 6) := blkC hcr5.blk 1 rfl
        have c2 : w5.cell? ⟨C, 2, none⟩ = some (.slice sa S.length sc) := blkC hcr5.blk 2 rfl
        have c3 : w5.cell? ⟨C, 3, none⟩ = some (.int .i64 hi) := blkC hcr5.blk 3 rfl
        have HB5 := Lib.hid hcr5.blk
        have HR5 := Lib.hid hR5
        have r4 := blk4 hR5
        obtain ⟨r0, r1, r2, r3⟩ := r4
        have f0 : w5.frozen? ⟨R, 0, none⟩ = false := blkF HR5.out 0
        have f1 : w5.frozen? ⟨R, 1, none⟩ = false := blkF HR5.out 1
        have f2 : w5.frozen? ⟨R, 2, none⟩ = false := blkF HR5.out 2
        have f3 : w5.frozen? ⟨R, 3, none⟩ = false := blkF HR5.out 3
        have HV : Hid (CfgVal w5 R (.slice ta T.length tc) (.slice (some ⟨G, 0, none⟩) 6 6) (.slice sa S.length sc) ⟨T, cfgTakes, S, hi⟩) := ⟨hcr5.tub, .of_own hcr5.tak (show 0 < cfgTakes.length by decide), hcr5.slo⟩
        clear hR5
        go_wp2_with (fail)
        refine bodyPost_ret (results_cell_row (p := 2) (by kernel_rfl) _ _ R _ #[.slice ta T.length tc, .slice (some ⟨G, 0, none⟩) 6 6, .slice sa S.length sc, .int .i64 hi] _ (.struct dt) rfl (set4_heap HR5.out _ _ _ _) hd1 rfl (by kernel_rfl)) rfl ?_
        have hd := cfg_done HV.out HR5.out hs5 hgr5 hpR hwR (.slice ta T.length tc) (.slice (some ⟨G, 0, none⟩) 6 6) (.slice sa S.length sc) (.int .i64 hi)
        rw [HC.out, ← HFL.out]
        exact ⟨_, _, _, rfl, hd.1, hd.2.1, hd.2.2⟩
      | true =>
        have hsc5 : ∃ sa sc, sv = .slice sa S.length sc := by obtain ⟨sa, sc, h, _⟩ := own_shape hcr5.slo; exact ⟨sa, sc, h⟩
        go_wp2_with (fail)
        refine (next_any l (q + 1) 6 p w5 hs5 (by omega) (by omega)).mono ?_
        rintro e w7 ⟨rfl, hs7, hg7⟩
        have hcr7 := hcr5.keepS hg7 (by omega) (by omega)
        have hR7 := (hg7.block R (lt_of_block hR5) (by simp; omega)).trans hR5
        have hgr7 := gr_trans hgr5 hg7
        have gd := gr_drew (gr_refl w7 none)
        obtain ⟨sa, sc, rfl⟩ := hsc5
        have hC7 := lt_of_block hcr7.blk
        have hTl : T.length ≤ 5 := by rw [HT.out]; exact tubesTo_len l k 5
        clear hs5 hcr5 hR5 hg7 hgr5
        obtain ⟨s, hsE⟩ : ∃ s, s = nxt l (q + 1) 6 := ⟨_, rfl⟩
        rw [← hsE]
        have HSE := Lib.hid hsE
        clear hsE
        by_cases h0 : s = 0
        · have b0 : (s == 0) = true := by simp; omega
          have HB := Lib.hid hcr7.blk
          have H0 := Lib.hid h0
          clear h0
          go_wp2_with (fail)
          refine wp_field_append (X := { p := p, lw := lw, L := l, k0 := q + 1 + 1, C := C, fo := 0, tC := 29, cs := #[.slice ta T.length tc, .slice (some ⟨G, 0, none⟩) 6 6, .slice sa S.length sc, .int .i64 hi], base := R, e := 41, size := 3, sv := .slice ta T.length tc, n := T.length, xs := tubes T, news := [.int .i64 (pickM l (q + 1 + 1) [150, 3, 200]), .int .i64 0, .int .i64 (pickM l (q + 1 + 1 + 1) [5, -1])] })
            (f := 12) (by kernel_rfl) (by kernel_rfl) (by kernel_rfl) (by decide) (by kernel_rfl)
            (Keep := KeepC w w7 p R 3 1 (.slice (some ⟨G, 0, none⟩) 6 6) 6 (ints cfgTakes) 43 5 (.slice sa S.length sc) S.length (flat encSlot S)) (KeepC.keep (C := C) (by omega) (by omega) (by omega) (lt_of_block hR7) (fun q e => by have := (hcr7.tub.lt q e).1; have : q ≠ R := (fun h => own_ne hcr7.tub hR7 (by decide) (by rw [e, h])); omega) (own_ne hcr7.tak HB.out (by decide)) (own_ne hcr7.slo HB.out (by decide)) (own_own_ne hcr7.tak hcr7.tub (by decide)) (own_own_ne hcr7.slo hcr7.tub (by decide)))
            (calls := [4, 7]) (by decide) (by decide) (iA := 10) (iS := 12) (by decide) (by decide) (by decide) (by kernel_rfl) (specs := [.eq (.pointer (some ⟨C, 0, none⟩)), .eq (.slice ta T.length tc), .eq (.pointer (some ⟨p, 0, none⟩)), .blk 3 #[.int .i64 150, .int .i64 3, .int .i64 200] 3, .eq (.int .i64 (pickM l (q + 1 + 1) [150, 3, 200])), .eq (.pointer (some ⟨p, 0, none⟩)), .blk 2 #[.int .i64 5, .int .i64 (-1)] 3, .eq (.int .i64 (pickM l (q + 1 + 1 + 1) [5, -1])), .eq (.agg #[.int .i64 (pickM l (q + 1 + 1) [150, 3, 200]), .int .i64 0, .int .i64 (pickM l (q + 1 + 1 + 1) [5, -1])]), .blk 1 #[.int .i64 (pickM l (q + 1 + 1) [150, 3, 200]), .int .i64 0, .int .i64 (pickM l (q + 1 + 1 + 1) [5, -1])] 41, .row, .eq (.pointer (some ⟨C, 0, none⟩)), .any]) rfl rfl ?rows
            (by show p < R; omega) (by show R ≤ C; omega) (by show (41 : Nat) ≠ 29; decide) hs7 (⟨own_keep0 hcr7.tak gd, own_keep0 hcr7.slo gd, rfl, gr_drew hgr7, Nat.le_refl _⟩) hcr7.tub HB.out (E := eTubes) (oA := _) (hoA := rfl) (ta := 59) (tx := 67) (hopA := rfl)
            (ja := 1) (jx := 9) (oa := _) (ox := _) (hja := rfl) (hjx := rfl) (hta := rfl) (htx := rfl) (hda := by kernel_rfl) (hdx := by kernel_rfl) (cA := #[.int .i64 (pickM l (q + 1 + 1) [150, 3, 200]), .int .i64 0, .int .i64 (pickM l (q + 1 + 1 + 1) [5, -1])]) (hsa := rfl) (hsx := rfl) (hcA := rfl) (hlA := rfl) (h1A := rfl) (hnb := by show T.length + 1 ≤ 137438953472; omega)
            (tA := 68) (htA := rfl) (oS := _) (hoS := rfl) (T := 26) (tp := 69) (hopS := rfl) (hSA := by kernel_rfl) (jp := 11) (op := _) (hjp := rfl) (htp := rfl) (hdp := by kernel_rfl) (hsp := rfl) (hst := ?hst) (hops := ?hops) (hdone := ?hdone)
          case rows =>
            intro j hj
            rcases Nat.lt_or_ge j 13 with h | h
            · obtain rfl | rfl | rfl | rfl | rfl | rfl | rfl | rfl | rfl | rfl | rfl | rfl | rfl : j = 0 ∨ j = 1 ∨ j = 2 ∨ j = 3 ∨ j = 4 ∨ j = 5 ∨ j = 6 ∨ j = 7 ∨ j = 8 ∨ j = 9 ∨ j = 10 ∨ j = 11 ∨ j = 12 := by omega
              all_goals first | rfl | cases hj
            · rw [List.getD_eq_getElem?_getD, List.getElem?_eq_none (by exact h)] at hj; cases hj
          case hst =>
            intro wx g c hb
            have f0 := blkF hb 0
            have c0 := blkC hb 0 rfl
            go_simp
          case hops =>
            intro i o listed a wx ho hiA hiS hun hpre hde hld hS hout hval
            have hi : i < 13 := (List.getElem?_eq_some_iff.1 ho).1
            have e0 : a.eval (.tmp 0) = .pointer (some ⟨p, 0, none⟩) := hout 0 (by decide)
            have e3 : a.eval (.tmp 3) = .pointer (some ⟨C, 0, none⟩) := hout 3 (by decide)
            have hCl : C < wx.heap.size := by have := hS.keep.size; omega
            have hpl := hS.str.lt
            obtain rfl | rfl | rfl | rfl | rfl | rfl | rfl | rfl | rfl | rfl | rfl | rfl | rfl : i = 0 ∨ i = 1 ∨ i = 2 ∨ i = 3 ∨ i = 4 ∨ i = 5 ∨ i = 6 ∨ i = 7 ∨ i = 8 ∨ i = 9 ∨ i = 10 ∨ i = 11 ∨ i = 12 := by omega
            · (change some _ = some o at ho; injection ho with ho; subst ho)
              go_simp
              exact ⟨_, rfl, gr_refl _ _, rfl, hS.str⟩
            · (change some _ = some o at ho; injection ho with ho; subst ho)
              have v0 : a.eval (.tmp 58) = (.pointer (some ⟨C, 0, none⟩)) := hval 0 _ 58 rfl rfl (hld 0 (by kernel_rfl))
              have v0' : a.tmps[58]?.getD undef = (.pointer (some ⟨C, 0, none⟩)) := (Array.getD_eq_getD_getElem? ..).symm.trans v0
              have c0 := blkC (hS.blk (hde 12 (by kernel_rfl))) 0 rfl
              go_simp
              exact ⟨_, rfl, gr_refl _ _, rfl, hS.str⟩
            · (change some _ = some o at ho; injection ho with ho; subst ho)
              go_simp
              exact ⟨_, rfl, gr_refl _ _, rfl, hS.str⟩
            · (change some _ = some o at ho; injection ho with ho; subst ho)
              have ho := hS.own (hde 10 (by kernel_rfl))
              go_simp
              exact ⟨_, rfl, gr_alloc (gr_refl _ _) _, ⟨wx.heap.size, rfl, ⟨fun e => by have e : wx.heap.size = p := e; omega, fun e => by have e : wx.heap.size = C := e; omega, own_fresh ho rfl⟩, heap_alloc_new _ _⟩, hS.str.keep0 (gr_alloc (gr_refl _ _) _)⟩
            · (change some _ = some o at ho; injection ho with ho; subst ho)
              have v0 : a.eval (.tmp 60) = (.pointer (some ⟨p, 0, none⟩)) := hval 2 _ 60 rfl rfl (hld 2 (by kernel_rfl))
              have v0' : a.tmps[60]?.getD undef = (.pointer (some ⟨p, 0, none⟩)) := (Array.getD_eq_getD_getElem? ..).symm.trans v0
              have hbk : ∃ g, a.eval (.tmp 61) = .slice (some ⟨g, 0, none⟩) 3 3 ∧ (g ≠ p ∧ g ≠ C ∧ (Value.slice ta T.length tc).ownBlock ≠ some g) ∧ wx.heap[g]? = some (.cells #[.int .i64 150, .int .i64 3, .int .i64 200] 3 (0, 0)) := hval 3 _ 61 rfl rfl (hld 3 (by kernel_rfl))
              obtain ⟨g, v1, ⟨g1, g2, g3⟩, gb⟩ := hbk
              have v1' : a.tmps[61]?.getD undef = .slice (some ⟨g, 0, none⟩) 3 3 := (Array.getD_eq_getD_getElem? ..).symm.trans v1
              have k0 := hun
              have k1 := hde 7 (by kernel_rfl)
              have hc : cnt [4, 7] listed = 0 := by simp only [cnt, List.countP_cons, List.countP_nil, k0, k1]; rfl
              have hst := hS.str
              rw [hc] at hst
              go_simp
              refine (pick_in l (q + 1 + 1) [150, 3, 200] p g wx hst (by omega) (by decide) (by decide) g1 (fun i hi => by obtain rfl | rfl | rfl : i = 0 ∨ i = 1 ∨ i = 2 := (by simp at hi; omega); (· exact blkC gb 0 rfl); (· exact blkC gb 1 rfl); (· exact blkC gb 2 rfl))).mono ?_
              rintro e wy ⟨rfl, hy, gy⟩
              refine ⟨_, rfl, gy, rfl, ?_⟩
              first | exact hy | (show StreamAt wy _ _ _ (q + 1 + 1 + cnt [4, 7] listed + 1); rw [hc]; exact hy)
            · (change some _ = some o at ho; injection ho with ho; subst ho)
              go_simp
              exact ⟨_, rfl, gr_refl _ _, rfl, hS.str⟩
            · (change some _ = some o at ho; injection ho with ho; subst ho)
              have ho := hS.own (hde 10 (by kernel_rfl))
              go_simp
              exact ⟨_, rfl, gr_alloc (gr_refl _ _) _, ⟨wx.heap.size, rfl, ⟨fun e => by have e : wx.heap.size = p := e; omega, fun e => by have e : wx.heap.size = C := e; omega, own_fresh ho rfl⟩, heap_alloc_new _ _⟩, hS.str.keep0 (gr_alloc (gr_refl _ _) _)⟩
            · (change some _ = some o at ho; injection ho with ho; subst ho)
              have v0 : a.eval (.tmp 63) = (.pointer (some ⟨p, 0, none⟩)) := hval 5 _ 63 rfl rfl (hld 5 (by kernel_rfl))
              have v0' : a.tmps[63]?.getD undef = (.pointer (some ⟨p, 0, none⟩)) := (Array.getD_eq_getD_getElem? ..).symm.trans v0
              have hbk : ∃ g, a.eval (.tmp 64) = .slice (some ⟨g, 0, none⟩) 2 2 ∧ (g ≠ p ∧ g ≠ C ∧ (Value.slice ta T.length tc).ownBlock ≠ some g) ∧ wx.heap[g]? = some (.cells #[.int .i64 5, .int .i64 (-1)] 3 (0, 0)) := hval 6 _ 64 rfl rfl (hld 6 (by kernel_rfl))
              obtain ⟨g, v1, ⟨g1, g2, g3⟩, gb⟩ := hbk
              have v1' : a.tmps[64]?.getD undef = .slice (some ⟨g, 0, none⟩) 2 2 := (Array.getD_eq_getD_getElem? ..).symm.trans v1
              have k0 := hld 4 (by kernel_rfl)
              have k1 := hun
              have hc : cnt [4, 7] listed = 1 := by simp only [cnt, List.countP_cons, List.countP_nil, k0, k1]; rfl
              have hst := hS.str
              rw [hc] at hst
              go_simp
              refine (pick_in l (q + 1 + 1 + 1) [5, -1] p g wx hst (by omega) (by decide) (by decide) g1 (fun i hi => by obtain rfl | rfl : i = 0 ∨ i = 1 := (by simp at hi; omega); (· exact blkC gb 0 rfl); (· exact blkC gb 1 rfl))).mono ?_
              rintro e wy ⟨rfl, hy, gy⟩
              refine ⟨_, rfl, gy, rfl, ?_⟩
              first | exact hy | (show StreamAt wy _ _ _ (q + 1 + 1 + cnt [4, 7] listed + 1); rw [hc]; exact hy)
            · (change some _ = some o at ho; injection ho with ho; subst ho)
              have v0 : a.eval (.tmp 62) = (.int .i64 (pickM l (q + 1 + 1) [150, 3, 200])) := hval 4 _ 62 rfl rfl (hld 4 (by kernel_rfl))
              have v0' : a.tmps[62]?.getD undef = (.int .i64 (pickM l (q + 1 + 1) [150, 3, 200])) := (Array.getD_eq_getD_getElem? ..).symm.trans v0
              have v1 : a.eval (.tmp 65) = (.int .i64 (pickM l (q + 1 + 1 + 1) [5, -1])) := hval 7 _ 65 rfl rfl (hld 7 (by kernel_rfl))
              have v1' : a.tmps[65]?.getD undef = (.int .i64 (pickM l (q + 1 + 1 + 1) [5, -1])) := (Array.getD_eq_getD_getElem? ..).symm.trans v1
              go_simp
              exact ⟨_, rfl, gr_refl _ _, rfl, hS.str⟩
            · (change some _ = some o at ho; injection ho with ho; subst ho)
              have ho := hS.own (hde 10 (by kernel_rfl))
              have v0 : a.eval (.tmp 66) = (.agg #[.int .i64 (pickM l (q + 1 + 1) [150, 3, 200]), .int .i64 0, .int .i64 (pickM l (q + 1 + 1 + 1) [5, -1])]) := hval 8 _ 66 rfl rfl (hld 8 (by kernel_rfl))
              have v0' : a.tmps[66]?.getD undef = (.agg #[.int .i64 (pickM l (q + 1 + 1) [150, 3, 200]), .int .i64 0, .int .i64 (pickM l (q + 1 + 1 + 1) [5, -1])]) := (Array.getD_eq_getD_getElem? ..).symm.trans v0
              go_simp
              exact ⟨_, rfl, gr_alloc (gr_refl _ _) _, ⟨wx.heap.size, rfl, ⟨fun e => by have e : wx.heap.size = p := e; omega, fun e => by have e : wx.heap.size = C := e; omega, own_fresh ho rfl⟩, heap_alloc_new _ _⟩, hS.str.keep0 (gr_alloc (gr_refl _ _) _)⟩
            · exact absurd rfl hiA
            · (change some _ = some o at ho; injection ho with ho; subst ho)
              go_simp
              exact ⟨_, rfl, gr_refl _ _, rfl, hS.str⟩
            · exact absurd rfl hiS
          case hdone =>
            intro vs w8 hs8 hk8 hfin hvals
            obtain ⟨g8, c8, hb, ho8⟩ := hfin
            have hb : w8.heap[C]? = some (.cells #[.slice (some ⟨g8, 0, none⟩) (T.length + 1) c8, .slice (some ⟨G, 0, none⟩) 6 6, .slice sa S.length sc, .int .i64 hi] 29 (0, 0)) := hb
            have hRz := hk8.hR.trans hR7
            clear hvals
            clear hcr7 hR7 hgr7 hs7 gd HB
            simp only [putAll]
            have c0 : w8.cell? ⟨C, 0, none⟩ = some (.slice (some ⟨g8, 0, none⟩) (T.length + 1) c8) := blkC hb 0 rfl
            have c1 : w8.cell? ⟨C, 1, none⟩ = some (.slice (some ⟨G, 0, none⟩) 6 6) := blkC hb 1 rfl
            have c2 : w8.cell? ⟨C, 2, none⟩ = some (.slice sa S.length sc) := blkC hb 2 rfl
            have c3 : w8.cell? ⟨C, 3, none⟩ = some (.int .i64 hi) := blkC hb 3 rfl
            obtain ⟨r0, r1, r2, r3⟩ := blk4 hRz
            have f0 : w8.frozen? ⟨R, 0, none⟩ = false := blkF hRz 0
            have f1 : w8.frozen? ⟨R, 1, none⟩ = false := blkF hRz 1
            have f2 : w8.frozen? ⟨R, 2, none⟩ = false := blkF hRz 2
            have f3 : w8.frozen? ⟨R, 3, none⟩ = false := blkF hRz 3
            have HRz := Lib.hid hRz
            clear hRz
            have HV : Hid (CfgVal w8 R (.slice (some ⟨g8, 0, none⟩) (T.length + 1) c8) (.slice (some ⟨G, 0, none⟩) 6 6) (.slice sa S.length sc) ⟨T ++ [⟨pickM l (q + 1 + 1) [150, 3, 200], 0, pickM l (q + 1 + 1 + 1) [5, -1]⟩], cfgTakes, S, hi⟩) := ⟨by show World.ownsRow _ _ _ _ _ (List.length (T ++ _)) (flat encTube (T ++ _)); rw [flat_append, List.length_append]; exact ho8, .of_own hk8.r1 (show 0 < cfgTakes.length by decide), hk8.r2⟩
            go_wp2_with (fail)
            refine bodyPost_ret (results_cell_row (p := 2) (by kernel_rfl) _ _ R _ #[.slice (some ⟨g8, 0, none⟩) (T.length + 1) c8, .slice (some ⟨G, 0, none⟩) 6 6, .slice sa S.length sc, .int .i64 hi] _ (.struct dt) rfl (set4_heap HRz.out _ _ _ _) hd1 rfl (by kernel_rfl)) rfl ?_
            have hd := cfg_done HV.out HRz.out hs8 hk8.gr hpR hwR (.slice (some ⟨g8, 0, none⟩) (T.length + 1) c8) (.slice (some ⟨G, 0, none⟩) 6 6) (.slice sa S.length sc) (.int .i64 hi)
            rw [HC.out, ← HFL.out, if_pos rfl, ← HSE.out]
            rw [H0.out]
            exact ⟨_, _, _, rfl, hd.1, hd.2.1, hd.2.2⟩
        by_cases h1 : s = 1
        · have b0 : (s == 0) = false := by simp; omega
          have b1 : (s == 1) = true := by simp; omega
          have HB := Lib.hid hcr7.blk
          have H1 := Lib.hid h1
          clear h0 h1
          go_wp2_with (fail)
          refine wp_field_append (X := { p := p, lw := lw, L := l, k0 := q + 1 + 1, C := C, fo := 1, tC := 29, cs := #[.slice ta T.length tc, .slice (some ⟨G, 0, none⟩) 6 6, .slice sa S.length sc, .int .i64 hi], base := R, e := 3, size := 1, sv := .slice (some ⟨G, 0, none⟩) 6 6, n := 6, xs := ints cfgTakes, news := [.int .i64 (pickM l (q + 1 + 1) [0, 200, 500, 20001])] })
            (f := 12) (by kernel_rfl) (by kernel_rfl) (by kernel_rfl) (by decide) (by kernel_rfl)
            (Keep := KeepC w w7 p R 41 3 (.slice ta T.length tc) T.length (tubes T) 43 5 (.slice sa S.length sc) S.length (flat encSlot S)) (KeepC.keep (C := C) (by omega) (by omega) (by omega) (lt_of_block hR7) (fun q e => by have := (hcr7.tak.lt q e).1; have : q ≠ R := (fun h => own_ne hcr7.tak hR7 (by decide) (by rw [e, h])); omega) (own_ne hcr7.tub HB.out (by decide)) (own_ne hcr7.slo HB.out (by decide)) (own_own_ne hcr7.tub hcr7.tak (by decide)) (own_own_ne hcr7.slo hcr7.tak (by decide)))
            (calls := [4]) (by decide) (by decide) (iA := 6) (iS := 8) (by decide) (by decide) (by decide) (by kernel_rfl) (specs := [.eq (.pointer (some ⟨C, 1, none⟩)), .eq (.slice (some ⟨G, 0, none⟩) 6 6), .eq (.pointer (some ⟨p, 0, none⟩)), .blk 4 #[.int .i64 0, .int .i64 200, .int .i64 500, .int .i64 20001] 3, .eq (.int .i64 (pickM l (q + 1 + 1) [0, 200, 500, 20001])), .blk 1 #[.int .i64 (pickM l (q + 1 + 1) [0, 200, 500, 20001])] 3, .row, .eq (.pointer (some ⟨C, 1, none⟩)), .any]) rfl rfl ?rows
            (by show p < R; omega) (by show R ≤ C; omega) (by show (3 : Nat) ≠ 29; decide) hs7 (⟨own_keep0 hcr7.tub gd, own_keep0 hcr7.slo gd, rfl, gr_drew hgr7, Nat.le_refl _⟩) hcr7.tak HB.out (E := eInt) (oA := _) (hoA := rfl) (ta := 73) (tx := 77) (hopA := rfl)
            (ja := 1) (jx := 5) (oa := _) (ox := _) (hja := rfl) (hjx := rfl) (hta := rfl) (htx := rfl) (hda := by kernel_rfl) (hdx := by kernel_rfl) (cA := #[.int .i64 (pickM l (q + 1 + 1) [0, 200, 500, 20001])]) (hsa := rfl) (hsx := rfl) (hcA := rfl) (hlA := rfl) (h1A := rfl) (hnb := by show 6 + 1 ≤ 137438953472; omega)
            (tA := 78) (htA := rfl) (oS := _) (hoS := rfl) (T := 22) (tp := 79) (hopS := rfl) (hSA := by kernel_rfl) (jp := 7) (op := _) (hjp := rfl) (htp := rfl) (hdp := by kernel_rfl) (hsp := rfl) (hst := ?hst) (hops := ?hops) (hdone := ?hdone)
          case rows =>
            intro j hj
            rcases Nat.lt_or_ge j 9 with h | h
            · obtain rfl | rfl | rfl | rfl | rfl | rfl | rfl | rfl | rfl : j = 0 ∨ j = 1 ∨ j = 2 ∨ j = 3 ∨ j = 4 ∨ j = 5 ∨ j = 6 ∨ j = 7 ∨ j = 8 := by omega
              all_goals first | rfl | cases hj
            · rw [List.getD_eq_getElem?_getD, List.getElem?_eq_none (by exact h)] at hj; cases hj
          case hst =>
            intro wx g c hb
            have f0 := blkF hb 1
            have c0 := blkC hb 1 rfl
            go_simp
          case hops =>
            intro i o listed a wx ho hiA hiS hun hpre hde hld hS hout hval
            have hi : i < 9 := (List.getElem?_eq_some_iff.1 ho).1
            have e0 : a.eval (.tmp 0) = .pointer (some ⟨p, 0, none⟩) := hout 0 (by decide)
            have e3 : a.eval (.tmp 3) = .pointer (some ⟨C, 0, none⟩) := hout 3 (by decide)
            have hCl : C < wx.heap.size := by have := hS.keep.size; omega
            have hpl := hS.str.lt
            obtain rfl | rfl | rfl | rfl | rfl | rfl | rfl | rfl | rfl : i = 0 ∨ i = 1 ∨ i = 2 ∨ i = 3 ∨ i = 4 ∨ i = 5 ∨ i = 6 ∨ i = 7 ∨ i = 8 := by omega
            · (change some _ = some o at ho; injection ho with ho; subst ho)
              go_simp
              exact ⟨_, rfl, gr_refl _ _, rfl, hS.str⟩
            · (change some _ = some o at ho; injection ho with ho; subst ho)
              have v0 : a.eval (.tmp 72) = (.pointer (some ⟨C, 1, none⟩)) := hval 0 _ 72 rfl rfl (hld 0 (by kernel_rfl))
              have v0' : a.tmps[72]?.getD undef = (.pointer (some ⟨C, 1, none⟩)) := (Array.getD_eq_getD_getElem? ..).symm.trans v0
              have c0 := blkC (hS.blk (hde 8 (by kernel_rfl))) 1 rfl
              go_simp
              exact ⟨_, rfl, gr_refl _ _, rfl, hS.str⟩
            · (change some _ = some o at ho; injection ho with ho; subst ho)
              go_simp
              exact ⟨_, rfl, gr_refl _ _, rfl, hS.str⟩
            · (change some _ = some o at ho; injection ho with ho; subst ho)
              have ho := hS.own (hde 6 (by kernel_rfl))
              go_simp
              exact ⟨_, rfl, gr_alloc (gr_refl _ _) _, ⟨wx.heap.size, rfl, ⟨fun e => by have e : wx.heap.size = p := e; omega, fun e => by have e : wx.heap.size = C := e; omega, own_fresh ho rfl⟩, heap_alloc_new _ _⟩, hS.str.keep0 (gr_alloc (gr_refl _ _) _)⟩
            · (change some _ = some o at ho; injection ho with ho; subst ho)
              have v0 : a.eval (.tmp 74) = (.pointer (some ⟨p, 0, none⟩)) := hval 2 _ 74 rfl rfl (hld 2 (by kernel_rfl))
              have v0' : a.tmps[74]?.getD undef = (.pointer (some ⟨p, 0, none⟩)) := (Array.getD_eq_getD_getElem? ..).symm.trans v0
              have hbk : ∃ g, a.eval (.tmp 75) = .slice (some ⟨g, 0, none⟩) 4 4 ∧ (g ≠ p ∧ g ≠ C ∧ (Value.slice (some ⟨G, 0, none⟩) 6 6).ownBlock ≠ some g) ∧ wx.heap[g]? = some (.cells #[.int .i64 0, .int .i64 200, .int .i64 500, .int .i64 20001] 3 (0, 0)) := hval 3 _ 75 rfl rfl (hld 3 (by kernel_rfl))
              obtain ⟨g, v1, ⟨g1, g2, g3⟩, gb⟩ := hbk
              have v1' : a.tmps[75]?.getD undef = .slice (some ⟨g, 0, none⟩) 4 4 := (Array.getD_eq_getD_getElem? ..).symm.trans v1
              have k0 := hun
              have hc : cnt [4] listed = 0 := by simp only [cnt, List.countP_cons, List.countP_nil, k0]; rfl
              have hst := hS.str
              rw [hc] at hst
              go_simp
              refine (pick_in l (q + 1 + 1) [0, 200, 500, 20001] p g wx hst (by omega) (by decide) (by decide) g1 (fun i hi => by obtain rfl | rfl | rfl | rfl : i = 0 ∨ i = 1 ∨ i = 2 ∨ i = 3 := (by simp at hi; omega); (· exact blkC gb 0 rfl); (· exact blkC gb 1 rfl); (· exact blkC gb 2 rfl); (· exact blkC gb 3 rfl))).mono ?_
              rintro e wy ⟨rfl, hy, gy⟩
              refine ⟨_, rfl, gy, rfl, ?_⟩
              first | exact hy | (show StreamAt wy _ _ _ (q + 1 + 1 + cnt [4] listed + 1); rw [hc]; exact hy)
            · (change some _ = some o at ho; injection ho with ho; subst ho)
              have ho := hS.own (hde 6 (by kernel_rfl))
              have v0 : a.eval (.tmp 76) = (.int .i64 (pickM l (q + 1 + 1) [0, 200, 500, 20001])) := hval 4 _ 76 rfl rfl (hld 4 (by kernel_rfl))
              have v0' : a.tmps[76]?.getD undef = (.int .i64 (pickM l (q + 1 + 1) [0, 200, 500, 20001])) := (Array.getD_eq_getD_getElem? ..).symm.trans v0
              go_simp
              exact ⟨_, rfl, gr_alloc (gr_refl _ _) _, ⟨wx.heap.size, rfl, ⟨fun e => by have e : wx.heap.size = p := e; omega, fun e => by have e : wx.heap.size = C := e; omega, own_fresh ho rfl⟩, heap_alloc_new _ _⟩, hS.str.keep0 (gr_alloc (gr_refl _ _) _)⟩
            · exact absurd rfl hiA
            · (change some _ = some o at ho; injection ho with ho; subst ho)
              go_simp
              exact ⟨_, rfl, gr_refl _ _, rfl, hS.str⟩
            · exact absurd rfl hiS
          case hdone =>
            intro vs w8 hs8 hk8 hfin hvals
            obtain ⟨g8, c8, hb, ho8⟩ := hfin
            have hb : w8.heap[C]? = some (.cells #[.slice ta T.length tc, .slice (some ⟨g8, 0, none⟩) (6 + 1) c8, .slice sa S.length sc, .int .i64 hi] 29 (0, 0)) := hb
            have hRz := hk8.hR.trans hR7
            clear hvals
            clear hcr7 hR7 hgr7 hs7 gd HB
            simp only [putAll]
            have c0 : w8.cell? ⟨C, 0, none⟩ = some (.slice ta T.length tc) := blkC hb 0 rfl
            have c1 : w8.cell? ⟨C, 1, none⟩ = some (.slice (some ⟨g8, 0, none⟩) (6 + 1) c8) := blkC hb 1 rfl
            have c2 : w8.cell? ⟨C, 2, none⟩ = some (.slice sa S.length sc) := blkC hb 2 rfl
            have c3 : w8.cell? ⟨C, 3, none⟩ = some (.int .i64 hi) := blkC hb 3 rfl
            obtain ⟨r0, r1, r2, r3⟩ := blk4 hRz
            have f0 : w8.frozen? ⟨R, 0, none⟩ = false := blkF hRz 0
            have f1 : w8.frozen? ⟨R, 1, none⟩ = false := blkF hRz 1
            have f2 : w8.frozen? ⟨R, 2, none⟩ = false := blkF hRz 2
            have f3 : w8.frozen? ⟨R, 3, none⟩ = false := blkF hRz 3
            have HRz := Lib.hid hRz
            clear hRz
            have HV : Hid (CfgVal w8 R (.slice ta T.length tc) (.slice (some ⟨g8, 0, none⟩) (6 + 1) c8) (.slice sa S.length sc) ⟨T, cfgTakes ++ [pickM l (q + 1 + 1) [0, 200, 500, 20001]], S, hi⟩) := ⟨hk8.r1, .of_own ho8 (by show 0 < (cfgTakes ++ _).length; simp), hk8.r2⟩
            go_wp2_with (fail)
            refine bodyPost_ret (results_cell_row (p := 2) (by kernel_rfl) _ _ R _ #[.slice ta T.length tc, .slice (some ⟨g8, 0, none⟩) (6 + 1) c8, .slice sa S.length sc, .int .i64 hi] _ (.struct dt) rfl (set4_heap HRz.out _ _ _ _) hd1 rfl (by kernel_rfl)) rfl ?_
            have hd := cfg_done HV.out HRz.out hs8 hk8.gr hpR hwR (.slice ta T.length tc) (.slice (some ⟨g8, 0, none⟩) (6 + 1) c8) (.slice sa S.length sc) (.int .i64 hi)
            rw [HC.out, ← HFL.out, if_pos rfl, ← HSE.out]
            rw [H1.out]
            exact ⟨_, _, _, rfl, hd.1, hd.2.1, hd.2.2⟩
        by_cases h2 : s = 2
        · have b0 : (s == 0) = false := by simp; omega
          have b1 : (s == 1) = false := by simp; omega
          have b2 : (s == 2) = true := by simp; omega
          have HB := Lib.hid hcr7.blk
          have H2 := Lib.hid h2
          clear h0 h1 h2
          go_wp2_with (fail)
          refine wp_field_append (X := { p := p, lw := lw, L := l, k0 := q + 1 + 1, C := C, fo := 2, tC := 29, cs := #[.slice ta T.length tc, .slice (some ⟨G, 0, none⟩) 6 6, .slice sa S.length sc, .int .i64 hi], base := R, e := 43, size := 5, sv := .slice sa S.length sc, n := S.length, xs := flat encSlot S, news := [.string (oneS l (q + 1 + 1) [⟨#[]⟩, ⟨#[97]⟩, ⟨#[100]⟩]), .string (oneS l (q + 1 + 1 + 1) [⟨#[]⟩, ⟨#[99, 97, 110]⟩]), .int .i64 (pickM l (q + 1 + 1 + 1 + 1) [0, 5]), .int .i64 (pickM l (q + 1 + 1 + 1 + 1 + 1) [5, 1001]), .int .i64 (pickM l (q + 1 + 1 + 1 + 1 + 1 + 1) [0, 6])] })
            (f := 12) (by kernel_rfl) (by kernel_rfl) (by kernel_rfl) (by decide) (by kernel_rfl)
            (Keep := KeepC w w7 p R 41 3 (.slice ta T.length tc) T.length (tubes T) 3 1 (.slice (some ⟨G, 0, none⟩) 6 6) 6 (ints cfgTakes)) (KeepC.keep (C := C) (by omega) (by omega) (by omega) (lt_of_block hR7) (fun q e => by have := (hcr7.slo.lt q e).1; have : q ≠ R := (fun h => own_ne hcr7.slo hR7 (by decide) (by rw [e, h])); omega) (own_ne hcr7.tub HB.out (by decide)) (own_ne hcr7.tak HB.out (by decide)) (own_own_ne hcr7.tub hcr7.slo (by decide)) (own_own_ne hcr7.tak hcr7.slo (by decide)))
            (calls := [4, 7, 10, 13, 16]) (by decide) (by decide) (iA := 19) (iS := 21) (by decide) (by decide) (by decide) (by kernel_rfl) (specs := [.eq (.pointer (some ⟨C, 2, none⟩)), .eq (.slice sa S.length sc), .eq (.pointer (some ⟨p, 0, none⟩)), .blk 3 #[.string { data := #[] }, .string { data := #[97] }, .string { data := #[100] }] 9, .eq (.string (oneS l (q + 1 + 1) [⟨#[]⟩, ⟨#[97]⟩, ⟨#[100]⟩])), .eq (.pointer (some ⟨p, 0, none⟩)), .blk 2 #[.string { data := #[] }, .string { data := #[99, 97, 110] }] 9, .eq (.string (oneS l (q + 1 + 1 + 1) [⟨#[]⟩, ⟨#[99, 97, 110]⟩])), .eq (.pointer (some ⟨p, 0, none⟩)), .blk 2 #[.int .i64 0, .int .i64 5] 3, .eq (.int .i64 (pickM l (q + 1 + 1 + 1 + 1) [0, 5])), .eq (.pointer (some ⟨p, 0, none⟩)), .blk 2 #[.int .i64 5, .int .i64 1001] 3, .eq (.int .i64 (pickM l (q + 1 + 1 + 1 + 1 + 1) [5, 1001])), .eq (.pointer (some ⟨p, 0, none⟩)), .blk 2 #[.int .i64 0, .int .i64 6] 3, .eq (.int .i64 (pickM l (q + 1 + 1 + 1 + 1 + 1 + 1) [0, 6])), .eq (.agg #[.string (oneS l (q + 1 + 1) [⟨#[]⟩, ⟨#[97]⟩, ⟨#[100]⟩]), .string (oneS l (q + 1 + 1 + 1) [⟨#[]⟩, ⟨#[99, 97, 110]⟩]), .int .i64 (pickM l (q + 1 + 1 + 1 + 1) [0, 5]), .int .i64 (pickM l (q + 1 + 1 + 1 + 1 + 1) [5, 1001]), .int .i64 (pickM l (q + 1 + 1 + 1 + 1 + 1 + 1) [0, 6])]), .blk 1 #[.string (oneS l (q + 1 + 1) [⟨#[]⟩, ⟨#[97]⟩, ⟨#[100]⟩]), .string (oneS l (q + 1 + 1 + 1) [⟨#[]⟩, ⟨#[99, 97, 110]⟩]), .int .i64 (pickM l (q + 1 + 1 + 1 + 1) [0, 5]), .int .i64 (pickM l (q + 1 + 1 + 1 + 1 + 1) [5, 1001]), .int .i64 (pickM l (q + 1 + 1 + 1 + 1 + 1 + 1) [0, 6])] 43, .row, .eq (.pointer (some ⟨C, 2, none⟩)), .any]) rfl rfl ?rows
            (by show p < R; omega) (by show R ≤ C; omega) (by show (43 : Nat) ≠ 29; decide) hs7 (⟨own_keep0 hcr7.tub gd, own_keep0 hcr7.tak gd, rfl, gr_drew hgr7, Nat.le_refl _⟩) hcr7.slo HB.out (E := eSlot) (oA := _) (hoA := rfl) (ta := 83) (tx := 100) (hopA := rfl)
            (ja := 1) (jx := 18) (oa := _) (ox := _) (hja := rfl) (hjx := rfl) (hta := rfl) (htx := rfl) (hda := by kernel_rfl) (hdx := by kernel_rfl) (cA := #[.string (oneS l (q + 1 + 1) [⟨#[]⟩, ⟨#[97]⟩, ⟨#[100]⟩]), .string (oneS l (q + 1 + 1 + 1) [⟨#[]⟩, ⟨#[99, 97, 110]⟩]), .int .i64 (pickM l (q + 1 + 1 + 1 + 1) [0, 5]), .int .i64 (pickM l (q + 1 + 1 + 1 + 1 + 1) [5, 1001]), .int .i64 (pickM l (q + 1 + 1 + 1 + 1 + 1 + 1) [0, 6])]) (hsa := rfl) (hsx := rfl) (hcA := rfl) (hlA := rfl) (h1A := rfl) (hnb := by show S.length + 1 ≤ 137438953472; omega)
            (tA := 101) (htA := rfl) (oS := _) (hoS := rfl) (T := 27) (tp := 102) (hopS := rfl) (hSA := by kernel_rfl) (jp := 20) (op := _) (hjp := rfl) (htp := rfl) (hdp := by kernel_rfl) (hsp := rfl) (hst := ?hst) (hops := ?hops) (hdone := ?hdone)
          case rows =>
            intro j hj
            rcases Nat.lt_or_ge j 22 with h | h
            · obtain rfl | rfl | rfl | rfl | rfl | rfl | rfl | rfl | rfl | rfl | rfl | rfl | rfl | rfl | rfl | rfl | rfl | rfl | rfl | rfl | rfl | rfl : j = 0 ∨ j = 1 ∨ j = 2 ∨ j = 3 ∨ j = 4 ∨ j = 5 ∨ j = 6 ∨ j = 7 ∨ j = 8 ∨ j = 9 ∨ j = 10 ∨ j = 11 ∨ j = 12 ∨ j = 13 ∨ j = 14 ∨ j = 15 ∨ j = 16 ∨ j = 17 ∨ j = 18 ∨ j = 19 ∨ j = 20 ∨ j = 21 := by omega
              all_goals first | rfl | cases hj
            · rw [List.getD_eq_getElem?_getD, List.getElem?_eq_none (by exact h)] at hj; cases hj
          case hst =>
            intro wx g c hb
            have f0 := blkF hb 2
            have c0 := blkC hb 2 rfl
            go_simp
          case hops =>
            intro i o listed a wx ho hiA hiS hun hpre hde hld hS hout hval
            have hi : i < 22 := (List.getElem?_eq_some_iff.1 ho).1
            have e0 : a.eval (.tmp 0) = .pointer (some ⟨p, 0, none⟩) := hout 0 (by decide)
            have e3 : a.eval (.tmp 3) = .pointer (some ⟨C, 0, none⟩) := hout 3 (by decide)
            have hCl : C < wx.heap.size := by have := hS.keep.size; omega
            have hpl := hS.str.lt
            obtain rfl | rfl | rfl | rfl | rfl | rfl | rfl | rfl | rfl | rfl | rfl | rfl | rfl | rfl | rfl | rfl | rfl | rfl | rfl | rfl | rfl | rfl : i = 0 ∨ i = 1 ∨ i = 2 ∨ i = 3 ∨ i = 4 ∨ i = 5 ∨ i = 6 ∨ i = 7 ∨ i = 8 ∨ i = 9 ∨ i = 10 ∨ i = 11 ∨ i = 12 ∨ i = 13 ∨ i = 14 ∨ i = 15 ∨ i = 16 ∨ i = 17 ∨ i = 18 ∨ i = 19 ∨ i = 20 ∨ i = 21 := by omega
            · (change some _ = some o at ho; injection ho with ho; subst ho)
              go_simp
              exact ⟨_, rfl, gr_refl _ _, rfl, hS.str⟩
            · (change some _ = some o at ho; injection ho with ho; subst ho)
              have v0 : a.eval (.tmp 82) = (.pointer (some ⟨C, 2, none⟩)) := hval 0 _ 82 rfl rfl (hld 0 (by kernel_rfl))
              have v0' : a.tmps[82]?.getD undef = (.pointer (some ⟨C, 2, none⟩)) := (Array.getD_eq_getD_getElem? ..).symm.trans v0
              have c0 := blkC (hS.blk (hde 21 (by kernel_rfl))) 2 rfl
              go_simp
              exact ⟨_, rfl, gr_refl _ _, rfl, hS.str⟩
            · (change some _ = some o at ho; injection ho with ho; subst ho)
              go_simp
              exact ⟨_, rfl, gr_refl _ _, rfl, hS.str⟩
            · (change some _ = some o at ho; injection ho with ho; subst ho)
              have ho := hS.own (hde 19 (by kernel_rfl))
              go_simp
              exact ⟨_, rfl, gr_alloc (gr_refl _ _) _, ⟨wx.heap.size, rfl, ⟨fun e => by have e : wx.heap.size = p := e; omega, fun e => by have e : wx.heap.size = C := e; omega, own_fresh ho rfl⟩, heap_alloc_new _ _⟩, hS.str.keep0 (gr_alloc (gr_refl _ _) _)⟩
            · (change some _ = some o at ho; injection ho with ho; subst ho)
              have v0 : a.eval (.tmp 84) = (.pointer (some ⟨p, 0, none⟩)) := hval 2 _ 84 rfl rfl (hld 2 (by kernel_rfl))
              have v0' : a.tmps[84]?.getD undef = (.pointer (some ⟨p, 0, none⟩)) := (Array.getD_eq_getD_getElem? ..).symm.trans v0
              have hbk : ∃ g, a.eval (.tmp 85) = .slice (some ⟨g, 0, none⟩) 3 3 ∧ (g ≠ p ∧ g ≠ C ∧ (Value.slice sa S.length sc).ownBlock ≠ some g) ∧ wx.heap[g]? = some (.cells #[.string { data := #[] }, .string { data := #[97] }, .string { data := #[100] }] 9 (0, 0)) := hval 3 _ 85 rfl rfl (hld 3 (by kernel_rfl))
              obtain ⟨g, v1, ⟨g1, g2, g3⟩, gb⟩ := hbk
              have v1' : a.tmps[85]?.getD undef = .slice (some ⟨g, 0, none⟩) 3 3 := (Array.getD_eq_getD_getElem? ..).symm.trans v1
              have k0 := hun
              have k1 := hde 7 (by kernel_rfl)
              have k2 := hde 10 (by kernel_rfl)
              have k3 := hde 13 (by kernel_rfl)
              have k4 := hde 16 (by kernel_rfl)
              have hc : cnt [4, 7, 10, 13, 16] listed = 0 := by simp only [cnt, List.countP_cons, List.countP_nil, k0, k1, k2, k3, k4]; rfl
              have hst := hS.str
              rw [hc] at hst
              go_simp
              refine (one_in l (q + 1 + 1) [⟨#[]⟩, ⟨#[97]⟩, ⟨#[100]⟩] p g wx hst (by omega) (by decide) (by decide) g1 (fun i hi => by obtain rfl | rfl | rfl : i = 0 ∨ i = 1 ∨ i = 2 := (by simp at hi; omega); (· exact blkC gb 0 rfl); (· exact blkC gb 1 rfl); (· exact blkC gb 2 rfl))).mono ?_
              rintro e wy ⟨rfl, hy, gy⟩
              refine ⟨_, rfl, gy, rfl, ?_⟩
              first | exact hy | (show StreamAt wy _ _ _ (q + 1 + 1 + cnt [4, 7, 10, 13, 16] listed + 1); rw [hc]; exact hy)
            · (change some _ = some o at ho; injection ho with ho; subst ho)
              go_simp
              exact ⟨_, rfl, gr_refl _ _, rfl, hS.str⟩
            · (change some _ = some o at ho; injection ho with ho; subst ho)
              have ho := hS.own (hde 19 (by kernel_rfl))
              go_simp
              exact ⟨_, rfl, gr_alloc (gr_refl _ _) _, ⟨wx.heap.size, rfl, ⟨fun e => by have e : wx.heap.size = p := e; omega, fun e => by have e : wx.heap.size = C := e; omega, own_fresh ho rfl⟩, heap_alloc_new _ _⟩, hS.str.keep0 (gr_alloc (gr_refl _ _) _)⟩
            · (change some _ = some o at ho; injection ho with ho; subst ho)
              have v0 : a.eval (.tmp 87) = (.pointer (some ⟨p, 0, none⟩)) := hval 5 _ 87 rfl rfl (hld 5 (by kernel_rfl))
              have v0' : a.tmps[87]?.getD undef = (.pointer (some ⟨p, 0, none⟩)) := (Array.getD_eq_getD_getElem? ..).symm.trans v0
              have hbk : ∃ g, a.eval (.tmp 88) = .slice (some ⟨g, 0, none⟩) 2 2 ∧ (g ≠ p ∧ g ≠ C ∧ (Value.slice sa S.length sc).ownBlock ≠ some g) ∧ wx.heap[g]? = some (.cells #[.string { data := #[] }, .string { data := #[99, 97, 110] }] 9 (0, 0)) := hval 6 _ 88 rfl rfl (hld 6 (by kernel_rfl))
              obtain ⟨g, v1, ⟨g1, g2, g3⟩, gb⟩ := hbk
              have v1' : a.tmps[88]?.getD undef = .slice (some ⟨g, 0, none⟩) 2 2 := (Array.getD_eq_getD_getElem? ..).symm.trans v1
              have k0 := hld 4 (by kernel_rfl)
              have k1 := hun
              have k2 := hde 10 (by kernel_rfl)
              have k3 := hde 13 (by kernel_rfl)
              have k4 := hde 16 (by kernel_rfl)
              have hc : cnt [4, 7, 10, 13, 16] listed = 1 := by simp only [cnt, List.countP_cons, List.countP_nil, k0, k1, k2, k3, k4]; rfl
              have hst := hS.str
              rw [hc] at hst
              go_simp
              refine (one_in l (q + 1 + 1 + 1) [⟨#[]⟩, ⟨#[99, 97, 110]⟩] p g wx hst (by omega) (by decide) (by decide) g1 (fun i hi => by obtain rfl | rfl : i = 0 ∨ i = 1 := (by simp at hi; omega); (· exact blkC gb 0 rfl); (· exact blkC gb 1 rfl))).mono ?_
              rintro e wy ⟨rfl, hy, gy⟩
              refine ⟨_, rfl, gy, rfl, ?_⟩
              first | exact hy | (show StreamAt wy _ _ _ (q + 1 + 1 + cnt [4, 7, 10, 13, 16] listed + 1); rw [hc]; exact hy)
            · (change some _ = some o at ho; injection ho with ho; subst ho)
              go_simp
              exact ⟨_, rfl, gr_refl _ _, rfl, hS.str⟩
            · (change some _ = some o at ho; injection ho with ho; subst ho)
              have ho := hS.own (hde 19 (by kernel_rfl))
              go_simp
              exact ⟨_, rfl, gr_alloc (gr_refl _ _) _, ⟨wx.heap.size, rfl, ⟨fun e => by have e : wx.heap.size = p := e; omega, fun e => by have e : wx.heap.size = C := e; omega, own_fresh ho rfl⟩, heap_alloc_new _ _⟩, hS.str.keep0 (gr_alloc (gr_refl _ _) _)⟩
            · (change some _ = some o at ho; injection ho with ho; subst ho)
              have v0 : a.eval (.tmp 90) = (.pointer (some ⟨p, 0, none⟩)) := hval 8 _ 90 rfl rfl (hld 8 (by kernel_rfl))
              have v0' : a.tmps[90]?.getD undef = (.pointer (some ⟨p, 0, none⟩)) := (Array.getD_eq_getD_getElem? ..).symm.trans v0
              have hbk : ∃ g, a.eval (.tmp 91) = .slice (some ⟨g, 0, none⟩) 2 2 ∧ (g ≠ p ∧ g ≠ C ∧ (Value.slice sa S.length sc).ownBlock ≠ some g) ∧ wx.heap[g]? = some (.cells #[.int .i64 0, .int .i64 5] 3 (0, 0)) := hval 9 _ 91 rfl rfl (hld 9 (by kernel_rfl))
              obtain ⟨g, v1, ⟨g1, g2, g3⟩, gb⟩ := hbk
              have v1' : a.tmps[91]?.getD undef = .slice (some ⟨g, 0, none⟩) 2 2 := (Array.getD_eq_getD_getElem? ..).symm.trans v1
              have k0 := hld 4 (by kernel_rfl)
              have k1 := hld 7 (by kernel_rfl)
              have k2 := hun
              have k3 := hde 13 (by kernel_rfl)
              have k4 := hde 16 (by kernel_rfl)
              have hc : cnt [4, 7, 10, 13, 16] listed = 2 := by simp only [cnt, List.countP_cons, List.countP_nil, k0, k1, k2, k3, k4]; rfl
              have hst := hS.str
              rw [hc] at hst
              go_simp
              refine (pick_in l (q + 1 + 1 + 1 + 1) [0, 5] p g wx hst (by omega) (by decide) (by decide) g1 (fun i hi => by obtain rfl | rfl : i = 0 ∨ i = 1 := (by simp at hi; omega); (· exact blkC gb 0 rfl); (· exact blkC gb 1 rfl))).mono ?_
              rintro e wy ⟨rfl, hy, gy⟩
              refine ⟨_, rfl, gy, rfl, ?_⟩
              first | exact hy | (show StreamAt wy _ _ _ (q + 1 + 1 + cnt [4, 7, 10, 13, 16] listed + 1); rw [hc]; exact hy)
            · (change some _ = some o at ho; injection ho with ho; subst ho)
              go_simp
              exact ⟨_, rfl, gr_refl _ _, rfl, hS.str⟩
            · (change some _ = some o at ho; injection ho with ho; subst ho)
              have ho := hS.own (hde 19 (by kernel_rfl))
              go_simp
              exact ⟨_, rfl, gr_alloc (gr_refl _ _) _, ⟨wx.heap.size, rfl, ⟨fun e => by have e : wx.heap.size = p := e; omega, fun e => by have e : wx.heap.size = C := e; omega, own_fresh ho rfl⟩, heap_alloc_new _ _⟩, hS.str.keep0 (gr_alloc (gr_refl _ _) _)⟩
            · (change some _ = some o at ho; injection ho with ho; subst ho)
              have v0 : a.eval (.tmp 93) = (.pointer (some ⟨p, 0, none⟩)) := hval 11 _ 93 rfl rfl (hld 11 (by kernel_rfl))
              have v0' : a.tmps[93]?.getD undef = (.pointer (some ⟨p, 0, none⟩)) := (Array.getD_eq_getD_getElem? ..).symm.trans v0
              have hbk : ∃ g, a.eval (.tmp 94) = .slice (some ⟨g, 0, none⟩) 2 2 ∧ (g ≠ p ∧ g ≠ C ∧ (Value.slice sa S.length sc).ownBlock ≠ some g) ∧ wx.heap[g]? = some (.cells #[.int .i64 5, .int .i64 1001] 3 (0, 0)) := hval 12 _ 94 rfl rfl (hld 12 (by kernel_rfl))
              obtain ⟨g, v1, ⟨g1, g2, g3⟩, gb⟩ := hbk
              have v1' : a.tmps[94]?.getD undef = .slice (some ⟨g, 0, none⟩) 2 2 := (Array.getD_eq_getD_getElem? ..).symm.trans v1
              have k0 := hld 4 (by kernel_rfl)
              have k1 := hld 7 (by kernel_rfl)
              have k2 := hld 10 (by kernel_rfl)
              have k3 := hun
              have k4 := hde 16 (by kernel_rfl)
              have hc : cnt [4, 7, 10, 13, 16] listed = 3 := by simp only [cnt, List.countP_cons, List.countP_nil, k0, k1, k2, k3, k4]; rfl
              have hst := hS.str
              rw [hc] at hst
              go_simp
              refine (pick_in l (q + 1 + 1 + 1 + 1 + 1) [5, 1001] p g wx hst (by omega) (by decide) (by decide) g1 (fun i hi => by obtain rfl | rfl : i = 0 ∨ i = 1 := (by simp at hi; omega); (· exact blkC gb 0 rfl); (· exact blkC gb 1 rfl))).mono ?_
              rintro e wy ⟨rfl, hy, gy⟩
              refine ⟨_, rfl, gy, rfl, ?_⟩
              first | exact hy | (show StreamAt wy _ _ _ (q + 1 + 1 + cnt [4, 7, 10, 13, 16] listed + 1); rw [hc]; exact hy)
            · (change some _ = some o at ho; injection ho with ho; subst ho)
              go_simp
              exact ⟨_, rfl, gr_refl _ _, rfl, hS.str⟩
            · (change some _ = some o at ho; injection ho with ho; subst ho)
              have ho := hS.own (hde 19 (by kernel_rfl))
              go_simp
              exact ⟨_, rfl, gr_alloc (gr_refl _ _) _, ⟨wx.heap.size, rfl, ⟨fun e => by have e : wx.heap.size = p := e; omega, fun e => by have e : wx.heap.size = C := e; omega, own_fresh ho rfl⟩, heap_alloc_new _ _⟩, hS.str.keep0 (gr_alloc (gr_refl _ _) _)⟩
            · (change some _ = some o at ho; injection ho with ho; subst ho)
              have v0 : a.eval (.tmp 96) = (.pointer (some ⟨p, 0, none⟩)) := hval 14 _ 96 rfl rfl (hld 14 (by kernel_rfl))
              have v0' : a.tmps[96]?.getD undef = (.pointer (some ⟨p, 0, none⟩)) := (Array.getD_eq_getD_getElem? ..).symm.trans v0
              have hbk : ∃ g, a.eval (.tmp 97) = .slice (some ⟨g, 0, none⟩) 2 2 ∧ (g ≠ p ∧ g ≠ C ∧ (Value.slice sa S.length sc).ownBlock ≠ some g) ∧ wx.heap[g]? = some (.cells #[.int .i64 0, .int .i64 6] 3 (0, 0)) := hval 15 _ 97 rfl rfl (hld 15 (by kernel_rfl))
              obtain ⟨g, v1, ⟨g1, g2, g3⟩, gb⟩ := hbk
              have v1' : a.tmps[97]?.getD undef = .slice (some ⟨g, 0, none⟩) 2 2 := (Array.getD_eq_getD_getElem? ..).symm.trans v1
              have k0 := hld 4 (by kernel_rfl)
              have k1 := hld 7 (by kernel_rfl)
              have k2 := hld 10 (by kernel_rfl)
              have k3 := hld 13 (by kernel_rfl)
              have k4 := hun
              have hc : cnt [4, 7, 10, 13, 16] listed = 4 := by simp only [cnt, List.countP_cons, List.countP_nil, k0, k1, k2, k3, k4]; rfl
              have hst := hS.str
              rw [hc] at hst
              go_simp
              refine (pick_in l (q + 1 + 1 + 1 + 1 + 1 + 1) [0, 6] p g wx hst (by omega) (by decide) (by decide) g1 (fun i hi => by obtain rfl | rfl : i = 0 ∨ i = 1 := (by simp at hi; omega); (· exact blkC gb 0 rfl); (· exact blkC gb 1 rfl))).mono ?_
              rintro e wy ⟨rfl, hy, gy⟩
              refine ⟨_, rfl, gy, rfl, ?_⟩
              first | exact hy | (show StreamAt wy _ _ _ (q + 1 + 1 + cnt [4, 7, 10, 13, 16] listed + 1); rw [hc]; exact hy)
            · (change some _ = some o at ho; injection ho with ho; subst ho)
              have v0 : a.eval (.tmp 86) = (.string (oneS l (q + 1 + 1) [⟨#[]⟩, ⟨#[97]⟩, ⟨#[100]⟩])) := hval 4 _ 86 rfl rfl (hld 4 (by kernel_rfl))
              have v0' : a.tmps[86]?.getD undef = (.string (oneS l (q + 1 + 1) [⟨#[]⟩, ⟨#[97]⟩, ⟨#[100]⟩])) := (Array.getD_eq_getD_getElem? ..).symm.trans v0
              have v1 : a.eval (.tmp 89) = (.string (oneS l (q + 1 + 1 + 1) [⟨#[]⟩, ⟨#[99, 97, 110]⟩])) := hval 7 _ 89 rfl rfl (hld 7 (by kernel_rfl))
              have v1' : a.tmps[89]?.getD undef = (.string (oneS l (q + 1 + 1 + 1) [⟨#[]⟩, ⟨#[99, 97, 110]⟩])) := (Array.getD_eq_getD_getElem? ..).symm.trans v1
              have v2 : a.eval (.tmp 92) = (.int .i64 (pickM l (q + 1 + 1 + 1 + 1) [0, 5])) := hval 10 _ 92 rfl rfl (hld 10 (by kernel_rfl))
              have v2' : a.tmps[92]?.getD undef = (.int .i64 (pickM l (q + 1 + 1 + 1 + 1) [0, 5])) := (Array.getD_eq_getD_getElem? ..).symm.trans v2
              have v3 : a.eval (.tmp 95) = (.int .i64 (pickM l (q + 1 + 1 + 1 + 1 + 1) [5, 1001])) := hval 13 _ 95 rfl rfl (hld 13 (by kernel_rfl))
              have v3' : a.tmps[95]?.getD undef = (.int .i64 (pickM l (q + 1 + 1 + 1 + 1 + 1) [5, 1001])) := (Array.getD_eq_getD_getElem? ..).symm.trans v3
              have v4 : a.eval (.tmp 98) = (.int .i64 (pickM l (q + 1 + 1 + 1 + 1 + 1 + 1) [0, 6])) := hval 16 _ 98 rfl rfl (hld 16 (by kernel_rfl))
              have v4' : a.tmps[98]?.getD undef = (.int .i64 (pickM l (q + 1 + 1 + 1 + 1 + 1 + 1) [0, 6])) := (Array.getD_eq_getD_getElem? ..).symm.trans v4
              go_simp
              exact ⟨_, rfl, gr_refl _ _, rfl, hS.str⟩
            · (change some _ = some o at ho; injection ho with ho; subst ho)
              have ho := hS.own (hde 19 (by kernel_rfl))
              have v0 : a.eval (.tmp 99) = (.agg #[.string (oneS l (q + 1 + 1) [⟨#[]⟩, ⟨#[97]⟩, ⟨#[100]⟩]), .string (oneS l (q + 1 + 1 + 1) [⟨#[]⟩, ⟨#[99, 97, 110]⟩]), .int .i64 (pickM l (q + 1 + 1 + 1 + 1) [0, 5]), .int .i64 (pickM l (q + 1 + 1 + 1 + 1 + 1) [5, 1001]), .int .i64 (pickM l (q + 1 + 1 + 1 + 1 + 1 + 1) [0, 6])]) := hval 17 _ 99 rfl rfl (hld 17 (by kernel_rfl))
              have v0' : a.tmps[99]?.getD undef = (.agg #[.string (oneS l (q + 1 + 1) [⟨#[]⟩, ⟨#[97]⟩, ⟨#[100]⟩]), .string (oneS l (q + 1 + 1 + 1) [⟨#[]⟩, ⟨#[99, 97, 110]⟩]), .int .i64 (pickM l (q + 1 + 1 + 1 + 1) [0, 5]), .int .i64 (pickM l (q + 1 + 1 + 1 + 1 + 1) [5, 1001]), .int .i64 (pickM l (q + 1 + 1 + 1 + 1 + 1 + 1) [0, 6])]) := (Array.getD_eq_getD_getElem? ..).symm.trans v0
              go_simp
              exact ⟨_, rfl, gr_alloc (gr_refl _ _) _, ⟨wx.heap.size, rfl, ⟨fun e => by have e : wx.heap.size = p := e; omega, fun e => by have e : wx.heap.size = C := e; omega, own_fresh ho rfl⟩, heap_alloc_new _ _⟩, hS.str.keep0 (gr_alloc (gr_refl _ _) _)⟩
            · exact absurd rfl hiA
            · (change some _ = some o at ho; injection ho with ho; subst ho)
              go_simp
              exact ⟨_, rfl, gr_refl _ _, rfl, hS.str⟩
            · exact absurd rfl hiS
          case hdone =>
            intro vs w8 hs8 hk8 hfin hvals
            obtain ⟨g8, c8, hb, ho8⟩ := hfin
            have hb : w8.heap[C]? = some (.cells #[.slice ta T.length tc, .slice (some ⟨G, 0, none⟩) 6 6, .slice (some ⟨g8, 0, none⟩) (S.length + 1) c8, .int .i64 hi] 29 (0, 0)) := hb
            have hRz := hk8.hR.trans hR7
            clear hvals
            clear hcr7 hR7 hgr7 hs7 gd HB
            simp only [putAll]
            have c0 : w8.cell? ⟨C, 0, none⟩ = some (.slice ta T.length tc) := blkC hb 0 rfl
            have c1 : w8.cell? ⟨C, 1, none⟩ = some (.slice (some ⟨G, 0, none⟩) 6 6) := blkC hb 1 rfl
            have c2 : w8.cell? ⟨C, 2, none⟩ = some (.slice (some ⟨g8, 0, none⟩) (S.length + 1) c8) := blkC hb 2 rfl
            have c3 : w8.cell? ⟨C, 3, none⟩ = some (.int .i64 hi) := blkC hb 3 rfl
            obtain ⟨r0, r1, r2, r3⟩ := blk4 hRz
            have f0 : w8.frozen? ⟨R, 0, none⟩ = false := blkF hRz 0
            have f1 : w8.frozen? ⟨R, 1, none⟩ = false := blkF hRz 1
            have f2 : w8.frozen? ⟨R, 2, none⟩ = false := blkF hRz 2
            have f3 : w8.frozen? ⟨R, 3, none⟩ = false := blkF hRz 3
            have HRz := Lib.hid hRz
            clear hRz
            have HV : Hid (CfgVal w8 R (.slice ta T.length tc) (.slice (some ⟨G, 0, none⟩) 6 6) (.slice (some ⟨g8, 0, none⟩) (S.length + 1) c8) ⟨T, cfgTakes, S ++ [⟨oneS l (q + 1 + 1) [⟨#[]⟩, ⟨#[97]⟩, ⟨#[100]⟩], oneS l (q + 1 + 1 + 1) [⟨#[]⟩, ⟨#[99, 97, 110]⟩], pickM l (q + 1 + 1 + 1 + 1) [0, 5], pickM l (q + 1 + 1 + 1 + 1 + 1) [5, 1001], pickM l (q + 1 + 1 + 1 + 1 + 1 + 1) [0, 6]⟩], hi⟩) := ⟨hk8.r1, .of_own hk8.r2 (show 0 < cfgTakes.length by decide), by show World.ownsRow _ _ _ _ _ (List.length (S ++ _)) (flat encSlot (S ++ _)); rw [flat_append, List.length_append]; exact ho8⟩
            go_wp2_with (fail)
            refine bodyPost_ret (results_cell_row (p := 2) (by kernel_rfl) _ _ R _ #[.slice ta T.length tc, .slice (some ⟨G, 0, none⟩) 6 6, .slice (some ⟨g8, 0, none⟩) (S.length + 1) c8, .int .i64 hi] _ (.struct dt) rfl (set4_heap HRz.out _ _ _ _) hd1 rfl (by kernel_rfl)) rfl ?_
            have hd := cfg_done HV.out HRz.out hs8 hk8.gr hpR hwR (.slice ta T.length tc) (.slice (some ⟨G, 0, none⟩) 6 6) (.slice (some ⟨g8, 0, none⟩) (S.length + 1) c8) (.int .i64 hi)
            rw [HC.out, ← HFL.out, if_pos rfl, ← HSE.out]
            rw [H2.out]
            exact ⟨_, _, _, rfl, hd.1, hd.2.1, hd.2.2⟩
        by_cases h3 : s = 3
        · have b0 : (s == 0) = false := by simp; omega
          have b1 : (s == 1) = false := by simp; omega
          have b2 : (s == 2) = false := by simp; omega
          have b3 : (s == 3) = true := by simp; omega
          have HB := Lib.hid hcr7.blk
          have H3 := Lib.hid h3
          clear h0 h1 h2 h3
          have HR7 := Lib.hid hR7
          have fC : w7.frozen? ⟨C, 2, none⟩ = false := blkF HB.out 2
          have hb := HB.out
          have c0 : w7.cell? ⟨C, 0, none⟩ = some (.slice ta T.length tc) := blkC hb 0 rfl
          have c1 : w7.cell? ⟨C, 1, none⟩ = some (.slice (some ⟨G, 0, none⟩) 6 6) := blkC hb 1 rfl
          have c2 : w7.cell? ⟨C, 2, none⟩ = some (.slice sa S.length sc) := blkC hb 2 rfl
          have c3 : w7.cell? ⟨C, 3, none⟩ = some (.int .i64 hi) := blkC hb 3 rfl
          clear hb
          have hgC := gr_set (q := ⟨C, 2, none⟩) (gr_refl w7 (some C)) rfl (.slice none 0 0)
          have hb := heap_setCell_same w7 C 2 _ _ (.slice none 0 0) HB.out
          have hb : (w7.setCell ⟨C, 2, none⟩ (.slice none 0 0)).heap[C]? = some (.cells #[.slice ta T.length tc, .slice (some ⟨G, 0, none⟩) 6 6, .slice none 0 0, .int .i64 hi] 29 (0, 0)) := hb
          have hRz := (hgC.block R (lt_of_block hR7) (by simp; omega)).trans hR7
          have hs8 := hs7.keep hgC (fun q e => by cases e; omega)
          have hg8 := gr_grown hgr7 hgC (fun q e => by cases e; omega)
          have hv7 : CfgVal w7 R (.slice ta T.length tc) (.slice (some ⟨G, 0, none⟩) 6 6) (.slice sa S.length sc) ⟨T, cfgTakes, S, hi⟩ := ⟨hcr7.tub, .of_own hcr7.tak (show 0 < cfgTakes.length by decide), hcr7.slo⟩
          have hv8 := hv7.keepB HB.out (by decide) (by decide) (by decide) hgC
          clear hcr7 hR7 hgr7 hs7 gd
          have HV : Hid (CfgVal (w7.setCell ⟨C, 2, none⟩ (.slice none 0 0)) R (.slice ta T.length tc) (.slice (some ⟨G, 0, none⟩) 6 6) (.slice none 0 0) ⟨T, cfgTakes, [], hi⟩) := ⟨hv8.tub, hv8.tak, World.ownsRow_nil _ _ _ _⟩
          have HRz := Lib.hid hRz
          have g0 : w7.frozen? ⟨R, 0, none⟩ = false := by have := blkF HRz.out 0; exact (blkF (show w7.heap[R]? = some _ from HR7.out) 0)
          have g1 : w7.frozen? ⟨R, 1, none⟩ = false := by have := blkF HRz.out 1; exact (blkF (show w7.heap[R]? = some _ from HR7.out) 1)
          have g2 : w7.frozen? ⟨R, 2, none⟩ = false := by have := blkF HRz.out 2; exact (blkF (show w7.heap[R]? = some _ from HR7.out) 2)
          have g3 : w7.frozen? ⟨R, 3, none⟩ = false := by have := blkF HRz.out 3; exact (blkF (show w7.heap[R]? = some _ from HR7.out) 3)
          obtain ⟨r0, r1, r2, r3⟩ := blk4 HR7.out
          clear hRz hb hgC
          go_wp2_with (fail)
          refine bodyPost_ret (results_cell_row (p := 2) (by kernel_rfl) _ _ R _ #[.slice ta T.length tc, .slice (some ⟨G, 0, none⟩) 6 6, .slice none 0 0, .int .i64 hi] _ (.struct dt) rfl (set4_heap HRz.out _ _ _ _) hd1 rfl (by kernel_rfl)) rfl ?_
          have hd := cfg_done HV.out HRz.out hs8 hg8 hpR hwR (.slice ta T.length tc) (.slice (some ⟨G, 0, none⟩) 6 6) (.slice none 0 0) (.int .i64 hi)
          rw [HC.out, ← HFL.out, if_pos rfl, ← HSE.out]
          rw [H3.out]
          exact ⟨_, _, _, rfl, hd.1, hd.2.1, hd.2.2⟩
        by_cases h4 : s = 4
        · have b0 : (s == 0) = false := by simp; omega
          have b1 : (s == 1) = false := by simp; omega
          have b2 : (s == 2) = false := by simp; omega
          have b3 : (s == 3) = false := by simp; omega
          have b4 : (s == 4) = true := by simp; omega
          have HB := Lib.hid hcr7.blk
          have H4 := Lib.hid h4
          clear h0 h1 h2 h3 h4
          have HR7 := Lib.hid hR7
          have fC : w7.frozen? ⟨C, 1, none⟩ = false := blkF HB.out 1
          have hb := HB.out
          have c0 : w7.cell? ⟨C, 0, none⟩ = some (.slice ta T.length tc) := blkC hb 0 rfl
          have c1 : w7.cell? ⟨C, 1, none⟩ = some (.slice (some ⟨G, 0, none⟩) 6 6) := blkC hb 1 rfl
          have c2 : w7.cell? ⟨C, 2, none⟩ = some (.slice sa S.length sc) := blkC hb 2 rfl
          have c3 : w7.cell? ⟨C, 3, none⟩ = some (.int .i64 hi) := blkC hb 3 rfl
          clear hb
          have hgC := gr_set (q := ⟨C, 1, none⟩) (gr_refl w7 (some C)) rfl (.slice (some ⟨G, 1, none⟩) 5 5)
          have hb := heap_setCell_same w7 C 1 _ _ (.slice (some ⟨G, 1, none⟩) 5 5) HB.out
          have hb : (w7.setCell ⟨C, 1, none⟩ (.slice (some ⟨G, 1, none⟩) 5 5)).heap[C]? = some (.cells #[.slice ta T.length tc, .slice (some ⟨G, 1, none⟩) 5 5, .slice sa S.length sc, .int .i64 hi] 29 (0, 0)) := hb
          have hRz := (hgC.block R (lt_of_block hR7) (by simp; omega)).trans hR7
          have hs8 := hs7.keep hgC (fun q e => by cases e; omega)
          have hg8 := gr_grown hgr7 hgC (fun q e => by cases e; omega)
          have hv7 : CfgVal w7 R (.slice ta T.length tc) (.slice (some ⟨G, 0, none⟩) 6 6) (.slice sa S.length sc) ⟨T, cfgTakes, S, hi⟩ := ⟨hcr7.tub, .of_own hcr7.tak (show 0 < cfgTakes.length by decide), hcr7.slo⟩
          have hv8 := hv7.keepB HB.out (by decide) (by decide) (by decide) hgC
          clear hcr7 hR7 hgr7 hs7 gd
          have HV : Hid (CfgVal (w7.setCell ⟨C, 1, none⟩ (.slice (some ⟨G, 1, none⟩) 5 5)) R (.slice ta T.length tc) (.slice (some ⟨G, 1, none⟩) 5 5) (.slice sa S.length sc) ⟨T, cfgTakes.drop 1, S, hi⟩) := ⟨hv8.tub, hv8.tak.drop (by decide), hv8.slo⟩
          have HRz := Lib.hid hRz
          have g0 : w7.frozen? ⟨R, 0, none⟩ = false := by have := blkF HRz.out 0; exact (blkF (show w7.heap[R]? = some _ from HR7.out) 0)
          have g1 : w7.frozen? ⟨R, 1, none⟩ = false := by have := blkF HRz.out 1; exact (blkF (show w7.heap[R]? = some _ from HR7.out) 1)
          have g2 : w7.frozen? ⟨R, 2, none⟩ = false := by have := blkF HRz.out 2; exact (blkF (show w7.heap[R]? = some _ from HR7.out) 2)
          have g3 : w7.frozen? ⟨R, 3, none⟩ = false := by have := blkF HRz.out 3; exact (blkF (show w7.heap[R]? = some _ from HR7.out) 3)
          obtain ⟨r0, r1, r2, r3⟩ := blk4 HR7.out
          clear hRz hb hgC
          go_wp2_with (fail)
          refine bodyPost_ret (results_cell_row (p := 2) (by kernel_rfl) _ _ R _ #[.slice ta T.length tc, .slice (some ⟨G, 1, none⟩) 5 5, .slice sa S.length sc, .int .i64 hi] _ (.struct dt) rfl (set4_heap HRz.out _ _ _ _) hd1 rfl (by kernel_rfl)) rfl ?_
          have hd := cfg_done HV.out HRz.out hs8 hg8 hpR hwR (.slice ta T.length tc) (.slice (some ⟨G, 1, none⟩) 5 5) (.slice sa S.length sc) (.int .i64 hi)
          rw [HC.out, ← HFL.out, if_pos rfl, ← HSE.out]
          rw [H4.out]
          exact ⟨_, _, _, rfl, hd.1, hd.2.1, hd.2.2⟩
        have b0 : (s == 0) = false := by simp; omega
        have b1 : (s == 1) = false := by simp; omega
        have b2 : (s == 2) = false := by simp; omega
        have b3 : (s == 3) = false := by simp; omega
        have b4 : (s == 4) = false := by simp; omega
        have N0 := Lib.hid h0
        have N1 := Lib.hid h1
        have N2 := Lib.hid h2
        have N3 := Lib.hid h3
        have N4 := Lib.hid h4
        clear h0 h1 h2 h3 h4
        have HB := Lib.hid hcr7.blk
        have HR7 := Lib.hid hR7
        go_wp2_with (fail)
        refine (pick_any l (q + 1 + 1) [0, 20000, 20001] p w7 hs7 (by omega) (by decide) (by decide)).mono ?_
        rintro e w8 ⟨rfl, hs8, hg8⟩
        have hcr8 := hcr7.keepS hg8 (by omega) (by omega)
        have hRz := (hg8.block R (lt_of_block HR7.out) (by simp; omega)).trans HR7.out
        have hgr8 := gr_trans hgr7 hg8
        have HB := Lib.hid hcr8.blk
        obtain ⟨nh, hnh⟩ : ∃ x, x = pickM l (q + 1 + 1) [0, 20000, 20001] := ⟨_, rfl⟩
        rw [← hnh]
        have HNH := Lib.hid hnh
        clear hnh hcr7 hR7 hgr7 hs7 gd hg8
        have fC : w8.frozen? ⟨C, 3, none⟩ = false := blkF HB.out 3
        have hb := HB.out
        have c0 : w8.cell? ⟨C, 0, none⟩ = some (.slice ta T.length tc) := blkC hb 0 rfl
        have c1 : w8.cell? ⟨C, 1, none⟩ = some (.slice (some ⟨G, 0, none⟩) 6 6) := blkC hb 1 rfl
        have c2 : w8.cell? ⟨C, 2, none⟩ = some (.slice sa S.length sc) := blkC hb 2 rfl
        have c3 : w8.cell? ⟨C, 3, none⟩ = some (.int .i64 hi) := blkC hb 3 rfl
        clear hb
        have hgC := gr_set (q := ⟨C, 3, none⟩) (gr_refl w8 (some C)) rfl (.int .i64 nh)
        have hRy := (hgC.block R (lt_of_block hRz) (by simp; omega)).trans hRz
        have hs9 := hs8.keep hgC (fun q e => by cases e; omega)
        have hg9 := gr_grown hgr8 hgC (fun q e => by cases e; omega)
        have hv7 : CfgVal w8 R (.slice ta T.length tc) (.slice (some ⟨G, 0, none⟩) 6 6) (.slice sa S.length sc) ⟨T, cfgTakes, S, nh⟩ := ⟨hcr8.tub, .of_own hcr8.tak (show 0 < cfgTakes.length by decide), hcr8.slo⟩
        have HV := Lib.hid (hv7.keepB HB.out (by decide) (by decide) (by decide) hgC)
        have HRz := Lib.hid hRy
        obtain ⟨r0, r1, r2, r3⟩ := blk4 hRz
        have f0 : w8.frozen? ⟨R, 0, none⟩ = false := blkF hRz 0
        have f1 : w8.frozen? ⟨R, 1, none⟩ = false := blkF hRz 1
        have f2 : w8.frozen? ⟨R, 2, none⟩ = false := blkF hRz 2
        have f3 : w8.frozen? ⟨R, 3, none⟩ = false := blkF hRz 3
        clear hRz hgC hRy hv7 hcr8 hgr8 hs8
        go_wp2_with (fail)
        refine bodyPost_ret (results_cell_row (p := 2) (by kernel_rfl) _ _ R _ #[.slice ta T.length tc, .slice (some ⟨G, 0, none⟩) 6 6, .slice sa S.length sc, .int .i64 nh] _ (.struct dt) rfl (set4_heap HRz.out _ _ _ _) hd1 rfl (by kernel_rfl)) rfl ?_
        have hd := cfg_done HV.out HRz.out hs9 hg9 hpR hwR (.slice ta T.length tc) (.slice (some ⟨G, 0, none⟩) 6 6) (.slice sa S.length sc) (.int .i64 nh)
        have hlast : cfgTurn l q ⟨T, cfgTakes, S, hi⟩ s = (⟨T, cfgTakes, S, nh⟩, q + 3) := by unfold cfgTurn; rw [if_neg N0.out, if_neg N1.out, if_neg N2.out, if_neg N3.out, if_neg N4.out, HNH.out]
        rw [HC.out, ← HFL.out, if_pos rfl, ← HSE.out, hlast]
        exact ⟨_, _, _, rfl, hd.1, hd.2.1, hd.2.2⟩
end Go.Proofs.YtdjnomeabadbnaaDoor
