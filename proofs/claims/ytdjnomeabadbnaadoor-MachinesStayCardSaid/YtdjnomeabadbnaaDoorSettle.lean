/- Package vend: settling. -/
import Derived.Test.YtdjnomeabadbnaaDoorCloneTube
import Derived.Test.YtdjnomeabadbnaaDoorVend2
import Derived.Test.YtdjnomeabadbnaaDoorFuncs
namespace Go.Proofs.YtdjnomeabadbnaaDoor
open Go.RowKit

def oddN (n : Int) : Bool := decide (n < 0) || decide (10000 < n)
def OkAdd (l : List Tube) (add : List Int) : Prop := add.length = l.length ∧ ∀ x ∈ add, 0 ≤ x ∧ x ≤ 10000
theorem okAdd_any {add : List Int} : add.any oddN = false ↔ ∀ x ∈ add, 0 ≤ x ∧ x ≤ 10000 := by
  rw [List.any_eq_false]
  constructor
  · intro h x hx
    have := h x hx
    simp [oddN] at this
    omega
  · intro h x hx
    have := h x hx
    simp [oddN]
    omega
theorem fnS : IsFn 80 := fun _ _ => by kernel_rfl
theorem settle1_any (x : Int) (w : World) : Calls Tryd.prog 80 #[.int .i64 x] w fun e w' => e = .returned (.bool (oddN x)) ∧ w.grownBy w' none := by
  by_cases h0 : x < 0 <;> by_cases h1 : 10000 < x
  all_goals
    go_enter Tryd.func80, Tryd.ntmps80
    go_wp2
    go_ret
    exact ⟨ret_bool (by simp [oddN, h0, h1]), gr_refl _ _⟩

/-- One tube, with coins put into it as far as there is room; and what is left over. -/
def putIn (x : Int) (t : Tube) : Tube := ⟨t.value, t.count + min x (t.most - t.count), t.most⟩
def settledT (l : List Tube) (add : List Int) : List Tube := List.zipWith putIn add l
def restL (l : List Tube) (add : List Int) : List Int := List.zipWith (fun x (t : Tube) => (x - min x (t.most - t.count)) * t.value) add l
def restT (l : List Tube) (add : List Int) : Int := (restL l add).sum
def half (l : List Tube) (add : List Int) (k : Nat) : List Tube := (settledT l add).take k ++ l.drop k
theorem settled_len (l : List Tube) (add : List Int) (h : add.length = l.length) : (settledT l add).length = l.length := by simp [settledT, h]
theorem half_len (l : List Tube) (add : List Int) (h : add.length = l.length) (k : Nat) (hk : k ≤ l.length) : (half l add k).length = l.length := by
  simp [half, settled_len l add h]; omega
theorem half_get (l : List Tube) (add : List Int) (h : add.length = l.length) (k : Nat) (hk : k < l.length) : tubeAt (half l add k) k = tubeAt l k := by
  have h1 := settled_len l add h
  unfold tubeAt half
  rw [List.getD_eq_getElem?_getD, List.getD_eq_getElem?_getD, List.getElem?_append_right (by simp; omega), List.length_take, h1, Nat.min_eq_left (by omega), Nat.sub_self, List.getElem?_drop]
  simp
theorem settled_get (l : List Tube) (add : List Int) (h : add.length = l.length) (k : Nat) (hk : k < l.length) : tubeAt (settledT l add) k = putIn (add.getD k 0) (tubeAt l k) := by
  unfold tubeAt settledT
  rw [List.getD_eq_getElem?_getD, List.getD_eq_getElem?_getD, List.getD_eq_getElem?_getD, List.getElem?_zipWith, List.getElem?_eq_getElem hk, List.getElem?_eq_getElem (by omega)]
  rfl
theorem half_next (l : List Tube) (add : List Int) (h : add.length = l.length) (k : Nat) (hk : k < l.length) : (half l add k).set k (tubeAt (settledT l add) k) = half l add (k + 1) := by
  have h1 := settled_len l add h
  apply List.ext_getElem?
  intro j
  unfold half tubeAt
  rw [List.getElem?_set]
  by_cases e : k = j
  · subst e
    rw [if_pos rfl, if_pos (by simp; omega), List.getElem?_append_left (by simp; omega), List.getElem?_take, if_pos (by omega), List.getD_eq_getElem?_getD, List.getElem?_eq_getElem (by omega)]
    rfl
  · rw [if_neg e]
    rcases Nat.lt_or_ge j k with hj | hj
    · rw [List.getElem?_append_left (by simp; omega), List.getElem?_append_left (by simp; omega), List.getElem?_take, List.getElem?_take, if_pos hj, if_pos (by omega)]
    · rw [List.getElem?_append_right (by simp; omega), List.getElem?_append_right (by simp; omega), List.length_take, List.length_take, h1, Nat.min_eq_left (by omega), Nat.min_eq_left (by omega), List.getElem?_drop, List.getElem?_drop]
      congr 1
      omega
theorem half_all (l : List Tube) (add : List Int) (h : add.length = l.length) : half l add l.length = settledT l add := by
  unfold half
  rw [List.drop_length, List.append_nil, ← settled_len l add h, List.take_length]
theorem restL_get (l : List Tube) (add : List Int) (h : add.length = l.length) (k : Nat) (hk : k < l.length) : (restL l add).getD k 0 = (add.getD k 0 - min (add.getD k 0) ((tubeAt l k).most - (tubeAt l k).count)) * (tubeAt l k).value := by
  unfold tubeAt restL
  rw [List.getD_eq_getElem?_getD, List.getD_eq_getElem?_getD, List.getD_eq_getElem?_getD, List.getElem?_zipWith, List.getElem?_eq_getElem hk, List.getElem?_eq_getElem (by omega)]
  rfl
theorem restL_mem (l : List Tube) (add : List Int) (ho : OkTubes l) (ha : OkAdd l add) : ∀ x ∈ restL l add, 0 ≤ x ∧ x ≤ 10000000000 := by
  intro x hm
  obtain ⟨k, hk, rfl⟩ := List.getElem_of_mem hm
  have hkl : k < l.length := by simp [restL] at hk; omega
  have hg := restL_get l add ha.1 k hkl
  rw [getD_eq _ _ _ hk] at hg
  rw [hg, Int.mul_comm]
  have hb := ha.2 _ (show add.getD k 0 ∈ add by rw [getD_eq _ _ _ (by have := ha.1; omega)]; exact List.getElem_mem _)
  have o := ho.ok k hkl
  have := o.c0
  have := o.c1
  have := o.m1
  exact tube_prod ho k hkl _ (by omega) (by omega)
/-- Settling loses no coin. -/
theorem settle_even (l : List Tube) (add : List Int) (h : add.length = l.length) : totT l + worthM l add = totT (settledT l add) + restT l add := by
  have key : ∀ (l : List Tube) (add : List Int), add.length = l.length → (l.map fun t => t.value * t.count).sum + (List.zipWith (fun x (t : Tube) => x * t.value) add l).sum = ((List.zipWith putIn add l).map fun t => t.value * t.count).sum + (List.zipWith (fun x (t : Tube) => (x - min x (t.most - t.count)) * t.value) add l).sum := by
    intro l
    induction l with
    | nil => intro add h; cases add <;> simp at *
    | cons t l ih =>
      intro add h
      cases add with
      | nil => simp at h
      | cons x add =>
        have := ih add (by simpa using h)
        simp only [List.map_cons, List.sum_cons, List.zipWith_cons_cons]
        have e : t.value * (putIn x t).count = t.value * t.count + t.value * min x (t.most - t.count) := by simp only [putIn]; rw [Int.mul_add]
        have e2 : (putIn x t).value = t.value := rfl
        rw [e2, e]
        have e3 : (x - min x (t.most - t.count)) * t.value = x * t.value - t.value * min x (t.most - t.count) := by rw [Int.sub_mul, Int.mul_comm (min x (t.most - t.count))]
        rw [e3]
        omega
  exact key l add h
theorem settled_ok (l : List Tube) (add : List Int) (ho : OkTubes l) (ha : OkAdd l add) : OkTubes (settledT l add) := by
  have hl := settled_len l add ha.1
  refine ⟨by rw [hl]; exact ho.len, fun i hi => ?_⟩
  rw [hl] at hi
  have g := settled_get l add ha.1 i hi
  have o := ho.ok i hi
  have hb := ha.2 _ (show add.getD i 0 ∈ add by rw [getD_eq _ _ _ (by have := ha.1; omega)]; exact List.getElem_mem _)
  have := o.c0
  have := o.c1
  refine ⟨?_, ?_, ?_, ?_, ?_, ?_, ?_⟩
  · rw [g]; exact o.v0
  · rw [g]; exact o.v1
  · intro h0
    have g' := settled_get l add ha.1 (i - 1) (by omega)
    rw [g, g']; exact o.up h0
  · rw [g]; exact o.m0
  · rw [g]; exact o.m1
  · rw [g]; simp only [putIn]; omega
  · rw [g]; simp only [putIn]; omega

/-! Package vend: settling, walked. -/

set_option maxRecDepth 100000 in
set_option maxHeartbeats 2000000 in
theorem settled_any (l : List Tube) (add : List Int) (a : Option Addr) (c : Nat) (a2 : Option Addr) (c2 : Nat) (w : World) (hc : CellsAt w a (tubes l)) (hnil : a = none → l.length = 0 ∧ c = 0) (hx : CellsAt w a2 (ints add)) (ho : OkTubes l) (ha : OkAdd l add) :
    Calls Tryd.prog 82 #[.slice a l.length c, .slice a2 add.length c2] w fun e w' => ∃ v, e = .returned (.tuple #[v, .int .i64 (restT l add)]) ∧ w'.ownsRow w.heap.size 41 3 v l.length (tubes (settledT l add)) ∧ w.grownBy w' none := by
  have hl := ho.len
  have hR0 : (restL l add).length = l.length := by simp [restL, ha.1]
  have hR := Lib.hid hR0; clear hR0
  have hB := Lib.hid (sum_bound (restL l add) 0 10000000000 (by decide) (by decide) (restL_mem l add ho ha))
  have hN := Lib.hid (sum_next (restL l add))
  go_enter Tryd.func82, Tryd.ntmps82
  go_wp2_with (fail)
  refine (cloneTube_any a l.length c (tubes l) _ (flat_length encTube_len l) hc hnil (flat_ones encTube_one l) (by omega)).mono ?_
  rintro e w1 ⟨v, rfl, hown, hg1⟩
  have hx1 := hx.keep0 hg1
  obtain ⟨ga, gc, rfl, _, _, _, hgb⟩ := own_shape hown
  go_wp2_with (fail)
  go_loopw [7, 14] (fun s i wr => ∃ k : Nat, k ≤ l.length ∧ i = .int .i64 k ∧ s = .int .i64 ((restL l add).take k).sum ∧ wr.ownsRow w.heap.size 41 3 (.slice ga l.length gc) l.length (tubes (half l add k)) ∧ w.grownBy wr none) (fun _ i _ => l.length - (intOf i).toNat)
  case atStart => exact ⟨0, Nat.zero_le _, rfl, rfl, hown, hg1⟩
  case round =>
    obtain ⟨k, hk, rfl, rfl, hown, hgr⟩ := hrel
    obtain ⟨wo, rfl⟩ : ∃ wo : World, wo = wr := ⟨_, rfl⟩
    have hb := hB.out k
    obtain ⟨s, hs⟩ : ∃ s, s = ((restL l add).take k).sum := ⟨_, rfl⟩
    rw [← hs] at hb
    rw [← hs]
    obtain ⟨hb0, hb1⟩ := hb
    have HS := Lib.hid hs; clear hs
    by_cases hlt : k < l.length
    · obtain ⟨g, gc', he, hgl, hgw, _, _⟩ := own_some hown (by omega)
      cases he
      have hhl := half_len l add ha.1 k hk
      have hcell : ∀ j v, (encTube (tubeAt l k))[j]? = some v → wo.cell? ⟨g, k * 3 + j, none⟩ = some v := by
        intro j v hv
        have hj : j < 3 := by
          have := (List.getElem?_eq_some_iff.1 hv).1
          simpa [encTube] using this
        rw [hown.cellAt (k * 3 + j) (by omega), tubes, flat_get encTube_len _ k (by omega) j hj, ← getD_eq _ _ ⟨0, 0, 0⟩ (by omega)]
        have := half_get l add ha.1 k hlt
        unfold tubeAt at this hv
        rw [this]
        exact hv
      have c0 : wo.cell? ⟨g, k * 3, none⟩ = some (.int .i64 (tubeAt l k).value) := hcell 0 _ rfl
      have c1 : wo.cell? ⟨g, k * 3 + 1, none⟩ = some (.int .i64 (tubeAt l k).count) := hcell 1 _ rfl
      have c2 : wo.cell? ⟨g, k * 3 + 2, none⟩ = some (.int .i64 (tubeAt l k).most) := hcell 2 _ rfl
      have f1 : wo.frozen? ⟨g, k * 3 + 1, none⟩ = false := hown.frozenAt _
      have hadd := ha.1
      obtain ⟨b2, o2, rfl, d0⟩ := (hx.keep0 hgr) k _ (ints_get add k (by omega))
      have hb2 := lt_of_cell d0
      have hxw : b2 < w.heap.size := by
        obtain ⟨_, _, he, hcw⟩ := hx k _ (ints_get add k (by omega))
        cases he
        exact lt_of_cell hcw
      have hne : b2 ≠ g := by omega
      have hst := hown.stored (k * 3 + 1) (.int .i64 (putIn (add.getD k 0) (tubeAt l k)).count)
      have hset : (tubes (half l add k)).set (k * 3 + 1) (.int .i64 (putIn (add.getD k 0) (tubeAt l k)).count) = tubes (half l add (k + 1)) := by
        rw [← half_next l add ha.1 k hlt, settled_get l add ha.1 k hlt]
        refine flat_set encTube_len _ k (by omega) 1 (by omega) _ _ ?_
        have := half_get l add ha.1 k hlt
        unfold tubeAt at this
        rw [← getD_eq _ _ ⟨0, 0, 0⟩ (by omega), this]
        rfl
      rw [hset] at hst
      have HST := Lib.hid hst; clear hst hset
      have o := ho.ok k hlt
      have t1 := o.c0
      have t2 := o.c1
      have t3 := o.m1
      have t4 := o.v0
      have t5 := o.v1
      have hab := ha.2 _ (show add.getD k 0 ∈ add by rw [getD_eq _ _ _ (by omega)]; exact List.getElem_mem _)
      have hg := restL_get l add ha.1 k hlt
      have hnx := hN.out k (by rw [hR.out]; exact hlt)
      have hm := restL_mem l add ho ha ((restL l add).getD k 0) (by rw [getD_eq _ _ _ (by rw [hR.out]; exact hlt)]; exact List.getElem_mem _)
      rw [hg] at hm
      rw [hg, ← HS.out] at hnx
      clear o hg hcell
      obtain ⟨x, hxe⟩ : ∃ x, x = add.getD k 0 := ⟨_, rfl⟩
      obtain ⟨t, ht⟩ : ∃ t, t = tubeAt l k := ⟨_, rfl⟩
      rw [← hxe] at d0 hm hnx hab HST
      rw [← ht] at c0 c1 c2 hm hnx t1 t2 t3 t4 t5 HST
      obtain ⟨hm0, hm1⟩ := hm
      obtain ⟨hab0, hab1⟩ := hab
      have hka : k < add.length := by omega
      have HX := Lib.hid hxe; clear hxe hadd hhl
      have HT := Lib.hid ht; clear ht
      by_cases hmin : t.most - t.count < x
      · have hmv : min x (t.most - t.count) = (t.most - t.count) := by omega
        rw [hmv] at hm0 hm1 hnx
        have HNX := Lib.hid hnx; clear hnx
        have hst := HST.out
        rw [show (putIn x t).count = t.count + (t.most - t.count) by simp only [putIn]; rw [hmv]] at hst
        have HST2 := Lib.hid hst; clear hst hmv
        go_wp2_with (fail)
        go_quiet (fail)
        go_wp2_with (fail)
        go_quiet (fail)
        go_wp2_with (fail)
        go_roundw
        case rel => exact ⟨k + 1, by omega, by go_num, by rw [HNX.out], HST2.out.1, gr_drewN (gr_new (gr_drewN hgr _) hgl _) _⟩
        case measure => simp [intOf]; omega
      · have hmv : min x (t.most - t.count) = x := by omega
        rw [hmv] at hm0 hm1 hnx
        have HNX := Lib.hid hnx; clear hnx
        have hst := HST.out
        rw [show (putIn x t).count = t.count + x by simp only [putIn]; rw [hmv]] at hst
        have HST2 := Lib.hid hst; clear hst hmv
        go_wp2_with (fail)
        go_quiet (fail)
        go_wp2_with (fail)
        go_quiet (fail)
        go_wp2_with (fail)
        go_roundw
        case rel => exact ⟨k + 1, by omega, by go_num, by rw [HNX.out]; simp, HST2.out.1, gr_drewN (gr_new (gr_drewN hgr _) hgl _) _⟩
        case measure => simp [intOf]; omega
    · have hkl : k = l.length := by omega
      have HK := Lib.hid hkl; clear hkl
      have hall := half_all l add ha.1
      go_wp2_with (fail)
      go_ret2
      have hsr : s = restT l add := by rw [HS.out, HK.out, ← hR.out, List.take_length]; rfl
      rw [HK.out, hall] at hown
      exact ⟨_, by rw [← hsr]; rfl, hown, hgr⟩

def SettlePost (l : List Tube) (add : List Int) (w : World) (e : Ending) (w' : World) : Prop := ∃ v, e = .returned (.tuple #[v, .int .i64 (restT l add), .int .i64 0]) ∧ w'.ownsRow w.heap.size 41 3 v l.length (tubes (settledT l add)) ∧ w.grownBy w' none
set_option maxRecDepth 100000 in
theorem settle_ok (l : List Tube) (add : List Int) (a : Option Addr) (c : Nat) (a2 : Option Addr) (c2 : Nat) (w : World) (hc : CellsAt w a (tubes l)) (hnil : a = none → l.length = 0 ∧ c = 0) (hx : CellsAt w a2 (ints add)) (ho : OkTubes l) (ha : OkAdd l add) :
    Calls Tryd.prog 13 #[.slice a l.length c, .slice a2 add.length c2] w (SettlePost l add w) := by
  have hl := ho.len
  have hlen := ha.1
  have hb : ((add.length : Int) != (l.length : Int)) = false := by simp; omega
  have hno := okAdd_any.2 ha.2
  have hal : add.length ≤ 10 := by omega
  have HNO := Lib.hid hno; clear hno hlen
  go_enter Tryd.func13, Tryd.ntmps13
  go_wp2_with (fail)
  refine (checkTubes_any l a c _ hc (by omega)).mono ?_
  rintro e w1 ⟨r, rfl, hr, hg1⟩
  have hr0 := hr.2 ho
  subst hr0; clear hr
  go_wp2_with (fail)
  refine (containsFunc_int _ oddN add a2 c2 _ (hx.keep0 hg1) (by omega) fnS (fun x _ w1 _ => settle1_any x w1)).mono ?_
  rintro e w2 ⟨rfl, hg2⟩
  rw [HNO.out]
  have hg := gr_trans hg1 hg2
  go_wp2_with (fail)
  refine (settled_any l add a c a2 c2 _ (hc.keep0 hg) hnil (hx.keep0 hg) ho ha).mono ?_
  rintro e w3 ⟨v, rfl, hown, hg3⟩
  go_wp2_with (fail)
  go_ret3
  exact ⟨v, rfl, own_base hown hg.size, gr_trans hg hg3⟩
end Go.Proofs.YtdjnomeabadbnaaDoor
