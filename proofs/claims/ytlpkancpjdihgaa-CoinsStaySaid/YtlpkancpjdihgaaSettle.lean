/- Package vend: settling. -/
import Derived.Test.YtlpkancpjdihgaaCloneTube
import Derived.Test.YtlpkancpjdihgaaVend2
import Derived.Test.YtlpkancpjdihgaaFuncs
namespace Go.Proofs.Ytlpkancpjdihgaa
open Go.RowKit

def oddN (n : Int) : Bool := decide (n < 0) || decide (10000 < n)
def OkAdd (l : List Tube) (add : List Int) : Prop := add.length = l.length ∧ ∀ x ∈ add, 0 ≤ x ∧ x ≤ 10000
theorem okAdd_any {add : List Int} : add.any oddN = false ↔ ∀ x ∈ add, 0 ≤ x ∧ x ≤ 10000 := by
  rw [List.any_eq_false]
  constructor
  · intro h x hx
    have := h x hx
    simp [oddN] at this
    omega
  · intro h x hx
    have := h x hx
    simp [oddN]
    omega
theorem fnSF : IsFn 98 := fun _ _ => by kernel_rfl
theorem fnS : IsFn 100 := fun _ _ => by kernel_rfl
theorem settleFault1_any (x : Int) (w : World) : Calls Try.prog 98 #[.int .i64 x] w fun e w' => e = .returned (.bool (oddN x)) ∧ w.grownBy w' none := by
  by_cases h0 : x < 0 <;> by_cases h1 : 10000 < x
  all_goals
    go_enter Try.func98, Try.ntmps98
    go_wp2
    go_ret
    exact ⟨ret_bool (by simp [oddN, h0, h1]), gr_refl _ _⟩
theorem settle1_any (x : Int) (w : World) : Calls Try.prog 100 #[.int .i64 x] w fun e w' => e = .returned (.bool (oddN x)) ∧ w.grownBy w' none := by
  by_cases h0 : x < 0 <;> by_cases h1 : 10000 < x
  all_goals
    go_enter Try.func100, Try.ntmps100
    go_wp2
    go_ret
    exact ⟨ret_bool (by simp [oddN, h0, h1]), gr_refl _ _⟩

theorem settleFault_any (l : List Tube) (add : List Int) (a : Option Addr) (c : Nat) (a2 : Option Addr) (c2 : Nat) (w : World) (hx : CellsAt w a2 (ints add)) (hl : add.length ≤ 137438953472) :
    Calls Try.prog 28 #[.slice a l.length c, .slice a2 add.length c2] w (FaultPost (OkAdd l add) w) := by
  by_cases h : add.length = l.length
  · have hb : ((add.length : Int) != (l.length : Int)) = false := by simp; omega
    have HL := Lib.hid h; clear h
    go_enter Try.func28, Try.ntmps28
    go_wp2_with (fail)
    refine (containsFunc_int _ oddN add a2 c2 _ hx (by omega) fnSF (fun x _ w1 _ => settleFault1_any x w1)).mono ?_
    rintro e w1 ⟨rfl, hg1⟩
    cases ho : add.any oddN with
    | true =>
      have HO := Lib.hid ho; clear ho
      go_wp2_with (fail)
      go_ret
      refine fault_bad 1 (by decide) (fun o => ?_) hg1
      have := okAdd_any.2 o.2
      rw [HO.out] at this
      cases this
    | false =>
      have HO := Lib.hid ho; clear ho
      go_wp2_with (fail)
      go_ret
      exact fault_good ⟨HL.out, okAdd_any.1 HO.out⟩ hg1
  · have hb : ((add.length : Int) != (l.length : Int)) = true := by simp; omega
    go_enter Try.func28, Try.ntmps28
    go_wp2_with (fail)
    go_ret
    exact fault_bad 3 (by decide) (fun o => h o.1) (gr_refl _ _)

/-- One tube, with coins put into it as far as there is room; and what is left over. -/
def putIn (x : Int) (t : Tube) : Tube := ⟨t.value, t.count + min x (t.most - t.count), t.most⟩
def settledT (l : List Tube) (add : List Int) : List Tube := List.zipWith putIn add l
def restL (l : List Tube) (add : List Int) : List Int := List.zipWith (fun x (t : Tube) => (x - min x (t.most - t.count)) * t.value) add l
def restT (l : List Tube) (add : List Int) : Int := (restL l add).sum
def half (l : List Tube) (add : List Int) (k : Nat) : List Tube := (settledT l add).take k ++ l.drop k
theorem settled_len (l : List Tube) (add : List Int) (h : add.length = l.length) : (settledT l add).length = l.length := by simp [settledT, h]
theorem half_len (l : List Tube) (add : List Int) (h : add.length = l.length) (k : Nat) (hk : k ≤ l.length) : (half l add k).length = l.length := by
  simp [half, settled_len l add h]; omega
theorem half_get (l : List Tube) (add : List Int) (h : add.length = l.length) (k : Nat) (hk : k < l.length) : tubeAt (half l add k) k = tubeAt l k := by
  have h1 := settled_len l add h
  unfold tubeAt half
  rw [List.getD_eq_getElem?_getD, List.getD_eq_getElem?_getD, List.getElem?_append_right (by simp; omega), List.length_take, h1, Nat.min_eq_left (by omega), Nat.sub_self, List.getElem?_drop]
  simp
theorem settled_get (l : List Tube) (add : List Int) (h : add.length = l.length) (k : Nat) (hk : k < l.length) : tubeAt (settledT l add) k = putIn (add.getD k 0) (tubeAt l k) := by
  unfold tubeAt settledT
  rw [List.getD_eq_getElem?_getD, List.getD_eq_getElem?_getD, List.getD_eq_getElem?_getD, List.getElem?_zipWith, List.getElem?_eq_getElem hk, List.getElem?_eq_getElem (by omega)]
  rfl
theorem half_next (l : List Tube) (add : List Int) (h : add.length = l.length) (k : Nat) (hk : k < l.length) : (half l add k).set k (tubeAt (settledT l add) k) = half l add (k + 1) := by
  have h1 := settled_len l add h
  apply List.ext_getElem?
  intro j
  unfold half tubeAt
  rw [List.getElem?_set]
  by_cases e : k = j
  · subst e
    rw [if_pos rfl, if_pos (by simp; omega), List.getElem?_append_left (by simp; omega), List.getElem?_take, if_pos (by omega), List.getD_eq_getElem?_getD, List.getElem?_eq_getElem (by omega)]
    rfl
  · rw [if_neg e]
    rcases Nat.lt_or_ge j k with hj | hj
    · rw [List.getElem?_append_left (by simp; omega), List.getElem?_append_left (by simp; omega), List.getElem?_take, List.getElem?_take, if_pos hj, if_pos (by omega)]
    · rw [List.getElem?_append_right (by simp; omega), List.getElem?_append_right (by simp; omega), List.length_take, List.length_take, h1, Nat.min_eq_left (by omega), Nat.min_eq_left (by omega), List.getElem?_drop, List.getElem?_drop]
      congr 1
      omega
theorem half_all (l : List Tube) (add : List Int) (h : add.length = l.length) : half l add l.length = settledT l add := by
  unfold half
  rw [List.drop_length, List.append_nil, ← settled_len l add h, List.take_length]
theorem restL_get (l : List Tube) (add : List Int) (h : add.length = l.length) (k : Nat) (hk : k < l.length) : (restL l add).getD k 0 = (add.getD k 0 - min (add.getD k 0) ((tubeAt l k).most - (tubeAt l k).count)) * (tubeAt l k).value := by
  unfold tubeAt restL
  rw [List.getD_eq_getElem?_getD, List.getD_eq_getElem?_getD, List.getD_eq_getElem?_getD, List.getElem?_zipWith, List.getElem?_eq_getElem hk, List.getElem?_eq_getElem (by omega)]
  rfl
theorem restL_mem (l : List Tube) (add : List Int) (ho : OkTubes l) (ha : OkAdd l add) : ∀ x ∈ restL l add, 0 ≤ x ∧ x ≤ 10000000000 := by
  intro x hm
  obtain ⟨k, hk, rfl⟩ := List.getElem_of_mem hm
  have hkl : k < l.length := by simp [restL] at hk; omega
  have hg := restL_get l add ha.1 k hkl
  rw [getD_eq _ _ _ hk] at hg
  rw [hg, Int.mul_comm]
  have hb := ha.2 _ (show add.getD k 0 ∈ add by rw [getD_eq _ _ _ (by have := ha.1; omega)]; exact List.getElem_mem _)
  have o := ho.ok k hkl
  have := o.c0
  have := o.c1
  have := o.m1
  exact tube_prod ho k hkl _ (by omega) (by omega)
/-- Settling loses no coin. -/
theorem settle_even (l : List Tube) (add : List Int) (h : add.length = l.length) : totT l + worthM l add = totT (settledT l add) + restT l add := by
  have key : ∀ (l : List Tube) (add : List Int), add.length = l.length → (l.map fun t => t.value * t.count).sum + (List.zipWith (fun x (t : Tube) => x * t.value) add l).sum = ((List.zipWith putIn add l).map fun t => t.value * t.count).sum + (List.zipWith (fun x (t : Tube) => (x - min x (t.most - t.count)) * t.value) add l).sum := by
    intro l
    induction l with
    | nil => intro add h; cases add <;> simp at *
    | cons t l ih =>
      intro add h
      cases add with
      | nil => simp at h
      | cons x add =>
        have := ih add (by simpa using h)
        simp only [List.map_cons, List.sum_cons, List.zipWith_cons_cons]
        have e : t.value * (putIn x t).count = t.value * t.count + t.value * min x (t.most - t.count) := by simp only [putIn]; rw [Int.mul_add]
        have e2 : (putIn x t).value = t.value := rfl
        rw [e2, e]
        have e3 : (x - min x (t.most - t.count)) * t.value = x * t.value - t.value * min x (t.most - t.count) := by rw [Int.sub_mul, Int.mul_comm (min x (t.most - t.count))]
        rw [e3]
        omega
  exact key l add h
theorem settled_ok (l : List Tube) (add : List Int) (ho : OkTubes l) (ha : OkAdd l add) : OkTubes (settledT l add) := by
  have hl := settled_len l add ha.1
  refine ⟨by rw [hl]; exact ho.len, fun i hi => ?_⟩
  rw [hl] at hi
  have g := settled_get l add ha.1 i hi
  have o := ho.ok i hi
  have hb := ha.2 _ (show add.getD i 0 ∈ add by rw [getD_eq _ _ _ (by have := ha.1; omega)]; exact List.getElem_mem _)
  have := o.c0
  have := o.c1
  refine ⟨?_, ?_, ?_, ?_, ?_, ?_, ?_⟩
  · rw [g]; exact o.v0
  · rw [g]; exact o.v1
  · intro h0
    have g' := settled_get l add ha.1 (i - 1) (by omega)
    rw [g, g']; exact o.up h0
  · rw [g]; exact o.m0
  · rw [g]; exact o.m1
  · rw [g]; simp only [putIn]; omega
  · rw [g]; simp only [putIn]; omega
end Go.Proofs.Ytlpkancpjdihgaa
