/- Package vend: which coins tubes should have. -/
import Derived.Test.YtdjnomeabadbnaaDoorVend2
import Derived.Test.YtdjnomeabadbnaaDoorMakeInts
namespace Go.Proofs.YtdjnomeabadbnaaDoor
open Go.RowKit

/-- What numbers of coins, for tubes, are worth together. -/
def FitsT (l : List Tube) (f : List Int) : Prop := f.length = l.length ∧ ∀ k, k < l.length → 0 ≤ f.getD k 0 ∧ f.getD k 0 ≤ (tubeAt l k).most
theorem worth_set (l : List Tube) (f : List Int) (k : Nat) (h : f.length = l.length) (hk : k < l.length) : worthM l (f.set k (f.getD k 0 + 1)) = worthM l f + (tubeAt l k).value := by
  have key : ∀ (l : List Tube) (f : List Int) (k : Nat), f.length = l.length → k < l.length → (List.zipWith (fun x (t : Tube) => x * t.value) (f.set k (f.getD k 0 + 1)) l).sum = (List.zipWith (fun x (t : Tube) => x * t.value) f l).sum + (l.getD k ⟨0, 0, 0⟩).value := by
    intro l
    induction l with
    | nil => intro f k _ hk; simp at hk
    | cons t l ih =>
      intro f k h hk
      cases f with
      | nil => simp at h
      | cons x f =>
        cases k with
        | zero => simp [Int.add_mul]; omega
        | succ k =>
          have := ih f k (by simpa using h) (by simpa using hk)
          simp at this
          simp [this]; omega
  exact key l f k h hk
theorem fits_set {l : List Tube} {f : List Int} {k : Nat} (h : FitsT l f) (hk : k < l.length) (hm : f.getD k 0 < (tubeAt l k).most) : FitsT l (f.set k (f.getD k 0 + 1)) := by
  refine ⟨by simp [h.1], fun j hj => ?_⟩
  have hb := h.2 j hj
  rw [List.getD_eq_getElem?_getD, List.getElem?_set]
  by_cases e : k = j
  · subst e
    rw [if_pos rfl, if_pos (by rw [h.1]; exact hk)]
    simp only [Option.getD_some]
    omega
  · rw [if_neg e, ← List.getD_eq_getElem?_getD]
    exact hb
theorem fits_zero (l : List Tube) (ho : OkTubes l) : FitsT l (List.replicate l.length 0) := by
  refine ⟨by simp, fun k hk => ?_⟩
  have := (ho.ok k hk).m0
  rw [List.getD_eq_getElem?_getD, List.getElem?_replicate, if_pos hk]
  simpa using this
theorem worth_zero (l : List Tube) (n : Nat) : worthM l (List.replicate n 0) = 0 := by
  have key : ∀ (l : List Tube) (n : Nat), (List.zipWith (fun x (t : Tube) => x * t.value) (List.replicate n 0) l).sum = 0 := by
    intro l
    induction l with
    | nil => intro n; simp
    | cons t l ih => intro n; cases n <;> simp [List.replicate_succ, ih]
  exact key l n

theorem own_of_heap {w w' : World} {base e size n : Nat} {v : Value} {xs : List Value} (h : w.ownsRow base e size v n xs) (he : w'.heap = w.heap) : w'.ownsRow base e size v n xs := by
  unfold World.ownsRow at *
  rw [he]
  exact h
def boolOf : Value → Bool | .bool b => b | _ => false

theorem take_drop_set (V f : List Int) (k : Nat) (hV : k < V.length) (hf : k < f.length) : (V.take k ++ f.drop k).set k (V.getD k 0) = V.take (k + 1) ++ f.drop (k + 1) := by
  rw [List.drop_eq_getElem_cons hf, List.set_append_right _ _ (by simp; omega), List.length_take, Nat.min_eq_left (by omega), Nat.sub_self, List.set_cons_zero, List.take_succ_eq_append_getElem hV, List.getD_eq_getElem?_getD, List.getElem?_eq_getElem hV, List.append_assoc]
  rfl

def FloatPost (l : List Tube) (want : Int) (w : World) (e : Ending) (w' : World) : Prop :=
  ∃ v f, e = .returned (.tuple #[v, .int .i64 0]) ∧ w'.ownsRow w.heap.size 3 1 v l.length (ints f) ∧ w.grownBy w' none ∧ ∃ g, FitsT l g ∧ worthM l g ≤ want ∧ f.length = l.length ∧ ∀ k, k < l.length → f.getD k 0 = g.getD k 0 - (tubeAt l k).count

end Go.Proofs.YtdjnomeabadbnaaDoor
