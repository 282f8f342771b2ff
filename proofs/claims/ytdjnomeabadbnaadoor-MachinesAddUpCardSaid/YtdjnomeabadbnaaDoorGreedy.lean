/- vend.Greedy of right tubes. -/
import Derived.Test.YtdjnomeabadbnaaDoorFloat
import Derived.Test.YtdjnomeabadbnaaDoorTable
import Derived.Deep.CutRange
namespace Go.Proofs.YtdjnomeabadbnaaDoor
open Go.RowKit

theorem worth_put (l : List Tube) (f : List Int) (k : Nat) (y : Int) (h : f.length = l.length) (hk : k < l.length) : worthM l (f.set k y) = worthM l f + (y - f.getD k 0) * (tubeAt l k).value := by
  have key : ∀ (l : List Tube) (f : List Int) (k : Nat), f.length = l.length → k < l.length → (List.zipWith (fun x (t : Tube) => x * t.value) (f.set k y) l).sum = (List.zipWith (fun x (t : Tube) => x * t.value) f l).sum + (y - f.getD k 0) * (l.getD k ⟨0, 0, 0⟩).value := by
    intro l
    induction l with
    | nil => intro f k _ hk; simp at hk
    | cons t l ih =>
      intro f k h hk
      cases f with
      | nil => simp at h
      | cons x f =>
        cases k with
        | zero => simp [Int.sub_mul]; omega
        | succ k =>
          have := ih f k (by simpa using h) (by simpa using hk)
          simp at this
          simp [this]; omega
  exact key l f k h hk
def GreedyPost (l : List Tube) (amount : Int) (w : World) (e : Ending) (w' : World) : Prop :=
  ∃ v f rest, e = .returned (.tuple #[v, .int .i64 rest, .int .i64 0]) ∧ w'.ownsRow w.heap.size 3 1 v l.length (ints f) ∧ w.grownBy w' none ∧ f.length = l.length ∧ (∀ k, k < l.length → 0 ≤ f.getD k 0 ∧ f.getD k 0 ≤ (tubeAt l k).count) ∧ 0 ≤ rest ∧ worthM l f + rest = amount

end Go.Proofs.YtdjnomeabadbnaaDoor
