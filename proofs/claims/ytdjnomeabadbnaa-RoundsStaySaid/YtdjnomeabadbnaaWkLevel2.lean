/- round.Level. -/
import Derived.Test.YtdjnomeabadbnaaWkLevel
namespace Go.Proofs.Ytdjnomeabadbnaa
open Go.RowKit

theorem own_mk0 {w : World} {g base n : Nat} (h : w.heap[g]? = some (.cells (madeCells #[Value.int .i64 0] n) 3 (0, 0))) (hb : base ≤ g) (hn : n ≤ 1000) : w.ownsRow base 3 1 (.slice (some ⟨g, 0, none⟩) n n) n (ints (List.replicate n 0)) := by
  have e1 : (madeCells #[Value.int .i64 0] n).toList = ints (List.replicate n 0) := by
    rw [toList_madeCells_one]; simp [ints]
  have e2 : (madeCells #[Value.int .i64 0] n).size = n := by rw [← Array.length_toList, e1]; simp [ints]
  refine ⟨by simp [ints], .inr ⟨g, n, _, rfl, hb, h, Nat.le_refl _, by unfold maxLen; omega, by omega, ?_⟩⟩
  rw [e1, List.take_of_length_le (by simp [ints])]
theorem heap_2 (w : World) (o1 o2 : Obj) : ((w.alloc o1).alloc o2).heap[w.heap.size]? = some o1 ∧ ((w.alloc o1).alloc o2).heap[w.heap.size + 1]? = some o2 := by
  refine ⟨by rw [heap_alloc_old (h := by simp)]; exact heap_alloc_new w o1, ?_⟩
  have := heap_alloc_new (w.alloc o1) o2
  simpa using this
def LevelPost (J : List Int) (D n : Nat) (w : World) (e : Ending) (w' : World) : Prop :=
  ∃ v b load, e = .returned (.tuple #[v, .int .i64 load, .int .i64 0]) ∧ w'.ownsRow w.heap.size 3 1 v n (ints b) ∧ DaysOk D n b ∧ IsTop (ldL J b D n) load ∧ (∀ Q M, DaysOk D n Q → IsTop (ldL J Q D n) M → load ≤ M) ∧ w.grownBy w' none

end Go.Proofs.Ytdjnomeabadbnaa
