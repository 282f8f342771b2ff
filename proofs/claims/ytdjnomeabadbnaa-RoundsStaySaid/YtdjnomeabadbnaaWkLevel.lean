/- (*leveller).give and round.Level. -/
import Derived.Test.YtdjnomeabadbnaaWkRows
import Derived.Test.YtdjnomeabadbnaaCloneInt
import Derived.Deep.CutRange
namespace Go.Proofs.Ytdjnomeabadbnaa
open Go.RowKit

theorem blk6 {w : World} {g t : Nat} {a b c d e f : Value} (h : w.heap[g]? = some (.cells #[a, b, c, d, e, f] t (0, 0))) :
    (w.cell? ⟨g, 0, none⟩ = some a ∧ w.cell? ⟨g, 1, none⟩ = some b ∧ w.cell? ⟨g, 2, none⟩ = some c ∧ w.cell? ⟨g, 3, none⟩ = some d ∧ w.cell? ⟨g, 4, none⟩ = some e ∧ w.cell? ⟨g, 5, none⟩ = some f) ∧ ∀ j, w.frozen? ⟨g, j, none⟩ = false := by
  simp [World.cell?, World.frozen?, h]
theorem give_ld (J P : List Int) (D t : Nat) (ht : t < D) : ldL J (P ++ [(t : Int)]) D (P ++ [(t : Int)]).length = (ldL J P D P.length).set t ((ldL J P D P.length).getD t 0 + J.getD P.length 0) := by
  have h1 : ldL J (P ++ [(t : Int)]) D P.length = ldL J P D P.length := ldL_congr J D _ (fun i hi => by
    rw [List.getD_eq_getElem?_getD, List.getD_eq_getElem?_getD, List.getElem?_append_left hi])
  rw [List.length_append, List.length_singleton, ldL_step J (P ++ [(t : Int)]) D P.length t ht (by rw [List.getD_eq_getElem?_getD, List.getElem?_append_right (Nat.le_refl _)]; simp), h1]
theorem set_back (L : List Int) (t : Nat) (y x : Int) (hy : y = L.getD t 0) (ht : t < L.length) : (L.set t (y + x)).set t (y + x - x) = L := by
  rw [List.set_set, show y + x - x = y by omega, hy]
  apply list_ext0
  · simp
  · intro i _
    rw [set_get _ _ _ _ ht]
    split
    · rename_i h; rw [h]
    · rfl
end Go.Proofs.Ytdjnomeabadbnaa
