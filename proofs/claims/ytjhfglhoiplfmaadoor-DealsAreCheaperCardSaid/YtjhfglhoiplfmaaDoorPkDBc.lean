/- depot.CheckWallet of a right wallet. -/
import Derived.Test.YtjhfglhoiplfmaaDoorPkDAz
import Derived.Test.YtjhfglhoiplfmaaDoorPkDBa
import Derived.Test.YtjhfglhoiplfmaaDoorPkDBb
import Derived.Deep.RegionHeld3
import Derived.Deep.CutRange
import Derived.Test.YtjhfglhoiplfmaaDoorPkDAa
namespace Go.Proofs.YtjhfglhoiplfmaaDoor
open Go.RowKit

theorem wal_mem {A : Wal} {X : Int} (h : WOk A X) : ∀ x ∈ A.T.flatten ++ A.U, 0 ≤ x ∧ x ≤ X := by
  intro x hx
  rcases List.mem_append.1 hx with hx | hx
  · obtain ⟨row, hrow, hx⟩ := List.mem_flatten.1 hx
    obtain ⟨i, hi, rfl⟩ := List.getElem_of_mem hrow
    obtain ⟨j, hj, rfl⟩ := List.getElem_of_mem hx
    have hi3 : i < 3 := by have := h.form.lenT; omega
    have hl := h.form.lenR i hi3
    have hr := h.r0 i j hi3
    unfold Wal.r at hr
    rw [getD_eq _ _ _ hi] at hl
    simp only [getD_eq _ _ _ hi] at hr
    simp only [getD_eq _ _ _ hj] at hr
    exact hr (by omega)
  · obtain ⟨i, hi, rfl⟩ := List.getElem_of_mem hx
    have hi3 : i < 3 := by have := h.form.lenU; omega
    have hu := h.u0 i hi3
    unfold Wal.u at hu
    rw [getD_eq _ _ _ hi] at hu
    exact hu
theorem wal_len {A : Wal} (h : WForm A) : A.T.flatten.length = 9 := by
  have h1 := h.lenT
  have h2 := h.lenR
  match hT : A.T, h1, h2 with
  | [a, b, c], _, h2 =>
    have e0 := h2 0 (by omega)
    have e1 := h2 1 (by omega)
    have e2 := h2 2 (by omega)
    simp at e0 e1 e2
    simp [e0, e1, e2]
/-- Rows of a wallet, as Concat asks for them. -/
theorem WalAt.rows {w : World} {B : Nat → Prop} {x y z : Value} {A : Wal} (h : WalAt w B x y z A) (hf : WForm A) : ∃ b o c, y = .slice (some ⟨b, o, none⟩) 3 c ∧ ∀ i, i < 3 → ∃ ra rc, w.cell? ⟨b, o + i, none⟩ = some (.slice ra (A.T.getD i []).length rc) ∧ CellsAt w ra (ints (A.T.getD i [])) ∧ (ra = none → rc = 0) := by
  obtain ⟨b, o, c, rfl, _, _, h2⟩ := h.r
  refine ⟨b, o, c, rfl, fun i hi => ?_⟩
  obtain ⟨b2, o2, c2, h3, _, _, h4⟩ := h2 i hi
  have hl := hf.lenR i hi
  refine ⟨_, c2, by rw [hl]; exact h3, ?_, fun h => by cases h⟩
  intro j v hj
  have hj3 : j < 3 := by have := (List.getElem?_eq_some_iff.1 hj).1; simp only [ints, List.length_map] at this; omega
  rw [ints_get _ j (by omega)] at hj
  cases hj
  exact ⟨b2, o2, rfl, h4 j hj3⟩
theorem WalAt.used {w : World} {B : Nat → Prop} {x y z : Value} {A : Wal} (h : WalAt w B x y z A) (hf : WForm A) : ∃ b o c, z = .slice (some ⟨b, o, none⟩) 3 c ∧ c ≤ maxLen ∧ CellsAt w (some ⟨b, o, none⟩) (ints A.U) := by
  obtain ⟨b, o, c, rfl, hm, _, h2⟩ := h.u
  refine ⟨b, o, c, rfl, hm, ?_⟩
  intro j v hj
  have hl := hf.lenU
  have hj3 : j < 3 := by have := (List.getElem?_eq_some_iff.1 hj).1; simp only [ints, List.length_map] at this; omega
  rw [ints_get _ j (by omega)] at hj
  cases hj
  exact ⟨b, o, rfl, h2 j hj3⟩

end Go.Proofs.YtjhfglhoiplfmaaDoor

/-! Small functions of package depot: more, done; the places of sites. -/
namespace Go.Proofs.YtjhfglhoiplfmaaDoor
open Go.RowKit

end Go.Proofs.YtjhfglhoiplfmaaDoor

/-! depot.places: the numbers of sites. -/
namespace Go.Proofs.YtjhfglhoiplfmaaDoor
open Go.RowKit

def PlacesPost (L : List Nat) (w : World) (e : Ending) (w' : World) : Prop := ∃ v, e = .returned (.tuple #[v, .int .i64 0]) ∧ w'.ownsRow w.heap.size 3 1 v L.length (ints (L.map fun n : Nat => (n : Int))) ∧ w.grownBy w' none

end Go.Proofs.YtjhfglhoiplfmaaDoor
