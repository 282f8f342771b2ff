/- A cell of a row of structs is written. Of no program. -/
import Derived.Test.YtakabckmiodjaaaDoorPkDAb
namespace Go.Proofs.YtakabckmiodjaaaDoor
open Go.RowKit

/-- A cell of an element of an owned row: what it holds, that it may be written, and the row behind that. -/
theorem own_cellE {α : Type} {enc : α → List Value} {m : Nat} (hm : ∀ a, (enc a).length = m) {w : World} {base e n cap g : Nat} {l : List α} (h : w.ownsRow base e m (.slice (some ⟨g, 0, none⟩) n cap) n (flat enc l)) (k : Nat) (hk : k < l.length) (j : Nat) (hj : j < m) (v : Value) (hv : (enc l[k])[j]? = some v) (hn : l.length = n) :
    w.cell? ⟨g, k * m + j, none⟩ = some v ∧ w.frozen? ⟨g, k * m + j, none⟩ = false ∧ ∀ u x, (enc l[k]).set j u = enc x → (w.setCell ⟨g, k * m + j, none⟩ u).ownsRow base e m (.slice (some ⟨g, 0, none⟩) n cap) n (flat enc (l.set k x)) := by
  have hlt : k * m + j < n * m := by
    have : (k + 1) * m ≤ n * m := Nat.mul_le_mul_right m (by omega)
    rw [Nat.add_mul] at this
    omega
  refine ⟨by rw [h.cellAt (k * m + j) hlt, flat_get hm _ k hk j hj]; exact hv, h.frozenAt _, fun u x hx => ?_⟩
  rw [← flat_set hm l k hk j hj u x hx]
  exact (h.stored _ _).1
end Go.Proofs.YtakabckmiodjaaaDoor
