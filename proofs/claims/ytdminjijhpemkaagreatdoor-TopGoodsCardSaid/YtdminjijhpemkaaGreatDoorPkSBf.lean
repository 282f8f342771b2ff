/- The statements' word that the package counts. -/
import Derived.Test.YtdminjijhpemkaaGreatDoorPkSAn
import Derived.Test.YtdminjijhpemkaaGreatDoorPkSBe
namespace Go.Proofs.YtdminjijhpemkaaGreatDoor
open Go.RowKit
attribute [local go_sem ↓] Go.wp_at_zero Go.wp_at_succ

theorem share_12 {P : List Int} (h : ShareOk 3 3 [1, 2] P) : P = [1, 2] := by
  have h0 := h.each 0 (by decide)
  have h1 := h.each 1 (by decide)
  have hl := h.len
  have hs := h.all
  match P, hl with
  | [a, b], _ =>
    have e0 : (quoL 3 3 [1, 2]).getD 0 0 = 1 := by decide
    have e1 : (quoL 3 3 [1, 2]).getD 1 0 = 2 := by decide
    rw [e0] at h0
    rw [e1] at h1
    simp at h0 h1 hs
    have ea : a = 1 := by omega
    have eb : b = 2 := by omega
    rw [ea, eb]
end Go.Proofs.YtdminjijhpemkaaGreatDoor
