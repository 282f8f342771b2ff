/- What the law of the coils asks at the end: the lots' days, whether pieces are sorted. -/
import Derived.Test.YtdminjijhpemkaaGreatDoorPkSAr
import Derived.Test.YtdminjijhpemkaaGreatDoorPkSAt
namespace Go.Proofs.YtdminjijhpemkaaGreatDoor
open Go.RowKit
attribute [local go_sem ↓] Go.wp_at_zero Go.wp_at_succ

/-! No program in sight. -/
/-- A number of the lots does not fall along the pieces: nor does it along the joined ones. -/
theorem joinL_mono (E : ByteArray → Int) (l : List Piece) (h : ∀ p q, p < q → q < l.length → E (pcLot l p) ≤ E (pcLot l q)) : ∀ i, i + 1 < (joinL l).length → E (pcLot (joinL l) i) ≤ E (pcLot (joinL l) (i + 1)) := by
  have key : ∀ k, k ≤ l.length → (0 < k → 0 < (joinTo l k).length ∧ pcLot (joinTo l k) ((joinTo l k).length - 1) = pcLot l (k - 1)) ∧ ∀ i, i + 1 < (joinTo l k).length → E (pcLot (joinTo l k) i) ≤ E (pcLot (joinTo l k) (i + 1)) := by
    intro k
    induction k with
    | zero => exact fun _ => ⟨fun h => by omega, fun i hi => by simp [joinTo] at hi⟩
    | succ k ih =>
      intro hk
      obtain ⟨h1, h2⟩ := ih (by omega)
      have hst : joinTo l (k + 1) = joinStep (joinTo l k) (pcLot l k) (pcMany l k) := rfl
      rw [hst]
      unfold joinStep
      split
      · rename_i hla
        unfold lastIs at hla
        simp only [Bool.and_eq_true, decide_eq_true_eq] at hla
        obtain ⟨h0, he⟩ := hla
        have he := bytes_of (by simpa using he)
        obtain ⟨D, y, hD, e1, e2, e3⟩ := pc_last h0
        have hlen : (joinTo l k).length = D.length + 1 := by rw [hD]; simp
        rw [e1] at he
        rw [e1, e2, e3]
        have hlot : ∀ i, i ≤ D.length → pcLot (D ++ [⟨y.lot, y.many + pcMany l k⟩]) i = pcLot (joinTo l k) i := by
          intro i hi
          rw [hD]
          by_cases hil : i < D.length
          · rw [pcLot_app_left _ _ _ hil, pcLot_app_left _ _ _ hil]
          · obtain rfl : i = D.length := by omega
            rw [pcLot_snoc, pcLot_snoc]
        refine ⟨fun _ => ⟨by simp, ?_⟩, fun i hi => ?_⟩
        · have : (D ++ [(⟨y.lot, y.many + pcMany l k⟩ : Piece)]).length - 1 = D.length := by simp
          rw [this, pcLot_snoc]
          exact he
        · simp only [List.length_append, List.length_cons, List.length_nil] at hi
          rw [hlot i (by omega), hlot (i + 1) (by omega)]
          exact h2 i (by omega)
      · refine ⟨fun _ => ⟨by simp, ?_⟩, fun i hi => ?_⟩
        · have : (joinTo l k ++ [(⟨pcLot l k, pcMany l k⟩ : Piece)]).length - 1 = (joinTo l k).length := by simp
          rw [this, pcLot_snoc]
          rfl
        · simp only [List.length_append, List.length_cons, List.length_nil] at hi
          by_cases hil : i + 1 < (joinTo l k).length
          · rw [pcLot_app_left _ _ _ (by omega), pcLot_app_left _ _ _ hil]
            exact h2 i hil
          · have hi2 : i = (joinTo l k).length - 1 := by omega
            have hk0 : 0 < k := by
              rcases Nat.eq_zero_or_pos k with rfl | h
              · simp [joinTo] at hi hil hi2
              · exact h
            obtain ⟨g1, g2⟩ := h1 hk0
            rw [pcLot_app_left _ _ _ (by omega), show i + 1 = (joinTo l k).length by omega, pcLot_snoc, hi2, g2]
            exact h (k - 1) k (by omega) (by omega)
  exact (key l.length (Nat.le_refl _)).2
end Go.Proofs.YtdminjijhpemkaaGreatDoor
