/- The place of the first element that has a property. No program in sight. -/
namespace Go.Proofs.Ytbgfflbddflokaa

def findA {α : Type} (P : α → Bool) (xs : List α) : Int := if xs.findIdx P < xs.length then (xs.findIdx P : Nat) else -1
theorem findA_at {α : Type} {P : α → Bool} {xs : List α} {k : Nat} (hk : k < xs.length) (hp : P xs[k] = true) (hno : ∀ j (hj : j < k), P (xs[j]'(by omega)) = false) : findA P xs = k := by
  have : xs.findIdx P = k := by
    rw [List.findIdx_eq hk]
    exact ⟨hp, fun j hj => hno j hj⟩
  unfold findA
  rw [this, if_pos hk]
theorem findA_none {α : Type} {P : α → Bool} {xs : List α} (hno : ∀ j (hj : j < xs.length), P xs[j] = false) : findA P xs = -1 := by
  have : ¬ xs.findIdx P < xs.length := by
    rw [List.findIdx_lt_length]
    rintro ⟨y, hy, hpy⟩
    obtain ⟨j, hj, rfl⟩ := List.getElem_of_mem hy
    rw [hno j hj] at hpy
    cases hpy
  unfold findA
  rw [if_neg this]
theorem any_findA {α : Type} (P : α → Bool) (xs : List α) : xs.any P = decide (0 ≤ findA P xs) := by
  unfold findA
  by_cases h : xs.findIdx P < xs.length
  · rw [if_pos h, List.any_eq_true.2 (List.findIdx_lt_length.1 h)]; simp
  · rw [if_neg h]
    have : xs.any P = false := by
      rw [List.any_eq_false]
      intro x hx hp
      exact h (List.findIdx_lt_length.2 ⟨x, hx, hp⟩)
    rw [this]; rfl
end Go.Proofs.Ytbgfflbddflokaa
