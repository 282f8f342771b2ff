/- Plain: sums of lists of ints, taken step by step. -/

namespace Go.Proofs.YtdminjijhpemkaaGreatDoor

theorem sum_next (L : List Int) (k : Nat) (h : k < L.length) : (L.take (k + 1)).sum = (L.take k).sum + L.getD k 0 := by
  rw [List.take_succ_eq_append_getElem h, List.sum_append, List.getD_eq_getElem?_getD, List.getElem?_eq_getElem h]
  simp
theorem sum_bound (L : List Int) (A B : Int) (hA : A ≤ 0) (hB : 0 ≤ B) (h : ∀ x ∈ L, A ≤ x ∧ x ≤ B) (k : Nat) : A * k ≤ (L.take k).sum ∧ (L.take k).sum ≤ B * k := by
  induction k with
  | zero => simp
  | succ k ih =>
    rcases Nat.lt_or_ge k L.length with hk | hk
    · rw [sum_next L k hk]
      have hm : L.getD k 0 ∈ L := by
        rw [List.getD_eq_getElem?_getD, List.getElem?_eq_getElem hk]
        exact List.getElem_mem hk
      have := h _ hm
      have e1 : A * ((k + 1 : Nat) : Int) = A * k + A := by rw [Int.natCast_add, Int.mul_add]; simp
      have e2 : B * ((k + 1 : Nat) : Int) = B * k + B := by rw [Int.natCast_add, Int.mul_add]; simp
      omega
    · have e : L.take (k + 1) = L.take k := by rw [List.take_of_length_le (by omega), List.take_of_length_le hk]
      have e1 : A * ((k + 1 : Nat) : Int) = A * k + A := by rw [Int.natCast_add, Int.mul_add]; simp
      have e2 : B * ((k + 1 : Nat) : Int) = B * k + B := by rw [Int.natCast_add, Int.mul_add]; simp
      rw [e]
      omega
theorem sum_bound_all (L : List Int) (A B : Int) (hA : A ≤ 0) (hB : 0 ≤ B) (h : ∀ x ∈ L, A ≤ x ∧ x ≤ B) : A * L.length ≤ L.sum ∧ L.sum ≤ B * L.length := by
  have := sum_bound L A B hA hB h L.length
  rwa [List.take_length] at this
end Go.Proofs.YtdminjijhpemkaaGreatDoor
