/- Plain: rows of Pascal's triangle. -/
namespace Go.Proofs.Ytlpkancpjdihgaa

/-- The next row, i of its inner numbers reckoned. -/
def pstep (row : List Int) (i : Nat) : List Int := (List.range (row.length + 1)).map fun j => if 1 ≤ j ∧ j < i then row.getD (j - 1) 0 + row.getD j 0 else (row ++ [1]).getD j 0
def pascal : Nat → List Int
  | 0 => [1]
  | n + 1 => pstep (pascal n) (pascal n).length

theorem pstep_length (row : List Int) (i : Nat) : (pstep row i).length = row.length + 1 := by simp [pstep]
theorem pascal_length (n : Nat) : (pascal n).length = n + 1 := by
  induction n with
  | zero => rfl
  | succ n ih => rw [pascal, pstep_length, ih]
theorem pstep_one (row : List Int) : pstep row 1 = row ++ [1] := by
  apply List.ext_getElem
  · simp [pstep]
  · intro j h1 h2
    simp only [pstep, List.getElem_map, List.getElem_range]
    rw [if_neg (by omega), List.getD_eq_getElem?_getD, List.getElem?_eq_getElem h2]
    rfl
theorem pstep_set (row : List Int) (i : Nat) (h1 : 1 ≤ i) : (pstep row i).set i (row.getD (i - 1) 0 + row.getD i 0) = pstep row (i + 1) := by
  apply List.ext_getElem
  · simp [pstep]
  · intro j h3 h4
    rw [List.getElem_set]
    simp only [pstep, List.getElem_map, List.getElem_range]
    by_cases e : i = j
    · subst e; rw [if_pos rfl, if_pos (by omega)]
    · rw [if_neg e]
      by_cases h : 1 ≤ j ∧ j < i
      · rw [if_pos h, if_pos (by omega)]
      · rw [if_neg h, if_neg (by omega)]

/-- Entries of row n lie between 0 and 2 to the n. -/
theorem pascal_bound (n : Nat) : ∀ x ∈ pascal n, 0 ≤ x ∧ x ≤ 2 ^ n := by
  induction n with
  | zero => intro x hx; simp [pascal] at hx; subst hx; decide
  | succ n ih =>
    have hp : (0 : Int) < 2 ^ n := Int.pow_pos (by decide)
    have hd : (2 : Int) ^ (n + 1) = 2 * 2 ^ n := by rw [Int.pow_succ]; omega
    have hg : ∀ j, 0 ≤ (pascal n).getD j 0 ∧ (pascal n).getD j 0 ≤ 2 ^ n := by
      intro j
      rw [List.getD_eq_getElem?_getD]
      cases h : (pascal n)[j]? with
      | none => simp; omega
      | some y => simpa using ih y (List.mem_of_getElem? h)
    intro x hx
    simp only [pascal, pstep, List.mem_map, List.mem_range] at hx
    obtain ⟨j, hj, rfl⟩ := hx
    split
    · have a := hg (j - 1); have b := hg j; omega
    · rw [List.getD_eq_getElem?_getD, List.getElem?_append]
      split
      · have b := hg j; rw [List.getD_eq_getElem?_getD] at b; omega
      · cases hh : ([1] : List Int)[j - (pascal n).length]? with
        | none => simp; omega
        | some y =>
          have : y ∈ ([1] : List Int) := List.mem_of_getElem? hh
          simp at this
          subst this
          simp; omega

def headsZ (n k : Nat) : Int := ((pascal n).drop k).sum

theorem pascal_out (n j : Nat) (h : n < j) : (pascal n).getD j 0 = 0 := by
  rw [List.getD_eq_getElem?_getD, List.getElem?_eq_none (by rw [pascal_length]; omega)]
  rfl
theorem pascal_get (n j : Nat) (h : j ≤ n + 1) : (pascal (n + 1)).getD j 0 = if 1 ≤ j ∧ j < n + 1 then (pascal n).getD (j - 1) 0 + (pascal n).getD j 0 else (pascal n ++ [1]).getD j 0 := by
  show (pstep (pascal n) (pascal n).length).getD j 0 = _
  rw [pascal_length, List.getD_eq_getElem?_getD, List.getElem?_eq_getElem (by rw [pstep_length, pascal_length]; omega)]
  simp only [pstep, List.getElem_map, List.getElem_range, Option.getD_some]
theorem pascal_last (n : Nat) : (pascal n).getD n 0 = 1 := by
  cases n with
  | zero => rfl
  | succ n =>
    rw [pascal_get _ _ (by omega), if_neg (by omega), List.getD_eq_getElem?_getD, List.getElem?_append_right (by rw [pascal_length]; omega), pascal_length]
    simp
theorem pascal_rec (n j : Nat) : (pascal (n + 1)).getD (j + 1) 0 = (pascal n).getD j 0 + (pascal n).getD (j + 1) 0 := by
  rcases Nat.lt_trichotomy j n with h | h | h
  · rw [pascal_get _ _ (by omega), if_pos (by omega)]; rfl
  · subst h; rw [pascal_last, pascal_last, pascal_out _ _ (by omega)]; rfl
  · rw [pascal_out _ _ (by omega), pascal_out _ _ h, pascal_out _ _ (by omega)]; rfl
theorem drop_sum (l : List Int) (k : Nat) : (l.drop k).sum = l.getD k 0 + (l.drop (k + 1)).sum := by
  rcases Nat.lt_or_ge k l.length with h | h
  · rw [List.drop_eq_getElem_cons h, List.sum_cons, List.getD_eq_getElem?_getD, List.getElem?_eq_getElem h]; rfl
  · rw [List.drop_of_length_le h, List.drop_of_length_le (by omega), List.getD_eq_getElem?_getD, List.getElem?_eq_none h]; rfl
theorem headsZ_out (n k : Nat) (h : n < k) : headsZ n k = 0 := by
  unfold headsZ
  rw [List.drop_of_length_le (by rw [pascal_length]; omega)]
  rfl
theorem headsZ_rec (n k : Nat) : headsZ (n + 1) (k + 1) = headsZ n k + headsZ n (k + 1) := by
  have h : ∀ m k, n + 1 - k ≤ m → headsZ (n + 1) (k + 1) = headsZ n k + headsZ n (k + 1) := by
    intro m
    induction m with
    | zero => intro k hk; rw [headsZ_out _ _ (by omega), headsZ_out _ _ (by omega), headsZ_out _ _ (by omega)]; rfl
    | succ m ih =>
      intro k hk
      have h1 := drop_sum (pascal (n + 1)) (k + 1)
      have h2 := drop_sum (pascal n) k
      have h3 := drop_sum (pascal n) (k + 1)
      have h4 := pascal_rec n k
      have h5 := ih (k + 1) (by omega)
      unfold headsZ at *
      omega
  exact h _ k (Nat.le_refl _)
theorem headsZ_step (n k : Nat) : headsZ n (k + 1) ≤ headsZ n k := by
  have h := drop_sum (pascal n) k
  have : 0 ≤ (pascal n).getD k 0 := by
    rw [List.getD_eq_getElem?_getD]
    cases h : (pascal n)[k]? with
    | none => simp
    | some y => exact (pascal_bound n y (List.mem_of_getElem? h)).1
  unfold headsZ
  omega
theorem pascal_first (n : Nat) : (pascal n).getD 0 0 = 1 := by
  induction n with
  | zero => rfl
  | succ n ih =>
    rw [pascal_get _ _ (by omega), if_neg (by omega), List.getD_eq_getElem?_getD, List.getElem?_append_left (by rw [pascal_length]; omega)]
    rw [List.getD_eq_getElem?_getD] at ih
    exact ih
theorem headsZ_all (n : Nat) : headsZ n 0 = 2 ^ n := by
  induction n with
  | zero => rfl
  | succ n ih =>
    have h1 := drop_sum (pascal (n + 1)) 0
    have h2 := drop_sum (pascal n) 0
    have h3 := pascal_first n
    have h4 := pascal_first (n + 1)
    have h5 := headsZ_rec n 0
    have hd : (2 : Int) ^ (n + 1) = 2 * 2 ^ n := by rw [Int.pow_succ]; omega
    unfold headsZ at *
    omega
/-- k heads and n - k + 1 heads leave everything. -/
theorem headsZ_both (n k : Nat) (h : k ≤ n + 1) : headsZ n k + headsZ n (n + 1 - k) = 2 ^ n := by
  induction n generalizing k with
  | zero =>
    rcases Nat.lt_or_ge k 1 with h1 | h1
    · obtain rfl : k = 0 := by omega
      rfl
    · obtain rfl : k = 1 := by omega
      rfl
  | succ n ih =>
    have hd : (2 : Int) ^ (n + 1) = 2 * 2 ^ n := by rw [Int.pow_succ]; omega
    cases k with
    | zero => rw [headsZ_all, headsZ_out _ _ (by omega)]; omega
    | succ k =>
      rcases Nat.lt_or_ge n k with h1 | h1
      · obtain rfl : k = n + 1 := by omega
        rw [headsZ_out _ _ (by omega), show n + 1 + 1 - (n + 1 + 1) = 0 by omega, headsZ_all]; omega
      · have a := ih k (by omega)
        have b := ih (k + 1) (by omega)
        have c := headsZ_rec n k
        have d := headsZ_rec n (n - k)
        rw [show n + 1 + 1 - (k + 1) = n - k + 1 by omega]
        rw [show n + 1 - k = n - k + 1 by omega] at a
        rw [show n + 1 - (k + 1) = n - k by omega] at b
        omega
theorem headsZ_nonneg (n k : Nat) : 0 ≤ headsZ n k := by
  have h : ∀ m k, n + 1 - k ≤ m → 0 ≤ headsZ n k := by
    intro m
    induction m with
    | zero => intro k hk; rw [headsZ_out _ _ (by omega)]; exact Int.le_refl _
    | succ m ih => intro k hk; exact Int.le_trans (ih (k + 1) (by omega)) (headsZ_step n k)
  exact h _ k (Nat.le_refl _)
theorem headsZ_le (n k : Nat) : headsZ n k ≤ 2 ^ n := by
  induction k with
  | zero => rw [headsZ_all]; exact Int.le_refl _
  | succ k ih => exact Int.le_trans (headsZ_step n k) ih
/-- What is summed so far never passes the whole. -/
theorem take_sum_le (n k i : Nat) : 0 ≤ (((pascal n).drop k).take i).sum ∧ (((pascal n).drop k).take i).sum ≤ headsZ n k := by
  have key : ∀ (l : List Int), (∀ x ∈ l, 0 ≤ x) → ∀ i, 0 ≤ (l.take i).sum ∧ (l.take i).sum ≤ l.sum := by
    intro l
    induction l with
    | nil => intro _ i; simp
    | cons a l ih =>
      intro h i
      have ha := h a (by simp)
      have hl := ih (fun x hx => h x (by simp [hx]))
      cases i with
      | zero => have := hl l.length; simp at this; simp; omega
      | succ i => have := hl i; simp only [List.take_succ_cons, List.sum_cons]; omega
  exact key _ (fun x hx => (pascal_bound n x (List.mem_of_mem_drop hx)).1) i
theorem take_sum_succ (l : List Int) (k i : Nat) (h : k + i < l.length) : ((l.drop k).take i).sum + l.getD (k + i) 0 = ((l.drop k).take (i + 1)).sum := by
  have h' : i < (l.drop k).length := by rw [List.length_drop]; omega
  rw [List.take_succ_eq_append_getElem h', List.sum_append, List.getElem_drop, List.getD_eq_getElem?_getD, List.getElem?_eq_getElem h]
  simp
end Go.Proofs.Ytlpkancpjdihgaa
