/- Plain: the mean of the week, weighted by the days that are not out, is 1. -/
import Derived.Test.YtlpkancpjdihgaaWeek
namespace Go.Proofs.Ytlpkancpjdihgaa

def sum7 (f : Nat → Int) : Int := f 0 + f 1 + f 2 + f 3 + f 4 + f 5 + f 6
/-- The sum of what is reckoned for each day of the week, over the days that are not out. -/
def overDays (F : Nat → Int) (l : List Sale) : Int := ((l.filter (takes allP)).map fun s => F (s.day % 7).toNat).sum

theorem week_of (s : Sale) : ∃ r : Nat, r < 7 ∧ s.day % 7 = r ∧ (s.day % 7).toNat = r := ⟨(s.day % 7).toNat, by omega, by omega, rfl⟩

theorem cnt_cons (P : Sale → Bool) (s : Sale) (l : List Sale) : cnt P (s :: l) = (if takes P s then 1 else 0) + cnt P l := by
  unfold cnt
  rw [List.filter_cons]
  split <;> simp; omega
theorem tot_cons (P : Sale → Bool) (s : Sale) (l : List Sale) : tot P (s :: l) = (if takes P s then s.sold else 0) + tot P l := by
  unfold tot
  rw [List.filter_cons]
  split <;> simp
theorem over_cons (F : Nat → Int) (s : Sale) (l : List Sale) : overDays F (s :: l) = (if takes allP s then F (s.day % 7).toNat else 0) + overDays F l := by
  unfold overDays
  rw [List.filter_cons]
  split <;> simp
theorem takes_week (s : Sale) (r k : Nat) (h : s.day % 7 = r) : takes (weekP k) s = (takes allP s && decide (r = k)) := by
  unfold takes weekP allP
  rw [h]
  cases s.out <;> simp
  rw [Bool.eq_iff_iff]
  simp
  omega

theorem over_eq (F : Nat → Int) (l : List Sale) : overDays F l = sum7 fun k => (cnt (weekP k) l : Int) * F k := by
  induction l with
  | nil => simp [overDays, sum7, cnt]
  | cons s l ih =>
    obtain ⟨r, hr, hr1, hr2⟩ := week_of s
    rw [over_cons, ih, hr2]
    simp only [sum7, cnt_cons, takes_week s r _ hr1]
    cases takes allP s with
    | false => simp
    | true =>
      rcases (show r = 0 ∨ r = 1 ∨ r = 2 ∨ r = 3 ∨ r = 4 ∨ r = 5 ∨ r = 6 by omega) with e | e | e | e | e | e | e <;> subst e <;> simp <;> grind
theorem tot_eq (l : List Sale) : tot allP l = sum7 fun k => tot (weekP k) l := by
  induction l with
  | nil => simp [sum7, tot]
  | cons s l ih =>
    obtain ⟨r, hr, hr1, hr2⟩ := week_of s
    rw [tot_cons, ih]
    simp only [sum7, tot_cons, takes_week s r _ hr1]
    cases takes allP s with
    | false => simp
    | true =>
      rcases (show r = 0 ∨ r = 1 ∨ r = 2 ∨ r = 3 ∨ r = 4 ∨ r = 5 ∨ r = 6 by omega) with e | e | e | e | e | e | e <;> subst e <;> simp <;> grind
theorem tot_zero (P : Sale → Bool) (l : List Sale) (h : cnt P l = 0) : tot P l = 0 := by
  unfold cnt at h
  unfold tot
  rw [List.eq_nil_of_length_eq_zero h]
  rfl

def cOf (l : List Sale) (k : Nat) : Int := if cnt (weekP k) l = 0 then 1 else cnt (weekP k) l
def bigM (l : List Sale) : Int := cOf l 0 * cOf l 1 * cOf l 2 * cOf l 3 * cOf l 4 * cOf l 5 * cOf l 6
theorem cOf_pos (l : List Sale) (k : Nat) : 1 ≤ cOf l k := by unfold cOf; split <;> omega
theorem mul_pos' {a b : Int} (h : 1 ≤ a) (k : 1 ≤ b) : 1 ≤ a * b := by
  have := Int.mul_le_mul h k (by omega) (by omega)
  omega
theorem bigM_pos (l : List Sale) : 1 ≤ bigM l := by
  unfold bigM
  exact mul_pos' (mul_pos' (mul_pos' (mul_pos' (mul_pos' (mul_pos' (cOf_pos _ _) (cOf_pos _ _)) (cOf_pos _ _)) (cOf_pos _ _)) (cOf_pos _ _)) (cOf_pos _ _)) (cOf_pos _ _)
theorem bigM_part (l : List Sale) (k : Nat) (hk : k < 7) : ∃ m, cOf l k * m = bigM l := by
  unfold bigM
  rcases (show k = 0 ∨ k = 1 ∨ k = 2 ∨ k = 3 ∨ k = 4 ∨ k = 5 ∨ k = 6 by omega) with e | e | e | e | e | e | e <;> subst e
  · exact ⟨cOf l 1 * cOf l 2 * cOf l 3 * cOf l 4 * cOf l 5 * cOf l 6, by grind⟩
  · exact ⟨cOf l 0 * cOf l 2 * cOf l 3 * cOf l 4 * cOf l 5 * cOf l 6, by grind⟩
  · exact ⟨cOf l 0 * cOf l 1 * cOf l 3 * cOf l 4 * cOf l 5 * cOf l 6, by grind⟩
  · exact ⟨cOf l 0 * cOf l 1 * cOf l 2 * cOf l 4 * cOf l 5 * cOf l 6, by grind⟩
  · exact ⟨cOf l 0 * cOf l 1 * cOf l 2 * cOf l 3 * cOf l 5 * cOf l 6, by grind⟩
  · exact ⟨cOf l 0 * cOf l 1 * cOf l 2 * cOf l 3 * cOf l 4 * cOf l 6, by grind⟩
  · exact ⟨cOf l 0 * cOf l 1 * cOf l 2 * cOf l 3 * cOf l 4 * cOf l 5, by grind⟩
noncomputable def mOf (l : List Sale) (k : Nat) : Int := if h : k < 7 then Classical.choose (bigM_part l k h) else 0
theorem mOf_eq (l : List Sale) (k : Nat) (h : k < 7) : cOf l k * mOf l k = bigM l := by
  unfold mOf
  rw [dif_pos h]
  exact Classical.choose_spec (bigM_part l k h)

/-- What the days up to the k-th leave, times M. -/
noncomputable def leftX (l : List Sale) (k : Nat) : Int := overDays (fun j => tot (weekP j) l * mOf l j) (l.take k) - tot allP (l.take k) * bigM l
theorem over_take {F : Nat → Int} {l : List Sale} {k : Nat} (h : k < l.length) : overDays F (l.take (k + 1)) = overDays F (l.take k) + (if takes allP (sAt l k) then F ((sAt l k).day % 7).toNat else 0) := by
  unfold overDays
  rw [take_sale l k h, List.filter_append, List.map_append, List.sum_append]
  congr 1
  rw [List.filter_cons]
  split <;> simp
theorem leftX_zero (l : List Sale) : leftX l 0 = 0 := by simp [leftX, overDays, tot]
theorem leftX_all (l : List Sale) : leftX l l.length = 0 := by
  unfold leftX
  rw [List.take_length, over_eq, tot_eq]
  have key : ∀ k : Nat, k < 7 → (cnt (weekP k) l : Int) * (tot (weekP k) l * mOf l k) = tot (weekP k) l * bigM l := by
    intro k hk
    by_cases hc : cnt (weekP k) l = 0
    · rw [tot_zero _ _ hc]; simp
    · have h1 := mOf_eq l k hk
      unfold cOf at h1
      rw [if_neg hc] at h1
      rw [← h1]
      grind
  simp only [sum7]
  rw [key 0 (by omega), key 1 (by omega), key 2 (by omega), key 3 (by omega), key 4 (by omega), key 5 (by omega), key 6 (by omega)]
  grind
theorem leftX_no {l : List Sale} {k : Nat} (h : k < l.length) (hp : (sAt l k).out = true) : leftX l (k + 1) = leftX l k := by
  have ht : takes allP (sAt l k) = false := by simp [takes, hp]
  unfold leftX
  rw [over_take h, tot_no h ht, ht]
  simp
theorem leftX_yes {l : List Sale} {k r : Nat} (h : k < l.length) (hp : (sAt l k).out = false) (hr : ((sAt l k).day % 7).toNat = r) : leftX l (k + 1) = leftX l k + tot (weekP r) l * mOf l r - (sAt l k).sold * bigM l := by
  have ht : takes allP (sAt l k) = true := by simp [takes, hp, allP]
  unfold leftX
  rw [over_take h, tot_yes h ht, ht, hr]
  simp only [if_true]
  grind

/-- One step of the law's sum. -/
theorem left_step {L D L' D' X S C m M s q p : Int} (h1 : L * M = D * X) (h2 : C * m = M) (h3 : p * C = S * q) (h4 : L' * (D * q) = (L * q + (p * D - s * q * D)) * D') (hD : 1 ≤ D) (hq : 1 ≤ q) (hC : 1 ≤ C) :
    L' * M = D' * (X + S * m - s * M) := by
  have hne : D * q * C ≠ 0 := by
    have := mul_pos' (mul_pos' hD hq) hC
    omega
  refine Int.eq_of_mul_eq_mul_right hne ?_
  have e1 : L' * M * (D * q * C) = (L' * (D * q)) * (M * C) := by grind
  rw [e1, h4]
  have e2 : (L * q + (p * D - s * q * D)) * D' * (M * C) = D' * ((L * M) * q * C + D * M * (p * C) - s * q * D * M * C) := by grind
  rw [e2, h1, h3, ← h2]
  grind
/-- The weight of a day, times the rate. -/
theorem rate_step {wN wD rN rD S C n t : Int} (h1 : wN * (C * t) = S * n * wD) (h2 : rN * n = t * rD) (hn : 1 ≤ n) (ht : 1 ≤ t) : (wN * rN) * C = S * (wD * rD) := by
  have hne : n * t ≠ 0 := by
    have := mul_pos' hn ht
    omega
  refine Int.eq_of_mul_eq_mul_right hne ?_
  have e1 : wN * rN * C * (n * t) = (wN * (C * t)) * (rN * n) := by grind
  rw [e1, h1, h2]
  grind
theorem mul_sbound {a b A B : Int} (ha : -A ≤ a) (ha' : a ≤ A) (hb : 0 ≤ b) (hb' : b ≤ B) (hA : 0 ≤ A) : -(A * B) ≤ a * b ∧ a * b ≤ A * B := by
  have h1 : a * b ≤ A * b := Int.mul_le_mul_of_nonneg_right ha' hb
  have h2 : -A * b ≤ a * b := Int.mul_le_mul_of_nonneg_right ha hb
  have h3 : A * b ≤ A * B := Int.mul_le_mul_of_nonneg_left hb' hA
  have h4 : -A * b = -(A * b) := Int.neg_mul ..
  omega
end Go.Proofs.Ytlpkancpjdihgaa
