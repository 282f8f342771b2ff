/- Loads and chances: the plain law; no program in sight. -/
import Derived.Test.YtlpkancpjdihgaaHist
import Derived.Test.YtlpkancpjdihgaaProfit
import Derived.Test.YtlpkancpjdihgaaOrder
namespace Go.Proofs.Ytlpkancpjdihgaa
open Go.RowKit

/-- Fractions in lowest terms over the same whole compare as their numerators. -/
theorem cross_le {x y x' y' F F' W : Int} (hW : 1 ≤ W) (hy : 1 ≤ y) (hy' : 1 ≤ y') (h : x * W = F * y) (h' : x' * W = F' * y') (hF : F ≤ F') : x * y' ≤ x' * y := by
  have h1 : x * y' * W = F * (y * y') := by rw [Int.mul_right_comm, h]; rw [Int.mul_assoc]
  have h2 : x' * y * W = F' * (y * y') := by rw [Int.mul_right_comm, h', Int.mul_assoc, Int.mul_comm y' y]
  have h3 : F * (y * y') ≤ F' * (y * y') := Int.mul_le_mul_of_nonneg_right hF (Int.mul_nonneg (by omega) (by omega))
  exact Int.le_of_mul_le_mul_right (by omega : x * y' * W ≤ x' * y * W) (by omega)
theorem cross_lt {x y x' y' F F' W : Int} (hW : 1 ≤ W) (hy : 1 ≤ y) (hy' : 1 ≤ y') (h : x * W = F * y) (h' : x' * W = F' * y') (hF : F < F') : x * y' < x' * y := by
  have h1 : x * y' * W = F * (y * y') := by rw [Int.mul_right_comm, h]; rw [Int.mul_assoc]
  have h2 : x' * y * W = F' * (y * y') := by rw [Int.mul_right_comm, h', Int.mul_assoc, Int.mul_comm y' y]
  have h3 : F * (y * y') < F' * (y * y') := Int.mul_lt_mul_of_pos_right hF (Int.mul_pos (by omega) (by omega))
  exact Int.lt_of_mul_lt_mul_right (by omega : x * y' * W < x' * y * W) (by omega)
/-- What base.Fraction makes of F and W. -/
theorem frac_facts (F W : Int) (hW : 1 ≤ W) : 1 ≤ W / Int.gcd F W ∧ W / Int.gcd F W ≤ W ∧ F / Int.gcd F W * W = F * (W / Int.gcd F W) ∧ (∀ B, 0 ≤ B → -B ≤ F → F ≤ B → -B ≤ F / Int.gcd F W ∧ F / Int.gcd F W ≤ B) ∧ (W ∣ F → W / Int.gcd F W = 1) := by
  obtain ⟨g, hg⟩ : ∃ g : Int, g = Int.gcd F W := ⟨_, rfl⟩
  have hgp : 1 ≤ g := by
    have : 0 < Int.gcd F W := Int.gcd_pos_of_ne_zero_right _ (by omega)
    omega
  obtain ⟨x, hx⟩ : g ∣ F := by rw [hg]; exact Int.gcd_dvd_left ..
  obtain ⟨y, hy⟩ : g ∣ W := by rw [hg]; exact Int.gcd_dvd_right ..
  rw [← hg]
  have e1 : F / g = x := by rw [hx]; exact Int.mul_ediv_cancel_left _ (by omega)
  have e2 : W / g = y := by rw [hy]; exact Int.mul_ediv_cancel_left _ (by omega)
  rw [e1, e2]
  have hy1 : 1 ≤ y := by
    rcases Int.lt_or_le y 1 with h | h
    · have : g * y ≤ 0 := Int.mul_nonpos_of_nonneg_of_nonpos (by omega) (by omega)
      omega
    · exact h
  have m2 : 1 * y ≤ g * y := Int.mul_le_mul_of_nonneg_right hgp (by omega)
  refine ⟨hy1, by omega, by rw [hx, hy]; grind, ?_, ?_⟩
  · intro B hB h1 h2
    constructor
    · rcases Int.lt_or_le x 0 with h | h
      · have : g * x ≤ 1 * x := Int.mul_le_mul_of_nonpos_right hgp (by omega)
        omega
      · omega
    · rcases Int.lt_or_le x 0 with h | h
      · omega
      · have : 1 * x ≤ g * x := Int.mul_le_mul_of_nonneg_right hgp h
        omega
  · intro hd
    have h1 : (W.natAbs : Int) ∣ g := by
      rw [hg]
      exact Int.natCast_dvd_natCast.2 (Nat.dvd_gcd (Int.natAbs_dvd_natAbs.2 hd) (Nat.dvd_refl _))
    have h2 : W ∣ g := by rwa [Int.natAbs_of_nonneg (by omega)] at h1
    have h3 := Int.le_of_dvd (by omega) h2
    rcases Int.lt_or_le 1 y with h | h
    · have : g * 2 ≤ g * y := Int.mul_le_mul_of_nonneg_left (by omega) (by omega)
      omega
    · omega
theorem chance_le (h : List Int) (hh : ∀ x ∈ h, 0 ≤ x) (n : Nat) : chanceM h (n + 1) ≤ chanceM h n ∧ 0 ≤ chanceM h n ∧ chanceM h n ≤ h.sum := by
  unfold chanceM
  have h1 := sum_nonneg' (h.drop n) (fun x hx => hh x (List.mem_of_mem_drop hx))
  have h2 := sum_nonneg' (h.take n) (fun x hx => hh x (List.mem_of_mem_take hx))
  have h3 : h.sum = (h.take n).sum + (h.drop n).sum := by rw [← List.sum_append, List.take_append_drop]
  refine ⟨?_, h1, by omega⟩
  rcases Nat.lt_or_ge n h.length with e | e
  · rw [List.drop_eq_getElem_cons e, List.sum_cons]
    have := hh _ (List.getElem_mem e)
    omega
  · rw [List.drop_of_length_le e, List.drop_of_length_le (by omega)]
    exact Int.le_refl _
theorem soldTo_le (h : List Int) (load : Int) (hl : 0 ≤ load) (hh : ∀ x ∈ h, 0 ≤ x) (k : Nat) (hk : k ≤ h.length) : 0 ≤ soldTo h load k ∧ soldTo h load k ≤ load * (h.take k).sum := by
  induction k with
  | zero => simp [soldTo]
  | succ k ih =>
    have h1 := ih (by omega)
    have hx : h.getD k 0 ∈ h := by rw [List.getD_eq_getElem?_getD, List.getElem?_eq_getElem (by omega)]; exact List.getElem_mem _
    have h2 := hh _ hx
    rw [sum_next h k (by omega), Int.mul_add]
    simp only [soldTo]
    have h3 : 0 ≤ min (k : Int) load * h.getD k 0 := Int.mul_nonneg (by omega) h2
    have h4 : min (k : Int) load * h.getD k 0 ≤ load * h.getD k 0 := Int.mul_le_mul_of_nonneg_right (by omega) h2
    omega
theorem soldTo_dvd (h : List Int) (load D : Int) (hd : ∀ x ∈ h, D ∣ x) (k : Nat) (hk : k ≤ h.length) : D ∣ soldTo h load k := by
  induction k with
  | zero => exact Int.dvd_zero _
  | succ k ih =>
    have hx : h.getD k 0 ∈ h := by rw [List.getD_eq_getElem?_getD, List.getElem?_eq_getElem (by omega)]; exact List.getElem_mem _
    simp only [soldTo]
    exact Int.dvd_add (ih (by omega)) (Int.dvd_trans (hd _ hx) (Int.dvd_mul_left ..))
theorem sum_dvd (h : List Int) (D : Int) (hd : ∀ x ∈ h, D ∣ x) : D ∣ h.sum := by
  induction h with
  | nil => exact Int.dvd_zero _
  | cons a t ih => rw [List.sum_cons]; exact Int.dvd_add (hd a (by simp)) (ih (fun x hx => hd x (by simp [hx])))
/-- A right histogram of the stream is light, or all of it are thousands of millions. -/
theorem hist_light (l : List Int) (k : Nat) (h : List Int) (he : h = (histM l k).1) (hc : histCode h = 0) (hl : h.length ≤ 20) : h.sum ≤ 200000 ∨ (h.sum = 1000000000 ∧ ∀ x ∈ h, (1000000000 : Int) ∣ x) := by
  obtain ⟨_, hh, hs0, hs1⟩ := histCode_ok h hc
  have hn := nxt_range l k 8 (by omega)
  have hG := histG_mem l (k + 1) (nxt l k 8).toNat
  have hGl := histG_len l (k + 1) (nxt l k 8).toNat
  obtain ⟨G, hGe⟩ : ∃ G, G = histG l (k + 1) (nxt l k 8).toNat := ⟨_, rfl⟩
  rw [← hGe] at hG hGl
  have hGs := sum_bound_all G 0 5 (by decide) (by decide) hG
  have hGs2 : G.sum ≤ 40 := by omega
  unfold histM histE at he
  rw [← hGe] at he
  have p1 := pickM_mem l (k + 1 + (nxt l k 8).toNat + 1) [-1, 1000000000, 1000000001] (by decide)
  have p2 := pickM_mem l (k + 1 + (nxt l k 8).toNat + 1) [1000, 2000, 2001] (by decide)
  simp only [List.mem_cons, List.not_mem_nil, or_false] at p1 p2
  generalize pickM l (k + 1 + (nxt l k 8).toNat + 1) [-1, 1000000000, 1000000001] = a1 at he p1
  generalize pickM l (k + 1 + (nxt l k 8).toNat + 1) [1000, 2000, 2001] = a2 at he p2
  split at he
  · simp only at he
    have h1 := hh a1 (by rw [he]; simp)
    have h2 : h.sum = G.sum + a1 := by rw [he, List.sum_append]; simp
    have ha : a1 = 1000000000 := by omega
    right
    have hG0 : ∀ x ∈ G, x = 0 := by
      intro x hx
      obtain ⟨j, hj, rfl⟩ := List.getElem_of_mem hx
      have hz : G.sum = 0 := by omega
      clear h1 h2 he hh hs0 hs1 hGl hGs hGs2 hGe
      induction G generalizing j with
      | nil => simp at hj
      | cons b t ih =>
        have hb := hG b (by simp)
        have ht := sum_nonneg' t (fun x hx => (hG x (by simp [hx])).1)
        rw [List.sum_cons] at hz
        cases j with
        | zero => simp; omega
        | succ j => simp only [List.getElem_cons_succ]; exact ih (fun x hx => hG x (by simp [hx])) j (by simpa using hj) (by simp) (by omega)
    refine ⟨by omega, ?_⟩
    intro x hx
    rw [he] at hx
    simp only [List.mem_append, List.mem_cons, List.not_mem_nil, or_false] at hx
    rcases hx with hx | rfl
    · rw [hG0 x hx]; exact Int.dvd_zero _
    · rw [ha]; exact Int.dvd_refl _
  split at he
  · simp only at he
    rw [he] at hl
    simp at hl
    omega
  split at he
  · left; rw [he, List.sum_append]; simp; omega
  · left; rw [he]; simp only; omega
theorem gain_facts (h : List Int) (load margin waste : Int) (hh : ∀ x ∈ h, 0 ≤ x) (hl0 : 0 ≤ load) (hl1 : load ≤ 12) (hm0 : 0 ≤ margin) (hm1 : margin ≤ 100) (hw0 : 0 ≤ waste) (hw1 : waste ≤ 60) :
    -(2000 * h.sum) ≤ gainM h load margin waste ∧ gainM h load margin waste ≤ 2000 * h.sum := by
  have hb := soldTo_le h load hl0 hh h.length (Nat.le_refl _)
  rw [List.take_length] at hb
  have hs := sum_nonneg' h hh
  have h12 : load * h.sum ≤ 12 * h.sum := Int.mul_le_mul_of_nonneg_right hl1 hs
  have hls : 0 ≤ load * h.sum := Int.mul_nonneg hl0 hs
  unfold gainM soldM
  generalize soldTo h load h.length = s at hb
  generalize load * h.sum = L at hb h12 hls
  generalize h.sum = S at h12 hs
  have a1 : 0 ≤ margin * s := Int.mul_nonneg hm0 hb.1
  have a2 : margin * s ≤ 100 * (12 * S) := Int.mul_le_mul hm1 (by omega) hb.1 (by omega)
  have a3 : 0 ≤ waste * (L - s) := Int.mul_nonneg hw0 (by omega)
  have a4 : waste * (L - s) ≤ 60 * (12 * S) := Int.mul_le_mul hw1 (by omega) (by omega) (by omega)
  omega
/-- The fraction of a gain is small. -/
theorem gain_small (h : List Int) (load margin waste : Int) (hh : ∀ x ∈ h, 0 ≤ x) (hs : 1 ≤ h.sum) (hL : h.sum ≤ 200000 ∨ (h.sum = 1000000000 ∧ ∀ x ∈ h, (1000000000 : Int) ∣ x)) (hl0 : 0 ≤ load) (hl1 : load ≤ 12) (hm0 : 0 ≤ margin) (hm1 : margin ≤ 100) (hw0 : 0 ≤ waste) (hw1 : waste ≤ 60) :
    (-400000000 ≤ gainM h load margin waste / Int.gcd (gainM h load margin waste) h.sum ∧ gainM h load margin waste / Int.gcd (gainM h load margin waste) h.sum ≤ 400000000) ∧
    1 ≤ h.sum / Int.gcd (gainM h load margin waste) h.sum ∧ h.sum / Int.gcd (gainM h load margin waste) h.sum ≤ 200000 := by
  have hg := gain_facts h load margin waste hh hl0 hl1 hm0 hm1 hw0 hw1
  obtain ⟨f1, f2, f3, f4, f5⟩ := frac_facts (gainM h load margin waste) h.sum hs
  rcases hL with hL | ⟨hL, hd⟩
  · have := f4 400000000 (by omega) (by omega) (by omega)
    exact ⟨this, f1, by omega⟩
  · have hdv : h.sum ∣ gainM h load margin waste := by
      rw [hL]
      have h1 := soldTo_dvd h load 1000000000 hd h.length (Nat.le_refl _)
      have h2 := sum_dvd h 1000000000 hd
      unfold gainM soldM
      exact Int.dvd_sub (Int.dvd_trans h1 (Int.dvd_mul_left ..)) (Int.dvd_trans (Int.dvd_sub (Int.dvd_trans h2 (Int.dvd_mul_left ..)) h1) (Int.dvd_mul_left ..))
    have hy := f5 hdv
    rw [hy] at f3 ⊢
    refine ⟨?_, by omega, by omega⟩
    generalize gainM h load margin waste / Int.gcd (gainM h load margin waste) h.sum = x at f3 ⊢
    rw [hL] at f3 hg
    omega
end Go.Proofs.Ytlpkancpjdihgaa
