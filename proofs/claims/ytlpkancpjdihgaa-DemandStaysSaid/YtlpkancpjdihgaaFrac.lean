/- Fractions in lowest terms. -/
import Derived.Test.YtlpkancpjdihgaaBase
namespace Go.Proofs.Ytlpkancpjdihgaa
open Go.RowKit

/-- A fraction in lowest terms. -/
structure IsFrac (a b H P : Int) : Prop where
  a0 : 0 ≤ a
  b1 : 1 ≤ b
  aH : a ≤ H
  bP : b ≤ P
  eq : a * P = H * b
  one : H = P → a = 1 ∧ b = 1

theorem isFrac_gcd (H P : Int) (h0 : 0 ≤ H) (hP : 1 ≤ P) : IsFrac (H / Int.gcd H P) (P / Int.gcd H P) H P := by
  obtain ⟨g, hg⟩ : ∃ g : Int, g = Int.gcd H P := ⟨_, rfl⟩
  have hgp : 1 ≤ g := by
    have : 0 < Int.gcd H P := Int.gcd_pos_of_ne_zero_right _ (by omega)
    omega
  obtain ⟨x, hx⟩ : g ∣ H := by rw [hg]; exact Int.gcd_dvd_left ..
  obtain ⟨y, hy⟩ : g ∣ P := by rw [hg]; exact Int.gcd_dvd_right ..
  rw [← hg]
  have e1 : H / g = x := by rw [hx]; exact Int.mul_ediv_cancel_left _ (by omega)
  have e2 : P / g = y := by rw [hy]; exact Int.mul_ediv_cancel_left _ (by omega)
  rw [e1, e2]
  have hy1 : 1 ≤ y := by
    rcases Int.lt_or_le y 1 with h | h
    · have : g * y ≤ 0 := Int.mul_nonpos_of_nonneg_of_nonpos (by omega) (by omega)
      omega
    · exact h
  have hx0 : 0 ≤ x := by
    rcases Int.lt_or_le x 0 with h | h
    · have : g * x < 0 := Int.mul_neg_of_pos_of_neg (by omega) h
      omega
    · exact h
  have m1 : 1 * x ≤ g * x := Int.mul_le_mul_of_nonneg_right hgp hx0
  have m2 : 1 * y ≤ g * y := Int.mul_le_mul_of_nonneg_right hgp (by omega)
  refine ⟨hx0, hy1, by omega, by omega, ?_, ?_⟩
  · rw [hx, hy]; grind
  · intro e
    have hgH : g = H := by
      rw [hg, ← e, Int.gcd_self]
      omega
    have hH1 : 1 ≤ H := by omega
    have : H * x = H * 1 := by rw [Int.mul_one, ← hgH]; rw [hgH]; rw [hgH] at hx; omega
    have hx1 : x = 1 := Int.eq_of_mul_eq_mul_left (by omega) this
    have : H * y = H * 1 := by rw [Int.mul_one]; rw [hgH] at hy; omega
    exact ⟨hx1, Int.eq_of_mul_eq_mul_left (by omega) this⟩

theorem frac_any (H P : Int) (w : World) (h0 : 0 ≤ H) (h1 : H ≤ 9223372036854775807) (hP : 1 ≤ P) (hP1 : P ≤ 9223372036854775807) :
    Calls Try.prog 86 #[.int .i64 H, .int .i64 P] w fun e w' => ∃ a b : Int, e = .returned (.agg #[.int .i64 a, .int .i64 b]) ∧ IsFrac a b H P ∧ w.grownBy w' none := by
  refine (fraction_any H P w (by omega) h1 hP hP1).mono ?_
  rintro e w' ⟨rfl, hg⟩
  exact ⟨_, _, rfl, isFrac_gcd _ _ h0 hP, hg⟩
end Go.Proofs.Ytlpkancpjdihgaa
