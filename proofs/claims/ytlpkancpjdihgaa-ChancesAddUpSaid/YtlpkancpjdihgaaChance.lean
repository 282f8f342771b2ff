/- till.Chance, and fractions in lowest terms. -/
import Derived.Test.YtlpkancpjdihgaaTill
import Derived.Deep.RegionWith
namespace Go.Proofs.Ytlpkancpjdihgaa
open Go.RowKit

theorem tills_any (w : World) : Calls Try.prog 15 #[] w fun e w' => e = .returned (.bool true) ∧ w = w' := by
  go_enter Try.func15, Try.ntmps15
  go_wp2
  go_ret
  exact ⟨rfl, rfl⟩

theorem new_cell {w w1 w2 : World} {c : Array Value} {t : TypeId} {n : Nat} (h1 : ((w.alloc (.cells c t)).drewN n).grownBy w1 none) (h2 : w1.grownBy w2 none) (j : Nat) {v : Value} (hv : c[j]? = some v) : w2.cell? ⟨w.heap.size, j, none⟩ = some v := by
  have hs := h1.size
  simp at hs
  rw [gr_cell h2 (by omega), gr_cell h1 (by simp), World.cell?_drewN, World.cell?_alloc_at _ _ _ _ rfl, hv]
theorem new_free {w w1 w2 : World} {c : Array Value} {t : TypeId} {n : Nat} (h1 : ((w.alloc (.cells c t)).drewN n).grownBy w1 none) (h2 : w1.grownBy w2 none) (j : Nat) : w2.frozen? ⟨w.heap.size, j, none⟩ = false := by
  have hs := h1.size
  simp at hs
  rw [gr_free h2 (by omega), gr_free h1 (by simp)]
  exact World.frozen?_alloc_at _ _ _ _ rfl

set_option maxRecDepth 100000 in
theorem chance_any (n k : Nat) (w : World) (hn : n ≤ 60) (hk : k ≤ n) :
    Calls Try.prog 14 #[.int .i64 n, .int .i64 k] w fun e w' => e = .returned (.tuple #[.agg #[.int .i64 (headsZ n k / Int.gcd (headsZ n k) (2 ^ n)), .int .i64 (2 ^ n / Int.gcd (headsZ n k) (2 ^ n))], .int .i64 0]) ∧ w.grownBy w' none := by
  have h1 := headsZ_le n k
  have h0 := headsZ_nonneg n k
  have hp := two_pow_le hn
  have hp0 : (0 : Int) < 2 ^ n := Int.pow_pos (by decide)
  obtain ⟨p, hpe⟩ : ∃ p, p = (2 : Int) ^ n := ⟨_, rfl⟩
  obtain ⟨h, hhe⟩ : ∃ h, h = headsZ n k := ⟨_, rfl⟩
  rw [← hpe] at h1 hp hp0
  rw [← hhe] at h0 h1
  rw [← hpe, ← hhe]
  have HP := Lib.hid hpe; clear hpe
  have HH := Lib.hid hhe; clear hhe
  go_enter Try.func14, Try.ntmps14
  go_wp2_with (go_at_call 85; refine (out_any _ _ _ _).mono ?_; rintro e w' ⟨rfl, rfl⟩)
  have HW : Hid (IntKind.i64.wrap ((2 : Int) ^ n) = p) := by show _ = _; rw [← HP.out]; exact IntWalk.i64_in _ (by omega)
  go_region_with ((first | (go_at_call 87; refine (heads_any n k _ hn hk).mono ?_; rintro e w1 ⟨rfl, hg1⟩; rw [← HH.out]) | (go_at_call 86; rw [HW.out]; refine (fraction_any h p _ (by omega) (by omega) (by omega) (by omega)).mono ?_; rintro e w2 ⟨rfl, hg2⟩; have hs := hg1.size; have hs2 := hg2.size; have c1 := new_cell hg1 hg2 0 rfl; have c2 := new_cell hg1 hg2 1 rfl; have f1 := new_free hg1 hg2 0; have f2 := new_free hg1 hg2 1)))
  go_wp2
  refine bodyPost_ret (v := .tuple #[.agg #[.int .i64 (h / Int.gcd h p), .int .i64 (p / Int.gcd h p)], .int .i64 0]) ?_ rfl ⟨rfl, ?_⟩
  · simp [results, Try.results14, go_sem, c1, c2]
  · have hg : w.grownBy w2 none := gr_trans (gr_trans (gr_drew (gr_alloc (gr_refl _ _) _)) hg1) hg2
    exact gr_new (gr_new hg (by simp) _) (by simp) _
/-- A fraction in lowest terms. -/
structure IsFrac (a b H P : Int) : Prop where
  a0 : 0 ≤ a
  b1 : 1 ≤ b
  aH : a ≤ H
  bP : b ≤ P
  eq : a * P = H * b
  one : H = P → a = 1 ∧ b = 1

theorem isFrac_gcd (H P : Int) (h0 : 0 ≤ H) (hP : 1 ≤ P) : IsFrac (H / Int.gcd H P) (P / Int.gcd H P) H P := by
  obtain ⟨g, hg⟩ : ∃ g : Int, g = Int.gcd H P := ⟨_, rfl⟩
  have hgp : 1 ≤ g := by
    have : 0 < Int.gcd H P := Int.gcd_pos_of_ne_zero_right _ (by omega)
    omega
  obtain ⟨x, hx⟩ : g ∣ H := by rw [hg]; exact Int.gcd_dvd_left ..
  obtain ⟨y, hy⟩ : g ∣ P := by rw [hg]; exact Int.gcd_dvd_right ..
  rw [← hg]
  have e1 : H / g = x := by rw [hx]; exact Int.mul_ediv_cancel_left _ (by omega)
  have e2 : P / g = y := by rw [hy]; exact Int.mul_ediv_cancel_left _ (by omega)
  rw [e1, e2]
  have hy1 : 1 ≤ y := by
    rcases Int.lt_or_le y 1 with h | h
    · have : g * y ≤ 0 := Int.mul_nonpos_of_nonneg_of_nonpos (by omega) (by omega)
      omega
    · exact h
  have hx0 : 0 ≤ x := by
    rcases Int.lt_or_le x 0 with h | h
    · have : g * x < 0 := Int.mul_neg_of_pos_of_neg (by omega) h
      omega
    · exact h
  have m1 : 1 * x ≤ g * x := Int.mul_le_mul_of_nonneg_right hgp hx0
  have m2 : 1 * y ≤ g * y := Int.mul_le_mul_of_nonneg_right hgp (by omega)
  refine ⟨hx0, hy1, by omega, by omega, ?_, ?_⟩
  · rw [hx, hy]; grind
  · intro e
    have hgH : g = H := by
      rw [hg, ← e, Int.gcd_self]
      omega
    have hH1 : 1 ≤ H := by omega
    have : H * x = H * 1 := by rw [Int.mul_one, ← hgH]; rw [hgH]; rw [hgH] at hx; omega
    have hx1 : x = 1 := Int.eq_of_mul_eq_mul_left (by omega) this
    have : H * y = H * 1 := by rw [Int.mul_one]; rw [hgH] at hy; omega
    exact ⟨hx1, Int.eq_of_mul_eq_mul_left (by omega) this⟩

theorem chance_int (n k : Int) (N K : Nat) (w : World) (hN : n = N) (hK : k = K) (hn : N ≤ 60) (hk : K ≤ N) :
    Calls Try.prog 14 #[.int .i64 n, .int .i64 k] w fun e w' => ∃ a b : Int, e = .returned (.tuple #[.agg #[.int .i64 a, .int .i64 b], .int .i64 0]) ∧ IsFrac a b (headsZ N K) (2 ^ N) ∧ w.grownBy w' none := by
  subst hN hK
  refine (chance_any N K w hn hk).mono ?_
  rintro e w' ⟨rfl, hg⟩
  exact ⟨_, _, rfl, isFrac_gcd _ _ (headsZ_nonneg _ _) (by have : (0 : Int) < 2 ^ N := Int.pow_pos (by decide); omega), hg⟩

theorem frac_le {a b c d H K P : Int} (h : IsFrac a b H P) (k : IsFrac c d K P) (hP : 1 ≤ P) (hk : H ≤ K) : a * d ≤ c * b := by
  have e1 := h.eq
  have e2 := k.eq
  have hb := h.b1
  have hd := k.b1
  have m : H * (b * d) ≤ K * (b * d) := Int.mul_le_mul_of_nonneg_right hk (Int.mul_nonneg (by omega) (by omega))
  have : (a * d) * P ≤ (c * b) * P := by
    have x1 : (a * d) * P = H * (b * d) := by grind
    have x2 : (c * b) * P = K * (b * d) := by grind
    omega
  exact Int.le_of_mul_le_mul_right this (by omega)
theorem frac_sum {a b c d H K P : Int} (h : IsFrac a b H P) (k : IsFrac c d K P) (hP : 1 ≤ P) (hk : H + K = P) : a * d + c * b = b * d := by
  have e1 := h.eq
  have e2 := k.eq
  have : (a * d + c * b) * P = (b * d) * P := by grind
  exact Int.eq_of_mul_eq_mul_right (by omega) this
theorem prod_bound {a b : Int} (ha : 0 ≤ a) (hb : 0 ≤ b) (ha' : a ≤ 1073741824) (hb' : b ≤ 1073741824) : 0 ≤ a * b ∧ a * b ≤ 1152921504606846976 := by
  have := Int.mul_nonneg ha hb
  have := Int.mul_le_mul ha' hb' hb (by decide)
  omega
end Go.Proofs.Ytlpkancpjdihgaa
