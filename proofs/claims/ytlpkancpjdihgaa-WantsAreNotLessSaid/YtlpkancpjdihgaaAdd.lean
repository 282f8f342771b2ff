/- Fractions: the sum of nothing and one; lowest terms. -/
import Derived.Test.YtlpkancpjdihgaaFrac
import Derived.Test.YtlpkancpjdihgaaKitB
namespace Go.Proofs.Ytlpkancpjdihgaa
open Go.RowKit

/-- A fraction of any sign, in lowest terms or not, that is worth H / P. -/
structure IsLow (a b H P : Int) : Prop where
  b1 : 1 ≤ b
  bP : b ≤ P
  eq : a * P = H * b
  lo : -9223372036854775807 ≤ a
  hi : a ≤ 9223372036854775807

theorem isLow_gcd (H P g : Int) (h0 : -9223372036854775807 ≤ H) (h1 : H ≤ 9223372036854775807) (hP : 1 ≤ P) (hg : g = Int.gcd H P) : 1 ≤ g ∧ IsLow (H / g) (P / g) H P ∧ H.tdiv g = H / g ∧ P.tdiv g = P / g := by
  have hgp : 1 ≤ g := by
    have : 0 < Int.gcd H P := Int.gcd_pos_of_ne_zero_right _ (by omega)
    omega
  have hgn : g ∣ H := by rw [hg]; exact Int.gcd_dvd_left ..
  have hgd : g ∣ P := by rw [hg]; exact Int.gcd_dvd_right ..
  have e1 : H.tdiv g = H / g := Int.tdiv_eq_ediv_of_dvd hgn
  have e2 : P.tdiv g = P / g := Int.tdiv_eq_ediv_of_dvd hgd
  have hb := Int.natAbs_tdiv_le_natAbs H g
  obtain ⟨x, hx⟩ := hgn
  obtain ⟨y, hy⟩ := hgd
  have f1 : H / g = x := by rw [hx]; exact Int.mul_ediv_cancel_left _ (by omega)
  have f2 : P / g = y := by rw [hy]; exact Int.mul_ediv_cancel_left _ (by omega)
  have hy1 : 1 ≤ y := by
    rcases Int.lt_or_le y 1 with h | h
    · have : g * y ≤ 0 := Int.mul_nonpos_of_nonneg_of_nonpos (by omega) (by omega)
      omega
    · exact h
  have m2 : 1 * y ≤ g * y := Int.mul_le_mul_of_nonneg_right hgp (by omega)
  refine ⟨hgp, ⟨by rw [f2]; exact hy1, by rw [f2]; omega, ?_, by omega, by omega⟩, e1, e2⟩
  rw [f1, f2, hx, hy]; grind

set_option maxRecDepth 100000 in
set_option maxHeartbeats 1000000 in
theorem lowest_any (num den : Int) (w : World) (hn : -9223372036854775807 ≤ num) (hn' : num ≤ 9223372036854775807) (hd : 1 ≤ den) (hd' : den ≤ 9223372036854775807) :
    Calls Try.prog 23 #[.int .i64 num, .int .i64 den] w fun e w' => ∃ a b : Int, e = .returned (.agg #[.int .i64 a, .int .i64 b]) ∧ IsLow a b num den ∧ w.grownBy w' none := by
  obtain ⟨g, hg⟩ : ∃ g : Int, g = Int.gcd num den := ⟨_, rfl⟩
  obtain ⟨hgp, hlow, e1, e2⟩ := isLow_gcd num den g hn hn' hd hg
  have b1 := hlow.lo
  have b2 := hlow.hi
  have b3 := hlow.b1
  have b4 := hlow.bP
  rw [← e1] at b1 b2
  have hgz : (g == 0) = false := by simp; omega
  have HL := Lib.hid hlow; clear hlow
  have E1 := Lib.hid e1; clear e1
  have E2 := Lib.hid e2; clear e2
  obtain ⟨m, hm⟩ : ∃ m : Nat, (m : Int) = if num < 0 then -num else num := ⟨num.natAbs, by split <;> omega⟩
  have hmm : (m : Int) ≤ 9223372036854775807 := by rw [hm]; split <;> omega
  have hgm : ∀ x y : Nat, Nat.gcd x y = Nat.gcd m den.toNat → y = 0 → (x : Int) = g := by
    intro x y h hy
    subst hy
    rw [Nat.gcd_zero_right] at h
    rw [hg, h, Int.gcd, show den.natAbs = den.toNat by omega, show m = num.natAbs by split at hm <;> omega]
  have HGM := Lib.hid hgm; clear hgm hg
  by_cases h0 : num < 0
  · have hm2 : -num = (m : Int) := by rw [hm, if_pos h0]
    have HM2 := Lib.hid hm2; clear hm2 hm
    go_enter Try.func23, Try.ntmps23
    go_wp2_with (fail)
    rw [HM2.out]
    go_loopw [5, 6] (fun s t wr => ∃ x y : Nat, (x : Int) ≤ 9223372036854775807 ∧ (y : Int) ≤ 9223372036854775807 ∧ s = .int .i64 x ∧ t = .int .i64 y ∧ Nat.gcd x y = Nat.gcd m den.toNat ∧ ∃ n, wr = (w.alloc (.cells #[.int .i64 0, .int .i64 0] 28)).drewN n)
      (fun _ t _ => (intOf t).toNat)
    case atStart => exact ⟨m, den.toNat, hmm, by omega, rfl, by rw [Int.toNat_of_nonneg (by omega)], rfl, 0, rfl⟩
    case round =>
      obtain ⟨x, y, hx, hy, rfl, rfl, hg, nd, rfl⟩ := hrel
      have HG := Lib.hid hg; clear hg
      by_cases hy0 : y = 0
      · have hxg := HGM.out x y HG.out hy0
        subst hy0
        have HXG := Lib.hid hxg; clear hxg
        go_wp2_with (fail)
        rw [HXG.out]
        go_region
        go_wp2
        rw [E1.out]
        refine bodyPost_ret (v := .agg #[.int .i64 (num / g), .int .i64 (den / g)]) ?_ rfl ⟨_, _, rfl, HL.out, ?_⟩
        · simp [results, Try.results23, go_sem, set_drewN]
        · exact gr_new (gr_new (gr_drewN (gr_alloc (gr_refl _ _) _) _) (by simp) _) (by simp) _
      · have hne : ((y : Int) == 0) = false := by simp; omega
        have hne' : ((y : Int) != 0) = true := by simp; omega
        go_wp2_with (fail)
        go_quiet (fail)
        go_wp2_with (fail)
        go_roundw
        case rel =>
          have h1 : x % y < y := Nat.mod_lt _ (by omega)
          have h2 : ((x % y : Nat) : Int) = (x : Int) % y := Int.natCast_emod x y
          exact ⟨y, x % y, hy, by omega, rfl, by rw [h2], by rw [← HG.out, Nat.gcd_comm y, ← Nat.gcd_rec, Nat.gcd_comm], _, World.drewN_drewN ..⟩
        case measure =>
          have h1 : x % y < y := Nat.mod_lt _ (by omega)
          have h2 : ((x % y : Nat) : Int) = (x : Int) % y := Int.natCast_emod x y
          simp only [intOf]; omega
  · have hm2 : num = (m : Int) := by rw [hm, if_neg h0]
    have h0' : 0 ≤ num := by omega
    have HM2 := Lib.hid hm2; clear hm2 hm
    go_enter Try.func23, Try.ntmps23
    go_wp2_with (fail)
    go_loopw [5, 6] (fun s t wr => ∃ x y : Nat, (x : Int) ≤ 9223372036854775807 ∧ (y : Int) ≤ 9223372036854775807 ∧ s = .int .i64 x ∧ t = .int .i64 y ∧ Nat.gcd x y = Nat.gcd m den.toNat ∧ ∃ n, wr = (w.alloc (.cells #[.int .i64 0, .int .i64 0] 28)).drewN n)
      (fun _ t _ => (intOf t).toNat)
    case atStart => exact ⟨m, den.toNat, hmm, by omega, by rw [HM2.out], by rw [Int.toNat_of_nonneg (by omega)], rfl, 0, rfl⟩
    case round =>
      obtain ⟨x, y, hx, hy, rfl, rfl, hg, nd, rfl⟩ := hrel
      have HG := Lib.hid hg; clear hg
      by_cases hy0 : y = 0
      · have hxg := HGM.out x y HG.out hy0
        subst hy0
        have HXG := Lib.hid hxg; clear hxg
        go_wp2_with (fail)
        rw [HXG.out]
        go_region
        go_wp2
        rw [E1.out]
        refine bodyPost_ret (v := .agg #[.int .i64 (num / g), .int .i64 (den / g)]) ?_ rfl ⟨_, _, rfl, HL.out, ?_⟩
        · simp [results, Try.results23, go_sem, set_drewN]
        · exact gr_new (gr_new (gr_drewN (gr_alloc (gr_refl _ _) _) _) (by simp) _) (by simp) _
      · have hne : ((y : Int) == 0) = false := by simp; omega
        have hne' : ((y : Int) != 0) = true := by simp; omega
        go_wp2_with (fail)
        go_quiet (fail)
        go_wp2_with (fail)
        go_roundw
        case rel =>
          have h1 : x % y < y := Nat.mod_lt _ (by omega)
          have h2 : ((x % y : Nat) : Int) = (x : Int) % y := Int.natCast_emod x y
          exact ⟨y, x % y, hy, by omega, rfl, by rw [h2], by rw [← HG.out, Nat.gcd_comm y, ← Nat.gcd_rec, Nat.gcd_comm], _, World.drewN_drewN ..⟩
        case measure =>
          have h1 : x % y < y := Nat.mod_lt _ (by omega)
          have h2 : ((x % y : Nat) : Int) = (x : Int) % y := Int.natCast_emod x y
          simp only [intOf]; omega
end Go.Proofs.Ytlpkancpjdihgaa
