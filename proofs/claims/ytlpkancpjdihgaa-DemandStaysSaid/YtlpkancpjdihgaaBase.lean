/- Package base: numbers; the stream's Range. -/
import Derived.Test.YtlpkancpjdihgaaStream
namespace Go.Proofs.Ytlpkancpjdihgaa
open Go.RowKit
variable {lw : Nat}

theorem nxt_range (l : List Int) (k : Nat) (n : Int) (h : 1 ≤ n) : 0 ≤ nxt l k n ∧ nxt l k n < n := by
  have hb : ∀ x, 0 ≤ below x n ∧ below x n < n := by
    intro x
    unfold below
    rw [if_neg (by omega)]
    exact ⟨Int.emod_nonneg x (by omega), Int.emod_lt_of_pos x (by omega)⟩
  unfold nxt
  split <;> exact hb _

/-- The post of a function that only computes: a value, and a world in which nothing but draws has happened. -/
def Pure (v : Value) (w : World) (e : Ending) (w' : World) : Prop := e = .returned v ∧ ∃ n, w' = w.drewN n

set_option maxRecDepth 100000 in
theorem gcd_any (a b : Int) (w : World) (ha : 0 ≤ a) (hb : 0 ≤ b) (ha' : a ≤ 9223372036854775807) (hb' : b ≤ 9223372036854775807) :
    Calls Try.prog 94 #[.int .i64 a, .int .i64 b] w (Pure (.int .i64 (Int.gcd a b)) w) := by
  go_enter Try.func94, Try.ntmps94
  go_wp2
  go_loopw [0, 1] (fun s t wr => ∃ x y : Nat, (x : Int) ≤ 9223372036854775807 ∧ (y : Int) ≤ 9223372036854775807 ∧ s = .int .i64 x ∧ t = .int .i64 y ∧ Nat.gcd x y = Int.gcd a b ∧ ∃ n, wr = w.drewN n)
    (fun _ t _ => (intOf t).toNat)
  case atStart => exact ⟨a.toNat, b.toNat, by omega, by omega, by rw [Int.toNat_of_nonneg ha], by rw [Int.toNat_of_nonneg hb], by simp [Int.gcd]; congr 1 <;> omega, 0, rfl⟩
  case round =>
    obtain ⟨x, y, hx, hy, rfl, rfl, hg, nd, rfl⟩ := hrel
    have HG := Lib.hid hg; clear hg
    by_cases h0 : y = 0
    · subst h0
      go_wp2
      go_ret
      exact ⟨ret_int (by rw [← HG.out, Nat.gcd_zero_right]), nd, rfl⟩
    · have hne : ((y : Int) == 0) = false := by simp; omega
      have hne' : ((y : Int) != 0) = true := by simp; omega
      go_wp2_with (fail)
      go_quiet (fail)
      go_wp2_with (fail)
      go_roundw
      case rel =>
        have h1 : x % y < y := Nat.mod_lt _ (by omega)
        have h2 : ((x % y : Nat) : Int) = (x : Int) % y := Int.natCast_emod x y
        exact ⟨y, x % y, hy, by omega, rfl, by rw [h2], by rw [← HG.out, Nat.gcd_comm y, ← Nat.gcd_rec, Nat.gcd_comm], _, World.drewN_drewN ..⟩
      case measure =>
        have h1 : x % y < y := Nat.mod_lt _ (by omega)
        have h2 : ((x % y : Nat) : Int) = (x : Int) % y := Int.natCast_emod x y
        simp only [intOf]; omega

/-- base.Out. -/
theorem out_any (n lo hi : Int) (w : World) : Calls Try.prog 85 #[.int .i64 n, .int .i64 lo, .int .i64 hi] w fun e w' => e = .returned (.bool (decide (n < lo) || decide (hi < n))) ∧ w = w' := by
  go_enter Try.func85, Try.ntmps85
  go_wp2
  all_goals (go_ret; exact ⟨rfl, rfl⟩)

theorem range_any (l : List Int) (k : Nat) (lo hi : Int) (p : Nat) (w : World) (hs : StreamAt w p lw l k) (hk : k < 1000000000) (h1 : -1000000 ≤ lo) (h2 : lo ≤ hi) (h3 : hi ≤ 1000000) :
    Calls Try.prog 13 #[.pointer (some ⟨p, 0, none⟩), .int .i64 lo, .int .i64 hi] w fun e w' => e = .returned (.int .i64 (lo + nxt l k (hi - lo + 1))) ∧ StreamAt w' p lw l (k + 1) ∧ w.grownBy w' (some p) := by
  go_enter Try.func13, Try.ntmps13
  have hr := nxt_range l k (hi - lo + 1) (by omega)
  go_wp2_with (go_at_call 25; refine (next_any l k _ p w hs hk (by omega)).mono ?_; rintro e w1 ⟨rfl, hs1, hg1⟩)
  go_ret
  exact ⟨rfl, hs1, hg1⟩

theorem tdiv_exact (n g : Int) (h : g ∣ n) : n.tdiv g = n / g := Int.tdiv_eq_ediv_of_dvd h

theorem fraction_any (num den : Int) (w : World) (hn : -9223372036854775807 ≤ num) (hn' : num ≤ 9223372036854775807) (hd : 1 ≤ den) (hd' : den ≤ 9223372036854775807) :
    Calls Try.prog 86 #[.int .i64 num, .int .i64 den] w fun e w' => e = .returned (.agg #[.int .i64 (num / Int.gcd num den), .int .i64 (den / Int.gcd num den)]) ∧ w.grownBy w' none := by
  obtain ⟨g, hg⟩ : ∃ g : Int, g = Int.gcd num den := ⟨_, rfl⟩
  have hgp : 1 ≤ g := by
    have : 0 < Int.gcd num den := Int.gcd_pos_of_ne_zero_right _ (by omega)
    omega
  have hgn : g ∣ num := by rw [hg]; exact Int.gcd_dvd_left ..
  have hgd : g ∣ den := by rw [hg]; exact Int.gcd_dvd_right ..
  have e1 := tdiv_exact num g hgn
  have e2 := tdiv_exact den g hgd
  obtain ⟨b1, b1'⟩ : num.tdiv g ≤ 9223372036854775807 ∧ -9223372036854775807 ≤ num.tdiv g := by
    have := Int.natAbs_tdiv_le_natAbs num g
    omega
  have hgz : (g == 0) = false := by simp; omega
  have hg2 : (Int.gcd num den : Int) = g := hg.symm
  have hg3 : (Int.gcd (-num) den : Int) = g := by rw [Int.neg_gcd, hg]
  rw [hg2]
  have HG := Lib.hid hg2
  have HG3 := Lib.hid hg3
  have E1 := Lib.hid e1
  have E2 := Lib.hid e2
  clear hg2 hg3 hg e1 e2 hgn hgd
  by_cases h0 : 0 ≤ num
  · go_enter Try.func86, Try.ntmps86
    go_wp2_with (fail)
    refine (gcd_any _ _ _ (by omega) (by omega) (by omega) (by omega)).mono ?_
    rintro e w' ⟨rfl, nd, rfl⟩
    rw [HG.out]
    go_wp2_with (fail)
    go_region
    go_wp2
    rw [E1.out]
    refine bodyPost_ret (v := .agg #[.int .i64 (num / g), .int .i64 (den / g)]) ?_ rfl ⟨rfl, ?_⟩
    · simp [results, Try.results86, go_sem, set_drewN]
    · exact gr_new (gr_new (gr_drewN (gr_alloc (gr_refl _ _) _) _) (by simp) _) (by simp) _
  · have h0' : num < 0 := by omega
    clear h0
    go_enter Try.func86, Try.ntmps86
    go_wp2_with (fail)
    refine (gcd_any _ _ _ (by omega) (by omega) (by omega) (by omega)).mono ?_
    rintro e w' ⟨rfl, nd, rfl⟩
    rw [HG3.out]
    go_wp2_with (fail)
    go_region
    go_wp2
    rw [E1.out]
    refine bodyPost_ret (v := .agg #[.int .i64 (num / g), .int .i64 (den / g)]) ?_ rfl ⟨rfl, ?_⟩
    · simp [results, Try.results86, go_sem, set_drewN]
    · exact gr_new (gr_new (gr_drewN (gr_alloc (gr_refl _ _) _) _) (by simp) _) (by simp) _
end Go.Proofs.Ytlpkancpjdihgaa
