/- Proves that ChancesAddUp holds of every input. -/
import Derived.Test.YtlpkancpjdihgaaChance
namespace Go.Proofs.Ytlpkancpjdihgaa
open Go.RowKit

set_option maxRecDepth 100000 in
set_option maxHeartbeats 400000 in
theorem chances_any (l : List Int) (a : Option Addr) (cap : Nat) (w : World) (hc : CellsAt w a (ints l)) (hl : l.length ≤ 9223372036854775807) :
    Calls Try.prog 3 #[.slice a l.length cap] w fun e w' => e = .returned (.bool true) ∧ w.grownBy w' none := by
  have hs0 : StreamAt (w.alloc (.cells #[.slice a l.length cap, .int .i64 0] 25)) w.heap.size l 0 := StreamAt.made cap hc hl
  go_enter Try.func3, Try.ntmps3
  go_wp2_with (fail)
  refine (range_any l 0 _ _ _ _ hs0 (by omega) (by omega) (by omega) (by omega)).mono ?_
  rintro e w1 ⟨rfl, hs1, hg1⟩
  have hr1 := nxt_range l 0 (30 - 1 + 1) (by omega)
  obtain ⟨n, hn⟩ : ∃ n : Nat, (1 + nxt l 0 (30 - 1 + 1) : Int) = n := ⟨(1 + nxt l 0 (30 - 1 + 1)).toNat, by omega⟩
  have hn1 : 1 ≤ n := by omega
  have hn30 : n ≤ 30 := by omega
  rw [hn]
  clear hn hr1
  go_wp2_with (fail)
  refine (range_any l 1 _ _ _ _ hs1 (by omega) (by omega) (by omega) (by omega)).mono ?_
  rintro e w2 ⟨rfl, hs2, hg2⟩
  have hr2 := nxt_range l 1 (n - 1 + 1) (by omega)
  obtain ⟨k, hk⟩ : ∃ k : Nat, (1 + nxt l 1 (n - 1 + 1) : Int) = k + 1 := ⟨(nxt l 1 (n - 1 + 1)).toNat, by omega⟩
  have hkn : k + 1 ≤ n := by omega
  rw [hk]
  clear hk hr2
  go_wp2_with (fail)
  refine (chance_int _ _ n 0 _ rfl rfl (by omega) (by omega)).mono ?_
  rintro e w3 ⟨xa, xb, rfl, hx, hg3⟩
  obtain ⟨rfl, rfl⟩ := hx.one (headsZ_all n)
  go_wp2_with (fail)
  rw [show ((k : Int) + 1) = ((k + 1 : Nat) : Int) from by omega]
  refine (chance_int _ _ n (k + 1) _ rfl rfl (by omega) (by omega)).mono ?_
  rintro e w4 ⟨aN, aD, rfl, ha, hg4⟩
  have x0 : w4.cell? ⟨w3.heap.size, 0, none⟩ = some (.int .i64 1) := made_cell hg4 0 rfl
  have x1 : w4.cell? ⟨w3.heap.size, 1, none⟩ = some (.int .i64 1) := made_cell hg4 1 rfl
  go_wp2_with (fail)
  refine (chance_int _ _ n k _ rfl rfl (by omega) (by omega)).mono ?_
  rintro e w5 ⟨bN, bD, rfl, hb, hg5⟩
  have a0 : w5.cell? ⟨w4.heap.size, 0, none⟩ = some (.int .i64 aN) := made_cell hg5 0 rfl
  have a1 : w5.cell? ⟨w4.heap.size, 1, none⟩ = some (.int .i64 aD) := made_cell hg5 1 rfl
  replace x0 := held_cell hg5 x0
  replace x1 := held_cell hg5 x1
  go_wp2_with (fail)
  refine (chance_int _ _ n (n - k) _ rfl (by omega) (by omega) (by omega)).mono ?_
  rintro e w6 ⟨cN, cD, rfl, hcf, hg6⟩
  have b0 : w6.cell? ⟨w5.heap.size, 0, none⟩ = some (.int .i64 bN) := made_cell hg6 0 rfl
  have b1 : w6.cell? ⟨w5.heap.size, 1, none⟩ = some (.int .i64 bD) := made_cell hg6 1 rfl
  replace x0 := held_cell hg6 x0
  replace x1 := held_cell hg6 x1
  replace a0 := held_cell hg6 a0
  replace a1 := held_cell hg6 a1
  have l3 := made_lt hg4
  have l4 := made_lt hg5
  have l5 := made_lt hg6
  have l36 : w3.heap.size < w6.heap.size := by omega
  have l46 : w4.heap.size < w6.heap.size := by omega
  have l37 : w3.heap.size < w6.heap.size + 1 := by omega
  have l47 : w4.heap.size < w6.heap.size + 1 := by omega
  have l57 : w5.heap.size < w6.heap.size + 1 := by omega
  have hP1 : (1 : Int) ≤ 2 ^ n := by have : (0 : Int) < 2 ^ n := Int.pow_pos (by decide); omega
  have hP : (2 : Int) ^ n ≤ 1073741824 := by
    have h := Nat.pow_le_pow_right (show 0 < 2 by decide) hn30
    have h2 : ((2 ^ n : Nat) : Int) = (2 : Int) ^ n := by simp
    have h3 : (2 : Nat) ^ 30 = 1073741824 := by decide
    omega
  obtain ⟨p1, p2⟩ := prod_bound ha.a0 (show 0 ≤ bD by have := hb.b1; omega) (by have := ha.aH; have := headsZ_le n (k + 1); omega) (by have := hb.bP; omega)
  obtain ⟨p3, p4⟩ := prod_bound hb.a0 (show 0 ≤ aD by have := ha.b1; omega) (by have := hb.aH; have := headsZ_le n k; omega) (by have := ha.bP; omega)
  obtain ⟨p5, p6⟩ := prod_bound ha.a0 (show 0 ≤ cD by have := hcf.b1; omega) (by have := ha.aH; have := headsZ_le n (k + 1); omega) (by have := hcf.bP; omega)
  obtain ⟨p7, p8⟩ := prod_bound hcf.a0 (show 0 ≤ aD by have := ha.b1; omega) (by have := hcf.aH; have := headsZ_le n (n - k); omega) (by have := ha.bP; omega)
  obtain ⟨p9, p10⟩ := prod_bound (show 0 ≤ aD by have := ha.b1; omega) (show 0 ≤ cD by have := hcf.b1; omega) (by have := ha.bP; omega) (by have := hcf.bP; omega)
  have r1 := frac_le ha hb hP1 (headsZ_step n k)
  have r2 := frac_sum ha hcf hP1 (by have := headsZ_both n (k + 1) (by omega); rw [show n + 1 - (k + 1) = n - k by omega] at this; exact this)
  go_wp2_with (go_at_call 15; refine (tills_any _).mono ?_; rintro e w' ⟨rfl, rfl⟩)
  go_ret
  have g3 := gr_trans (gr_trans hg1 hg2) (gr_weak hg3 _)
  have g4 := gr_trans (gr_alloc g3 _) (gr_weak hg4 _)
  have g5 := gr_trans (gr_alloc g4 _) (gr_weak hg5 _)
  have g6 := gr_alloc (gr_alloc (gr_trans (gr_alloc g5 _) (gr_weak hg6 _)) (.cells #[.int .i64 cN, .int .i64 cD] 28)) (.cells #[.int .i64 1, .int .i64 1] 28)
  exact ⟨rfl, gr_grown (gr_alloc (gr_refl _ _) _) g6 (fun q hq => by cases hq; omega)⟩
end Go.Proofs.Ytlpkancpjdihgaa
