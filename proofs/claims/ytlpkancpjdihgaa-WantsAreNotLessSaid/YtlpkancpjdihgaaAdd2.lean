/- demand.Add of nothing and a fraction. -/
import Derived.Test.YtlpkancpjdihgaaAdd
namespace Go.Proofs.Ytlpkancpjdihgaa
open Go.RowKit

/-- What Add's variables hold: the operands in blocks B and B + 1, the result in B + 2, the two that are gone through in B + 3. -/
structure AddW (B : Nat) (x y : Int) (w : World) : Prop where
  a0 : w.cell? ⟨B, 0, none⟩ = some (.int .i64 0)
  a1 : w.cell? ⟨B, 1, none⟩ = some (.int .i64 1)
  b0 : w.cell? ⟨B + 1, 0, none⟩ = some (.int .i64 x)
  b1 : w.cell? ⟨B + 1, 1, none⟩ = some (.int .i64 y)
  r0 : w.cell? ⟨B + 2, 0, none⟩ = some (.int .i64 0)
  r1 : w.cell? ⟨B + 2, 1, none⟩ = some (.int .i64 0)
  f0 : w.frozen? ⟨B + 2, 0, none⟩ = false
  f1 : w.frozen? ⟨B + 2, 1, none⟩ = false
  s0 : w.cell? ⟨B + 3, 0, none⟩ = some (.int .i64 0)
  s1 : w.cell? ⟨B + 3, 1, none⟩ = some (.int .i64 1)
  s2 : w.cell? ⟨B + 3, 2, none⟩ = some (.int .i64 x)
  s3 : w.cell? ⟨B + 3, 3, none⟩ = some (.int .i64 y)
theorem AddW.keep {B : Nat} {x y : Int} {w w1 : World} (h : AddW B x y w) (g : w.grownBy w1 none) : AddW B x y w1 := by
  have k : ∀ {b o : Nat} {v : Value}, w.cell? ⟨b, o, none⟩ = some v → w1.cell? ⟨b, o, none⟩ = some v := fun h => g.cell h (by simp)
  have l2 := lt_of_cell h.r0
  exact ⟨k h.a0, k h.a1, k h.b0, k h.b1, k h.r0, k h.r1, (gr_free g l2).trans h.f0, (gr_free g l2).trans h.f1, k h.s0, k h.s1, k h.s2, k h.s3⟩

theorem fraction_one (num den : Int) (w : World) (hn : -9223372036854775807 ≤ num) (hn' : num ≤ 9223372036854775807) (hd : 1 ≤ den) (hd' : den ≤ 9223372036854775807) (h : Int.gcd num den = 1) :
    Calls Try.prog 86 #[.int .i64 num, .int .i64 den] w fun e w' => e = .returned (.agg #[.int .i64 num, .int .i64 den]) ∧ w.grownBy w' none := by
  refine (fraction_any num den w hn hn' hd hd').mono ?_
  rintro e w' ⟨rfl, hg⟩
  rw [h]
  refine ⟨?_, hg⟩
  rw [show ((1 : Nat) : Int) = 1 from rfl, Int.ediv_one, Int.ediv_one]

def AddPost (x y : Int) (w : World) (e : Ending) (w' : World) : Prop := ∃ p q r : Int, e = .returned (.tuple #[.agg #[.int .i64 p, .int .i64 q], .int .i64 r]) ∧ (r = 0 → p = x ∧ q = y ∧ 1 ≤ y ∧ y ≤ 1000000000 ∧ -1000000000 ≤ x ∧ x ≤ 1000000000) ∧ w.grownBy w' none

set_option maxRecDepth 100000 in
set_option maxHeartbeats 2000000 in
theorem add_any (x y : Int) (w : World) (hx : -9223372036854775807 ≤ x) (hx' : x ≤ 9223372036854775807) :
    Calls Try.prog 22 #[.agg #[.int .i64 0, .int .i64 1], .agg #[.int .i64 x, .int .i64 y]] w (AddPost x y w) := by
  obtain ⟨B, hB⟩ : ∃ B, B = w.heap.size := ⟨_, rfl⟩
  go_enter Try.func22, Try.ntmps22
  go_wp2_with (fail)
  rw [← hB]
  go_loopw [13] (fun i wr => ∃ k : Nat, k ≤ 2 ∧ i = .int .i64 k ∧ (k = 2 → 1 ≤ y ∧ y ≤ 1000000000 ∧ -1000000000 ≤ x ∧ x ≤ 1000000000 ∧ Int.gcd x y = 1) ∧ AddW B x y wr ∧ B + 4 ≤ wr.heap.size ∧ w.grownBy wr none) (fun i _ => 2 - (intOf i).toNat)
  case atStart =>
    refine ⟨0, by omega, rfl, fun h => by omega, ?_, by simp; omega, gr_alloc (gr_alloc (gr_alloc (gr_alloc (gr_refl _ _) _) _) _) _⟩
    subst hB
    constructor <;> simp [go_sem]
  case round =>
    obtain ⟨k, hk, rfl, hgood, hw, hsz, hgr⟩ := hrel
    obtain ⟨wo, rfl⟩ : ∃ wo : World, wo = wr := ⟨_, rfl⟩
    have hB2 : w.heap.size ≤ B + 1 + 1 := by omega
    have HB := Lib.hid hB; clear hB
    have HGOOD := Lib.hid hgood; clear hgood
    have HW := Lib.hid hw
    obtain ⟨a0, a1, b0, b1, r0, r1, f0, f1, s0, s1, s2, s3⟩ := hw
    have l0 : B < wo.heap.size := by omega
    have l1 : B + 1 < wo.heap.size := by omega
    have l2 : B + 2 < wo.heap.size := by omega
    have l3 : B + 3 < wo.heap.size := by omega
    rcases (show k = 0 ∨ k = 1 ∨ k = 2 by omega) with h | h | h
    · subst h
      clear HGOOD hk
      go_wp2_with (first | (go_at_call 94; refine (gcd_any 0 1 _ (by omega) (by omega) (by omega) (by omega)).mono ?_; rintro e w' ⟨rfl, nd, rfl⟩; rw [show ((Int.gcd 0 1 : Nat) : Int) = 1 from rfl]) | go_in)
      go_roundw
      case rel => exact ⟨1, by omega, rfl, fun h => by omega, HW.out.keep (gr_drewN (gr_alloc (gr_refl _ _) _) _), by simp; omega, gr_drewN (gr_alloc hgr _) _⟩
      case measure => simp [intOf]
    · subst h
      clear HGOOD hk
      by_cases hy0 : y < 1
      · go_wp2_with (go_in)
        refine bodyPost_ret (v := .tuple #[.agg #[.int .i64 0, .int .i64 0], .int .i64 3]) ?_ rfl ⟨0, 0, 3, rfl, fun h => absurd h (by decide), gr_alloc (gr_new (gr_new hgr hB2 _) hB2 _) _⟩
        simp [results, Try.results22, go_sem, r0, r1, l2]
      by_cases hy1 : 1000000000 < y
      · go_wp2_with (go_in)
        refine bodyPost_ret (v := .tuple #[.agg #[.int .i64 0, .int .i64 0], .int .i64 3]) ?_ rfl ⟨0, 0, 3, rfl, fun h => absurd h (by decide), gr_alloc (gr_new (gr_new hgr hB2 _) hB2 _) _⟩
        simp [results, Try.results22, go_sem, r0, r1, l2]
      by_cases hx0 : x < -1000000000
      · go_wp2_with (go_in)
        refine bodyPost_ret (v := .tuple #[.agg #[.int .i64 0, .int .i64 0], .int .i64 3]) ?_ rfl ⟨0, 0, 3, rfl, fun h => absurd h (by decide), gr_alloc (gr_new (gr_new hgr hB2 _) hB2 _) _⟩
        simp [results, Try.results22, go_sem, r0, r1, l2]
      by_cases hx1 : 1000000000 < x
      · go_wp2_with (go_in)
        refine bodyPost_ret (v := .tuple #[.agg #[.int .i64 0, .int .i64 0], .int .i64 3]) ?_ rfl ⟨0, 0, 3, rfl, fun h => absurd h (by decide), gr_alloc (gr_new (gr_new hgr hB2 _) hB2 _) _⟩
        simp [results, Try.results22, go_sem, r0, r1, l2]
      obtain ⟨g, hg⟩ : ∃ g : Int, g = Int.gcd x y := ⟨_, rfl⟩
      have hgn : (Int.gcd (-x) y : Int) = g := by rw [Int.neg_gcd, hg]
      have HG : Hid ((Int.gcd x y : Int) = g) := hg.symm
      have HGN := Lib.hid hgn; clear hgn hg
      have hgg : g = 1 → (1 ≤ y ∧ y ≤ 1000000000 ∧ -1000000000 ≤ x ∧ x ≤ 1000000000 ∧ Int.gcd x y = 1) := fun h => ⟨by omega, by omega, by omega, by omega, by have := HG.out; omega⟩
      have HGG := Lib.hid hgg; clear hgg
      by_cases hg1 : g = 1
      · have hgb : (g != 1) = false := by simp [hg1]
        have HG1 := Lib.hid hg1; clear hg1
        by_cases hs : x < 0
        · go_wp2_with (first | (go_at_call 94; refine (gcd_any (-x) y _ (by omega) (by omega) (by omega) (by omega)).mono ?_; rintro e w' ⟨rfl, nd, rfl⟩; rw [HGN.out]) | go_in)
          go_roundw
          case rel => exact ⟨2, by omega, rfl, fun _ => HGG.out HG1.out, HW.out.keep (gr_drewN (gr_alloc (gr_refl _ _) _) _), by simp; omega, gr_drewN (gr_alloc hgr _) _⟩
          case measure => simp [intOf]
        · go_wp2_with (first | (go_at_call 94; refine (gcd_any x y _ (by omega) (by omega) (by omega) (by omega)).mono ?_; rintro e w' ⟨rfl, nd, rfl⟩; rw [HG.out]) | go_in)
          go_roundw
          case rel => exact ⟨2, by omega, rfl, fun _ => HGG.out HG1.out, HW.out.keep (gr_drewN (gr_alloc (gr_refl _ _) _) _), by simp; omega, gr_drewN (gr_alloc hgr _) _⟩
          case measure => simp [intOf]
      · have hgb : (g != 1) = true := by simp [hg1]
        by_cases hs : x < 0
        · go_wp2_with (first | (go_at_call 94; refine (gcd_any (-x) y _ (by omega) (by omega) (by omega) (by omega)).mono ?_; rintro e w' ⟨rfl, nd, rfl⟩; rw [HGN.out]) | go_in)
          refine bodyPost_ret (v := .tuple #[.agg #[.int .i64 0, .int .i64 0], .int .i64 3]) ?_ rfl ⟨0, 0, 3, rfl, fun h => absurd h (by decide), ?_⟩
          · simp [results, Try.results22, go_sem, r0, r1, l2, set_drewN]
          · exact gr_new (gr_new (gr_drewN (gr_alloc hgr _) _) hB2 _) hB2 _
        · go_wp2_with (first | (go_at_call 94; refine (gcd_any x y _ (by omega) (by omega) (by omega) (by omega)).mono ?_; rintro e w' ⟨rfl, nd, rfl⟩; rw [HG.out]) | go_in)
          refine bodyPost_ret (v := .tuple #[.agg #[.int .i64 0, .int .i64 0], .int .i64 3]) ?_ rfl ⟨0, 0, 3, rfl, fun h => absurd h (by decide), ?_⟩
          · simp [results, Try.results22, go_sem, r0, r1, l2, set_drewN]
          · exact gr_new (gr_new (gr_drewN (gr_alloc hgr _) _) hB2 _) hB2 _
    · subst h
      obtain ⟨hy0, hy1, hx0, hx1, hg⟩ := HGOOD.out rfl
      clear HGOOD
      go_wp2_with (fail)
      refine (fraction_one x y _ (by omega) (by omega) (by omega) (by omega) hg).mono ?_
      rintro e w3 ⟨rfl, hg3⟩
      have hw3 := HW.out.keep hg3
      have hgr3 := gr_trans hgr hg3
      have hsz3 := hg3.size
      have m2 : B + 2 < w3.heap.size := by omega
      have r0' := hw3.r0
      have r1' := hw3.r1
      have f0' := hw3.f0
      have f1' := hw3.f1
      clear HW hw3 a0 a1 b0 b1 r0 r1 f0 f1 s0 s1 s2 s3
      go_wp2_with (go_in)
      refine bodyPost_ret (v := .tuple #[.agg #[.int .i64 x, .int .i64 y], .int .i64 0]) ?_ rfl ⟨x, y, 0, rfl, fun _ => ⟨rfl, rfl, hy0, hy1, hx0, hx1⟩, gr_alloc (gr_new (gr_new hgr3 hB2 _) hB2 _) _⟩
      simp [results, Try.results22, go_sem, r0', r1', m2]
end Go.Proofs.Ytlpkancpjdihgaa
