/- round.Drive: no panic; where it is OK the order has places of stops. -/
import Derived.Test.YtdjnomeabadbnaaDrive
namespace Go.Proofs.Ytdjnomeabadbnaa
open Go.RowKit

/-- A tour and an error; where there is none the order has places of stops. -/
def ADrive (O : List Int) (n : Nat) (w : World) (e : Ending) (w' : World) : Prop :=
  (∃ (ba : Option Addr) (bn bc : Nat) (x y z r : Int), e = .returned (.tuple #[.agg #[.slice ba bn bc, .int .i64 x, .int .i64 y, .int .i64 z], .int .i64 r]) ∧ (r = 0 → ∀ i ∈ O, 0 ≤ i ∧ i < n)) ∧ w.grownBy w' none
set_option maxRecDepth 100000 in
set_option maxHeartbeats 2000000 in
theorem driveE_any (hx hy st : Int) (xs : List Stop) (a : Option Addr) (c : Nat) (O : List Int) (ao : Option Addr) (co : Nat) (w : World) (hc : CellsAt w a (flat encStop xs)) (hl : xs.length ≤ 1000) (hcap : xs.length ≤ c) (hk : ∀ x ∈ xs, x.key.size ≤ 100)
    (hco : CellsAt w ao (ints O)) (hlo : O.length ≤ 1000) :
    Calls Try.prog 34 #[.agg #[.int .i64 hx, .int .i64 hy], .slice a xs.length c, .int .i64 st, .slice ao O.length co] w (ADrive O xs.length w) := by
  obtain ⟨dt, hd1⟩ := und_struct (P := Try.prog) (t := 72) (by kernel_rfl)
  obtain ⟨b1, b2, b3⟩ := heap_3 w (.cells #[.int .i64 hx, .int .i64 hy] 36) (.cells #[.slice none 0 0, .int .i64 0, .int .i64 0, .int .i64 0] 72) (.cells #[.int .i64 hx, .int .i64 hy, .slice a xs.length c, .int .i64 st] 77)
  have g1 := gr_alloc (gr_alloc (gr_alloc (gr_refl w none) (.cells #[.int .i64 hx, .int .i64 hy] 36)) (.cells #[.slice none 0 0, .int .i64 0, .int .i64 0, .int .i64 0] 72)) (.cells #[.int .i64 hx, .int .i64 hy, .slice a xs.length c, .int .i64 st] 77)
  obtain ⟨w1, hw1⟩ : ∃ w1, w1 = (((w.alloc (.cells #[.int .i64 hx, .int .i64 hy] 36)).alloc (.cells #[.slice none 0 0, .int .i64 0, .int .i64 0, .int .i64 0] 72)).alloc (.cells #[.int .i64 hx, .int .i64 hy, .slice a xs.length c, .int .i64 st] 77)) := ⟨_, rfl⟩
  rw [← hw1] at b1 b2 b3 g1
  have HW1 := Lib.hid hw1
  obtain ⟨R, hR⟩ : ∃ R, R = w.heap.size + 1 := ⟨_, rfl⟩
  obtain ⟨T, hT⟩ : ∃ T, T = R + 1 := ⟨_, rfl⟩
  rw [show w.heap.size + 2 = T by omega] at b3
  rw [← hR] at b2
  have HR := Lib.hid hR
  have HT := Lib.hid hT
  have hwR : w.heap.size ≤ R := by omega
  obtain ⟨t0, t1, t2, t3⟩ := blk4 b3
  have HB2 := Lib.hid b2
  have HB3 := Lib.hid b3
  have FA := Lib.hid (tripFault_any hx hy st xs a c w1 (hc.keep0 g1) hl hcap hk)
  clear hw1 hR hT b1 b2 b3 hk hcap
  go_enter Try.func34, Try.ntmps34
  go_wp2_with (fail)
  rw [← HW1.out, ← HR.out, ← HT.out]
  refine FA.out.mono ?_
  rintro e w2 ⟨⟨r, rfl⟩, hg2⟩
  have hgr2 := gr_trans g1 hg2
  have hR2 := (hg2.block R (lt_of_block HB2.out) (by simp)).trans HB2.out
  have hT2 := (hg2.block T (lt_of_block HB3.out) (by simp)).trans HB3.out
  by_cases hr : r = 0
  · subst hr
    obtain ⟨t0, t1, t2, t3⟩ := blk4 hT2
    have HR2 := Lib.hid hR2
    have HT2 := Lib.hid hT2
    clear hg2 hR2 hT2 t0 t1 t2 t3
    obtain ⟨t0, t1, t2, t3⟩ := blk4 HT2.out
    go_wp2_with (fail)
    refine (orderFault_any hx hy st xs.length c a O ao co w2 hl (hco.keep0 hgr2) hlo).mono ?_
    rintro e w3 ⟨⟨r, rfl, hO⟩, hg3⟩
    have hgr3 := gr_trans hgr2 hg3
    have hR3 := (hg3.block R (lt_of_block HR2.out) (by simp)).trans HR2.out
    have hT3 := (hg3.block T (lt_of_block HT2.out) (by simp)).trans HT2.out
    have HR3 := Lib.hid hR3
    have HT3 := Lib.hid hT3
    clear hg3 hR3 hT3 t0 t1 t2 t3 HR2 HT2 hgr2
    by_cases hr : r = 0
    · subst hr
      have hO' := hO rfl
      have DR := Lib.hid (drive_any hx hy st xs a c O ao co w3 (hc.keep0 hgr3) hl (hco.keep0 hgr3) hlo hO')
      have HO := Lib.hid hO'
      obtain ⟨t0, t1, t2, t3⟩ := blk4 HT3.out
      clear hO hO'
      go_wp2_with (fail)
      refine DR.out.mono ?_
      rintro e w4 ⟨⟨ba, bn, bc, x, y, z, ok, rfl⟩, hg4⟩
      have hgr4 := gr_trans hgr3 hg4
      have hR4 := (hg4.block R (lt_of_block HR3.out) (by simp)).trans HR3.out
      have hRl := lt_of_block hR4
      obtain ⟨r0, r1, r2, r3⟩ := blk4 hR4
      have z0 := blkF hR4 0
      have z1 := blkF hR4 1
      have z2 := blkF hR4 2
      have z3 := blkF hR4 3
      have HR4 := Lib.hid hR4
      clear hg4 hR4 t0 t1 t2 t3
      cases ok with
      | true =>
        go_wp2_with (fail)
        have hR5 := set4_heap HR4.out (.slice ba bn bc) (.int .i64 x) (.int .i64 y) (.int .i64 z)
        have hR6 := ((gr_alloc (gr_refl _ none) (.cells #[.slice ba bn bc, .int .i64 x, .int .i64 y, .int .i64 z] 72)).block R (lt_of_block hR5) (by simp)).trans hR5
        refine bodyPost_ret (results_cell_slot (p := 8) (q := 9) (by kernel_rfl) _ _ R _ #[.slice ba bn bc, .int .i64 x, .int .i64 y, .int .i64 z] _ (.struct dt) _ rfl rfl hR6 hd1 rfl (by kernel_rfl)) rfl ⟨⟨_, _, _, _, _, _, _, rfl, fun _ => HO.out⟩, ?_⟩
        exact gr_alloc (gr_grown hgr4 (set4_gr _ _ _ _ _ _) (fun g e => by cases e; omega)) _
      | false =>
        go_wp2_with (fail)
        have hR5 := set4_heap HR4.out (.slice none 0 0) (.int .i64 0) (.int .i64 0) (.int .i64 0)
        have hR6 := ((gr_alloc (gr_refl _ none) (.cells #[.slice ba bn bc, .int .i64 x, .int .i64 y, .int .i64 z] 72)).block R (lt_of_block hR5) (by simp)).trans hR5
        refine bodyPost_ret (results_cell_slot (p := 8) (q := 9) (by kernel_rfl) _ _ R _ #[.slice none 0 0, .int .i64 0, .int .i64 0, .int .i64 0] _ (.struct dt) _ rfl rfl hR6 hd1 rfl (by kernel_rfl)) rfl ⟨⟨_, _, _, _, _, _, _, rfl, fun _ => HO.out⟩, ?_⟩
        exact gr_alloc (gr_grown hgr4 (set4_gr _ _ _ _ _ _) (fun g e => by cases e; omega)) _
    · have hr0 : (r != 0) = true := by simpa using hr
      have hr1 : (r == 0) = false := by simpa using hr
      have HNR := Lib.hid hr
      obtain ⟨r0, r1, r2, r3⟩ := blk4 HR3.out
      have z0 := blkF HR3.out 0
      have z1 := blkF HR3.out 1
      have z2 := blkF HR3.out 2
      have z3 := blkF HR3.out 3
      clear hr hO
      go_wp2_with (fail)
      refine bodyPost_ret (results_cell_slot (p := 8) (q := 9) (by kernel_rfl) _ _ R _ #[.slice none 0 0, .int .i64 0, .int .i64 0, .int .i64 0] _ (.struct dt) _ rfl rfl (set4_heap HR3.out _ _ _ _) hd1 rfl (by kernel_rfl)) rfl ⟨⟨_, _, _, _, _, _, _, rfl, fun h => absurd h HNR.out⟩, ?_⟩
      exact gr_grown hgr3 (set4_gr _ _ _ _ _ _) (fun g e => by cases e; omega)
  · have hr0 : (r != 0) = true := by simpa using hr
    have hr1 : (r == 0) = false := by simpa using hr
    have HNR := Lib.hid hr
    have HR3 := Lib.hid hR2
    obtain ⟨r0, r1, r2, r3⟩ := blk4 HR3.out
    have z0 := blkF HR3.out 0
    have z1 := blkF HR3.out 1
    have z2 := blkF HR3.out 2
    have z3 := blkF HR3.out 3
    clear hr hR2 hT2
    go_wp2_with (fail)
    refine bodyPost_ret (results_cell_slot (p := 8) (q := 9) (by kernel_rfl) _ _ R _ #[.slice none 0 0, .int .i64 0, .int .i64 0, .int .i64 0] _ (.struct dt) _ rfl rfl (set4_heap HR3.out _ _ _ _) hd1 rfl (by kernel_rfl)) rfl ⟨⟨_, _, _, _, _, _, _, rfl, fun h => absurd h HNR.out⟩, ?_⟩
    exact gr_grown hgr2 (set4_gr _ _ _ _ _ _) (fun g e => by cases e; omega)
end Go.Proofs.Ytdjnomeabadbnaa
