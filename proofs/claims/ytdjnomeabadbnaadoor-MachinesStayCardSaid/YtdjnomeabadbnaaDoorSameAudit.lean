/- slices.Equal of tubes, and of tallies, with the same contents; coilref.sum; coilref.SameAudit. Written by gen_equal.py. -/
import Derived.Test.YtdjnomeabadbnaaDoorTally
import Derived.Test.YtdjnomeabadbnaaDoorTotals
import Derived.WalkLawsBesides
namespace Go.Proofs.YtdjnomeabadbnaaDoor
open Go.RowKit
attribute [local go_sem ↓] Go.wp_at_zero Go.wp_at_succ

set_option maxRecDepth 100000 in
theorem equal_tubes (xs : List Tube) (a b : Option Addr) (c d : Nat) (w : World) (ha : CellsAt w a (flat encTube xs)) (hb : CellsAt w b (flat encTube xs)) (hl : xs.length ≤ 1000000) :
    Calls Tryd.prog 14 #[.slice a xs.length c, .slice b xs.length d] w fun e w' => e = .returned (.bool true) ∧ w.grownBy w' none := by
  go_enter Tryd.func14, Tryd.ntmps14
  go_wp2_with (fail)
  go_loopw [13] (fun i wr => ∃ k : Nat, k ≤ xs.length ∧ i = .int .i64 k ∧ w.grownBy wr none) (fun i _ => xs.length - (intOf i).toNat)
  case atStart => exact ⟨0, Nat.zero_le _, rfl, gr_refl _ _⟩
  case round =>
    obtain ⟨k, hk, rfl, hgr⟩ := hrel
    obtain ⟨wo, rfl⟩ : ∃ wo : World, wo = wr := ⟨_, rfl⟩
    by_cases hlt : k < xs.length
    · obtain ⟨b1, o1, rfl, hcs⟩ := flat_cells encTube_len (by decide) (ha.keep0 hgr) (by omega)
      obtain ⟨b2, o2, rfl, hcs2⟩ := flat_cells encTube_len (by decide) (hb.keep0 hgr) (by omega)
      obtain ⟨s, hs⟩ : ∃ s, s = xs[k] := ⟨_, rfl⟩
      obtain ⟨x, y, z⟩ := s
      have e0 : wo.cell? ⟨b1, o1 + k * 3, none⟩ = some (.int .i64 x) := hcs k hlt 0 _ (by rw [← hs]; rfl)
      have e1 : wo.cell? ⟨b1, o1 + k * 3 + 1, none⟩ = some (.int .i64 y) := hcs k hlt 1 _ (by rw [← hs]; rfl)
      have e2 : wo.cell? ⟨b1, o1 + k * 3 + 2, none⟩ = some (.int .i64 z) := hcs k hlt 2 _ (by rw [← hs]; rfl)
      have d0 : wo.cell? ⟨b2, o2 + k * 3, none⟩ = some (.int .i64 x) := hcs2 k hlt 0 _ (by rw [← hs]; rfl)
      have d1 : wo.cell? ⟨b2, o2 + k * 3 + 1, none⟩ = some (.int .i64 y) := hcs2 k hlt 1 _ (by rw [← hs]; rfl)
      have d2 : wo.cell? ⟨b2, o2 + k * 3 + 2, none⟩ = some (.int .i64 z) := hcs2 k hlt 2 _ (by rw [← hs]; rfl)
      clear hs hcs hcs2
      go_wp2_with (fail)
      go_region
      all_goals (go_wp2_with (fail))
      all_goals go_roundw
      case rel => exact ⟨k + 1, by omega, by go_num, gr_drew hgr⟩
      case measure => simp [intOf]; omega
    · go_wp2_with (fail)
      go_ret
      exact ⟨rfl, hgr⟩
set_option maxRecDepth 100000 in
theorem equal_tallies (xs : List Tally) (a b : Option Addr) (c d : Nat) (w : World) (ha : CellsAt w a (flat encTally xs)) (hb : CellsAt w b (flat encTally xs)) (hl : xs.length ≤ 1000000) :
    Calls Tryd.prog 85 #[.slice a xs.length c, .slice b xs.length d] w fun e w' => e = .returned (.bool true) ∧ w.grownBy w' none := by
  go_enter Tryd.func85, Tryd.ntmps85
  go_wp2_with (fail)
  go_loopw [13] (fun i wr => ∃ k : Nat, k ≤ xs.length ∧ i = .int .i64 k ∧ w.grownBy wr none) (fun i _ => xs.length - (intOf i).toNat)
  case atStart => exact ⟨0, Nat.zero_le _, rfl, gr_refl _ _⟩
  case round =>
    obtain ⟨k, hk, rfl, hgr⟩ := hrel
    obtain ⟨wo, rfl⟩ : ∃ wo : World, wo = wr := ⟨_, rfl⟩
    by_cases hlt : k < xs.length
    · obtain ⟨b1, o1, rfl, hcs⟩ := flat_cells encTally_len (by decide) (ha.keep0 hgr) (by omega)
      obtain ⟨b2, o2, rfl, hcs2⟩ := flat_cells encTally_len (by decide) (hb.keep0 hgr) (by omega)
      obtain ⟨s, hs⟩ : ∃ s, s = xs[k] := ⟨_, rfl⟩
      obtain ⟨K, y, z⟩ := s
      have e0 : wo.cell? ⟨b1, o1 + k * 3, none⟩ = some (.string K) := hcs k hlt 0 _ (by rw [← hs]; rfl)
      have e1 : wo.cell? ⟨b1, o1 + k * 3 + 1, none⟩ = some (.int .i64 y) := hcs k hlt 1 _ (by rw [← hs]; rfl)
      have e2 : wo.cell? ⟨b1, o1 + k * 3 + 2, none⟩ = some (.int .i64 z) := hcs k hlt 2 _ (by rw [← hs]; rfl)
      have d0 : wo.cell? ⟨b2, o2 + k * 3, none⟩ = some (.string K) := hcs2 k hlt 0 _ (by rw [← hs]; rfl)
      have d1 : wo.cell? ⟨b2, o2 + k * 3 + 1, none⟩ = some (.int .i64 y) := hcs2 k hlt 1 _ (by rw [← hs]; rfl)
      have d2 : wo.cell? ⟨b2, o2 + k * 3 + 2, none⟩ = some (.int .i64 z) := hcs2 k hlt 2 _ (by rw [← hs]; rfl)
      clear hs hcs hcs2
      go_wp2_with (fail)
      go_region
      all_goals (go_wp2_with (fail))
      all_goals go_roundw
      case rel => exact ⟨k + 1, by omega, by go_num, gr_drew hgr⟩
      case measure => simp [intOf]; omega
    · go_wp2_with (fail)
      go_ret
      exact ⟨rfl, hgr⟩
set_option maxRecDepth 100000 in
theorem refSum_same (xs : List Int) (a : Option Addr) (c : Nat) (w : World) (hc : CellsAt w a (ints xs)) (hl : xs.length ≤ 1000000) (hb : ∀ x ∈ xs, -1000000000000 ≤ x ∧ x ≤ 1000000000000) :
    Calls Tryd.prog 84 #[.slice a xs.length c] w fun e w' => e = .returned (.int .i64 xs.sum) ∧ w' = w := by
  have HB := Lib.hid (sum_bound xs (-1000000000000) 1000000000000 (by omega) (by omega) hb); clear hb
  go_enter Tryd.func84, Tryd.ntmps84
  go_wp2_with (fail)
  go_loop [3, 8] (fun s i => ∃ k : Nat, k ≤ xs.length ∧ i = .int .i64 k ∧ s = .int .i64 (xs.take k).sum) (fun _ i => xs.length - (intOf i).toNat)
  case atStart => exact ⟨0, Nat.zero_le _, rfl, rfl⟩
  case round =>
    obtain ⟨k, hk, rfl, rfl⟩ := hrel
    by_cases hlt : k < xs.length
    · obtain ⟨b, off, rfl, d0⟩ := hc k _ (ints_get xs k hlt)
      obtain ⟨b0, b1⟩ := HB.out k
      obtain ⟨b2, b3⟩ := HB.out (k + 1)
      have hnx := sum_next xs k hlt
      obtain ⟨x, hx⟩ : ∃ x, x = xs.getD k 0 := ⟨_, rfl⟩
      obtain ⟨s, hs⟩ : ∃ s, s = (xs.take k).sum := ⟨_, rfl⟩
      rw [← hx] at d0 hnx
      rw [← hs] at hnx b0 b1
      rw [← hs]
      rw [hnx] at b2 b3
      have HNX := Lib.hid hnx; clear hnx
      have HX := Lib.hid hx; clear hx
      have HS := Lib.hid hs; clear hs
      go_wp2_with (fail)
      go_round
      case rel => exact ⟨k + 1, by omega, by go_num, by rw [HNX.out]⟩
      case measure => simp [intOf]; omega
    · have hkl : k = xs.length := by omega
      have hfin : Hid ((xs.take k).sum = xs.sum) := by show _ = _; rw [hkl, List.take_length]
      have HK := Lib.hid hkl; clear hkl
      go_wp2_with (fail)
      go_ret
      exact ⟨ret_int hfin.out, rfl⟩

structure AuditIs (w : World) (v : Value) (S : List Tally) (T : List Tube) (i o f c b cr : Int) : Prop where
  ex : ∃ sa sc ta tc, v = .agg #[.slice sa S.length sc, .int .i64 i, .int .i64 o, .int .i64 f, .int .i64 c, .int .i64 b, .int .i64 cr, .slice ta T.length tc] ∧ CellsAt w sa (flat encTally S) ∧ CellsAt w ta (flat encTube T)
set_option maxRecDepth 100000 in
set_option maxHeartbeats 2000000 in
theorem sameAudit_any (u v : Value) (S : List Tally) (T : List Tube) (i o f c b cr : Int) (w : World) (hu : AuditIs w u S T i o f c b cr) (hv : AuditIs w v S T i o f c b cr) (hS : S.length ≤ 1000) (hT : T.length ≤ 1000) :
    Calls Tryd.prog 19 #[u, v] w fun e w' => e = .returned (.bool true) ∧ w.grownBy w' none := by
  obtain ⟨sa, sc, ta, tc, rfl, h1, h2⟩ := hu.ex
  obtain ⟨sb, sd, tb, td, rfl, h3, h4⟩ := hv.ex
  have H1 := Lib.hid h1; have H2 := Lib.hid h2; have H3 := Lib.hid h3; have H4 := Lib.hid h4
  clear h1 h2 h3 h4 hu hv
  have b1 : (i == i) = true := by simp
  have b2 : (o == o) = true := by simp
  have b3 : (f == f) = true := by simp
  have b4 : (c == c) = true := by simp
  have b5 : (b == b) = true := by simp
  have b6 : (cr == cr) = true := by simp
  go_enter Tryd.func19, Tryd.ntmps19
  go_wp2_with (fail)
  have p1 := heap_alloc_new w (.cells #[.slice sa S.length sc, .int .i64 i, .int .i64 o, .int .i64 f, .int .i64 c, .int .i64 b, .int .i64 cr, .slice ta T.length tc] 46)
  have p2 := heap_alloc_new (w.alloc (.cells #[.slice sa S.length sc, .int .i64 i, .int .i64 o, .int .i64 f, .int .i64 c, .int .i64 b, .int .i64 cr, .slice ta T.length tc] 46)) (.cells #[.slice sb S.length sd, .int .i64 i, .int .i64 o, .int .i64 f, .int .i64 c, .int .i64 b, .int .i64 cr, .slice tb T.length td] 46)
  rw [show (w.alloc (.cells #[.slice sa S.length sc, .int .i64 i, .int .i64 o, .int .i64 f, .int .i64 c, .int .i64 b, .int .i64 cr, .slice ta T.length tc] 46)).heap.size = w.heap.size + 1 by simp] at p2
  have g1 := gr_alloc (gr_refl w none) (.cells #[.slice sa S.length sc, .int .i64 i, .int .i64 o, .int .i64 f, .int .i64 c, .int .i64 b, .int .i64 cr, .slice ta T.length tc] 46)
  have g2 := gr_alloc (gr_refl (w.alloc (.cells #[.slice sa S.length sc, .int .i64 i, .int .i64 o, .int .i64 f, .int .i64 c, .int .i64 b, .int .i64 cr, .slice ta T.length tc] 46)) none) (.cells #[.slice sb S.length sd, .int .i64 i, .int .i64 o, .int .i64 f, .int .i64 c, .int .i64 b, .int .i64 cr, .slice tb T.length td] 46)
  have q1 := (g2.block w.heap.size (lt_of_block p1) (by simp)).trans p1
  have g12 := gr_trans g1 g2
  obtain ⟨w2, hw2⟩ : ∃ w2, w2 = (w.alloc (.cells #[.slice sa S.length sc, .int .i64 i, .int .i64 o, .int .i64 f, .int .i64 c, .int .i64 b, .int .i64 cr, .slice ta T.length tc] 46)).alloc (.cells #[.slice sb S.length sd, .int .i64 i, .int .i64 o, .int .i64 f, .int .i64 c, .int .i64 b, .int .i64 cr, .slice tb T.length td] 46) := ⟨_, rfl⟩
  rw [← hw2] at p2 q1 g12
  rw [← hw2]
  have l1 := lt_of_block q1
  have l2 := lt_of_block p2
  have Q1 := Lib.hid q1; have P2 := Lib.hid p2
  have G12 := Lib.hid g12
  clear hw2 p1 g1 g2 q1 p2
  refine (equal_tallies S sa sb sc sd w2 (H1.out.keep0 g12) (H3.out.keep0 g12) (by omega)).mono ?_
  rintro e w3 ⟨rfl, g3⟩
  have g23 := gr_trans g12 g3
  have hp3 := (g3.block _ l1 (by simp)).trans Q1.out
  have hq3 := (g3.block _ l2 (by simp)).trans P2.out
  have HP3 := Lib.hid hp3; have HQ3 := Lib.hid hq3
  have l1' := lt_of_block hp3
  have l2' := lt_of_block hq3
  have x7 := blkC hp3 7 rfl
  have y7 := blkC hq3 7 rfl
  clear hp3 hq3
  go_wp2_with (fail)
  refine (equal_tubes T ta tb tc td w3 (H2.out.keep0 g23) (H4.out.keep0 g23) (by omega)).mono ?_
  rintro e w4 ⟨rfl, g4⟩
  have hp4 := (g4.block _ l1' (by simp)).trans HP3.out
  have hq4 := (g4.block _ l2' (by simp)).trans HQ3.out
  have x0 := blkC hp4 0 rfl
  have x1 := blkC hp4 1 rfl
  have x2 := blkC hp4 2 rfl
  have x3 := blkC hp4 3 rfl
  have x4 := blkC hp4 4 rfl
  have x5 := blkC hp4 5 rfl
  have x6 := blkC hp4 6 rfl
  have x7 := blkC hp4 7 rfl
  have y0 := blkC hq4 0 rfl
  have y1 := blkC hq4 1 rfl
  have y2 := blkC hq4 2 rfl
  have y3 := blkC hq4 3 rfl
  have y4 := blkC hq4 4 rfl
  have y5 := blkC hq4 5 rfl
  have y6 := blkC hq4 6 rfl
  have y7 := blkC hq4 7 rfl
  clear hp4 hq4
  go_wp2_with (fail)
  go_ret
  exact ⟨rfl, gr_trans g23 g4⟩
end Go.Proofs.YtdjnomeabadbnaaDoor
