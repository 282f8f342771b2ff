/- slices.Equal of stops with the same contents; round.Fair of a week that is wrong. -/
import Derived.Test.YtdjnomeabadbnaaStops
import Derived.Test.YtdjnomeabadbnaaWkFault
import Derived.WalkLawsBesides
namespace Go.Proofs.Ytdjnomeabadbnaa
open Go.RowKit

def IsTrue (w : World) (e : Ending) (w' : World) : Prop := e = .returned (.bool true) ∧ w.grownBy w' none
set_option maxRecDepth 100000 in
theorem equal_stops (xs : List Stop) (a b : Option Addr) (c d : Nat) (w : World) (ha : CellsAt w a (flat encStop xs)) (hb : CellsAt w b (flat encStop xs)) (hl : xs.length ≤ 1000000) :
    Calls Try.prog 13 #[.slice a xs.length c, .slice b xs.length d] w (IsTrue w) := by
  go_enter Try.func13, Try.ntmps13
  go_wp2_with (fail)
  go_loopw [13] (fun i wr => ∃ k : Nat, k ≤ xs.length ∧ i = .int .i64 k ∧ w.grownBy wr none) (fun i _ => xs.length - (intOf i).toNat)
  case atStart => exact ⟨0, Nat.zero_le _, rfl, gr_refl _ _⟩
  case round =>
    obtain ⟨k, hk, rfl, hgr⟩ := hrel
    obtain ⟨wo, rfl⟩ : ∃ wo : World, wo = wr := ⟨_, rfl⟩
    by_cases hlt : k < xs.length
    · obtain ⟨b1, o1, rfl, hcs⟩ := flat_cells encStop_len (by decide) (ha.keep0 hgr) (by omega)
      obtain ⟨b2, o2, rfl, hcs2⟩ := flat_cells encStop_len (by decide) (hb.keep0 hgr) (by omega)
      obtain ⟨s, hs⟩ : ∃ s, s = xs[k] := ⟨_, rfl⟩
      obtain ⟨K, x, y, f, t, l⟩ := s
      have e0 : wo.cell? ⟨b1, o1 + k * 6, none⟩ = some (.string K) := hcs k hlt 0 _ (by rw [← hs]; rfl)
      have e1 : wo.cell? ⟨b1, o1 + k * 6 + 1, none⟩ = some (.int .i64 x) := hcs k hlt 1 _ (by rw [← hs]; rfl)
      have e2 : wo.cell? ⟨b1, o1 + k * 6 + 2, none⟩ = some (.int .i64 y) := hcs k hlt 2 _ (by rw [← hs]; rfl)
      have e3 : wo.cell? ⟨b1, o1 + k * 6 + 3, none⟩ = some (.int .i64 f) := hcs k hlt 3 _ (by rw [← hs]; rfl)
      have e4 : wo.cell? ⟨b1, o1 + k * 6 + 4, none⟩ = some (.int .i64 t) := hcs k hlt 4 _ (by rw [← hs]; rfl)
      have e5 : wo.cell? ⟨b1, o1 + k * 6 + 5, none⟩ = some (.int .i64 l) := hcs k hlt 5 _ (by rw [← hs]; rfl)
      have d0 : wo.cell? ⟨b2, o2 + k * 6, none⟩ = some (.string K) := hcs2 k hlt 0 _ (by rw [← hs]; rfl)
      have d1 : wo.cell? ⟨b2, o2 + k * 6 + 1, none⟩ = some (.int .i64 x) := hcs2 k hlt 1 _ (by rw [← hs]; rfl)
      have d2 : wo.cell? ⟨b2, o2 + k * 6 + 2, none⟩ = some (.int .i64 y) := hcs2 k hlt 2 _ (by rw [← hs]; rfl)
      have d3 : wo.cell? ⟨b2, o2 + k * 6 + 3, none⟩ = some (.int .i64 f) := hcs2 k hlt 3 _ (by rw [← hs]; rfl)
      have d4 : wo.cell? ⟨b2, o2 + k * 6 + 4, none⟩ = some (.int .i64 t) := hcs2 k hlt 4 _ (by rw [← hs]; rfl)
      have d5 : wo.cell? ⟨b2, o2 + k * 6 + 5, none⟩ = some (.int .i64 l) := hcs2 k hlt 5 _ (by rw [← hs]; rfl)
      clear hs hcs hcs2
      go_wp2_with (fail)
      go_region
      all_goals (go_wp2_with (fail))
      all_goals go_roundw
      case rel => exact ⟨k + 1, by omega, by go_num, gr_drew hgr⟩
      case measure => simp [intOf]; omega
    · go_wp2_with (fail)
      go_ret
      exact ⟨rfl, hgr⟩
def FairBad (r : Int) (w : World) (e : Ending) (w' : World) : Prop := e = .returned (.tuple #[.slice none 0 0, .int .i64 r]) ∧ w.grownBy w' none
set_option maxRecDepth 100000 in
theorem fair_bad (ja : Option Addr) (J : List Int) (jc : Nat) (D : Int) (w : World) (hj : CellsAt w ja (ints J)) (hl : J.length ≤ 1000) (hb : badWeek D J ≠ 0) :
    Calls Try.prog 10 #[.agg #[.slice ja J.length jc, .int .i64 D]] w (FairBad (badWeek D J) w) := by
  have hP1 := heap_alloc_new w (.cells #[.slice ja J.length jc, .int .i64 D] 30)
  have hg1 := gr_alloc (gr_refl w none) (.cells #[.slice ja J.length jc, .int .i64 D] 30)
  obtain ⟨w1, hw1⟩ : ∃ w1, w1 = w.alloc (.cells #[.slice ja J.length jc, .int .i64 D] 30) := ⟨_, rfl⟩
  rw [← hw1] at hP1 hg1
  have HW1 := Lib.hid hw1
  have CP := Lib.hid (plan_any ja J jc D w1 (hj.keep0 hg1) (by omega))
  obtain ⟨r, hr⟩ : ∃ r, r = badWeek D J := ⟨_, rfl⟩
  rw [← hr] at hb CP
  rw [← hr]
  have h1 : (r != 0) = true := by simpa using hb
  have h2 : (r == 0) = false := by simpa using hb
  clear hw1 hP1 hr hb
  go_enter Try.func10, Try.ntmps10
  go_wp2_with (fail)
  rw [← HW1.out]
  refine CP.out.mono ?_
  rintro e w2 ⟨rfl, hg2⟩
  go_wp2_with (fail)
  go_ret2
  exact ⟨rfl, gr_trans hg1 hg2⟩
end Go.Proofs.Ytdjnomeabadbnaa
