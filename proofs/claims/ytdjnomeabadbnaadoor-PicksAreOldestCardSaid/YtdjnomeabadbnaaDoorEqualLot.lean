/- slices.Equal at []coilrack/api.Lot, of the same contents. Written by mkequal.py. -/
import Derived.Test.YtdjnomeabadbnaaDoorLots
import Derived.WalkLawsBesides
namespace Go.Proofs.YtdjnomeabadbnaaDoor
open Go.RowKit

set_option maxRecDepth 100000 in
theorem equal_Lot (xs : List Lot) (a b : Option Addr) (c d : Nat) (w : World) (ha : CellsAt w a (flat encLot xs)) (hb : CellsAt w b (flat encLot xs)) (hl : xs.length ≤ 1000000) :
    Calls Tryd.prog 60 #[.slice a xs.length c, .slice b xs.length d] w fun e w' => e = .returned (.bool true) ∧ w.grownBy w' none := by
  go_enter Tryd.func60, Tryd.ntmps60
  go_wp2_with (fail)
  go_loopw [13] (fun i wr => ∃ k : Nat, k ≤ xs.length ∧ i = .int .i64 k ∧ w.grownBy wr none) (fun i _ => xs.length - (intOf i).toNat)
  case atStart => exact ⟨0, Nat.zero_le _, rfl, gr_refl _ _⟩
  case round =>
    obtain ⟨k, hk, rfl, hgr⟩ := hrel
    obtain ⟨wo, rfl⟩ : ∃ wo : World, wo = wr := ⟨_, rfl⟩
    by_cases hlt : k < xs.length
    · obtain ⟨b1, o1, rfl, hcs⟩ := flat_cells (enc := encLot) (m := 4) (fun _ => rfl) (by decide) (ha.keep0 hgr) (by omega)
      obtain ⟨b2, o2, rfl, hcs2⟩ := flat_cells (enc := encLot) (m := 4) (fun _ => rfl) (by decide) (hb.keep0 hgr) (by omega)
      obtain ⟨s, hs⟩ : ∃ s, s = xs[k] := ⟨_, rfl⟩
      obtain ⟨y0, y1, y2, y3⟩ := s
      have e0 : wo.cell? ⟨b1, o1 + k * 4, none⟩ = some (.string y0) := hcs k hlt 0 _ (by rw [← hs]; rfl)
      have e1 : wo.cell? ⟨b1, o1 + k * 4 + 1, none⟩ = some (.string y1) := hcs k hlt 1 _ (by rw [← hs]; rfl)
      have e2 : wo.cell? ⟨b1, o1 + k * 4 + 2, none⟩ = some (.int .i64 y2) := hcs k hlt 2 _ (by rw [← hs]; rfl)
      have e3 : wo.cell? ⟨b1, o1 + k * 4 + 3, none⟩ = some (.int .i64 y3) := hcs k hlt 3 _ (by rw [← hs]; rfl)
      have d0 : wo.cell? ⟨b2, o2 + k * 4, none⟩ = some (.string y0) := hcs2 k hlt 0 _ (by rw [← hs]; rfl)
      have d1 : wo.cell? ⟨b2, o2 + k * 4 + 1, none⟩ = some (.string y1) := hcs2 k hlt 1 _ (by rw [← hs]; rfl)
      have d2 : wo.cell? ⟨b2, o2 + k * 4 + 2, none⟩ = some (.int .i64 y2) := hcs2 k hlt 2 _ (by rw [← hs]; rfl)
      have d3 : wo.cell? ⟨b2, o2 + k * 4 + 3, none⟩ = some (.int .i64 y3) := hcs2 k hlt 3 _ (by rw [← hs]; rfl)
      clear hs hcs hcs2
      go_wp2_with (fail)
      go_region
      all_goals (go_wp2_with (fail))
      all_goals go_roundw
      case rel => exact ⟨k + 1, by omega, by go_num, gr_drew hgr⟩
      case measure => simp [intOf]; omega
    · go_wp2_with (fail)
      go_ret
      exact ⟨rfl, hgr⟩

/-! slices.Equal at []coilrack/api.Piece, of the same contents. Written by mkequal.py. -/

set_option maxRecDepth 100000 in
theorem equal_Pc (xs : List Piece) (a b : Option Addr) (c d : Nat) (w : World) (ha : CellsAt w a (flat encPc xs)) (hb : CellsAt w b (flat encPc xs)) (hl : xs.length ≤ 1000000) :
    Calls Tryd.prog 62 #[.slice a xs.length c, .slice b xs.length d] w fun e w' => e = .returned (.bool true) ∧ w.grownBy w' none := by
  go_enter Tryd.func62, Tryd.ntmps62
  go_wp2_with (fail)
  go_loopw [13] (fun i wr => ∃ k : Nat, k ≤ xs.length ∧ i = .int .i64 k ∧ w.grownBy wr none) (fun i _ => xs.length - (intOf i).toNat)
  case atStart => exact ⟨0, Nat.zero_le _, rfl, gr_refl _ _⟩
  case round =>
    obtain ⟨k, hk, rfl, hgr⟩ := hrel
    obtain ⟨wo, rfl⟩ : ∃ wo : World, wo = wr := ⟨_, rfl⟩
    by_cases hlt : k < xs.length
    · obtain ⟨b1, o1, rfl, hcs⟩ := flat_cells (enc := encPc) (m := 2) (fun _ => rfl) (by decide) (ha.keep0 hgr) (by omega)
      obtain ⟨b2, o2, rfl, hcs2⟩ := flat_cells (enc := encPc) (m := 2) (fun _ => rfl) (by decide) (hb.keep0 hgr) (by omega)
      obtain ⟨s, hs⟩ : ∃ s, s = xs[k] := ⟨_, rfl⟩
      obtain ⟨y0, y1⟩ := s
      have e0 : wo.cell? ⟨b1, o1 + k * 2, none⟩ = some (.string y0) := hcs k hlt 0 _ (by rw [← hs]; rfl)
      have e1 : wo.cell? ⟨b1, o1 + k * 2 + 1, none⟩ = some (.int .i64 y1) := hcs k hlt 1 _ (by rw [← hs]; rfl)
      have d0 : wo.cell? ⟨b2, o2 + k * 2, none⟩ = some (.string y0) := hcs2 k hlt 0 _ (by rw [← hs]; rfl)
      have d1 : wo.cell? ⟨b2, o2 + k * 2 + 1, none⟩ = some (.int .i64 y1) := hcs2 k hlt 1 _ (by rw [← hs]; rfl)
      clear hs hcs hcs2
      go_wp2_with (fail)
      go_region
      all_goals (go_wp2_with (fail))
      all_goals go_roundw
      case rel => exact ⟨k + 1, by omega, by go_num, gr_drew hgr⟩
      case measure => simp [intOf]; omega
    · go_wp2_with (fail)
      go_ret
      exact ⟨rfl, hgr⟩
end Go.Proofs.YtdjnomeabadbnaaDoor
