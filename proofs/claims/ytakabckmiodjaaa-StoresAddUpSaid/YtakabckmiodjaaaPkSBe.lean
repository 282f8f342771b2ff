/- What StockStays and its like ask at the end: a count, equal coils; what the stream makes is small and right. -/
import Derived.Test.YtakabckmiodjaaaPkSBd
import Derived.Test.YtakabckmiodjaaaPkSAq
namespace Go.Proofs.Ytakabckmiodjaaa
open Go.RowKit
attribute [local go_sem ↓] Go.wp_at_zero Go.wp_at_succ

def lotA : Lot := ⟨⟨#[97]⟩, ⟨#[99, 97, 110]⟩, 0, 3⟩
theorem lotA_ok : LotsOk [lotA] := ⟨by decide, fun y hy => by
    simp at hy; subst hy
    exact ⟨by kernel_rfl, by decide, by kernel_rfl, by decide, by decide, by decide, by decide, by decide⟩, fun i h0 hi => by simp at hi; omega⟩
set_option maxRecDepth 100000 in
set_option maxHeartbeats 1000000 in
theorem count_A (a : Option Addr) (c : Nat) (w : World) (h : CellsAt w a (flat encLot [lotA])) :
    Calls Try.prog 87 #[.slice a 1 c, .string ⟨#[99, 97, 110]⟩] w fun e w' => e = .returned (.tuple #[.int .i64 3, .int .i64 0]) ∧ w.grownBy w' none := by
  have CL : Hid (Calls Try.prog 73 #[.slice a 1 c] w fun e w' => e = .returned (.int .i64 0) ∧ w.grownBy w' none) := checkLots_ok [lotA] a c w h lotA_ok
  have H := Lib.hid h
  have hk : keyB ⟨#[99, 97, 110]⟩ = true := by kernel_rfl
  have HK := Lib.hid hk
  clear h hk
  go_enter Try.func87, Try.ntmps87
  go_wp2_with (fail)
  refine CL.out.mono ?_
  rintro e w1 ⟨rfl, g1⟩
  go_wp2_with (fail)
  refine (key_any ⟨#[99, 97, 110]⟩ w1 (by decide)).mono ?_
  rintro e w2 ⟨rfl, rfl⟩
  rw [HK.out]
  go_wp2_with (fail)
  go_loopw [7, 20] (fun s i wr => w.grownBy wr none ∧ ((s = .int .i64 0 ∧ i = .int .i64 0) ∨ (s = .int .i64 3 ∧ i = .int .i64 1))) (fun _ i _ => 1 - (intOf i).toNat)
  case atStart => exact ⟨g1, .inl ⟨rfl, rfl⟩⟩
  case round =>
    obtain ⟨hgr, hcase⟩ := hrel
    obtain ⟨wo, rfl⟩ : ∃ wo : World, wo = wr := ⟨_, rfl⟩
    rcases hcase with ⟨rfl, rfl⟩ | ⟨rfl, rfl⟩
    · obtain ⟨b, off, rfl, x0, x1, x2, x3⟩ := lot_cells (H.out.keep0 hgr) 0 (by decide)
      have d0 : wo.cell? ⟨b, off, none⟩ = some (.string ⟨#[97]⟩) := x0
      have d1 : wo.cell? ⟨b, off + 1, none⟩ = some (.string ⟨#[99, 97, 110]⟩) := x1
      have d2 : wo.cell? ⟨b, off + 2, none⟩ = some (.int .i64 0) := x2
      have d3 : wo.cell? ⟨b, off + 3, none⟩ = some (.int .i64 3) := x3
      have HGR := Lib.hid hgr
      have hcc : (({ data := #[99, 97, 110] } : ByteArray).toList == [99, 97, 110]) = true := by kernel_rfl
      clear hgr x0 x1 x2 x3
      go_wp2_with (fail)
      go_roundw
      case rel => exact ⟨gr_alloc HGR.out _, .inr ⟨rfl, rfl⟩⟩
      case measure => simp [intOf]
    · go_wp2_with (fail)
      go_ret2
      exact ⟨rfl, hgr⟩
set_option maxRecDepth 100000 in
theorem stocks_any (w : World) : Calls Try.prog 35 #[] w fun e w' => e = .returned (.bool true) ∧ w.grownBy w' none := by
  have g := gr_alloc (gr_refl w none) (.cells #[.string ⟨#[97]⟩, .string ⟨#[99, 97, 110]⟩, .int .i64 0, .int .i64 3] 69)
  have CN := Lib.hid (count_A (some ⟨w.heap.size, 0, none⟩) 1 (w.alloc (.cells #[.string ⟨#[97]⟩, .string ⟨#[99, 97, 110]⟩, .int .i64 0, .int .i64 3] 69)) (CellsAt.new _ _ _))
  go_enter Try.func35, Try.ntmps35
  go_wp2_with (fail)
  refine CN.out.mono ?_
  rintro e w2 ⟨rfl, g2⟩
  go_wp2_with (fail)
  go_ret
  exact ⟨rfl, gr_trans g g2⟩
end Go.Proofs.Ytakabckmiodjaaa
