/- The statements' word that the package counts. -/
import Derived.Test.YtehhmgbgkemidaaGreatDoorPkSAr
import Derived.Test.YtehhmgbgkemidaaGreatDoorPkSBm
namespace Go.Proofs.YtehhmgbgkemidaaGreatDoor
open Go.RowKit
attribute [local go_sem ↓] Go.wp_at_zero Go.wp_at_succ

theorem share_12 {P : List Int} (h : ShareOk 3 3 [1, 2] P) : P = [1, 2] := by
  have h0 := h.each 0 (by decide)
  have h1 := h.each 1 (by decide)
  have hl := h.len
  have hs := h.all
  match P, hl with
  | [a, b], _ =>
    have e0 : (quoL 3 3 [1, 2]).getD 0 0 = 1 := by decide
    have e1 : (quoL 3 3 [1, 2]).getD 1 0 = 2 := by decide
    rw [e0] at h0
    rw [e1] at h1
    simp at h0 h1 hs
    have ea : a = 1 := by omega
    have eb : b = 2 := by omega
    rw [ea, eb]
set_option maxRecDepth 100000 in
theorem meters_any (w : World) : Calls Tryz.prog 10 #[] w fun e w' => e = .returned (.bool true) ∧ w.grownBy w' none := by
  have g1 := gr_alloc (gr_refl w none) (.cells #[.int .i64 1, .int .i64 2] 3)
  have SH : Hid (Calls Tryz.prog 57 #[.int .i64 3, .slice (some ⟨w.heap.size, 0, none⟩) 2 2] (w.alloc (.cells #[.int .i64 1, .int .i64 2] 3)) fun e w' => ∃ v P, e = .returned (.tuple #[v, .int .i64 0]) ∧ w'.ownsRow (w.alloc (.cells #[.int .i64 1, .int .i64 2] 3)).heap.size 3 1 v 2 (ints P) ∧ ShareOk 3 3 [1, 2] P ∧ (w.alloc (.cells #[.int .i64 1, .int .i64 2] 3)).grownBy w' none) :=
    meterShare_ok 3 [1, 2] (some ⟨w.heap.size, 0, none⟩) 2 (w.alloc (.cells #[.int .i64 1, .int .i64 2] 3)) (CellsAt.new w #[.int .i64 1, .int .i64 2] 3) (by decide) (by decide) (by decide) (by decide) (by decide)
  have HG1 := Lib.hid g1
  clear g1
  go_enter Tryz.func10, Tryz.ntmps10
  go_wp2_with (fail)
  refine SH.out.mono ?_
  rintro e w2 ⟨v, P, rfl, ho, hP, g2⟩
  have e := share_12 hP
  subst e
  obtain ⟨va, vc, rfl, -, -, hc, -⟩ := own_shape ho
  have HG2 := Lib.hid (gr_trans HG1.out g2)
  have EQ : Hid (Calls Tryz.prog 40 #[.slice va 2 vc, .slice (some ⟨w2.heap.size, 0, none⟩) 2 2] (w2.alloc (.cells #[.int .i64 1, .int .i64 2] 3)) fun e w' => e = .returned (.bool true) ∧ (w2.alloc (.cells #[.int .i64 1, .int .i64 2] 3)).grownBy w' none) :=
    equal_int [1, 2] va (some ⟨w2.heap.size, 0, none⟩) vc 2 (w2.alloc (.cells #[.int .i64 1, .int .i64 2] 3)) (hc.alloc _) (CellsAt.new w2 #[.int .i64 1, .int .i64 2] 3) (by decide)
  have g3 := gr_alloc (gr_refl w2 none) (.cells #[.int .i64 1, .int .i64 2] 3)
  have HG3 := Lib.hid (gr_trans HG2.out g3)
  clear ho hP hc g2 g3 SH
  go_wp2_with (fail)
  refine EQ.out.mono ?_
  rintro e w4 ⟨rfl, g4⟩
  have HG4 := Lib.hid (gr_trans HG3.out g4)
  clear g4
  go_wp2_with (fail)
  go_ret
  exact ⟨rfl, HG4.out⟩
end Go.Proofs.YtehhmgbgkemidaaGreatDoor
