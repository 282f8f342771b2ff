/- coiltop.ready: all packages do something. -/
import Derived.Test.YtdminjijhpemkaaGreatDoorPkSBl
import Derived.Test.YtdminjijhpemkaaGreatDoorPkSBx
namespace Go.Proofs.YtdminjijhpemkaaGreatDoor
open Go.RowKit
attribute [local go_sem ↓] Go.wp_at_zero Go.wp_at_succ

set_option maxRecDepth 100000 in
set_option maxHeartbeats 4000000 in
theorem ready_any (w : World) (E : EnvP w) : Calls Tryz.prog 15 #[] w fun e w' => e = .returned (.bool true) ∧ w.grownBy w' none := by
  have HE := Lib.hid E
  clear E
  go_enter Tryz.func15, Tryz.ntmps15
  go_wp2_with (fail)
  have g1 := gr_alloc (gr_refl w none) (.cells #[.int .i64 10, .int .i64 3, .int .i64 5] 121)
  refine (total30_any (some ⟨w.heap.size, 0, none⟩) 1 (w.alloc (.cells #[.int .i64 10, .int .i64 3, .int .i64 5] 121)) (CellsAt.new w #[.int .i64 10, .int .i64 3, .int .i64 5] 121)).mono ?_
  rintro e w1 ⟨rfl, g1'⟩
  have G1 := Lib.hid (gr_trans g1 g1')
  clear g1 g1'
  go_wp2_with (fail)
  have g2 := gr_alloc (gr_refl w1 none) (.cells #[.int .i64 1, .int .i64 2] 3)
  refine (meterShare_ok 3 [1, 2] (some ⟨w1.heap.size, 0, none⟩) 2 (w1.alloc (.cells #[.int .i64 1, .int .i64 2] 3)) (CellsAt.new w1 #[.int .i64 1, .int .i64 2] 3) (by decide) (by decide) (by decide) (by decide) (by decide)).mono ?_
  rintro e w2 ⟨v, P, rfl, ho, hP, g2'⟩
  have e2 := share_12 hP
  subst e2
  obtain ⟨va, vc, rfl, -, -, hc, -⟩ := own_shape ho
  have HC := Lib.hid hc
  have G2 := Lib.hid (gr_trans G1.out (gr_trans g2 g2'))
  clear g2 g2' ho hP hc
  go_wp2_with (fail)
  have g3 := gr_alloc (gr_refl w2 none) (.cells #[.int .i64 1, .int .i64 7, .bool false] 127)
  refine (rate7_any (some ⟨w2.heap.size, 0, none⟩) 1 (w2.alloc (.cells #[.int .i64 1, .int .i64 7, .bool false] 127)) (CellsAt.new w2 #[.int .i64 1, .int .i64 7, .bool false] 127)).mono ?_
  rintro e w3 ⟨rfl, g3'⟩
  have HC3 := Lib.hid (HC.out.keep0 (gr_trans g3 g3'))
  have G3 := Lib.hid (gr_trans G2.out (gr_trans g3 g3'))
  clear g3 g3' HC
  go_wp2_with (fail)
  have gF := gr_alloc (gr_refl w3 none) (.cells #[.int .i64 7, .int .i64 1] 123)
  have hF := heap_alloc_new w3 (.cells #[.int .i64 7, .int .i64 1] 123)
  obtain ⟨w4, hw4⟩ : ∃ w4, w4 = w3.alloc (.cells #[.int .i64 7, .int .i64 1] 123) := ⟨_, rfl⟩
  have hz4 : w3.heap.size + 1 = w4.heap.size := by rw [hw4]; simp
  rw [← hw4] at gF hF
  rw [← hw4, hz4]
  obtain ⟨FB, hFB⟩ : ∃ FB, FB = w3.heap.size := ⟨_, rfl⟩
  rw [← hFB] at hF
  rw [← hFB]
  have HF4 := Lib.hid hF
  have HC4 := Lib.hid (HC3.out.keep0 gF)
  have G4 := Lib.hid (gr_trans G3.out gF)
  clear gF hF hw4 hz4 hFB HC3
  have g5 := gr_alloc (gr_refl w4 none) (.cells #[.string ⟨#[97]⟩, .string ⟨#[99, 97, 110]⟩, .int .i64 0, .int .i64 3] 39)
  refine (count_A (some ⟨w4.heap.size, 0, none⟩) 1 (w4.alloc (.cells #[.string ⟨#[97]⟩, .string ⟨#[99, 97, 110]⟩, .int .i64 0, .int .i64 3] 39)) (CellsAt.new _ _ _)).mono ?_
  rintro e w5 ⟨rfl, g5'⟩
  have g45 := gr_trans g5 g5'
  have HF5 := Lib.hid ((g45.block FB (lt_of_block HF4.out) (by simp)).trans HF4.out)
  have HC5 := Lib.hid (HC4.out.keep0 g45)
  have G5 := Lib.hid (gr_trans G4.out g45)
  clear g5 g5' g45 HC4 HF4
  obtain ⟨h1, h2, h3⟩ := heap_3 w5 (.cells #[.int .i64 5] 3) (.cells #[.string ⟨#[97]⟩, .string ⟨#[103]⟩, .slice (some ⟨w5.heap.size, 0, none⟩) 1 1, .slice none 0 0, .slice none 0 0] 132) (.cells #[.int .i64 1] 3)
  have g6 := gr_alloc (gr_alloc (gr_alloc (gr_refl w5 none) (.cells #[.int .i64 5] 3)) (.cells #[.string ⟨#[97]⟩, .string ⟨#[103]⟩, .slice (some ⟨w5.heap.size, 0, none⟩) 1 1, .slice none 0 0, .slice none 0 0] 132)) (.cells #[.int .i64 1] 3)
  have WO := Lib.hid (worth5_any _ _ _ _ h1 h2 h3)
  have G6 := Lib.hid g6
  clear h1 h2 h3 g6
  go_wp2_with (fail)
  refine WO.out.mono ?_
  rintro e w6 ⟨rfl, g6'⟩
  have g56 := gr_trans G6.out g6'
  have HF6 := Lib.hid ((g56.block FB (lt_of_block HF5.out) (by simp)).trans HF5.out)
  have HC6 := Lib.hid (HC5.out.keep0 g56)
  have G6 := Lib.hid (gr_trans G5.out g56)
  clear g6' g56 HC5 HF5 WO
  go_wp2_with (fail)
  refine (far7_any w6).mono ?_
  rintro e w7 ⟨rfl, g7⟩
  have HF7 := Lib.hid ((g7.block FB (lt_of_block HF6.out) (by simp)).trans HF6.out)
  have HC7 := Lib.hid (HC6.out.keep0 g7)
  have G7 := Lib.hid (gr_trans G6.out g7)
  clear g7 HC6 HF6
  go_wp2_with (fail)
  refine (even4_any w7).mono ?_
  rintro e w8 ⟨rfl, rfl⟩
  go_wp2_with (fail)
  have g9 := gr_alloc (gr_refl w7 none) (.cells #[.int .i64 1, .int .i64 2] 3)
  refine (equal_int [1, 2] va (some ⟨w7.heap.size, 0, none⟩) vc 2 (w7.alloc (.cells #[.int .i64 1, .int .i64 2] 3)) (HC7.out.keep0 g9) (CellsAt.new w7 #[.int .i64 1, .int .i64 2] 3) (by decide)).mono ?_
  rintro e w9 ⟨rfl, g9'⟩
  have g79 := gr_trans g9 g9'
  have hF9 := (g79.block FB (lt_of_block HF7.out) (by simp)).trans HF7.out
  have f0 : w9.cell? ⟨FB, 0, none⟩ = some (.int .i64 7) := blkC hF9 0 rfl
  have G9 := Lib.hid (gr_trans G7.out g79)
  have SS := Lib.hid (sess_any w9 (HE.out.keep G9.out))
  have hq : (ByteArray.toList ⟨#[101, 114, 114, 111, 114, 32, 57, 10]⟩ == ByteArray.toList ⟨#[101, 114, 114, 111, 114, 32, 57, 10]⟩) = true := by simp
  clear g9 g9' g79 hF9
  go_wp2_with (fail)
  refine SS.out.mono ?_
  rintro e w10 ⟨rfl, g10⟩
  have G10 := Lib.hid (gr_trans G9.out g10)
  clear g10 SS
  go_wp2_with (fail)
  go_ret
  exact ⟨rfl, G10.out⟩
end Go.Proofs.YtdminjijhpemkaaGreatDoor
