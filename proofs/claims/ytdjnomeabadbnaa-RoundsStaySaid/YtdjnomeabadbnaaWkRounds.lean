/- That the package rounds. -/
import Derived.Test.YtdjnomeabadbnaaBase
import Derived.Test.YtdjnomeabadbnaaStepApp
namespace Go.Proofs.Ytdjnomeabadbnaa
open Go.RowKit

set_option maxRecDepth 100000 in
theorem isSpot_any (x y : Int) (w : World) (h1 : -10000 ≤ x) (h2 : x ≤ 10000) (h3 : -10000 ≤ y) (h4 : y ≤ 10000) :
    Calls Try.prog 75 #[.agg #[.int .i64 x, .int .i64 y]] w fun e w' => e = .returned (.bool true) ∧ w.grownBy w' none := by
  have hx : (decide (x < -10000) || decide (10000 < x)) = false := by simp; omega
  have hy : (decide (y < -10000) || decide (10000 < y)) = false := by simp; omega
  have HX := Lib.hid hx
  have HY := Lib.hid hy
  clear hx hy
  have hg1 := gr_alloc (gr_refl w none) (.cells #[.int .i64 x, .int .i64 y] 36)
  go_enter Try.func75, Try.ntmps75
  go_wp2_with (fail)
  refine (out_any x (-10000) 10000 _).mono ?_
  rintro e w1 ⟨rfl, rfl⟩
  rw [HX.out]
  go_wp2_with (fail)
  refine (out_any y (-10000) 10000 _).mono ?_
  rintro e w1 ⟨rfl, rfl⟩
  rw [HY.out]
  go_wp2_with (fail)
  go_ret
  exact ⟨rfl, hg1⟩
set_option maxRecDepth 100000 in
theorem rounds_any (w : World) : Calls Try.prog 12 #[] w fun e w' => e = .returned (.bool true) ∧ w.grownBy w' none := by
  have FF : ∀ w1 : World, Calls Try.prog 69 #[.agg #[.int .i64 3, .int .i64 0], .agg #[.int .i64 0, .int .i64 (-4)]] w1 fun e w' => e = .returned (.int .i64 7) ∧ w1.grownBy w' none := by
    intro w1
    have hg := gr_alloc (gr_alloc (gr_refl w1 none) (.cells #[.int .i64 3, .int .i64 0] 36)) (.cells #[.int .i64 0, .int .i64 (-4)] 36)
    go_enter Try.func69, Try.ntmps69
    go_wp2_with (fail)
    go_ret
    exact ⟨rfl, hg⟩
  have FR : ∀ w1 : World, Calls Try.prog 48 #[.agg #[.int .i64 3, .int .i64 0], .agg #[.int .i64 0, .int .i64 (-4)]] w1 fun e w' => e = .returned (.tuple #[.int .i64 7, .int .i64 0]) ∧ w1.grownBy w' none := by
    intro w1
    obtain ⟨w2, hw2⟩ : ∃ w2, w2 = (w1.alloc (.cells #[.int .i64 3, .int .i64 0] 36)).alloc (.cells #[.int .i64 0, .int .i64 (-4)] 36) := ⟨_, rfl⟩
    have hg2 : w1.grownBy w2 none := by rw [hw2]; exact gr_alloc (gr_alloc (gr_refl w1 none) _) _
    have hb1 : w2.heap[w1.heap.size]? = some (.cells #[.int .i64 3, .int .i64 0] 36 (0, 0)) := by rw [hw2, heap_alloc_old (h := by simp)]; exact heap_alloc_new w1 _
    have hb2 : w2.heap[w1.heap.size + 1]? = some (.cells #[.int .i64 0, .int .i64 (-4)] 36 (0, 0)) := by
      rw [hw2]
      have := heap_alloc_new (w1.alloc (.cells #[.int .i64 3, .int .i64 0] 36)) (.cells #[.int .i64 0, .int .i64 (-4)] 36)
      simpa using this
    obtain ⟨a0, a1, _, _⟩ := blk2 hb1
    obtain ⟨b0, b1, _, _⟩ := blk2 hb2
    have la := lt_of_cell a0
    have lb := lt_of_cell b0
    clear hb1 hb2
    go_enter Try.func48, Try.ntmps48
    go_wp2_with (fail)
    rw [← hw2]
    clear hw2
    refine (isSpot_any 3 0 w2 (by omega) (by omega) (by omega) (by omega)).mono ?_
    rintro e w3 ⟨rfl, hg3⟩
    have c0 := (gr_cell hg3 la).trans a0
    have c1 := (gr_cell hg3 la).trans a1
    have d0 := (gr_cell hg3 lb).trans b0
    have d1 := (gr_cell hg3 lb).trans b1
    have lc := lt_of_cell c0
    have ld := lt_of_cell d0
    clear a0 a1 b0 b1 la lb
    go_wp2_with (fail)
    refine (isSpot_any 0 (-4) w3 (by omega) (by omega) (by omega) (by omega)).mono ?_
    rintro e w4 ⟨rfl, hg4⟩
    have e0 := (gr_cell hg4 lc).trans c0
    have e1 := (gr_cell hg4 lc).trans c1
    have f0 := (gr_cell hg4 ld).trans d0
    have f1 := (gr_cell hg4 ld).trans d1
    clear c0 c1 d0 d1 lc ld
    go_wp2_with (fail)
    refine (FF w4).mono ?_
    rintro e w5 ⟨rfl, hg5⟩
    go_wp2_with (fail)
    go_ret2
    exact ⟨rfl, gr_trans (gr_trans (gr_trans hg2 hg3) hg4) hg5⟩
  have FR' := Lib.hid FR
  clear FF FR
  go_enter Try.func12, Try.ntmps12
  go_wp2_with (fail)
  refine (FR'.out w).mono ?_
  rintro e w1 ⟨rfl, hg⟩
  go_wp2_with (fail)
  go_ret
  exact ⟨rfl, hg⟩
end Go.Proofs.Ytdjnomeabadbnaa
