/- How far two spots lie apart: some number that is not great. -/
import Derived.Test.YtdjnomeabadbnaaWkRounds
namespace Go.Proofs.Ytdjnomeabadbnaa
open Go.RowKit

set_option maxRecDepth 100000 in
theorem far_any (x1 y1 x2 y2 : Int) (w : World) (h1 : -20000 ≤ x1 ∧ x1 ≤ 20000) (h2 : -20000 ≤ y1 ∧ y1 ≤ 20000) (h3 : -20000 ≤ x2 ∧ x2 ≤ 20000) (h4 : -20000 ≤ y2 ∧ y2 ≤ 20000) :
    Calls Try.prog 69 #[.agg #[.int .i64 x1, .int .i64 y1], .agg #[.int .i64 x2, .int .i64 y2]] w fun e w' => (∃ v, e = .returned (.int .i64 v) ∧ 0 ≤ v ∧ v ≤ 80000) ∧ w.grownBy w' none := by
  have hg := gr_alloc (gr_alloc (gr_refl w none) (.cells #[.int .i64 x1, .int .i64 y1] 36)) (.cells #[.int .i64 x2, .int .i64 y2] 36)
  go_enter Try.func69, Try.ntmps69
  by_cases c1 : x1 - x2 < x2 - x1
  · by_cases c2 : y1 - y2 < y2 - y1
    · go_wp2_with (fail)
      go_ret
      exact ⟨⟨_, rfl, by omega, by omega⟩, hg⟩
    · go_wp2_with (fail)
      go_ret
      exact ⟨⟨_, rfl, by omega, by omega⟩, hg⟩
  · by_cases c2 : y1 - y2 < y2 - y1
    · go_wp2_with (fail)
      go_ret
      exact ⟨⟨_, rfl, by omega, by omega⟩, hg⟩
    · go_wp2_with (fail)
      go_ret
      exact ⟨⟨_, rfl, by omega, by omega⟩, hg⟩
def spotOk (x y : Int) : Bool := !(decide (x < -10000) || decide (10000 < x)) && !(decide (y < -10000) || decide (10000 < y))
theorem spotOk_yes {x y : Int} (h : spotOk x y = true) : (-10000 ≤ x ∧ x ≤ 10000) ∧ -10000 ≤ y ∧ y ≤ 10000 := by
  simp [spotOk] at h
  omega
set_option maxRecDepth 100000 in
theorem isSpot_val (x y : Int) (w : World) :
    Calls Try.prog 75 #[.agg #[.int .i64 x, .int .i64 y]] w fun e w' => e = .returned (.bool (spotOk x y)) ∧ w.grownBy w' none := by
  have hg1 := gr_alloc (gr_refl w none) (.cells #[.int .i64 x, .int .i64 y] 36)
  cases hx : (decide (x < -10000) || decide (10000 < x)) with
  | true =>
    have HB : Hid (spotOk x y = false) := by show _ = _; unfold spotOk; rw [hx]; rfl
    have HX := Lib.hid hx
    clear hx
    go_enter Try.func75, Try.ntmps75
    go_wp2_with (fail)
    refine (out_any x (-10000) 10000 _).mono ?_
    rintro e w1 ⟨rfl, rfl⟩
    rw [HX.out]
    go_wp2_with (fail)
    go_ret
    exact ⟨ret_bool HB.out.symm, hg1⟩
  | false =>
    have HB : Hid (spotOk x y = !(decide (y < -10000) || decide (10000 < y))) := by show _ = _; unfold spotOk; rw [hx]; rfl
    have HX := Lib.hid hx
    clear hx
    go_enter Try.func75, Try.ntmps75
    go_wp2_with (fail)
    refine (out_any x (-10000) 10000 _).mono ?_
    rintro e w1 ⟨rfl, rfl⟩
    rw [HX.out]
    go_wp2_with (fail)
    refine (out_any y (-10000) 10000 _).mono ?_
    rintro e w1 ⟨rfl, rfl⟩
    obtain ⟨b, hb⟩ : ∃ b, b = (decide (y < -10000) || decide (10000 < y)) := ⟨_, rfl⟩
    rw [← hb] at HB ⊢
    clear hb
    go_wp2_with (fail)
    go_ret
    exact ⟨ret_bool HB.out.symm, hg1⟩
end Go.Proofs.Ytdjnomeabadbnaa
