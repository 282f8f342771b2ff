/- ChangeIsExact's question to a window of amounts. -/
import Derived.Test.YtbgfflbddflokaaFuncs
namespace Go.Proofs.Ytbgfflbddflokaa
open Go.RowKit

theorem inWin_any (x y n : Int) (p : Nat) (w : World) (hn : w.cell? ⟨p, 0, none⟩ = some (.int .i64 n)) :
    Calls Try.prog 15 #[.agg #[.int .i64 x, .int .i64 y], .pointer (some ⟨p, 0, none⟩)] w fun e w' => e = .returned (.bool (decide (x ≤ n) && decide (n < y))) ∧ w.grownBy w' none := by
  have hg := gr_alloc (gr_refl w none) (.cells #[.int .i64 x, .int .i64 y] 40)
  have hn2 := (gr_cell hg (lt_of_cell hn)).trans hn
  have HG := Lib.hid hg; clear hg
  go_enter Try.func15, Try.ntmps15
  by_cases h1 : x ≤ n
  · by_cases h2 : n < y
    · go_wp2_with (fail)
      go_ret
      exact ⟨ret_bool (by simp [h1, h2]), HG.out⟩
    · go_wp2_with (fail)
      go_ret
      exact ⟨ret_bool (by simp [h2]; try omega), HG.out⟩
  · go_wp2_with (fail)
    go_ret
    exact ⟨ret_bool (by simp; try omega), HG.out⟩
end Go.Proofs.Ytbgfflbddflokaa
