/- Package slices at ints: SortFunc of few, by a comparison with a capture. -/
import Derived.Test.YtjhfglhoiplfmaaPkSAu
namespace Go.Proofs.Ytjhfglhoiplfmaa
open Go.RowKit
attribute [local go_sem ↓] Go.wp_at_zero Go.wp_at_succ

set_option maxRecDepth 100000 in
theorem len64_few (n : Nat) (hn : n ≤ 12) (w : World) : Calls Try.prog 59 #[.int .u64 n] w fun e w' => ∃ r : Int, e = .returned (.int .i64 r) ∧ w = w' := by
  have d1 : decide ((4294967296 : Int) ≤ (n : Int)) = false := decide_eq_false (by omega)
  have d2 : decide ((65536 : Int) ≤ (n : Int)) = false := decide_eq_false (by omega)
  have d3 : decide ((256 : Int) ≤ (n : Int)) = false := decide_eq_false (by omega)
  go_enter Try.func59, Try.ntmps59
  go_wp2_with (fail)
  go_ret
  exact ⟨_, rfl, rfl⟩
set_option maxRecDepth 100000 in
theorem len_few (n : Nat) (hn : n ≤ 12) (w : World) : Calls Try.prog 44 #[.int .u64 n] w fun e w' => ∃ r : Int, e = .returned (.int .i64 r) ∧ w = w' := by
  have L := Lib.hid (len64_few n hn)
  go_enter Try.func44, Try.ntmps44
  go_wp2_with (fail)
  refine (L.out _).mono ?_
  rintro e w1 ⟨r, rfl, rfl⟩
  go_wp2_with (fail)
  go_ret
  exact ⟨_, rfl, rfl⟩
end Go.Proofs.Ytjhfglhoiplfmaa
