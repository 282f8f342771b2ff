/- Slices as elements of slices; what CheckWallet asks of them. -/
import Derived.Test.YtbgfflbddflokaaWallet
import Derived.Test.YtbgfflbddflokaaFlat
import Derived.Test.YtbgfflbddflokaaFuncs
namespace Go.Proofs.Ytbgfflbddflokaa
open Go.RowKit

def encSl (x : Option Addr × Nat × Nat) : List Value := [.slice x.1 x.2.1 x.2.2]

theorem check1_any (x : Option Addr × Nat × Nat) (n : Nat) (p : Nat) (w : World) (hn : w.cell? ⟨p, 0, none⟩ = some (.int .i64 n)) (h1 : x.2.1 = n) :
    Calls Try.prog 117 #[.slice x.1 x.2.1 x.2.2, .pointer (some ⟨p, 0, none⟩)] w fun e w' => e = .returned (.bool false) ∧ w.grownBy w' none := by
  have hne : ((n : Int) != (n : Int)) = false := by simp
  rw [h1]
  go_enter Try.func117, Try.ntmps117
  go_wp2_with (fail)
  go_ret
  exact ⟨rfl, gr_refl _ _⟩
theorem check1_fn : ∀ (args : Array Value) (w : World), (callFunc 117 args).run Try.prog w = .ok (.enter 117 args) w := fun _ _ => by kernel_rfl
theorem check2_any (x : Int) (w : World) : Calls Try.prog 119 #[.int .i64 x] w fun e w' => e = .returned (.bool (decide (x < 0) || decide (1000000000 < x))) ∧ w = w' := by
  go_enter Try.func119, Try.ntmps119
  go_wp2_with (go_at_call 60; refine (out_any _ _ _ _).mono ?_; rintro e w' ⟨rfl, rfl⟩)
  all_goals (go_ret; exact ⟨rfl, rfl⟩)
theorem check2_fn : IsFn 119 := fun _ _ => by kernel_rfl
end Go.Proofs.Ytbgfflbddflokaa
