/- cmp.Compare of ints, and the comparison by which Fair sorts. -/
import Derived.Test.YtdjnomeabadbnaaFuncs
import Derived.Test.YtdjnomeabadbnaaStepApp
import Derived.Deep.QuietTactic
import Derived.BigQuiet
namespace Go.Proofs.Ytdjnomeabadbnaa
open Go.RowKit

def cmpI (a b : Int) : Int := if a < b then -1 else if b < a then 1 else 0
theorem cmpI_range (a b : Int) : -1 ≤ cmpI a b ∧ cmpI a b ≤ 1 := by unfold cmpI; split; omega; split <;> omega
theorem nan_any (x : Int) (w : World) : Calls Try.prog 73 #[.int .i64 x] w fun e w' => e = .returned (.bool false) ∧ w = w' := by
  go_enter Try.func73, Try.ntmps73
  go_wp2_with (fail)
  go_ret
  exact ⟨ret_bool (by simp), rfl⟩
theorem compare_any (a b : Int) (w : World) : Calls Try.prog 43 #[.int .i64 a, .int .i64 b] w fun e w' => e = .returned (.int .i64 (cmpI a b)) ∧ w = w' := by
  go_enter Try.func43, Try.ntmps43
  go_wp2_with (fail)
  refine (nan_any a w).mono ?_
  rintro e w1 ⟨rfl, rfl⟩
  go_wp2_with (fail)
  refine (nan_any b w).mono ?_
  rintro e w1 ⟨rfl, rfl⟩
  by_cases h1 : a < b
  · have HC : Hid (cmpI a b = -1) := by show _ = _; unfold cmpI; rw [if_pos h1]
    go_wp2_with (fail)
    go_ret
    exact ⟨ret_int HC.out.symm, rfl⟩
  · by_cases h2 : b < a
    · have HC : Hid (cmpI a b = 1) := by show _ = _; unfold cmpI; rw [if_neg h1, if_pos h2]
      go_wp2_with (fail)
      go_ret
      exact ⟨ret_int HC.out.symm, rfl⟩
    · have HC : Hid (cmpI a b = 0) := by show _ = _; unfold cmpI; rw [if_neg h1, if_neg h2]
      go_wp2_with (fail)
      go_ret
      exact ⟨ret_int HC.out.symm, rfl⟩
theorem fairCmp_fn : IsFn 42 := fun _ _ => by kernel_rfl
theorem fairCmp_any (ja : Option Addr) (J : List Int) (n jc : Nat) (a b q : Nat) (w : World) (hj : CellsAt w ja (ints J)) (hn : J.length = n) (hq : w.cell? ⟨q, 0, none⟩ = some (.slice ja n jc)) (ha : a < n) (hb : b < n) :
    Calls Try.prog 42 #[.int .i64 a, .int .i64 b, .pointer (some ⟨q, 0, none⟩)] w fun e w' => e = .returned (.int .i64 (cmpI (J.getD b 0) (J.getD a 0))) ∧ ∃ m, w' = w.drewN m := by
  obtain ⟨jb, jo, rfl, da⟩ := hj a _ (ints_get J a (by omega))
  obtain ⟨jb2, jo2, he, db⟩ := hj b _ (ints_get J b (by omega))
  cases he
  obtain ⟨x, hx⟩ : ∃ x, x = J.getD a 0 := ⟨_, rfl⟩
  obtain ⟨y, hy⟩ : ∃ y, y = J.getD b 0 := ⟨_, rfl⟩
  rw [← hx] at da ⊢
  rw [← hy] at db ⊢
  clear hn hx hy
  go_enter Try.func42, Try.ntmps42
  go_wp2_with (fail)
  go_quiet ((go_at_call 43; exact Calls.quiet_of_same ((compare_any _ _ _).mono fun _ _ h => ⟨h.1, h.2.symm⟩)))
  go_wp2_with (fail)
  go_ret
  exact ⟨rfl, _, rfl⟩
end Go.Proofs.Ytdjnomeabadbnaa
