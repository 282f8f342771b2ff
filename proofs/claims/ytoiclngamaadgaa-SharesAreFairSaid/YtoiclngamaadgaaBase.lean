/- Package base: numbers; the stream's Range. -/
import Derived.Test.YtoiclngamaadgaaStream
namespace Go.Proofs.Ytoiclngamaadgaa
open Go.RowKit
variable {lw : Nat}

theorem nxt_range (l : List Int) (k : Nat) (n : Int) (h : 1 ≤ n) : 0 ≤ nxt l k n ∧ nxt l k n < n := by
  have hb : ∀ x, 0 ≤ below x n ∧ below x n < n := by
    intro x
    unfold below
    rw [if_neg (by omega)]
    exact ⟨Int.emod_nonneg x (by omega), Int.emod_lt_of_pos x (by omega)⟩
  unfold nxt
  split <;> exact hb _

/-- The post of a function that only computes: a value, and a world in which nothing but draws has happened. -/
def Pure (v : Value) (w : World) (e : Ending) (w' : World) : Prop := e = .returned v ∧ ∃ n, w' = w.drewN n

/-- base.Out. -/
theorem out_any (n lo hi : Int) (w : World) : Calls Try.prog 58 #[.int .i64 n, .int .i64 lo, .int .i64 hi] w fun e w' => e = .returned (.bool (decide (n < lo) || decide (hi < n))) ∧ w = w' := by
  go_enter Try.func58, Try.ntmps58
  go_wp2
  all_goals (go_ret; exact ⟨rfl, rfl⟩)

theorem range_any (l : List Int) (k : Nat) (lo hi : Int) (p : Nat) (w : World) (hs : StreamAt w p lw l k) (hk : k < 1000000000) (h1 : -1000000 ≤ lo) (h2 : lo ≤ hi) (h3 : hi ≤ 1000000) :
    Calls Try.prog 64 #[.pointer (some ⟨p, 0, none⟩), .int .i64 lo, .int .i64 hi] w fun e w' => e = .returned (.int .i64 (lo + nxt l k (hi - lo + 1))) ∧ StreamAt w' p lw l (k + 1) ∧ w.grownBy w' (some p) := by
  go_enter Try.func64, Try.ntmps64
  have hr := nxt_range l k (hi - lo + 1) (by omega)
  go_wp2_with (go_at_call 8; refine (next_any l k _ p w hs hk (by omega)).mono ?_; rintro e w1 ⟨rfl, hs1, hg1⟩)
  go_ret
  exact ⟨rfl, hs1, hg1⟩

end Go.Proofs.Ytoiclngamaadgaa
