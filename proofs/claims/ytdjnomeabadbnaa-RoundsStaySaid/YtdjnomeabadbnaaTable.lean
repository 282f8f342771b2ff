/- Tables of shares: what is wrong with one, by package and by document. -/
import Derived.Test.YtdjnomeabadbnaaTotals
import Derived.Test.YtdjnomeabadbnaaFuncs
namespace Go.Proofs.Ytdjnomeabadbnaa
open Go.RowKit

/-- Rows of ints behind a slice of slices. -/
def RowsAt (w : World) (a : Option Addr) (T : List (List Int)) : Prop :=
  ∀ i, i < T.length → ∃ b off ra rc, a = some ⟨b, off, none⟩ ∧ w.cell? ⟨b, off + i, none⟩ = some (.slice ra (T.getD i []).length rc) ∧ CellsAt w ra (ints (T.getD i []))
theorem RowsAt.keep0 {w w1 : World} {a : Option Addr} {T : List (List Int)} (h : RowsAt w a T) (g : w.grownBy w1 none) : RowsAt w1 a T := by
  intro i hi
  obtain ⟨b, off, ra, rc, e, c, r⟩ := h i hi
  exact ⟨b, off, ra, rc, e, by rw [gr_cell g (lt_of_cell c)]; exact c, r.keep0 g⟩
/-- The first of some codes that is not 0. -/
def firstCode (f : Nat → Int) : Nat → Int
  | 0 => 0
  | n + 1 => if firstCode f n = 0 then f n else firstCode f n
theorem firstCode_none (f : Nat → Int) (n : Nat) (h : ∀ j, j < n → f j = 0) : firstCode f n = 0 := by
  induction n with
  | zero => rfl
  | succ n ih => rw [firstCode, if_pos (ih fun j hj => h j (by omega))]; exact h n (by omega)
theorem firstCode_at (f : Nat → Int) (n k : Nat) (hk : k < n) (h : ∀ j, j < k → f j = 0) (hf : f k ≠ 0) : firstCode f n = f k := by
  induction n with
  | zero => omega
  | succ n ih =>
    rw [firstCode]
    by_cases e : k = n
    · subst e; rw [if_pos (firstCode_none f k h)]
    · rw [ih (by omega), if_neg hf]
theorem firstCode_zero (f : Nat → Int) (n : Nat) (h : firstCode f n = 0) (j : Nat) (hj : j < n) : f j = 0 := by
  induction n with
  | zero => omega
  | succ n ih =>
    rw [firstCode] at h
    by_cases e : firstCode f n = 0
    · rw [if_pos e] at h
      by_cases e2 : j = n
      · rw [e2]; exact h
      · exact ih e (by omega)
    · rw [if_neg e] at h; exact absurd h e
def odd100 (x : Int) : Bool := decide (x < 0) || decide (100 < x)
def rowCode (n i : Nat) (r : List Int) : Int := if r.length ≠ n then 3 else if r.any odd100 = true ∨ r.getD i 0 ≠ 0 ∨ 100 < r.sum then 1 else 0
def tableCode (T : List (List Int)) : Int := if T.length = 0 then 8 else if 30 < T.length then 2 else firstCode (fun i => rowCode T.length i (T.getD i [])) T.length

end Go.Proofs.Ytdjnomeabadbnaa
