/- Numbers: as the stream makes them. -/
import Derived.Test.YtdjnomeabadbnaaDoorMakeInts
import Derived.Test.YtdjnomeabadbnaaDoorMake
namespace Go.Proofs.YtdjnomeabadbnaaDoor
open Go.RowKit
variable {lw : Nat}

/-- Numbers below m that are drawn one behind the other. -/
def genM (l : List Int) (k : Nat) (m : Int) : Nat → List Int
  | 0 => []
  | n + 1 => genM l k m n ++ [nxt l (k + n) m]
theorem genM_len (l : List Int) (k : Nat) (m : Int) (n : Nat) : (genM l k m n).length = n := by
  induction n with
  | zero => rfl
  | succ n ih => simp [genM, ih]
def numsA (l : List Int) (k n : Nat) (most : Int) : List Int := if flipM l (k + n) 15 then genM l k (most + 1) n ++ [1] else genM l k (most + 1) n
def numsB (l : List Int) (k n : Nat) (most : Int) : Bool := flipM l (k + n + 1) 15 && decide (0 < (numsA l k n most).length)
def numsM (l : List Int) (k n : Nat) (most : Int) : List Int :=
  if numsB l k n most then (numsA l k n most).set (nxt l (k + n + 2) (numsA l k n most).length).toNat (pickM l (k + n + 3) [-1, 1000001, 1099511627776]) else numsA l k n most
def numsK (l : List Int) (k n : Nat) (most : Int) : Nat := if numsB l k n most then k + n + 4 else k + n + 2
theorem numsA_len (l : List Int) (k n : Nat) (most : Int) : (numsA l k n most).length ≤ n + 1 := by
  unfold numsA; split <;> simp [genM_len]
theorem numsM_len (l : List Int) (k n : Nat) (most : Int) : (numsM l k n most).length ≤ n + 1 := by
  unfold numsM; split <;> simp [numsA_len]
theorem numsK_le (l : List Int) (k n : Nat) (most : Int) : numsK l k n most ≤ k + n + 4 := by
  unfold numsK; split <;> omega

end Go.Proofs.YtdjnomeabadbnaaDoor
