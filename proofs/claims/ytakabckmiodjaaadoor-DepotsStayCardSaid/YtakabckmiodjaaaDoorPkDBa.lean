/- Lots and pieces, as the stream makes them. -/
import Derived.Test.YtakabckmiodjaaaDoorPkDAj
import Derived.Test.YtakabckmiodjaaaDoorPkDAc
import Derived.Test.YtakabckmiodjaaaDoorPkDAb
import Derived.Test.YtakabckmiodjaaaDoorPkDAd
namespace Go.Proofs.YtakabckmiodjaaaDoor
open Go.RowKit
variable {lw : Nat}

structure Lot where
  id : ByteArray
  prod : ByteArray
  exp : Int
  many : Int
def encLot (x : Lot) : List Value := [.string x.id, .string x.prod, .int .i64 x.exp, .int .i64 x.many]
theorem encLot_len (x : Lot) : (encLot x).length = 4 := rfl
structure Piece where
  lot : ByteArray
  many : Int
def encPc (x : Piece) : List Value := [.string x.lot, .int .i64 x.many]
theorem encPc_len (x : Piece) : (encPc x).length = 2 := rfl
def lotKeys : List ByteArray := [⟨#[108, 97]⟩, ⟨#[108, 98]⟩, ⟨#[108, 99]⟩, ⟨#[108, 100]⟩, ⟨#[108, 101]⟩]
def lotProds : List ByteArray := [⟨#[99, 97, 110]⟩, ⟨#[99, 97, 110]⟩, ⟨#[98, 97, 114]⟩]
def lotAt (l : List Int) (j : Nat) (x : ByteArray) : Lot := ⟨x, oneS l j lotProds, pickM l (j + 1) [3, 5, 5, 7, 9, 20], pickM l (j + 1 + 1) [0, 1, 3, 5, 8]⟩
def lotsTo (l : List Int) (k : Nat) : Nat → List Lot × Nat
  | 0 => ([], k)
  | i + 1 => if flipM l (lotsTo l k i).2 4 then ((lotsTo l k i).1, (lotsTo l k i).2 + 1) else ((lotsTo l k i).1 ++ [lotAt l ((lotsTo l k i).2 + 1) (lotKeys.getD i ⟨#[]⟩)], (lotsTo l k i).2 + 1 + 1 + 1 + 1)
theorem lotsTo_bd (l : List Int) (k i : Nat) : (lotsTo l k i).1.length ≤ i ∧ (lotsTo l k i).2 ≤ k + 4 * i := by
  induction i with
  | zero => simp [lotsTo]
  | succ i ih =>
    simp only [lotsTo]
    split
    · simp only; omega
    · simp; omega
def lotsM (l : List Int) (k : Nat) : List Lot := (lotsTo l k 5).1
def lotsK (l : List Int) (k : Nat) : Nat := (lotsTo l k 5).2
end Go.Proofs.YtakabckmiodjaaaDoor

/-! Pieces, as the stream makes them. -/
namespace Go.Proofs.YtakabckmiodjaaaDoor
open Go.RowKit
variable {lw : Nat}

def pcKeys : List ByteArray := [⟨#[108, 97]⟩, ⟨#[108, 98]⟩, ⟨#[108, 99]⟩, ⟨#[108, 100]⟩]
def pcOdd : List ByteArray := [⟨#[]⟩, ⟨#[122, 122]⟩, ⟨#[108, 97]⟩]
def pcsTo (l : List Int) (k : Nat) : Nat → List Piece
  | 0 => []
  | i + 1 => pcsTo l k i ++ [⟨oneS l (k + 2 * i) pcKeys, pickM l (k + 2 * i + 1) [1, 1, 2, 4]⟩]
theorem pcsTo_len (l : List Int) (k i : Nat) : (pcsTo l k i).length = i := by
  induction i with
  | zero => rfl
  | succ i ih => simp [pcsTo, ih]
def pcsN (l : List Int) (k : Nat) : Nat := (nxt l k 4).toNat
def pcsJ (l : List Int) (k : Nat) : Nat := k + 1 + 2 * pcsN l k
def pcsM (l : List Int) (k : Nat) : List Piece := if flipM l (pcsJ l k) 15 then pcsTo l (k + 1) (pcsN l k) ++ [⟨oneS l (pcsJ l k + 1) pcOdd, pickM l (pcsJ l k + 1 + 1) [0, -1, 1000, 1001]⟩] else pcsTo l (k + 1) (pcsN l k)
def pcsK (l : List Int) (k : Nat) : Nat := if flipM l (pcsJ l k) 15 then pcsJ l k + 1 + 1 + 1 else pcsJ l k + 1
theorem pcsN_le (l : List Int) (k : Nat) : pcsN l k ≤ 3 ∧ ((pcsN l k : Nat) : Int) = nxt l k 4 := by
  have := nxt_range l k 4 (by decide)
  unfold pcsN
  omega
theorem pcsM_len (l : List Int) (k : Nat) : (pcsM l k).length ≤ 4 := by
  have := (pcsN_le l k).1
  unfold pcsM
  split
  · rw [List.length_append, pcsTo_len]; simp; omega
  · rw [pcsTo_len]; omega
theorem pcsK_le (l : List Int) (k : Nat) : pcsK l k ≤ k + 10 := by
  have := (pcsN_le l k).1
  unfold pcsK pcsJ
  split <;> omega
end Go.Proofs.YtakabckmiodjaaaDoor

/-! Needs, as the stream makes them: few, with short names and bounded counts. -/
namespace Go.Proofs.YtakabckmiodjaaaDoor
open Go.RowKit
variable {lw : Nat}

structure Need where
  place : ByteArray
  prod : ByteArray
  many : Int
def encNeed (x : Need) : List Value := [.string x.place, .string x.prod, .int .i64 x.many]
theorem encNeed_len (x : Need) : (encNeed x).length = 3 := rfl
def NeedSm (x : Need) : Prop := x.place.size ≤ 3 ∧ x.prod.size ≤ 3 ∧ -1 ≤ x.many ∧ x.many ≤ 100001
structure NeedsSm (N : List Need) : Prop where
  len : N.length ≤ 7
  all : ∀ x ∈ N, NeedSm x
end Go.Proofs.YtakabckmiodjaaaDoor
