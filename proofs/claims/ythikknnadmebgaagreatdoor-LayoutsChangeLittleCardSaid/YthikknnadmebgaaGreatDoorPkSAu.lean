/- Lots and pieces, as the stream makes them. -/
import Derived.Test.YthikknnadmebgaaGreatDoorPkSAb
import Derived.Test.YthikknnadmebgaaGreatDoorPkSAe
import Derived.Test.YthikknnadmebgaaGreatDoorPkSAa
import Derived.Test.YthikknnadmebgaaGreatDoorPkSAc
namespace Go.Proofs.YthikknnadmebgaaGreatDoor
open Go.RowKit
variable {lw : Nat}

structure Lot where
  id : ByteArray
  prod : ByteArray
  exp : Int
  many : Int
def encLot (x : Lot) : List Value := [.string x.id, .string x.prod, .int .i64 x.exp, .int .i64 x.many]
theorem encLot_len (x : Lot) : (encLot x).length = 4 := rfl
structure Piece where
  lot : ByteArray
  many : Int
def encPc (x : Piece) : List Value := [.string x.lot, .int .i64 x.many]
theorem encPc_len (x : Piece) : (encPc x).length = 2 := rfl
def lotKeys : List ByteArray := [⟨#[108, 97]⟩, ⟨#[108, 98]⟩, ⟨#[108, 99]⟩, ⟨#[108, 100]⟩, ⟨#[108, 101]⟩]
def lotProds : List ByteArray := [⟨#[99, 97, 110]⟩, ⟨#[99, 97, 110]⟩, ⟨#[98, 97, 114]⟩]
def lotAt (l : List Int) (j : Nat) (x : ByteArray) : Lot := ⟨x, oneS l j lotProds, pickM l (j + 1) [3, 5, 5, 7, 9, 20], pickM l (j + 1 + 1) [0, 1, 3, 5, 8]⟩
def lotsTo (l : List Int) (k : Nat) : Nat → List Lot × Nat
  | 0 => ([], k)
  | i + 1 => if flipM l (lotsTo l k i).2 4 then ((lotsTo l k i).1, (lotsTo l k i).2 + 1) else ((lotsTo l k i).1 ++ [lotAt l ((lotsTo l k i).2 + 1) (lotKeys.getD i ⟨#[]⟩)], (lotsTo l k i).2 + 1 + 1 + 1 + 1)
theorem lotsTo_bd (l : List Int) (k i : Nat) : (lotsTo l k i).1.length ≤ i ∧ (lotsTo l k i).2 ≤ k + 4 * i := by
  induction i with
  | zero => simp [lotsTo]
  | succ i ih =>
    simp only [lotsTo]
    split
    · simp only; omega
    · simp; omega
def lotsM (l : List Int) (k : Nat) : List Lot := (lotsTo l k 5).1
def lotsK (l : List Int) (k : Nat) : Nat := (lotsTo l k 5).2
end Go.Proofs.YthikknnadmebgaaGreatDoor

/-! Package slices at elements coilrack/api.Piece: stable sorting of few. Written by mksort2.py. -/
namespace Go.Proofs.YthikknnadmebgaaGreatDoor
open Go.RowKit

theorem own_of_heap2 {w w1 : World} {base e size n : Nat} {v : Value} {xs : List Value} (h : w.ownsRow base e size v n xs) (e1 : w1.heap = w.heap) : w1.ownsRow base e size v n xs := by
  rcases h.2 with h2 | ⟨g, cap, cur, hv, hb, hg, r⟩
  · exact ⟨h.1, .inl h2⟩
  · exact ⟨h.1, .inr ⟨g, cap, cur, hv, hb, by rw [e1]; exact hg, r⟩⟩
/-- A comparison of elements of a list, in worlds that differ from w at one block at most. -/
def CmpPc (F : FuncId) (q : Nat) (cm : Piece → Piece → Int) (L : List Piece) (r : Option Nat) (w : World) : Prop :=
  ∀ (x y : Piece) (w1 : World), x ∈ L → y ∈ L → w.grownBy w1 r → Calls Tryz.prog F #[.agg #[.string (x.lot), .int .i64 (x.many)], .agg #[.string (y.lot), .int .i64 (y.many)], .pointer (some ⟨q, 0, none⟩)] w1 fun e w2 => e = .returned (.int .i64 (cm x y)) ∧ w1.grownBy w2 none
end Go.Proofs.YthikknnadmebgaaGreatDoor

/-! Pieces, as the stream makes them. -/
namespace Go.Proofs.YthikknnadmebgaaGreatDoor
open Go.RowKit
variable {lw : Nat}

def pcKeys : List ByteArray := [⟨#[108, 97]⟩, ⟨#[108, 98]⟩, ⟨#[108, 99]⟩, ⟨#[108, 100]⟩]
def pcOdd : List ByteArray := [⟨#[]⟩, ⟨#[122, 122]⟩, ⟨#[108, 97]⟩]
def pcsTo (l : List Int) (k : Nat) : Nat → List Piece
  | 0 => []
  | i + 1 => pcsTo l k i ++ [⟨oneS l (k + 2 * i) pcKeys, pickM l (k + 2 * i + 1) [1, 1, 2, 4]⟩]
theorem pcsTo_len (l : List Int) (k i : Nat) : (pcsTo l k i).length = i := by
  induction i with
  | zero => rfl
  | succ i ih => simp [pcsTo, ih]
def pcsN (l : List Int) (k : Nat) : Nat := (nxt l k 4).toNat
def pcsJ (l : List Int) (k : Nat) : Nat := k + 1 + 2 * pcsN l k
def pcsM (l : List Int) (k : Nat) : List Piece := if flipM l (pcsJ l k) 15 then pcsTo l (k + 1) (pcsN l k) ++ [⟨oneS l (pcsJ l k + 1) pcOdd, pickM l (pcsJ l k + 1 + 1) [0, -1, 1000, 1001]⟩] else pcsTo l (k + 1) (pcsN l k)
def pcsK (l : List Int) (k : Nat) : Nat := if flipM l (pcsJ l k) 15 then pcsJ l k + 1 + 1 + 1 else pcsJ l k + 1
theorem pcsN_le (l : List Int) (k : Nat) : pcsN l k ≤ 3 ∧ ((pcsN l k : Nat) : Int) = nxt l k 4 := by
  have := nxt_range l k 4 (by decide)
  unfold pcsN
  omega
theorem pcsM_len (l : List Int) (k : Nat) : (pcsM l k).length ≤ 4 := by
  have := (pcsN_le l k).1
  unfold pcsM
  split
  · rw [List.length_append, pcsTo_len]; simp; omega
  · rw [pcsTo_len]; omega
theorem pcsK_le (l : List Int) (k : Nat) : pcsK l k ≤ k + 10 := by
  have := (pcsN_le l k).1
  unfold pcsK pcsJ
  split <;> omega
end Go.Proofs.YthikknnadmebgaaGreatDoor

/-! Package slices at ints: stable sorting of few, by a comparison with captures. Written by mksort1.py. -/
namespace Go.Proofs.YthikknnadmebgaaGreatDoor
open Go.RowKit

theorem own_of_heapc1 {w w1 : World} {base e size n : Nat} {v : Value} {xs : List Value} (h : w.ownsRow base e size v n xs) (e1 : w1.heap = w.heap) : w1.ownsRow base e size v n xs := by
  rcases h.2 with h2 | ⟨g, cap, cur, hv, hb, hg, r⟩
  · exact ⟨h.1, .inl h2⟩
  · exact ⟨h.1, .inr ⟨g, cap, cur, hv, hb, by rw [e1]; exact hg, r⟩⟩
theorem own_cellc1 {w : World} {base e n g cap i : Nat} {O : List Int} (h : w.ownsRow base e 1 (.slice (some ⟨g, 0, none⟩) n cap) n (ints O)) (hi : i < O.length) : w.cell? ⟨g, i, none⟩ = some (.int .i64 O[i]) ∧ w.frozen? ⟨g, i, none⟩ = false := by
  have hl : O.length = n := by have := h.1; simpa [ints] using this
  have h1 := own_int h i (by omega)
  rw [getD_eq O i 0 hi] at h1
  exact ⟨h1.1, h1.2.1⟩
/-- Of two that are equal, the less one is first. -/
def StbC1 (cm : Int → Int → Int) (O : List Int) (n : Nat) : Prop := ∀ p q, p < q → q < n → ¬ cm (O.getD q 0) (O.getD p 0) < 0 → ¬ cm (O.getD p 0) (O.getD q 0) < 0 → O.getD p 0 < O.getD q 0
theorem stbC1_swap {cm : Int → Int → Int} {O : List Int} {n i : Nat} (h : StbC1 cm O n) (hn : O.length = n) (hi : i + 1 < n) (hc : cm (O.getD (i + 1) 0) (O.getD i 0) < 0) : StbC1 cm (swapAt 0 O i) n := by
  intro p q h1 h2
  rw [swapAt_get i (by omega) p, swapAt_get i (by omega) q]
  by_cases a : p = i
  · subst a
    rw [if_pos rfl]
    by_cases b : q = p + 1
    · subst b
      rw [if_neg (by omega), if_pos rfl]
      intro h3 h4
      exact absurd hc h4
    · rw [if_neg (by omega), if_neg b]
      exact h (p + 1) q (by omega) h2
  · rw [if_neg a]
    by_cases b : p = i + 1
    · subst b
      rw [if_pos rfl, if_neg (by omega), if_neg (by omega)]
      exact h i q (by omega) h2
    · rw [if_neg b]
      by_cases c : q = i
      · subst c
        rw [if_pos rfl]
        exact h p (q + 1) (by omega) (by omega)
      · rw [if_neg c]
        by_cases d : q = i + 1
        · subst d
          rw [if_pos rfl]
          exact h p i (by omega) (by omega)
        · rw [if_neg d]
          exact h p q h1 h2
/-- A comparison of elements of a list, in worlds that differ from w at one block at most. -/
def CmpC1 (F : FuncId) (q0 : Nat) (cm : Int → Int → Int) (L : List Int) (r : Option Nat) (w : World) : Prop :=
  ∀ (x y : Int) (w1 : World), x ∈ L → y ∈ L → w.grownBy w1 r → Calls Tryz.prog F #[.int .i64 x, .int .i64 y, .pointer (some ⟨q0, 0, none⟩)] w1 fun e w2 => e = .returned (.int .i64 (cm x y)) ∧ w1.grownBy w2 none
def SortC1Post (cm : Int → Int → Int) (L : List Int) (v : Value) (n base : Nat) (w : World) (e : Ending) (w' : World) : Prop := ∃ O, e = .returned (.tuple #[]) ∧ w'.ownsRow base 3 1 v n (ints O) ∧ O.Perm L ∧ Srt cm 0 O n ∧ (StbC1 cm L n → StbC1 cm O n) ∧ w.grownBy w' v.ownBlock
/-! Package slices at ints: stable sorting of few, by a comparison with captures. Written by mksort1.py. -/

theorem own_of_heapc3 {w w1 : World} {base e size n : Nat} {v : Value} {xs : List Value} (h : w.ownsRow base e size v n xs) (e1 : w1.heap = w.heap) : w1.ownsRow base e size v n xs := by
  rcases h.2 with h2 | ⟨g, cap, cur, hv, hb, hg, r⟩
  · exact ⟨h.1, .inl h2⟩
  · exact ⟨h.1, .inr ⟨g, cap, cur, hv, hb, by rw [e1]; exact hg, r⟩⟩
theorem own_cellc3 {w : World} {base e n g cap i : Nat} {O : List Int} (h : w.ownsRow base e 1 (.slice (some ⟨g, 0, none⟩) n cap) n (ints O)) (hi : i < O.length) : w.cell? ⟨g, i, none⟩ = some (.int .i64 O[i]) ∧ w.frozen? ⟨g, i, none⟩ = false := by
  have hl : O.length = n := by have := h.1; simpa [ints] using this
  have h1 := own_int h i (by omega)
  rw [getD_eq O i 0 hi] at h1
  exact ⟨h1.1, h1.2.1⟩
/-- Of two that are equal, the less one is first. -/
def StbC3 (cm : Int → Int → Int) (O : List Int) (n : Nat) : Prop := ∀ p q, p < q → q < n → ¬ cm (O.getD q 0) (O.getD p 0) < 0 → ¬ cm (O.getD p 0) (O.getD q 0) < 0 → O.getD p 0 < O.getD q 0
theorem stbC3_swap {cm : Int → Int → Int} {O : List Int} {n i : Nat} (h : StbC3 cm O n) (hn : O.length = n) (hi : i + 1 < n) (hc : cm (O.getD (i + 1) 0) (O.getD i 0) < 0) : StbC3 cm (swapAt 0 O i) n := by
  intro p q h1 h2
  rw [swapAt_get i (by omega) p, swapAt_get i (by omega) q]
  by_cases a : p = i
  · subst a
    rw [if_pos rfl]
    by_cases b : q = p + 1
    · subst b
      rw [if_neg (by omega), if_pos rfl]
      intro h3 h4
      exact absurd hc h4
    · rw [if_neg (by omega), if_neg b]
      exact h (p + 1) q (by omega) h2
  · rw [if_neg a]
    by_cases b : p = i + 1
    · subst b
      rw [if_pos rfl, if_neg (by omega), if_neg (by omega)]
      exact h i q (by omega) h2
    · rw [if_neg b]
      by_cases c : q = i
      · subst c
        rw [if_pos rfl]
        exact h p (q + 1) (by omega) (by omega)
      · rw [if_neg c]
        by_cases d : q = i + 1
        · subst d
          rw [if_pos rfl]
          exact h p i (by omega) (by omega)
        · rw [if_neg d]
          exact h p q h1 h2
/-- A comparison of elements of a list, in worlds that differ from w at one block at most. -/
def CmpC3 (F : FuncId) (q0 q1 q2 : Nat) (cm : Int → Int → Int) (L : List Int) (r : Option Nat) (w : World) : Prop :=
  ∀ (x y : Int) (w1 : World), x ∈ L → y ∈ L → w.grownBy w1 r → Calls Tryz.prog F #[.int .i64 x, .int .i64 y, .pointer (some ⟨q0, 0, none⟩), .pointer (some ⟨q1, 0, none⟩), .pointer (some ⟨q2, 0, none⟩)] w1 fun e w2 => e = .returned (.int .i64 (cm x y)) ∧ w1.grownBy w2 none
def SortC3Post (cm : Int → Int → Int) (L : List Int) (v : Value) (n base : Nat) (w : World) (e : Ending) (w' : World) : Prop := ∃ O, e = .returned (.tuple #[]) ∧ w'.ownsRow base 3 1 v n (ints O) ∧ O.Perm L ∧ Srt cm 0 O n ∧ (StbC3 cm L n → StbC3 cm O n) ∧ w.grownBy w' v.ownBlock
end Go.Proofs.YthikknnadmebgaaGreatDoor
