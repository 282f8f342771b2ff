/- Lots and pieces, as the stream makes them. -/
import Derived.Test.YthikknnadmebgaaGreatDoorPkSAb
import Derived.Test.YthikknnadmebgaaGreatDoorPkSAc
import Derived.Test.YthikknnadmebgaaGreatDoorPkSAa
namespace Go.Proofs.YthikknnadmebgaaGreatDoor
open Go.RowKit
variable {lw : Nat}

structure Lot where
  id : ByteArray
  prod : ByteArray
  exp : Int
  many : Int
def encLot (x : Lot) : List Value := [.string x.id, .string x.prod, .int .i64 x.exp, .int .i64 x.many]
theorem encLot_len (x : Lot) : (encLot x).length = 4 := rfl
structure Piece where
  lot : ByteArray
  many : Int
def encPc (x : Piece) : List Value := [.string x.lot, .int .i64 x.many]
theorem encPc_len (x : Piece) : (encPc x).length = 2 := rfl
def lotKeys : List ByteArray := [⟨#[108, 97]⟩, ⟨#[108, 98]⟩, ⟨#[108, 99]⟩, ⟨#[108, 100]⟩, ⟨#[108, 101]⟩]
def lotProds : List ByteArray := [⟨#[99, 97, 110]⟩, ⟨#[99, 97, 110]⟩, ⟨#[98, 97, 114]⟩]
def lotAt (l : List Int) (j : Nat) (x : ByteArray) : Lot := ⟨x, oneS l j lotProds, pickM l (j + 1) [3, 5, 5, 7, 9, 20], pickM l (j + 1 + 1) [0, 1, 3, 5, 8]⟩
def lotsTo (l : List Int) (k : Nat) : Nat → List Lot × Nat
  | 0 => ([], k)
  | i + 1 => if flipM l (lotsTo l k i).2 4 then ((lotsTo l k i).1, (lotsTo l k i).2 + 1) else ((lotsTo l k i).1 ++ [lotAt l ((lotsTo l k i).2 + 1) (lotKeys.getD i ⟨#[]⟩)], (lotsTo l k i).2 + 1 + 1 + 1 + 1)
theorem lotsTo_bd (l : List Int) (k i : Nat) : (lotsTo l k i).1.length ≤ i ∧ (lotsTo l k i).2 ≤ k + 4 * i := by
  induction i with
  | zero => simp [lotsTo]
  | succ i ih =>
    simp only [lotsTo]
    split
    · simp only; omega
    · simp; omega
def lotsM (l : List Int) (k : Nat) : List Lot := (lotsTo l k 5).1
def lotsK (l : List Int) (k : Nat) : Nat := (lotsTo l k 5).2
end Go.Proofs.YthikknnadmebgaaGreatDoor

/-! Package slices at elements coilrack/api.Piece: stable sorting of few. Written by mksort2.py. -/
namespace Go.Proofs.YthikknnadmebgaaGreatDoor
open Go.RowKit

theorem own_of_heap2 {w w1 : World} {base e size n : Nat} {v : Value} {xs : List Value} (h : w.ownsRow base e size v n xs) (e1 : w1.heap = w.heap) : w1.ownsRow base e size v n xs := by
  rcases h.2 with h2 | ⟨g, cap, cur, hv, hb, hg, r⟩
  · exact ⟨h.1, .inl h2⟩
  · exact ⟨h.1, .inr ⟨g, cap, cur, hv, hb, by rw [e1]; exact hg, r⟩⟩
/-- A comparison of elements of a list, in worlds that differ from w at one block at most. -/
def CmpPc (F : FuncId) (q : Nat) (cm : Piece → Piece → Int) (L : List Piece) (r : Option Nat) (w : World) : Prop :=
  ∀ (x y : Piece) (w1 : World), x ∈ L → y ∈ L → w.grownBy w1 r → Calls Tryz.prog F #[.agg #[.string (x.lot), .int .i64 (x.many)], .agg #[.string (y.lot), .int .i64 (y.many)], .pointer (some ⟨q, 0, none⟩)] w1 fun e w2 => e = .returned (.int .i64 (cm x y)) ∧ w1.grownBy w2 none
end Go.Proofs.YthikknnadmebgaaGreatDoor

/-! Pieces, as the stream makes them. -/
namespace Go.Proofs.YthikknnadmebgaaGreatDoor
open Go.RowKit
variable {lw : Nat}

def pcKeys : List ByteArray := [⟨#[108, 97]⟩, ⟨#[108, 98]⟩, ⟨#[108, 99]⟩, ⟨#[108, 100]⟩]
def pcOdd : List ByteArray := [⟨#[]⟩, ⟨#[122, 122]⟩, ⟨#[108, 97]⟩]
def pcsTo (l : List Int) (k : Nat) : Nat → List Piece
  | 0 => []
  | i + 1 => pcsTo l k i ++ [⟨oneS l (k + 2 * i) pcKeys, pickM l (k + 2 * i + 1) [1, 1, 2, 4]⟩]
theorem pcsTo_len (l : List Int) (k i : Nat) : (pcsTo l k i).length = i := by
  induction i with
  | zero => rfl
  | succ i ih => simp [pcsTo, ih]
def pcsN (l : List Int) (k : Nat) : Nat := (nxt l k 4).toNat
def pcsJ (l : List Int) (k : Nat) : Nat := k + 1 + 2 * pcsN l k
def pcsM (l : List Int) (k : Nat) : List Piece := if flipM l (pcsJ l k) 15 then pcsTo l (k + 1) (pcsN l k) ++ [⟨oneS l (pcsJ l k + 1) pcOdd, pickM l (pcsJ l k + 1 + 1) [0, -1, 1000, 1001]⟩] else pcsTo l (k + 1) (pcsN l k)
def pcsK (l : List Int) (k : Nat) : Nat := if flipM l (pcsJ l k) 15 then pcsJ l k + 1 + 1 + 1 else pcsJ l k + 1
theorem pcsN_le (l : List Int) (k : Nat) : pcsN l k ≤ 3 ∧ ((pcsN l k : Nat) : Int) = nxt l k 4 := by
  have := nxt_range l k 4 (by decide)
  unfold pcsN
  omega
theorem pcsM_len (l : List Int) (k : Nat) : (pcsM l k).length ≤ 4 := by
  have := (pcsN_le l k).1
  unfold pcsM
  split
  · rw [List.length_append, pcsTo_len]; simp; omega
  · rw [pcsTo_len]; omega
theorem pcsK_le (l : List Int) (k : Nat) : pcsK l k ≤ k + 10 := by
  have := (pcsN_le l k).1
  unfold pcsK pcsJ
  split <;> omega
end Go.Proofs.YthikknnadmebgaaGreatDoor

/-! Package slices at ints: stable sorting of few, by a comparison with captures. Written by mksort1.py. -/
namespace Go.Proofs.YthikknnadmebgaaGreatDoor
open Go.RowKit

theorem own_of_heapc1 {w w1 : World} {base e size n : Nat} {v : Value} {xs : List Value} (h : w.ownsRow base e size v n xs) (e1 : w1.heap = w.heap) : w1.ownsRow base e size v n xs := by
  rcases h.2 with h2 | ⟨g, cap, cur, hv, hb, hg, r⟩
  · exact ⟨h.1, .inl h2⟩
  · exact ⟨h.1, .inr ⟨g, cap, cur, hv, hb, by rw [e1]; exact hg, r⟩⟩
theorem own_cellc1 {w : World} {base e n g cap i : Nat} {O : List Int} (h : w.ownsRow base e 1 (.slice (some ⟨g, 0, none⟩) n cap) n (ints O)) (hi : i < O.length) : w.cell? ⟨g, i, none⟩ = some (.int .i64 O[i]) ∧ w.frozen? ⟨g, i, none⟩ = false := by
  have hl : O.length = n := by have := h.1; simpa [ints] using this
  have h1 := own_int h i (by omega)
  rw [getD_eq O i 0 hi] at h1
  exact ⟨h1.1, h1.2.1⟩
/-- Of two that are equal, the less one is first. -/
def StbC1 (cm : Int → Int → Int) (O : List Int) (n : Nat) : Prop := ∀ p q, p < q → q < n → ¬ cm (O.getD q 0) (O.getD p 0) < 0 → ¬ cm (O.getD p 0) (O.getD q 0) < 0 → O.getD p 0 < O.getD q 0
theorem stbC1_swap {cm : Int → Int → Int} {O : List Int} {n i : Nat} (h : StbC1 cm O n) (hn : O.length = n) (hi : i + 1 < n) (hc : cm (O.getD (i + 1) 0) (O.getD i 0) < 0) : StbC1 cm (swapAt 0 O i) n := by
  intro p q h1 h2
  rw [swapAt_get i (by omega) p, swapAt_get i (by omega) q]
  by_cases a : p = i
  · subst a
    rw [if_pos rfl]
    by_cases b : q = p + 1
    · subst b
      rw [if_neg (by omega), if_pos rfl]
      intro h3 h4
      exact absurd hc h4
    · rw [if_neg (by omega), if_neg b]
      exact h (p + 1) q (by omega) h2
  · rw [if_neg a]
    by_cases b : p = i + 1
    · subst b
      rw [if_pos rfl, if_neg (by omega), if_neg (by omega)]
      exact h i q (by omega) h2
    · rw [if_neg b]
      by_cases c : q = i
      · subst c
        rw [if_pos rfl]
        exact h p (q + 1) (by omega) (by omega)
      · rw [if_neg c]
        by_cases d : q = i + 1
        · subst d
          rw [if_pos rfl]
          exact h p i (by omega) (by omega)
        · rw [if_neg d]
          exact h p q h1 h2
/-- A comparison of elements of a list, in worlds that differ from w at one block at most. -/
def CmpC1 (F : FuncId) (q0 : Nat) (cm : Int → Int → Int) (L : List Int) (r : Option Nat) (w : World) : Prop :=
  ∀ (x y : Int) (w1 : World), x ∈ L → y ∈ L → w.grownBy w1 r → Calls Tryz.prog F #[.int .i64 x, .int .i64 y, .pointer (some ⟨q0, 0, none⟩)] w1 fun e w2 => e = .returned (.int .i64 (cm x y)) ∧ w1.grownBy w2 none
def SortC1Post (cm : Int → Int → Int) (L : List Int) (v : Value) (n base : Nat) (w : World) (e : Ending) (w' : World) : Prop := ∃ O, e = .returned (.tuple #[]) ∧ w'.ownsRow base 3 1 v n (ints O) ∧ O.Perm L ∧ Srt cm 0 O n ∧ (StbC1 cm L n → StbC1 cm O n) ∧ w.grownBy w' v.ownBlock
/-! Package slices at ints: stable sorting of few, by a comparison with captures. Written by mksort1.py. -/

theorem own_of_heapc3 {w w1 : World} {base e size n : Nat} {v : Value} {xs : List Value} (h : w.ownsRow base e size v n xs) (e1 : w1.heap = w.heap) : w1.ownsRow base e size v n xs := by
  rcases h.2 with h2 | ⟨g, cap, cur, hv, hb, hg, r⟩
  · exact ⟨h.1, .inl h2⟩
  · exact ⟨h.1, .inr ⟨g, cap, cur, hv, hb, by rw [e1]; exact hg, r⟩⟩
theorem own_cellc3 {w : World} {base e n g cap i : Nat} {O : List Int} (h : w.ownsRow base e 1 (.slice (some ⟨g, 0, none⟩) n cap) n (ints O)) (hi : i < O.length) : w.cell? ⟨g, i, none⟩ = some (.int .i64 O[i]) ∧ w.frozen? ⟨g, i, none⟩ = false := by
  have hl : O.length = n := by have := h.1; simpa [ints] using this
  have h1 := own_int h i (by omega)
  rw [getD_eq O i 0 hi] at h1
  exact ⟨h1.1, h1.2.1⟩
/-- Of two that are equal, the less one is first. -/
def StbC3 (cm : Int → Int → Int) (O : List Int) (n : Nat) : Prop := ∀ p q, p < q → q < n → ¬ cm (O.getD q 0) (O.getD p 0) < 0 → ¬ cm (O.getD p 0) (O.getD q 0) < 0 → O.getD p 0 < O.getD q 0
theorem stbC3_swap {cm : Int → Int → Int} {O : List Int} {n i : Nat} (h : StbC3 cm O n) (hn : O.length = n) (hi : i + 1 < n) (hc : cm (O.getD (i + 1) 0) (O.getD i 0) < 0) : StbC3 cm (swapAt 0 O i) n := by
  intro p q h1 h2
  rw [swapAt_get i (by omega) p, swapAt_get i (by omega) q]
  by_cases a : p = i
  · subst a
    rw [if_pos rfl]
    by_cases b : q = p + 1
    · subst b
      rw [if_neg (by omega), if_pos rfl]
      intro h3 h4
      exact absurd hc h4
    · rw [if_neg (by omega), if_neg b]
      exact h (p + 1) q (by omega) h2
  · rw [if_neg a]
    by_cases b : p = i + 1
    · subst b
      rw [if_pos rfl, if_neg (by omega), if_neg (by omega)]
      exact h i q (by omega) h2
    · rw [if_neg b]
      by_cases c : q = i
      · subst c
        rw [if_pos rfl]
        exact h p (q + 1) (by omega) (by omega)
      · rw [if_neg c]
        by_cases d : q = i + 1
        · subst d
          rw [if_pos rfl]
          exact h p i (by omega) (by omega)
        · rw [if_neg d]
          exact h p q h1 h2
/-- A comparison of elements of a list, in worlds that differ from w at one block at most. -/
def CmpC3 (F : FuncId) (q0 q1 q2 : Nat) (cm : Int → Int → Int) (L : List Int) (r : Option Nat) (w : World) : Prop :=
  ∀ (x y : Int) (w1 : World), x ∈ L → y ∈ L → w.grownBy w1 r → Calls Tryz.prog F #[.int .i64 x, .int .i64 y, .pointer (some ⟨q0, 0, none⟩), .pointer (some ⟨q1, 0, none⟩), .pointer (some ⟨q2, 0, none⟩)] w1 fun e w2 => e = .returned (.int .i64 (cm x y)) ∧ w1.grownBy w2 none
def SortC3Post (cm : Int → Int → Int) (L : List Int) (v : Value) (n base : Nat) (w : World) (e : Ending) (w' : World) : Prop := ∃ O, e = .returned (.tuple #[]) ∧ w'.ownsRow base 3 1 v n (ints O) ∧ O.Perm L ∧ Srt cm 0 O n ∧ (StbC3 cm L n → StbC3 cm O n) ∧ w.grownBy w' v.ownBlock
end Go.Proofs.YthikknnadmebgaaGreatDoor

/-! A meter, as the stream makes it. -/
namespace Go.Proofs.YthikknnadmebgaaGreatDoor
open Go.RowKit
variable {lw : Nat}

structure Mtr where
  cnt : Int
  turn : Int
  fast : Int
def mtrM (l : List Int) (k : Nat) : Mtr := if flipM l (k + 1 + 1 + 1) 15 then ⟨pickM l (k + 1 + 1 + 1 + 1) [0, 1, 61], pickM l (k + 1 + 1 + 1 + 1 + 1) [9, 10, 1000001], pickM l (k + 1 + 1 + 1 + 1 + 1 + 1) [0, 1, 10]⟩ else ⟨1 + nxt l k 3, pickM l (k + 1) [100, 1000], pickM l (k + 1 + 1) [1, 5, 20, 90]⟩
def mtrK (l : List Int) (k : Nat) : Nat := if flipM l (k + 1 + 1 + 1) 15 then k + 7 else k + 4
def mtrV (m : Mtr) : Value := .agg #[.int .i64 m.cnt, .int .i64 m.turn, .int .i64 m.fast]
def MtrPost (l : List Int) (k p lw : Nat) (w : World) (e : Ending) (w' : World) : Prop :=
  e = .returned (mtrV (mtrM l k)) ∧ StreamAt w' p lw l (mtrK l k) ∧ w.grownBy w' (some p)
theorem blk3M {w : World} {g t : Nat} {a b c : Value} (h : w.heap[g]? = some (.cells #[a, b, c] t (0, 0))) : w.cell? ⟨g, 0, none⟩ = some a ∧ w.cell? ⟨g, 1, none⟩ = some b ∧ w.cell? ⟨g, 2, none⟩ = some c ∧ w.frozen? ⟨g, 0, none⟩ = false ∧ w.frozen? ⟨g, 1, none⟩ = false ∧ w.frozen? ⟨g, 2, none⟩ = false := by
  simp [World.cell?, World.frozen?, h]
theorem set3M_heap {w : World} {g t : Nat} {a b c : Value} (h : w.heap[g]? = some (.cells #[a, b, c] t (0, 0))) (x y z : Value) : (((w.setCell ⟨g, 0, none⟩ x).setCell ⟨g, 1, none⟩ y).setCell ⟨g, 2, none⟩ z).heap[g]? = some (.cells #[x, y, z] t (0, 0)) := set3R_heap h x y z
end Go.Proofs.YthikknnadmebgaaGreatDoor

/-! What is wrong with a meter: the document's answer and the program's. -/
namespace Go.Proofs.YthikknnadmebgaaGreatDoor
open Go.RowKit

structure MtrOk (m : Mtr) : Prop where
  c1 : 1 ≤ m.cnt
  c2 : m.cnt ≤ 60
  t1 : 10 ≤ m.turn
  t2 : m.turn ≤ 1000000
  f1 : 1 ≤ m.fast
  f2 : m.fast ≤ m.turn - 1
def MtrF (m : Mtr) (w : World) (e : Ending) (w' : World) : Prop := ∃ r : Int, e = .returned (.int .i64 r) ∧ ((r = 0 ∧ MtrOk m) ∨ (r = 1 ∧ ¬ MtrOk m)) ∧ w.grownBy w' none
theorem mtrM_turn (l : List Int) (k : Nat) : 0 ≤ (mtrM l k).turn ∧ (mtrM l k).turn ≤ 1000001 := by
  unfold mtrM
  split
  · have := pickM_mem l (k + 1 + 1 + 1 + 1 + 1) [9, 10, 1000001] (by decide)
    simp only [List.mem_cons, List.not_mem_nil, or_false] at this
    simp only; omega
  · have := pickM_mem l (k + 1) [100, 1000] (by decide)
    simp only [List.mem_cons, List.not_mem_nil, or_false] at this
    simp only; omega
end Go.Proofs.YthikknnadmebgaaGreatDoor
