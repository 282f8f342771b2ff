/- A meter, as the stream makes it. -/
import Derived.Test.YtjhdngfliakidaaDoorPkIAe
import Derived.Test.YtjhdngfliakidaaDoorPkIAi
namespace Go.Proofs.YtjhdngfliakidaaDoor
open Go.RowKit
variable {lw : Nat}

structure Mtr where
  cnt : Int
  turn : Int
  fast : Int
def mtrM (l : List Int) (k : Nat) : Mtr := if flipM l (k + 1 + 1 + 1) 15 then ⟨pickM l (k + 1 + 1 + 1 + 1) [0, 1, 61], pickM l (k + 1 + 1 + 1 + 1 + 1) [9, 10, 1000001], pickM l (k + 1 + 1 + 1 + 1 + 1 + 1) [0, 1, 10]⟩ else ⟨1 + nxt l k 3, pickM l (k + 1) [100, 1000], pickM l (k + 1 + 1) [1, 5, 20, 90]⟩
def mtrK (l : List Int) (k : Nat) : Nat := if flipM l (k + 1 + 1 + 1) 15 then k + 7 else k + 4
def mtrV (m : Mtr) : Value := .agg #[.int .i64 m.cnt, .int .i64 m.turn, .int .i64 m.fast]
def MtrPost (l : List Int) (k p lw : Nat) (w : World) (e : Ending) (w' : World) : Prop :=
  e = .returned (mtrV (mtrM l k)) ∧ StreamAt w' p lw l (mtrK l k) ∧ w.grownBy w' (some p)
theorem blk3M {w : World} {g t : Nat} {a b c : Value} (h : w.heap[g]? = some (.cells #[a, b, c] t (0, 0))) : w.cell? ⟨g, 0, none⟩ = some a ∧ w.cell? ⟨g, 1, none⟩ = some b ∧ w.cell? ⟨g, 2, none⟩ = some c ∧ w.frozen? ⟨g, 0, none⟩ = false ∧ w.frozen? ⟨g, 1, none⟩ = false ∧ w.frozen? ⟨g, 2, none⟩ = false := by
  simp [World.cell?, World.frozen?, h]
theorem set3M_heap {w : World} {g t : Nat} {a b c : Value} (h : w.heap[g]? = some (.cells #[a, b, c] t (0, 0))) (x y z : Value) : (((w.setCell ⟨g, 0, none⟩ x).setCell ⟨g, 1, none⟩ y).setCell ⟨g, 2, none⟩ z).heap[g]? = some (.cells #[x, y, z] t (0, 0)) := set3R_heap h x y z
end Go.Proofs.YtjhdngfliakidaaDoor

/-! What is wrong with a meter: the document's answer and the program's. -/
namespace Go.Proofs.YtjhdngfliakidaaDoor
open Go.RowKit

structure MtrOk (m : Mtr) : Prop where
  c1 : 1 ≤ m.cnt
  c2 : m.cnt ≤ 60
  t1 : 10 ≤ m.turn
  t2 : m.turn ≤ 1000000
  f1 : 1 ≤ m.fast
  f2 : m.fast ≤ m.turn - 1
def MtrF (m : Mtr) (w : World) (e : Ending) (w' : World) : Prop := ∃ r : Int, e = .returned (.int .i64 r) ∧ ((r = 0 ∧ MtrOk m) ∨ (r = 1 ∧ ¬ MtrOk m)) ∧ w.grownBy w' none
theorem mtrM_turn (l : List Int) (k : Nat) : 0 ≤ (mtrM l k).turn ∧ (mtrM l k).turn ≤ 1000001 := by
  unfold mtrM
  split
  · have := pickM_mem l (k + 1 + 1 + 1 + 1 + 1) [9, 10, 1000001] (by decide)
    simp only [List.mem_cons, List.not_mem_nil, or_false] at this
    simp only; omega
  · have := pickM_mem l (k + 1) [100, 1000] (by decide)
    simp only [List.mem_cons, List.not_mem_nil, or_false] at this
    simp only; omega
end Go.Proofs.YtjhdngfliakidaaDoor

/-! What is wrong with a reading: the document's answer and the program's. -/
namespace Go.Proofs.YtjhdngfliakidaaDoor
open Go.RowKit

structure Rd where
  at_ : Int
  vs : List Int
structure RdOk (m : Mtr) (x : Rd) : Prop where
  a0 : 0 ≤ x.at_
  a1 : x.at_ < 5761440
  len : (x.vs.length : Int) = m.cnt
  all : ∀ n ∈ x.vs, 0 ≤ n ∧ n < m.turn
theorem moment_any (n : Int) (w : World) : Calls Tryd.prog 66 #[.int .i64 n] w fun e w' => e = .returned (.bool (decide (0 ≤ n) && decide (n < 5761440))) ∧ w = w' := by
  go_enter Tryd.func66, Tryd.ntmps66
  by_cases h : 0 ≤ n
  · have hd : decide (0 ≤ n) = true := decide_eq_true h
    go_wp2_with (fail)
    go_ret
    exact ⟨by simp [h], rfl⟩
  · have hd : decide (0 ≤ n) = false := decide_eq_false h
    go_wp2_with (fail)
    go_ret
    exact ⟨by simp, rfl⟩
theorem momentB_any (n : Int) (w : World) : Calls Tryd.prog 70 #[.int .i64 n] w fun e w' => e = .returned (.bool (!decide (n < 0) && !decide (5761439 < n))) ∧ w = w' := by
  go_enter Tryd.func70, Tryd.ntmps70
  go_wp2_with (fail)
  refine (out_any n 0 5761439 w).mono ?_
  rintro e w2 ⟨rfl, rfl⟩
  go_wp2_with (fail)
  go_ret
  exact ⟨rfl, rfl⟩
def badV (t n : Int) : Bool := decide (n < 0) || decide (t ≤ n)
end Go.Proofs.YtjhdngfliakidaaDoor

/-! A reading, as the stream makes it: as a function. -/
namespace Go.Proofs.YtjhdngfliakidaaDoor
open Go.RowKit

def rdC (m : Mtr) : Nat := (max (min m.cnt 5) 0).toNat
def rdT (m : Mtr) : Int := max (min m.turn 1000) 1
def rdAts : List Int := [0, 60, 1439, 1440, 3000, 5000, 20000]
def rdV0 (l : List Int) (k : Nat) (t : Int) (c : Nat) : List Int := (List.range c).map fun i => nxt l (k + i) t
theorem rdV0_next (l : List Int) (k c : Nat) (t : Int) : rdV0 l k t (c + 1) = rdV0 l k t c ++ [nxt l (k + c) t] := by simp [rdV0, List.range_succ]
theorem rdV0_len (l : List Int) (k c : Nat) (t : Int) : (rdV0 l k t c).length = c := by simp [rdV0]
def rdK0 (k : Nat) (m : Mtr) : Nat := k + 1 + rdC m
def rdAt (l : List Int) (k : Nat) (m : Mtr) : Int := if flipM l (rdK0 k m) 30 then pickM l (rdK0 k m + 1) [-1, 5761440, 5761439] else pickM l k rdAts
def rdK1 (l : List Int) (k : Nat) (m : Mtr) : Nat := if flipM l (rdK0 k m) 30 then rdK0 k m + 1 + 1 else rdK0 k m + 1
def rdV1 (l : List Int) (k : Nat) (m : Mtr) : List Int := if flipM l (rdK1 l k m) 30 then rdV0 l (k + 1) (rdT m) (rdC m) ++ [pickM l (rdK1 l k m + 1) [0, -1]] else rdV0 l (k + 1) (rdT m) (rdC m)
def rdK2 (l : List Int) (k : Nat) (m : Mtr) : Nat := if flipM l (rdK1 l k m) 30 then rdK1 l k m + 1 + 1 else rdK1 l k m + 1
def rdV2 (l : List Int) (k : Nat) (m : Mtr) : List Int := if flipM l (rdK2 l k m) 30 && decide (0 < (rdV1 l k m).length) then (rdV1 l k m).set 0 (pickM l (rdK2 l k m + 1) [-1, m.turn, 999999, 1000000]) else rdV1 l k m
def rdK3 (l : List Int) (k : Nat) (m : Mtr) : Nat := if flipM l (rdK2 l k m) 30 && decide (0 < (rdV1 l k m).length) then rdK2 l k m + 1 + 1 else rdK2 l k m + 1
def rdOne (l : List Int) (k : Nat) (m : Mtr) : Rd := ⟨rdAt l k m, rdV2 l k m⟩
theorem rdC_le (m : Mtr) : rdC m ≤ 5 := by unfold rdC; omega
theorem rdK3_le (l : List Int) (k : Nat) (m : Mtr) : k ≤ rdK3 l k m ∧ rdK3 l k m ≤ k + 20 := by
  have := rdC_le m
  unfold rdK3 rdK2 rdK1 rdK0
  split <;> split <;> split <;> omega
theorem rdV2_len (l : List Int) (k : Nat) (m : Mtr) : (rdV2 l k m).length ≤ 6 := by
  have := rdC_le m
  have h1 : (rdV1 l k m).length ≤ 6 := by
    unfold rdV1
    split
    · rw [List.length_append, rdV0_len]; simp; omega
    · rw [rdV0_len]; omega
  unfold rdV2
  split
  · rw [List.length_set]; exact h1
  · exact h1
end Go.Proofs.YtjhdngfliakidaaDoor
