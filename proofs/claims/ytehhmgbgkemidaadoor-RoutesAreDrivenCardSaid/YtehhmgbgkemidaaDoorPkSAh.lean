/- The stream's orders: the numbers below n, in some order. -/
import Derived.Test.YtehhmgbgkemidaaDoorPkSAb
import Derived.Test.YtehhmgbgkemidaaDoorPkSAc
import Derived.Test.YtehhmgbgkemidaaDoorPkSAg
import Derived.BigRegion
namespace Go.Proofs.YtehhmgbgkemidaaDoor
open Go.RowKit
variable {lw : Nat}

/-- A list of the numbers below n. -/
def IsOrder (n : Nat) (L : List Int) : Prop := L.Perm ((List.range n).map fun k : Nat => (k : Int))
theorem IsOrder.len {n : Nat} {L : List Int} (h : IsOrder n L) : L.length = n := by
  have := h.length_eq
  simpa using this
theorem IsOrder.mem {n : Nat} {L : List Int} (h : IsOrder n L) (x : Int) : x ∈ L ↔ 0 ≤ x ∧ x < n := by
  rw [h.mem_iff, List.mem_map]
  constructor
  · rintro ⟨k, hk, rfl⟩
    have := List.mem_range.1 hk
    omega
  · intro hx
    exact ⟨x.toNat, List.mem_range.2 (by omega), by omega⟩
theorem order_next (k : Nat) : ((List.range (k + 1)).map fun k : Nat => (k : Int)) = ((List.range k).map fun k : Nat => (k : Int)) ++ [(k : Int)] := by
  rw [List.range_succ, List.map_append]; rfl
theorem order_swap {n : Nat} {L : List Int} (h : IsOrder n L) {i j : Nat} (hi : i < L.length) (hj : j < L.length) : IsOrder n ((L.set i (L.getD j 0)).set j (L.getD i 0)) := by
  have := List.set_set_perm (i := i) (j := j) hi hj
  rw [getD_eq _ _ _ hi, getD_eq _ _ _ hj]
  exact this.trans h
def OrderPost (l : List Int) (k n p lw : Nat) (w : World) (e : Ending) (w' : World) : Prop := ∃ v L, e = .returned v ∧ w'.ownsRow w.heap.size 3 1 v n (ints L) ∧ IsOrder n L ∧ StreamAt w' p lw l (k + (n - 1)) ∧ w.grownBy w' (some p)

end Go.Proofs.YtehhmgbgkemidaaDoor

/-! Stream.Order, as a function of the stream: which order it is. -/
namespace Go.Proofs.YtehhmgbgkemidaaDoor
open Go.RowKit
variable {lw : Nat}

/-- The order behind j exchanges. -/
def ordAt (l : List Int) (k n : Nat) : Nat → List Int
  | 0 => (List.range n).map fun k : Nat => (k : Int)
  | j + 1 => ((ordAt l k n j).set (n - 1 - j) ((ordAt l k n j).getD (nxt l (k + j) (((n - 1 - j : Nat) : Int) + 1)).toNat 0)).set (nxt l (k + j) (((n - 1 - j : Nat) : Int) + 1)).toNat ((ordAt l k n j).getD (n - 1 - j) 0)
def ordM (l : List Int) (k n : Nat) : List Int := ordAt l k n (n - 1)
def OrderFPost (l : List Int) (k n p lw : Nat) (w : World) (e : Ending) (w' : World) : Prop := ∃ v, e = .returned v ∧ w'.ownsRow w.heap.size 3 1 v n (ints (ordM l k n)) ∧ IsOrder n (ordM l k n) ∧ StreamAt w' p lw l (k + (n - 1)) ∧ w.grownBy w' (some p)

end Go.Proofs.YtehhmgbgkemidaaDoor
