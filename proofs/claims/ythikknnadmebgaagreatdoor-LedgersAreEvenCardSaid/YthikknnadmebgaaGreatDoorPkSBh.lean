/- meter.Encode of a right line, and what the reference says of a line. -/
import Derived.Test.YthikknnadmebgaaGreatDoorPkSBe
import Derived.Test.YthikknnadmebgaaGreatDoorPkSBf
import Derived.Test.YthikknnadmebgaaGreatDoorPkSBg
import Derived.Test.YthikknnadmebgaaGreatDoorPkSAq
namespace Go.Proofs.YthikknnadmebgaaGreatDoor
open Go.RowKit
attribute [local go_sem ↓] Go.wp_at_zero Go.wp_at_succ

structure LineOk (x : Rd) : Prop where
  a0 : 0 ≤ x.at_
  a1 : x.at_ < 5761440
  l0 : 1 ≤ x.vs.length
  l1 : x.vs.length ≤ 60
  all : ∀ n ∈ x.vs, 0 ≤ n ∧ n ≤ 999999
def badL (n : Int) : Bool := decide (n < 0) || decide (999999 < n)
theorem itoa_nn (n : Int) (h : 0 ≤ n) : Lib.itoa n = Lib.decDigits n.toNat := by unfold Lib.itoa; rw [if_neg (by omega)]
theorem itoa_num (n : Int) (h : 0 ≤ n) (h1 : n < 1000000000) : NumL (Lib.itoa n) := by rw [itoa_nn n h]; exact dec_num _ (by omega)
theorem itoa_atoi (n : Int) (h : 0 ≤ n) (h1 : n < 1000000000) : Lib.atoi (Lib.itoa n) = some n := by
  rw [itoa_nn n h, dec_atoi _ (by omega)]
  congr 1
  omega
def preL (x : Rd) (k : Nat) : List UInt8 := Lib.itoa x.at_ ++ 32 :: joinC ((x.vs.take k).map Lib.itoa)
def bodyOf (x : Rd) : List UInt8 := Lib.itoa x.at_ ++ 32 :: joinC (x.vs.map Lib.itoa)
def lineL (x : Rd) : List UInt8 := bodyOf x ++ 32 :: 42 :: hexL (foldX (bodyOf x))
def lineB (x : Rd) : ByteArray := ⟨(lineL x).toArray⟩
theorem app_bytes (p q : List UInt8) : (⟨p.toArray⟩ : ByteArray) ++ ⟨q.toArray⟩ = ⟨(p ++ q).toArray⟩ := by rw [ByteArray.mk_append_mk]
theorem preL_zero (x : Rd) : preL x 0 = Lib.itoa x.at_ ++ [32] := by simp [preL, joinC]
theorem preL_one (x : Rd) (h : 0 < x.vs.length) : preL x 1 = preL x 0 ++ Lib.itoa x.vs[0] := by
  cases x with
  | mk A vs =>
    cases vs with
    | nil => simp at h
    | cons v vs => simp [preL, joinC]
theorem preL_next (x : Rd) (k : Nat) (hk : 0 < k) (h : k < x.vs.length) : preL x (k + 1) = (preL x k ++ [44]) ++ Lib.itoa x.vs[k] := by
  have e : x.vs.take (k + 1) = x.vs.take k ++ [x.vs[k]] := by simp
  unfold preL
  rw [e, List.map_append, List.map_cons, List.map_nil, join_snoc _ _ (by
    intro he
    have h2 : ((x.vs.take k).map Lib.itoa).length = k := by simp; omega
    rw [he] at h2
    simp at h2
    omega)]
  simp
theorem preL_len (x : Rd) (ok : LineOk x) : ∀ k, k ≤ x.vs.length → (preL x k).length ≤ 10 + 10 * k
  | 0, _ => by
    rw [preL_zero]
    have := (itoa_num x.at_ ok.a0 (by have := ok.a1; omega)).len
    simp; omega
  | k + 1, h => by
    have h1 := preL_len x ok k (by omega)
    have hv := ok.all _ (List.getElem_mem (show k < x.vs.length by omega))
    have h2 := (itoa_num _ hv.1 (by omega)).len
    by_cases hk : k = 0
    · subst hk
      rw [preL_one x (by omega), List.length_append]
      omega
    · rw [preL_next x k (by omega) (by omega), List.length_append, List.length_append]
      simp only [List.length_cons, List.length_nil]
      omega
theorem bodyOf_pre (x : Rd) : preL x x.vs.length = bodyOf x := by unfold preL bodyOf; rw [List.take_length]
def preB (x : Rd) (k : Nat) : ByteArray := ⟨(preL x k).toArray⟩
theorem preB_size (x : Rd) (ok : LineOk x) (k : Nat) (h : k ≤ x.vs.length) : (preB x k).size ≤ 610 := by
  have h1 := preL_len x ok k h
  have h2 := ok.l1
  show (preL x k).toArray.size ≤ 610
  simp
  omega
theorem itoaB_size (n : Int) (h : 0 ≤ n) (h1 : n < 1000000000) : (itoaB n).size ≤ 9 := by
  have := (itoa_num n h h1).len
  show (Lib.itoa n).toArray.size ≤ 9
  simpa using this
end Go.Proofs.YthikknnadmebgaaGreatDoor
