/- What the days of a map add up to: no program in sight. -/
import Derived.Test.YtehhmgbgkemidaaGreatDoorPkSBd
import Derived.Test.YtehhmgbgkemidaaGreatDoorPkSBe
namespace Go.Proofs.YtehhmgbgkemidaaGreatDoor
open Go.RowKit

theorem rsum_next (a : Nat → Int) (N : Nat) : ((List.range (N + 1)).map a).sum = ((List.range N).map a).sum + a N := by simp [List.range_succ]
theorem rsum_upd (a b : Nat → Int) (s : Nat) (h : ∀ d, d ≠ s → b d = a d) (N : Nat) : ((List.range N).map b).sum = ((List.range N).map a).sum + if s < N then b s - a s else 0 := by
  induction N with
  | zero => simp
  | succ N ih =>
    rw [rsum_next, rsum_next, ih]
    by_cases e : N = s
    · subst e
      rw [if_neg (Nat.lt_irrefl N), if_pos (Nat.lt_succ_self N)]
      omega
    · rw [h N e]
      by_cases h1 : s < N
      · rw [if_pos h1, if_pos (by omega)]; omega
      · rw [if_neg h1, if_neg (by omega)]; omega
/-- What a map's entries add up to, and those of them that are left. -/
def mapSum (f : Int → Option Int) (N : Nat) : Int := ((List.range N).map fun (d : Nat) => (f (d : Int)).getD 0).sum
def mapSumL (f : Int → Option Int) (left : Lit → Bool) (N : Nat) : Int := ((List.range N).map fun (d : Nat) => if left (ikey (d : Int)) then (f (d : Int)).getD 0 else 0).sum
def leftN (left : Lit → Bool) (N : Nat) : Int := ((List.range N).map fun (d : Nat) => if left (ikey (d : Int)) then (1 : Int) else 0).sum
theorem mapSum_put (f : Int → Option Int) (s : Nat) (x : Int) (N : Nat) (hs : s < N) : mapSum (fun t => if t = (s : Int) then some x else f t) N = mapSum f N + (x - (f (s : Int)).getD 0) := by
  unfold mapSum
  have h := rsum_upd (fun d => (f (d : Int)).getD 0) (fun d => (if (d : Int) = (s : Int) then some x else f (d : Int)).getD 0) s (fun d hd => by
    show (if (d : Int) = (s : Int) then some x else f (d : Int)).getD 0 = _
    rw [if_neg (by omega)]) N
  rw [if_pos hs] at h
  simpa using h
theorem mapSum_none (N : Nat) : mapSum (fun _ => none) N = 0 := by
  unfold mapSum
  induction N with
  | zero => rfl
  | succ N ih => rw [rsum_next, ih]; rfl
theorem mapSumL_all (f : Int → Option Int) (left : Lit → Bool) (h : ∀ s, left (ikey s) = (f s).isSome) (N : Nat) : mapSumL f left N = mapSum f N := by
  unfold mapSumL mapSum
  induction N with
  | zero => rfl
  | succ N ih =>
    rw [rsum_next, rsum_next, ih, h]
    cases f (N : Int) <;> simp
theorem mapSumL_done (f : Int → Option Int) (left : Lit → Bool) (h : ∀ k, left k = false) (N : Nat) : mapSumL f left N = 0 := by
  unfold mapSumL
  induction N with
  | zero => rfl
  | succ N ih => rw [rsum_next, ih, h]; rfl
theorem ikey_same (s : Int) : (ikey s).sameKey (ikey s) = true := by simp [ikey, Lit.sameKey]
theorem mapSumL_next (f : Int → Option Int) (left : Lit → Bool) (s : Nat) (x : Int) (N : Nat) (hs : s < N) (h1 : f (s : Int) = some x) (h2 : left (ikey (s : Int)) = true) : mapSumL f (fun z => left z && !z.sameKey (ikey (s : Int))) N = mapSumL f left N - x := by
  unfold mapSumL
  have h := rsum_upd (fun d => if left (ikey (d : Int)) then (f (d : Int)).getD 0 else 0) (fun d => if (left (ikey (d : Int)) && !(ikey (d : Int)).sameKey (ikey (s : Int))) then (f (d : Int)).getD 0 else 0) s (fun d hd => by
    have hne : ikey (d : Int) ≠ ikey (s : Int) := fun e => hd (by have := ikey_inj e; omega)
    show (if (left (ikey (d : Int)) && !(ikey (d : Int)).sameKey (ikey (s : Int))) then (f (d : Int)).getD 0 else 0) = _
    rw [Maps.sameKey_ne hne]; simp) N
  rw [if_pos hs] at h
  rw [h]
  simp only [h1, h2, ikey_same]
  simp
  omega
theorem leftN_next (left : Lit → Bool) (s : Nat) (N : Nat) (hs : s < N) (h2 : left (ikey (s : Int)) = true) : leftN (fun z => left z && !z.sameKey (ikey (s : Int))) N = leftN left N - 1 := by
  unfold leftN
  have h := rsum_upd (fun d => if left (ikey (d : Int)) then (1 : Int) else 0) (fun d => if (left (ikey (d : Int)) && !(ikey (d : Int)).sameKey (ikey (s : Int))) then (1 : Int) else 0) s (fun d hd => by
    have hne : ikey (d : Int) ≠ ikey (s : Int) := fun e => hd (by have := ikey_inj e; omega)
    show (if (left (ikey (d : Int)) && !(ikey (d : Int)).sameKey (ikey (s : Int))) then (1 : Int) else 0) = _
    rw [Maps.sameKey_ne hne]; simp) N
  rw [if_pos hs] at h
  rw [h]
  simp only [h2, ikey_same]
  simp
  omega
theorem leftN_in (left : Lit → Bool) (N : Nat) : 0 ≤ leftN left N ∧ leftN left N ≤ N := by
  unfold leftN
  induction N with
  | zero => simp
  | succ N ih =>
    rw [rsum_next]
    split <;> omega
end Go.Proofs.YtehhmgbgkemidaaGreatDoor
