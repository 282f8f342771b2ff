/- The laws' own counts of pieces: a map, and a list of all units. -/
import Derived.Test.YtdminjijhpemkaaGreatDoorPkSAs
import Derived.Test.YtdminjijhpemkaaGreatDoorPkSAo
namespace Go.Proofs.YtdminjijhpemkaaGreatDoor
open Go.RowKit
attribute [local go_sem ↓] Go.wp_at_zero Go.wp_at_succ

/-- How many units there are of each lot that there are units of. -/
def cntN (U : List ByteArray) (s : ByteArray) : Nat := (U.filter (fun x => decide (x = s))).length
def cntU (U : List ByteArray) (s : ByteArray) : Option Int := if 0 < cntN U s then some (cntN U s : Nat) else none
theorem cntN_app (U V : List ByteArray) (t : ByteArray) : cntN (U ++ V) t = cntN U t + cntN V t := by simp [cntN]
theorem cntN_rep (k : ByteArray) (m : Nat) (t : ByteArray) : cntN (List.replicate m k) t = if t = k then m else 0 := by
  unfold cntN
  by_cases e : t = k
  · subst e
    rw [if_pos rfl, List.filter_eq_self.2 (fun x hx => by simp [List.mem_replicate] at hx; simp [hx.2]), List.length_replicate]
  · rw [if_neg e, List.filter_eq_nil_iff.2 (fun x hx => by
      simp only [List.mem_replicate] at hx
      simp only [decide_eq_true_eq]
      intro h
      exact e (h ▸ hx.2))]
    rfl
theorem cntU_get (U : List ByteArray) (s : ByteArray) : (cntU U s).getD 0 = (cntN U s : Nat) := by
  unfold cntU
  split
  · rfl
  · have : cntN U s = 0 := by omega
    rw [this]; rfl
theorem cntU_app (U : List ByteArray) (k : ByteArray) (m : Nat) (hm : 1 ≤ m) (t : ByteArray) : cntU (U ++ List.replicate m k) t = if t = k then some ((cntU U k).getD 0 + m) else cntU U t := by
  rw [cntU_get]
  unfold cntU
  rw [cntN_app, cntN_rep]
  by_cases e : t = k
  · subst e
    rw [if_pos rfl, if_pos rfl, if_pos (by omega)]
    congr 1
  · rw [if_neg e, if_neg e, Nat.add_zero]
theorem cntU_perm {U V : List ByteArray} (h : U.Perm V) : cntU U = cntU V := by
  funext s
  unfold cntU
  have : cntN U s = cntN V s := (h.filter _).length_eq
  rw [this]
theorem cntU_bd (U : List ByteArray) (s : ByteArray) : 0 ≤ (cntU U s).getD 0 ∧ (cntU U s).getD 0 ≤ U.length := by
  rw [cntU_get]
  have := List.length_filter_le (fun x => decide (x = s)) U
  unfold cntN
  omega
end Go.Proofs.YtdminjijhpemkaaGreatDoor
