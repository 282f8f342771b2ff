/- How many units of each product are needed: a map; what is wrong with a kit's needs. -/
import Derived.Test.YtakabckmiodjaaaDoorPkDBh
import Derived.Test.YtakabckmiodjaaaDoorPkDBi
import Derived.Test.YtakabckmiodjaaaDoorPkDAd
import Derived.Test.YtakabckmiodjaaaDoorPkDBl
namespace Go.Proofs.YtakabckmiodjaaaDoor
open Go.RowKit
attribute [local go_sem ↓] Go.wp_at_zero Go.wp_at_succ

def needSum (N : List Need) (s : ByteArray) : Int := (N.map (fun x => if x.prod = s then x.many else 0)).sum
def needMap (N : List Need) (s : ByteArray) : Option Int := if N.any (fun x => decide (x.prod = s)) = true then some (needSum N s) else none
theorem needSum_app (a b : List Need) (s : ByteArray) : needSum (a ++ b) s = needSum a s + needSum b s := by simp [needSum]
theorem needSum_bd (N : List Need) (s : ByteArray) (h : ∀ x ∈ N, NeedSm x) : -(N.length : Int) ≤ needSum N s ∧ needSum N s ≤ 100001 * N.length := by
  induction N with
  | nil => simp [needSum]
  | cons x N ih =>
    have h1 := ih (fun y hy => h y (by simp [hy]))
    obtain ⟨-, -, h2, h3⟩ := h x (by simp)
    have e : needSum (x :: N) s = (if x.prod = s then x.many else 0) + needSum N s := by simp [needSum]
    rw [e]
    simp only [List.length_cons]
    split <;> omega
theorem needMap_get (N : List Need) (s : ByteArray) : (needMap N s).getD 0 = needSum N s := by
  unfold needMap
  split
  · rfl
  · rename_i h
    induction N with
    | nil => rfl
    | cons x N ih =>
      simp only [List.any_cons, Bool.or_eq_true, decide_eq_true_eq, not_or] at h
      have e : needSum (x :: N) s = (if x.prod = s then x.many else 0) + needSum N s := by simp [needSum]
      rw [e, if_neg h.1, ← ih h.2]; rfl
theorem needMap_next (N : List Need) (k : Nat) (hk : k < N.length) (t : ByteArray) : needMap (N.take (k + 1)) t = if t = N[k].prod then some ((needMap (N.take k) N[k].prod).getD 0 + N[k].many) else needMap (N.take k) t := by
  have e : N.take (k + 1) = N.take k ++ [N[k]] := by simp
  rw [needMap_get, e]
  unfold needMap
  rw [needSum_app, List.any_append]
  by_cases h : t = N[k].prod
  · subst h
    rw [if_pos rfl]
    simp [needSum]
  · rw [if_neg h]
    have h2 : ¬ N[k].prod = t := fun e => h e.symm
    simp [needSum, h2]
theorem needMap_key {N : List Need} {s : ByteArray} {x : Int} (h : ∀ x ∈ N, NeedSm x) (hx : needMap N s = some x) : s.size ≤ 3 ∧ x = needSum N s ∧ ∃ y ∈ N, y.prod = s := by
  unfold needMap at hx
  split at hx
  · rename_i hy
    obtain ⟨y, hy, e⟩ := List.any_eq_true.1 hy
    have e : y.prod = s := by simpa using e
    injection hx with hx
    exact ⟨by rw [← e]; exact (h y hy).2.1, hx.symm, y, hy, e⟩
  · cases hx
/-! How many units of each product are wanted: the program's map. -/
attribute [local go_sem ↓] Go.wp_at_zero Go.wp_at_succ

end Go.Proofs.YtakabckmiodjaaaDoor
