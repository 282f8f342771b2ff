/- Sorting by insertion: what a swap does, what stands at the end. No program in sight. -/
import Derived.Test.YtjhdngfliakidaaDoorPkIAb
namespace Go.Proofs.YtjhdngfliakidaaDoor
open Go.RowKit

structure CmpOk {α : Type} (cm : α → α → Int) : Prop where
  asym : ∀ a b, cm a b < 0 → ¬ cm b a < 0
  trans : ∀ a b c, ¬ cm b a < 0 → ¬ cm c b < 0 → ¬ cm c a < 0
def SrtBut {α : Type} (cm : α → α → Int) (d : α) (O : List α) (k j : Nat) : Prop := ∀ p q, p < q → q ≤ k → q ≠ j → ¬ cm (O.getD q d) (O.getD p d) < 0
def Srt {α : Type} (cm : α → α → Int) (d : α) (O : List α) (k : Nat) : Prop := ∀ p q, p < q → q < k → ¬ cm (O.getD q d) (O.getD p d) < 0
section
variable {α : Type} {cm : α → α → Int} {d : α} {O : List α}
theorem srt_one : Srt cm d O 1 := fun p q h1 h2 => by omega
theorem srt_start {k : Nat} (h : Srt cm d O k) : SrtBut cm d O k k := fun p q h1 h2 h3 => h p q h1 (by omega)
theorem srt_zero {k : Nat} (h : SrtBut cm d O k 0) : Srt cm d O (k + 1) := fun p q h1 h2 => h p q h1 (by omega) (by omega)
theorem srt_stop {k i : Nat} (hc : CmpOk cm) (h : SrtBut cm d O k (i + 1)) (hn : ¬ cm (O.getD (i + 1) d) (O.getD i d) < 0) : Srt cm d O (k + 1) := by
  intro p q h1 h2
  by_cases e : q = i + 1
  · subst e
    by_cases e2 : p = i
    · subst e2; exact hn
    · by_cases hik : i ≤ k
      · exact hc.trans _ _ _ (h p i (by omega) hik (by omega)) hn
      · omega
  · exact h p q h1 (by omega) e
def swapAt (d : α) (O : List α) (i : Nat) : List α := (O.set (i + 1) (O.getD i d)).set i (O.getD (i + 1) d)
theorem swapAt_len (i : Nat) : (swapAt d O i).length = O.length := by simp [swapAt]
theorem swapAt_get (i : Nat) (hi : i + 1 < O.length) (p : Nat) : (swapAt d O i).getD p d = if p = i then O.getD (i + 1) d else if p = i + 1 then O.getD i d else O.getD p d := by
  unfold swapAt
  rw [List.getD_eq_getElem?_getD]
  by_cases e : p = i
  · subst e
    rw [if_pos rfl, List.getElem?_set_self (by simp; omega)]
    rfl
  · rw [if_neg e, List.getElem?_set_ne (fun e' => e e'.symm)]
    by_cases e2 : p = i + 1
    · subst e2
      rw [if_pos rfl, List.getElem?_set_self (by omega)]
      rfl
    · rw [if_neg e2, List.getElem?_set_ne (fun e' => e2 e'.symm), ← List.getD_eq_getElem?_getD]
theorem srt_swap {k i : Nat} (hc : CmpOk cm) (hi : i + 1 < O.length) (hk : i + 1 ≤ k) (h : SrtBut cm d O k (i + 1)) (hn : cm (O.getD (i + 1) d) (O.getD i d) < 0) : SrtBut cm d (swapAt d O i) k i := by
  intro p q h1 h2 h3
  rw [swapAt_get i hi, swapAt_get i hi]
  rw [if_neg h3]
  by_cases e : q = i + 1
  · subst e
    rw [if_pos rfl]
    by_cases e2 : p = i
    · subst e2
      rw [if_pos rfl]
      exact hc.asym _ _ hn
    · rw [if_neg e2, if_neg (by omega)]
      exact h p i (by omega) (by omega) (by omega)
  · rw [if_neg e]
    by_cases e2 : p = i
    · subst e2
      rw [if_pos rfl]
      exact h (p + 1) q (by omega) h2 e
    · rw [if_neg e2]
      by_cases e3 : p = i + 1
      · subst e3
        rw [if_pos rfl]
        exact h i q (by omega) h2 e
      · rw [if_neg e3]
        exact h p q h1 h2 e
theorem swapAt_perm (i : Nat) (hi : i + 1 < O.length) : (swapAt d O i).Perm O := by
  induction O generalizing i with
  | nil => simp at hi
  | cons a O ih =>
    cases i with
    | zero =>
      cases O with
      | nil => simp at hi
      | cons b O => simpa [swapAt] using List.Perm.swap a b O
    | succ i =>
      have := ih i (by simpa using hi)
      simpa [swapAt] using this
end
theorem flat_set2 {α : Type} {enc : α → List Value} (hm : ∀ a, (enc a).length = 2) (l : List α) (i : Nat) (h : i < l.length) (v0 v1 : Value) (x : α) (hx : enc x = [v0, v1]) : ((flat enc l).set (i * 2) v0).set (i * 2 + 1) v1 = flat enc (l.set i x) := by
  induction l generalizing i with
  | nil => simp at h
  | cons a l ih =>
    have ha := hm a
    cases i with
    | zero =>
      obtain ⟨u0, u1, e⟩ : ∃ u0 u1, enc a = [u0, u1] := by
        match h' : enc a, ha with
        | [u0, u1], _ => exact ⟨u0, u1, rfl⟩
      simp [flat, e, hx]
    | succ i =>
      have h1 := ih i (by simpa using h)
      simp only [flat, List.flatMap_cons, List.set_cons_succ] at *
      rw [List.set_append_right _ _ (by rw [ha, Nat.add_mul]; omega), List.set_append_right _ _ (by rw [ha, Nat.add_mul]; omega), ha, ← h1]
      congr 2
      · congr 1; rw [Nat.add_mul]; omega
      · rw [Nat.add_mul]; omega
end Go.Proofs.YtjhdngfliakidaaDoor
