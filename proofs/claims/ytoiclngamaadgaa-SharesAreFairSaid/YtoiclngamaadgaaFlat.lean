/- Slices of structs: what they read, of whatever struct. -/
import Derived.Test.YtoiclngamaadgaaKitB
namespace Go.Proofs.Ytoiclngamaadgaa
open Go.RowKit

def flat {α : Type} (enc : α → List Value) (l : List α) : List Value := l.flatMap enc
section
variable {α : Type} {enc : α → List Value} {m : Nat}
theorem flat_length (hm : ∀ a, (enc a).length = m) (l : List α) : (flat enc l).length = l.length * m := by
  induction l with
  | nil => simp [flat]
  | cons a l ih =>
    simp only [flat, List.flatMap_cons, List.length_append, List.length_cons] at *
    rw [ih, hm, Nat.add_mul]; omega
theorem flat_append (l k : List α) : flat enc (l ++ k) = flat enc l ++ flat enc k := by simp [flat]
theorem flat_one (a : α) : flat enc [a] = enc a := by simp [flat]
theorem flat_get (hm : ∀ a, (enc a).length = m) (l : List α) (i : Nat) (h : i < l.length) (j : Nat) (hj : j < m) : (flat enc l)[i * m + j]? = (enc l[i])[j]? := by
  induction l generalizing i with
  | nil => simp at h
  | cons a l ih =>
    have ha := hm a
    cases i with
    | zero =>
      simp only [flat, List.flatMap_cons, Nat.zero_mul, Nat.zero_add, List.getElem_cons_zero]
      rw [List.getElem?_append_left (by omega)]
    | succ i =>
      have h1 := ih i (by simpa using h)
      simp only [flat, List.flatMap_cons, List.getElem_cons_succ] at *
      rw [List.getElem?_append_right (by rw [ha, Nat.add_mul]; omega), ha, ← h1]
      congr 1
      rw [Nat.add_mul]; omega
theorem flat_ones (h1 : ∀ a, (enc a).all (fun u => u.oneCell') = true) (l : List α) : ∀ u ∈ flat enc l, u.oneCell' = true := by
  intro u hu
  simp only [flat, List.mem_flatMap] at hu
  obtain ⟨s, _, hs⟩ := hu
  exact List.all_eq_true.1 (h1 s) u hs
/-- The cells of a slice of structs: from one element that is there, of all. -/
theorem flat_cells (hm : ∀ a, (enc a).length = m) (h0 : 0 < m) {w : World} {a : Option Addr} {l : List α} (hc : CellsAt w a (flat enc l)) (h : 0 < l.length) :
    ∃ b off, a = some ⟨b, off, none⟩ ∧ ∀ (i : Nat) (hi : i < l.length) (j : Nat) (v : Value), (enc l[i])[j]? = some v → w.cell? ⟨b, off + i * m + j, none⟩ = some v := by
  have hlen := flat_length hm l
  have hpos : 0 < (flat enc l).length := by rw [hlen]; exact Nat.mul_pos h h0
  obtain ⟨b, off, rfl, _⟩ := hc 0 _ (List.getElem?_eq_getElem hpos)
  refine ⟨b, off, rfl, fun i hi j v hv => ?_⟩
  have hj : j < m := by
    have := (List.getElem?_eq_some_iff.1 hv).1
    rw [hm] at this
    exact this
  obtain ⟨b1, o1, e1, c1⟩ := hc (i * m + j) v (by rw [flat_get hm l i hi j hj]; exact hv)
  cases e1
  rw [Nat.add_assoc]
  exact c1
theorem flat_set (hm : ∀ a, (enc a).length = m) (l : List α) (i : Nat) (h : i < l.length) (j : Nat) (hj : j < m) (v : Value) (x : α) (hx : (enc l[i]).set j v = enc x) : (flat enc l).set (i * m + j) v = flat enc (l.set i x) := by
  induction l generalizing i with
  | nil => simp at h
  | cons a l ih =>
    have ha := hm a
    cases i with
    | zero =>
      simp only [flat, List.flatMap_cons, Nat.zero_mul, Nat.zero_add, List.set_cons_zero, List.getElem_cons_zero] at *
      rw [List.set_append_left _ _ (by omega), hx]
    | succ i =>
      have h1 := ih i (by simpa using h) (by simpa using hx)
      simp only [flat, List.flatMap_cons, List.set_cons_succ] at *
      rw [List.set_append_right _ _ (by rw [ha, Nat.add_mul]; omega), ha, ← h1]
      congr 2
      rw [Nat.add_mul]; omega
end
theorem take_next {α : Type} (l : List α) (k : Nat) (h : k < l.length) : l.take (k + 1) = l.take k ++ [l[k]] := List.take_succ_eq_append_getElem h
theorem getD_eq {α : Type} (l : List α) (k : Nat) (d : α) (h : k < l.length) : l.getD k d = l[k] := by
  rw [List.getD_eq_getElem?_getD, List.getElem?_eq_getElem h]; rfl
end Go.Proofs.Ytoiclngamaadgaa
