/- slices.Sort and slices.Compact at ints. -/
import Derived.Test.YtehhmgbgkemidaaDoorPkSAw
import Derived.Test.YtehhmgbgkemidaaDoorPkSAc
import Derived.Test.YtehhmgbgkemidaaDoorPkSAb
import Derived.Lib.SlicesCompact
namespace Go.Proofs.YtehhmgbgkemidaaDoor
open Go.RowKit Go.Sort

theorem putI_heap {α : Type} [Inhabited α] (enc : α → Value) (w : World) (g m : Nat) (d : Array α) (os : Array Obj) (b : Nat) (hb : b < w.heap.size) : (grow (putRow enc (Sort.ahead w m) g 0 d) os).heap[b]? = if g = b then (w.heap[b]?).map (onCells (putCells enc 0 d)) else w.heap[b]? := by
  show ((w.heap.modify g (onCells (putCells enc 0 d))) ++ os)[b]? = _
  rw [Array.getElem?_append_left (by simpa using hb), Array.getElem?_modify]
theorem putI_grown {α : Type} [Inhabited α] (enc : α → Value) (w : World) (g m : Nat) (d : Array α) (os : Array Obj) : w.grownBy (grow (putRow enc (Sort.ahead w m) g 0 d) os) (some g) := by
  refine ⟨rfl, rfl, rfl, ?_, fun b hb hr => ?_⟩
  · show w.heap.size ≤ ((w.heap.modify g (onCells (putCells enc 0 d))) ++ os).size
    simp
  · rw [putI_heap enc w g m d os b hb, if_neg (fun e => hr (by rw [e]))]
theorem intsI_holds {w : World} {base g n c : Nat} {L : List Int} (h : w.ownsRow base 3 1 (.slice (some ⟨g, 0, none⟩) n c) n (ints L)) : Holds (Value.int .i64) w g 0 L.toArray := by
  obtain ⟨a, cap, hv, -, -, hc, -⟩ := own_shape h
  cases hv
  intro j hj
  have hjn : j < L.length := by simpa using hj
  obtain ⟨b, off, e, hcell⟩ := hc j _ (ints_get L j hjn)
  cases e
  have e2 : L.toArray[j]! = L.getD j 0 := by
    rw [List.getD_eq_getElem?_getD, List.getElem?_eq_getElem hjn]
    simp [hjn]
  rw [e2]
  refine ⟨hcell, ?_⟩
  rw [Nat.zero_add]
  exact h.frozenAt j
theorem ownI_put {w : World} {base g n c : Nat} {xs : List Value} (h : w.ownsRow base 3 1 (.slice (some ⟨g, 0, none⟩) n c) n xs) (m : Nat) (d : Array Int) (os : Array Obj) (hd : d.size = n) : (grow (putRow (Value.int .i64) (Sort.ahead w m) g 0 d) os).ownsRow base 3 1 (.slice (some ⟨g, 0, none⟩) n c) n (ints d.toList) := by
  refine ⟨by rw [ints_length, Array.length_toList, hd, Nat.mul_one], ?_⟩
  rcases h.2 with ⟨h2, -⟩ | ⟨g', cap, cur, hv, hb, hg, hn, hm, hs, ht⟩
  · cases h2
  · cases hv
    refine .inr ⟨g, c, putCells (Value.int .i64) 0 d cur, rfl, hb, ?_, hn, hm, ?_, ?_⟩
    · have hl : g < w.heap.size := lt_of_block hg
      rw [putI_heap _ w g m d os g hl, if_pos rfl, hg]
      rfl
    · simp [putCells, hs]
    · refine List.ext_getElem? (fun t => ?_)
      by_cases htn : t < n
      · have htc : t < cur.size := by rw [hs]; omega
        have htd : t < d.size := by omega
        have htl : t < d.toList.length := by rw [Array.length_toList]; exact htd
        have e5 : d.toList.getD t 0 = d.toList[t] := by rw [List.getD_eq_getElem?_getD, List.getElem?_eq_getElem htl]; rfl
        rw [ints_get d.toList t htl, e5]
        simp [putCells, htn, htc, hd]
      · rw [List.getElem?_eq_none (by simp; omega), List.getElem?_eq_none (by rw [ints_length, Array.length_toList]; omega)]
def SortedI (v : Value) (n base : Nat) (L : List Int) (w : World) (e : Ending) (w' : World) : Prop :=
  ∃ S : List Int, e = .returned (.tuple #[]) ∧ S.Perm L ∧ S.Pairwise (· ≤ ·) ∧ w'.ownsRow base 3 1 v n (ints S) ∧ w.grownBy w' v.ownBlock
theorem sortInts_any (v : Value) (n base : Nat) (L : List Int) (w : World) (hown : w.ownsRow base 3 1 v n (ints L)) (hn : n ≤ 1000000) :
    Calls Tryd.prog 14 #[v] w (SortedI v n base L w) := by
  have hl : L.length = n := own_len hown
  rcases hown.2 with ⟨rfl, h0⟩ | ⟨g, cap, cur, rfl, hb, hg, hnc, hm, hs, ht⟩
  · have hL : L = [] := List.eq_nil_of_length_eq_zero (by omega)
    subst hL
    refine (Any.slices_Sort_int_none lays189 none 0 w).mono ?_
    rintro e w' ⟨rfl, rfl⟩
    exact ⟨[], rfl, List.Perm.refl _, List.Pairwise.nil, hown, gr_refl _ _⟩
  · subst hl
    refine (Any.slices_Sort_int lays189 g 0 cap L w (intsI_holds hown) (lt_of_block hg) (by omega)).mono ?_
    rintro e w' ⟨rfl, q, os, rfl⟩
    refine ⟨L.mergeSort fun x y => decide (x ≤ y), rfl, List.mergeSort_perm _ _, ?_, ?_, putI_grown _ _ _ _ _ _⟩
    · have := List.pairwise_mergeSort (le := fun x y : Int => decide (x ≤ y)) (fun a b c h1 h2 => by simp only [decide_eq_true_eq] at *; omega) (fun a b => by simp only [Bool.or_eq_true, decide_eq_true_eq]; omega) L
      exact this.imp (fun h => by simpa using h)
    · have := ownI_put hown q (L.mergeSort fun x y => decide (x ≤ y)).toArray os (by simp)
      simpa using this
theorem compact_strict (S : List Int) (h : S.Pairwise (· < ·)) : Lib.compact S = S := by
  refine Lib.compact_all S (fun j hj => ?_)
  by_cases h0 : j = 0
  · simp [Lib.keeps, h0]
  · refine Lib.keeps_pos (fun e => ?_)
    have h1 : j - 1 < S.length := by omega
    have h2 := (List.pairwise_iff_getElem.1 h) (j - 1) j h1 hj (by omega)
    simp [hj, h1] at e
    omega
theorem compactInts_any (v : Value) (n base : Nat) (S : List Int) (w : World) (hown : w.ownsRow base 3 1 v n (ints S)) (hn : n ≤ 1000000) (hs : S.Pairwise (· < ·)) :
    Calls Tryd.prog 15 #[v] w fun e w' => (∃ a c, e = .returned (.slice a n c)) ∧ w.grownBy w' v.ownBlock := by
  have hl : S.length = n := own_len hown
  rcases hown.2 with ⟨rfl, h0⟩ | ⟨g, cap, cur, rfl, hb, hg, hnc, hm, hs', ht⟩
  · have hn0 : n = 0 := by omega
    subst hn0
    refine (Any.slices_Compact_int_empty laysNm220 none 0 w).mono ?_
    rintro e w' ⟨rfl, rfl⟩
    exact ⟨⟨_, _, rfl⟩, gr_refl _ _⟩
  · subst hl
    refine (Any.slices_Compact_int laysNm220 g 0 cap S w (intsI_holds hown) (by omega) hnc).mono ?_
    rintro e w' ⟨rfl, q, rfl⟩
    rw [compact_strict S hs]
    exact ⟨⟨_, _, rfl⟩, putI_grown _ w g q _ #[]⟩
end Go.Proofs.YtehhmgbgkemidaaDoor
