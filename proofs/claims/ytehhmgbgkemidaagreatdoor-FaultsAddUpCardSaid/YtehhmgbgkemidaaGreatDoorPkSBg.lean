/- slices.SortFunc of many: from rows to the kit's law and back. -/
import Derived.Test.YtehhmgbgkemidaaGreatDoorPkSBa
import Derived.Test.YtehhmgbgkemidaaGreatDoorPkSBf
namespace Go.Proofs.YtehhmgbgkemidaaGreatDoor
open Go.RowKit Go.Sort

theorem flat_at {α : Type} [Inhabited α] (enc : α → List Value) (k : Nat) (k0 : 0 < k) (hk : ∀ x, (enc x).length = k) : ∀ (l : List α) (t : Nat), t < l.length * k → (flat enc l)[t]? = some ((enc (l.getD (t / k) default))[t % k]!) := by
  intro l
  induction l with
  | nil => intro t h; simp at h
  | cons x l ih =>
    intro t h
    have e : flat enc (x :: l) = enc x ++ flat enc l := by simp [flat]
    rw [e]
    by_cases ht : t < k
    · rw [List.getElem?_append_left (by rw [hk]; exact ht), Nat.div_eq_of_lt ht, Nat.mod_eq_of_lt ht]
      have h2 : t < (enc x).length := by rw [hk]; exact ht
      simp [h2]
    · obtain ⟨u, rfl⟩ : ∃ u, t = k + u := ⟨t - k, by omega⟩
      rw [List.getElem?_append_right (by rw [hk]; omega), hk, Nat.add_sub_cancel_left, Nat.add_div_left u k0, Nat.add_mod_left, List.getD_cons_succ]
      refine ih u ?_
      rw [List.length_cons, Nat.add_mul, Nat.one_mul] at h
      omega
theorem sort_heap {α : Type} [Inhabited α] (enc : α → List Value) (k : Nat) (w : World) (g m : Nat) (d : Array α) (os : Array Obj) (b : Nat) (hb : b < w.heap.size) : (sortWorldK enc k w g 0 m d os).heap[b]? = if g = b then (w.heap[b]?).map (onCells (putCells id 0 (flatK enc k d))) else w.heap[b]? := by
  show ((w.heap.modify g (onCells (putCells id 0 (flatK enc k d)))) ++ os)[b]? = _
  rw [Array.getElem?_append_left (by simpa using hb), Array.getElem?_modify]
theorem sort_grown {α : Type} [Inhabited α] (enc : α → List Value) (k : Nat) (w : World) (g m : Nat) (d : Array α) (os : Array Obj) : w.grownBy (sortWorldK enc k w g 0 m d os) (some g) := by
  refine ⟨rfl, rfl, rfl, ?_, fun b hb hr => ?_⟩
  · show w.heap.size ≤ ((w.heap.modify g (onCells (putCells id 0 (flatK enc k d)))) ++ os).size
    simp
  · rw [sort_heap enc k w g m d os b hb, if_neg (fun e => hr (by rw [e]))]
theorem own_sorted {α : Type} [Inhabited α] (enc : α → List Value) (k : Nat) (k0 : 0 < k) (hk : ∀ x, (enc x).length = k) {w : World} {base e g n c : Nat} {xs : List Value} (h : w.ownsRow base e k (.slice (some ⟨g, 0, none⟩) n c) n xs) (m : Nat) (d : Array α) (os : Array Obj) (hd : d.size = n) : (sortWorldK enc k w g 0 m d os).ownsRow base e k (.slice (some ⟨g, 0, none⟩) n c) n (flat enc d.toList) := by
  have hfl : (flat enc d.toList).length = n * k := by
    rw [← hd, ← Array.length_toList]
    generalize d.toList = l
    induction l with
    | nil => simp [flat]
    | cons x l ih =>
      have e : flat enc (x :: l) = enc x ++ flat enc l := by simp [flat]
      rw [e, List.length_append, hk, ih, List.length_cons, Nat.add_mul, Nat.one_mul, Nat.add_comm]
  refine ⟨hfl, ?_⟩
  rcases h.2 with ⟨h2, -⟩ | ⟨g', cap, cur, hv, hb, hg, hn, hm, hs, ht⟩
  · cases h2
  · cases hv
    refine .inr ⟨g, c, putCells id 0 (flatK enc k d) cur, rfl, hb, ?_, hn, hm, ?_, ?_⟩
    · have hl : g < w.heap.size := lt_of_block hg
      rw [sort_heap enc k w g m d os g hl, if_pos rfl, hg]
      rfl
    · simp [putCells, hs]
    · have hcn : n * k ≤ c * k := Nat.mul_le_mul_right k hn
      refine List.ext_getElem? (fun t => ?_)
      by_cases htn : t < n * k
      · rw [flat_at enc k k0 hk d.toList t (by rw [Array.length_toList, hd]; exact htn)]
        have htc : t < cur.size := by rw [hs]; omega
        have hF : (flatK enc k d)[t]! = (enc d[t / k]!)[t % k]! := get_flatK enc k d t (by rw [hd]; exact htn)
        have hdk : t / k < d.size := by rw [hd]; exact Nat.div_lt_of_lt_mul (by rw [Nat.mul_comm]; exact htn)
        have htF : t < (flatK enc k d).size := by rw [size_flatK, hd]; exact htn
        have hl : ((putCells id 0 (flatK enc k d) cur).toList.take (n * k))[t]? = some ((flatK enc k d)[t]!) := by
          rw [getElem!_pos _ t htF]
          simp [putCells, htn, htc, hd]
        have hdd : d.toList.getD (t / k) default = d[t / k]! := by simp [hdk]
        rw [hl, hdd, hF]
      · rw [List.getElem?_eq_none (by simp; omega), List.getElem?_eq_none (by rw [hfl]; omega)]
end Go.Proofs.YtehhmgbgkemidaaGreatDoor
