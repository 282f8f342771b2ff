/- The lots that the stream makes are right; coils and pieces are small. No program in sight. -/
import Derived.Test.YtdminjijhpemkaaGreatDoorPkSAo
import Derived.Test.YtdminjijhpemkaaGreatDoorPkSAe
namespace Go.Proofs.YtdminjijhpemkaaGreatDoor
open Go.RowKit

def lkUp (a b : Nat) : Bool := (a ≥ b) || !leS (lotKeys.getD b ⟨#[]⟩) (lotKeys.getD a ⟨#[]⟩)
theorem lkUp_all : (List.range 5).all (fun b => (List.range 5).all (fun a => lkUp a b)) = true := by kernel_rfl
def lkOk (a : Nat) : Bool := keyB (lotKeys.getD a ⟨#[]⟩) && decide ((lotKeys.getD a ⟨#[]⟩).size ≤ 1000)
theorem lkOk_all : (List.range 5).all lkOk = true := by kernel_rfl
theorem lk_up {a b : Nat} (h : a < b) (hb : b < 5) : leS (lotKeys.getD b ⟨#[]⟩) (lotKeys.getD a ⟨#[]⟩) = false := by
  have h1 := List.all_eq_true.1 (List.all_eq_true.1 lkUp_all b (List.mem_range.2 hb)) a (List.mem_range.2 (by omega))
  unfold lkUp at h1
  simp only [Bool.or_eq_true, decide_eq_true_eq, Bool.not_eq_true'] at h1
  rcases h1 with h1 | h1
  · omega
  · exact h1
theorem lk_ok {a : Nat} (h : a < 5) : keyB (lotKeys.getD a ⟨#[]⟩) = true ∧ (lotKeys.getD a ⟨#[]⟩).size ≤ 1000 := by
  have h1 := List.all_eq_true.1 lkOk_all a (List.mem_range.2 h)
  unfold lkOk at h1
  simpa only [Bool.and_eq_true, decide_eq_true_eq] using h1
theorem lotProds_ok (l : List Int) (k : Nat) : keyB (oneS l k lotProds) = true ∧ (oneS l k lotProds).size ≤ 1000 := by
  have h := oneS_mem l k lotProds (by decide)
  have k1 : keyB ⟨#[99, 97, 110]⟩ = true := by kernel_rfl
  have k2 : keyB ⟨#[98, 97, 114]⟩ = true := by kernel_rfl
  generalize oneS l k lotProds = x at h
  simp only [lotProds, List.mem_cons, List.not_mem_nil, or_false] at h
  rcases h with rfl | rfl | rfl
  · exact ⟨k1, by decide⟩
  · exact ⟨k1, by decide⟩
  · exact ⟨k2, by decide⟩
theorem lotAt_ok (l : List Int) (j : Nat) (x : ByteArray) (h1 : keyB x = true) (h2 : x.size ≤ 1000) : LotOk (lotAt l j x) := by
  obtain ⟨p1, p2⟩ := lotProds_ok l j
  have he := pickM_mem l (j + 1) [3, 5, 5, 7, 9, 20] (by decide)
  have hm := pickM_mem l (j + 1 + 1) [0, 1, 3, 5, 8] (by decide)
  simp only [List.mem_cons, List.not_mem_nil, or_false] at he hm
  refine ⟨h1, h2, p1, p2, ?_, ?_, ?_, ?_⟩ <;> simp only [lotAt] <;> omega
def LotsInv (S : List Lot) (i : Nat) : Prop := (∀ x ∈ S, LotOk x) ∧ ∃ f : Nat → Nat, (∀ j (h : j < S.length), f j < i ∧ S[j].id = lotKeys.getD (f j) ⟨#[]⟩) ∧ ∀ j, j + 1 < S.length → f j < f (j + 1)
theorem LotsInv.skip {S : List Lot} {i : Nat} (h : LotsInv S i) : LotsInv S (i + 1) := by
  obtain ⟨h1, f, h2, h3⟩ := h
  exact ⟨h1, f, fun j h => ⟨by have := (h2 j h).1; omega, (h2 j h).2⟩, h3⟩
theorem LotsInv.snoc {S : List Lot} {i : Nat} (h : LotsInv S i) (y : Lot) (hy : LotOk y) (hk : y.id = lotKeys.getD i ⟨#[]⟩) : LotsInv (S ++ [y]) (i + 1) := by
  obtain ⟨h1, f, h2, h3⟩ := h
  refine ⟨?_, fun j => if j < S.length then f j else i, ?_, ?_⟩
  · intro x hx
    rw [List.mem_append] at hx
    rcases hx with hx | hx
    · exact h1 x hx
    · simp only [List.mem_cons, List.not_mem_nil, or_false] at hx
      subst hx
      exact hy
  · intro j h
    simp only [List.length_append, List.length_cons, List.length_nil] at h
    by_cases hj : j < S.length
    · simp only [if_pos hj, List.getElem_append_left hj]
      exact ⟨by have := (h2 j hj).1; omega, (h2 j hj).2⟩
    · simp only [if_neg hj]
      rw [List.getElem_append_right (by omega)]
      have : j - S.length = 0 := by omega
      refine ⟨by omega, ?_⟩
      simp only [this, List.getElem_cons_zero]
      exact hk
  · intro j h
    simp only [List.length_append, List.length_cons, List.length_nil] at h
    by_cases hj : j + 1 < S.length
    · simp only [if_pos hj, if_pos (show j < S.length by omega)]; exact h3 j hj
    · simp only [if_neg hj, if_pos (show j < S.length by omega)]; exact (h2 j (by omega)).1
theorem lotsTo_inv (l : List Int) (k i : Nat) (hi : i ≤ 5) : LotsInv (lotsTo l k i).1 i := by
  induction i with
  | zero => exact ⟨fun x hx => by simp [lotsTo] at hx, id, fun j h => by simp [lotsTo] at h, fun j h => by simp [lotsTo] at h⟩
  | succ i ih =>
    have h := ih (by omega)
    simp only [lotsTo]
    split
    · exact h.skip
    · exact h.snoc _ (lotAt_ok _ _ _ (lk_ok (by omega)).1 (lk_ok (by omega)).2) rfl
theorem lotsM_ok (l : List Int) (k : Nat) : LotsOk (lotsM l k) := by
  obtain ⟨h1, f, h2, h3⟩ := lotsTo_inv l k 5 (Nat.le_refl _)
  refine ⟨by have := (lotsTo_bd l k 5).1; unfold lotsM; omega, h1, fun i h0 h => ?_⟩
  have a := h2 i h
  have b := h2 (i - 1) (by unfold lotsM at h; omega)
  have c := h3 (i - 1) (by rw [show i - 1 + 1 = i by omega]; exact h)
  rw [show i - 1 + 1 = i by omega] at c
  unfold lotsM
  rw [a.2, b.2]
  exact lk_up c a.1
/-- All lots ahead of a lot are less than it. -/
theorem LotsOk.lt {xs : List Lot} (h : LotsOk xs) (k : Nat) (hk : k < xs.length) : ∀ y ∈ xs.take k, cmpB y.id xs[k].id < 0 := by
  have key : ∀ d i, (hi : i + d + 1 < xs.length) → xs[i].id.data.toList < xs[i + d + 1].id.data.toList := by
    intro d
    induction d with
    | zero =>
      intro i hi
      have := leS_false (h.up (i + 1) (by omega) hi)
      simpa using this
    | succ d ih =>
      intro i hi
      have h1 := ih i (by omega)
      have h2 := leS_false (h.up (i + (d + 1) + 1) (by omega) hi)
      have e : i + (d + 1) + 1 - 1 = i + d + 1 := by omega
      simp only [e] at h2
      exact ltL_trans h1 h2
  intro y hy
  obtain ⟨j, hj, rfl⟩ := List.getElem_of_mem hy
  simp only [List.length_take] at hj
  rw [List.getElem_take, cmpB_neg]
  have := key (k - j - 1) j (by omega)
  have e : j + (k - j - 1) + 1 = k := by omega
  simp only [e] at this
  exact this
theorem LotsOk.take {xs : List Lot} (h : LotsOk xs) (k : Nat) : LotsOk (xs.take k) :=
  ⟨by simp; have := h.len; omega, fun x hx => h.all x (List.mem_of_mem_take hx), fun i h0 hi => by
    simp only [List.length_take] at hi
    rw [List.getElem_take, List.getElem_take]
    exact h.up i h0 (by omega)⟩
theorem small_mem {x : ByteArray} {xs : List ByteArray} (h : x ∈ xs) (hs : xs.all (fun y => decide (y.size ≤ 1000)) = true) : x.size ≤ 1000 := by
  have := List.all_eq_true.1 hs x h
  simpa using this
theorem pcKeys_sm (l : List Int) (k : Nat) : (oneS l k pcKeys).size ≤ 1000 := small_mem (oneS_mem l k pcKeys (by decide)) (by decide)
def PcSm (x : Piece) : Prop := x.lot.size ≤ 1000 ∧ -100000 ≤ x.many ∧ x.many ≤ 100000
theorem pcsM_sm (l : List Int) (k : Nat) : PcsSm (pcsM l k) := by
  have h1 : ∀ n, ∀ x ∈ pcsTo l (k + 1) n, PcSm x := by
    intro n
    induction n with
    | zero => intro x hx; simp [pcsTo] at hx
    | succ n ih =>
      intro x hx
      simp only [pcsTo, List.mem_append, List.mem_cons, List.not_mem_nil, or_false] at hx
      rcases hx with hx | rfl
      · exact ih x hx
      · have hp := pickM_mem l (k + 1 + 2 * n + 1) [1, 1, 2, 4] (by decide)
        simp only [List.mem_cons, List.not_mem_nil, or_false] at hp
        exact ⟨pcKeys_sm _ _, by simp only; omega, by simp only; omega⟩
  refine ⟨by have := pcsM_len l k; omega, ?_⟩
  intro x hx
  unfold pcsM at hx
  split at hx
  · rw [List.mem_append] at hx
    rcases hx with hx | hx
    · exact h1 _ x hx
    · simp only [List.mem_cons, List.not_mem_nil, or_false] at hx
      subst hx
      have hp := pickM_mem l (pcsJ l k + 1 + 1) [0, -1, 1000, 1001] (by decide)
      simp only [List.mem_cons, List.not_mem_nil, or_false] at hp
      exact ⟨small_mem (oneS_mem l _ pcOdd (by decide)) (by decide), by simp only; omega, by simp only; omega⟩
  · exact h1 _ x hx
theorem coilTo_sm (l : List Int) (k : Nat) (m : Int) (i : Nat) : (∀ x ∈ (coilTo l k m i).ps, PcSm x) ∧ (coilTo l k m i).last.size ≤ 1000 := by
  induction i with
  | zero => exact ⟨fun x hx => by simp [coilTo] at hx, by simp [coilTo]; decide⟩
  | succ i ih =>
    simp only [coilTo]
    split
    · exact ih
    · refine ⟨fun x hx => ?_, pcKeys_sm _ _⟩
      simp only [List.mem_append, List.mem_cons, List.not_mem_nil, or_false] at hx
      rcases hx with hx | rfl
      · exact ih.1 x hx
      · have hp := pickM_mem l ((coilTo l k m i).k + 1) [1, 2, 4] (by decide)
        simp only [List.mem_cons, List.not_mem_nil, or_false] at hp
        exact ⟨pcKeys_sm _ _, by simp only; omega, by simp only; omega⟩
theorem can_sm : (⟨#[99, 97, 110]⟩ : ByteArray).size ≤ 1000 := by decide
theorem coilM_sm (l : List Int) (k : Nat) : CoilSm (coilM l k).1 := by
  have hn : coilN l k ≤ 3 := by
    have := nxt_range l (k + 1) 4 (by decide)
    unfold coilN; omega
  have hmo := pickM_mem l k [5, 10, 15, 30] (by decide)
  simp only [List.mem_cons, List.not_mem_nil, or_false] at hmo
  have hb := coilTo_bd l (k + 1 + 1) (coilMost l k) (by unfold coilMost; omega) (coilN l k)
  obtain ⟨h1, h2⟩ := coilTo_sm l (k + 1 + 1) (coilMost l k) (coilN l k)
  have hl : (coilS l k).ps.length ≤ 3 := by unfold coilS; omega
  have h1 : ∀ x ∈ (coilS l k).ps, PcSm x := h1
  have h2 : (coilS l k).last.size ≤ 1000 := h2
  unfold coilM
  generalize coilS l k = s at hl h1 h2
  obtain ⟨S, r, la, q⟩ := s
  simp only at hl h1 h2
  unfold coilEnd
  simp only
  split
  · split
    · exact ⟨small_mem (oneS_mem l _ _ (by decide)) (by decide), by simp only; omega, h1⟩
    · split
      · exact ⟨can_sm, by simp only; omega, h1⟩
      · split
        · refine ⟨can_sm, by simp; omega, fun x hx => ?_⟩
          simp only [List.mem_append, List.mem_cons, List.not_mem_nil, or_false] at hx
          rcases hx with hx | rfl
          · exact h1 x hx
          · have hp := pickM_mem l (q + 1 + 1 + 1) [0, 1, 1001] (by decide)
            have ho := oneS_mem l (q + 1 + 1) [⟨#[]⟩, la, ⟨#[122, 122]⟩] (by simp)
            simp only [List.mem_cons, List.not_mem_nil, or_false] at hp ho
            refine ⟨?_, by simp only; omega, by simp only; omega⟩
            simp only
            rcases ho with h | h | h <;> rw [h]
            · decide
            · exact h2
            · decide
        · refine ⟨can_sm, by simp; omega, fun x hx => ?_⟩
          simp only [List.mem_append] at hx
          rcases hx with hx | hx <;> exact h1 x hx
  · exact ⟨can_sm, by simp only; omega, h1⟩
theorem coilM_k (l : List Int) (k : Nat) : (coilM l k).2 ≤ k + 20 := by
  have hn : coilN l k ≤ 3 := by
    have := nxt_range l (k + 1) 4 (by decide)
    unfold coilN; omega
  have hmo := pickM_mem l k [5, 10, 15, 30] (by decide)
  simp only [List.mem_cons, List.not_mem_nil, or_false] at hmo
  have hb := coilTo_bd l (k + 1 + 1) (coilMost l k) (by unfold coilMost; omega) (coilN l k)
  have hl : (coilS l k).k ≤ k + 8 := by unfold coilS; omega
  unfold coilM
  generalize coilS l k = s at hl
  unfold coilEnd
  split
  · split
    · simp only; omega
    · split
      · simp only; omega
      · split <;> simp only <;> omega
  · simp only; omega
end Go.Proofs.YtdminjijhpemkaaGreatDoor
