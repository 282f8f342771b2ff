/- Tubes, as the stream makes them: they are right. -/
import Derived.Test.YtbgfflbddflokaaVend
namespace Go.Proofs.Ytbgfflbddflokaa
open Go.RowKit

theorem tubeAt_append (T : List Tube) (x : Tube) (j : Nat) (h : j < T.length) : tubeAt (T ++ [x]) j = tubeAt T j := by
  unfold tubeAt
  rw [List.getD_eq_getElem?_getD, List.getD_eq_getElem?_getD, List.getElem?_append_left h]
theorem tubeAt_last (T : List Tube) (x : Tube) : tubeAt (T ++ [x]) T.length = x := by
  unfold tubeAt
  simp [List.getD_eq_getElem?_getD]
structure TubesInv (T : List Tube) (i : Nat) : Prop where
  len : T.length ≤ i
  ok : ∀ j, j < T.length → OkTube T j
  val : ∀ j, j < T.length → ∃ i0, i0 < i ∧ (tubeAt T j).value = coinValues.getD i0 0
theorem coinValues_up : ∀ i, i < 5 → ∀ j, j < i → coinValues.getD j 0 < coinValues.getD i 0 := by decide
theorem coinValues_in : ∀ i, i < 5 → 1 ≤ coinValues.getD i 0 ∧ coinValues.getD i 0 ≤ 100 := by decide
theorem tubesTo_inv (l : List Int) (k i : Nat) (hi : i ≤ 5) : TubesInv (tubesTo l k i).1 i := by
  induction i with
  | zero => exact ⟨Nat.le_refl _, fun j hj => by simp [tubesTo] at hj, fun j hj => by simp [tubesTo] at hj⟩
  | succ i ih =>
    have ih := ih (by omega)
    simp only [tubesTo]
    split
    · exact ⟨by have := ih.len; simp; omega, ih.ok, fun j hj => by obtain ⟨i0, h1, h2⟩ := ih.val j hj; exact ⟨i0, by omega, h2⟩⟩
    · obtain ⟨T, hT⟩ : ∃ T, T = (tubesTo l k i).1 := ⟨_, rfl⟩
      rw [← hT] at ih
      simp only [← hT]
      have hpm := pickM_mem l ((tubesTo l k i).2 + 1) [0, 1, 3, 8, 20] (by decide)
      obtain ⟨m, hm⟩ : ∃ m, m = pickM l ((tubesTo l k i).2 + 1) [0, 1, 3, 8, 20] := ⟨_, rfl⟩
      rw [← hm] at hpm
      simp only [← hm]
      have hm0 : 0 ≤ m ∧ m ≤ 20 := by simp only [List.mem_cons, List.not_mem_nil, or_false] at hpm; omega
      have hnx := nxt_range l ((tubesTo l k i).2 + 2) (m + 1) (by omega)
      obtain ⟨c, hc⟩ : ∃ c, c = nxt l ((tubesTo l k i).2 + 2) (m + 1) := ⟨_, rfl⟩
      rw [← hc] at hnx
      simp only [← hc]
      have hv := coinValues_in i (by omega)
      refine ⟨by have := ih.len; simp; omega, fun j hj => ?_, fun j hj => ?_⟩
      · simp only [List.length_append, List.length_cons, List.length_nil] at hj
        rcases (show j < T.length ∨ j = T.length by omega) with h | h
        · have o := ih.ok j h
          have e := tubeAt_append T ⟨coinValues.getD i 0, c, m⟩ j h
          exact ⟨by rw [e]; exact o.v0, by rw [e]; exact o.v1, fun h0 => by rw [e, tubeAt_append T _ (j - 1) (by omega)]; exact o.up h0, by rw [e]; exact o.m0, by rw [e]; exact o.m1, by rw [e]; exact o.c0, by rw [e]; exact o.c1⟩
        · subst h
          have e := tubeAt_last T ⟨coinValues.getD i 0, c, m⟩
          refine ⟨by rw [e]; exact hv.1, by rw [e]; show coinValues.getD i 0 ≤ 10000; omega, fun h0 => ?_, by rw [e]; exact hm0.1, by rw [e]; show m ≤ 1000; omega, by rw [e]; exact hnx.1, by rw [e]; show c ≤ m; omega⟩
          obtain ⟨i0, h1, h2⟩ := ih.val (T.length - 1) (by omega)
          rw [e, tubeAt_append T _ (T.length - 1) (by omega), h2]
          exact coinValues_up i (by omega) i0 h1
      · simp only [List.length_append, List.length_cons, List.length_nil] at hj
        rcases (show j < T.length ∨ j = T.length by omega) with h | h
        · obtain ⟨i0, h1, h2⟩ := ih.val j h
          exact ⟨i0, by omega, by rw [tubeAt_append T _ j h]; exact h2⟩
        · subst h
          exact ⟨i, by omega, by rw [tubeAt_last]⟩
theorem tubesM_ok (l : List Int) (k : Nat) : OkTubes (tubesM l k) := by
  have h := tubesTo_inv l k 5 (Nat.le_refl _)
  exact ⟨by have := h.len; unfold tubesM; omega, h.ok⟩
end Go.Proofs.Ytbgfflbddflokaa
