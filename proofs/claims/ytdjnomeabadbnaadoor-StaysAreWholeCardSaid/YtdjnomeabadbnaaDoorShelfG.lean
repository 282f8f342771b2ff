/- What ShelvesStay asks besides: what is worth something; versions that are the same; the stream's versions are small. -/
import Derived.Test.YtdjnomeabadbnaaDoorShelfF
import Derived.Test.YtdjnomeabadbnaaDoorOffPure
namespace Go.Proofs.YtdjnomeabadbnaaDoor
open Go.RowKit
attribute [local go_sem ↓] Go.wp_at_zero Go.wp_at_succ

def IsTrueG (w : World) (e : Ending) (w' : World) : Prop := e = .returned (.bool true) ∧ w.grownBy w' none
def oneOffer : List Offer := [⟨⟨#[97]⟩, ⟨#[103]⟩, [5], [], []⟩]
theorem oneOffer_ok : OffersOk oneOffer := by
  refine ⟨by decide, fun o ho => ?_, fun o ho => ?_, fun o ho => ?_, fun i h0 h => ?_⟩
  · simp only [oneOffer, List.mem_cons, List.not_mem_nil, or_false] at ho; subst ho; decide
  · simp only [oneOffer, List.mem_cons, List.not_mem_nil, or_false] at ho; subst ho; decide
  · simp only [oneOffer, List.mem_cons, List.not_mem_nil, or_false] at ho; subst ho
    exact ⟨⟨by decide, fun x hx => by simp at hx, fun i _ hi => by simp at hi⟩, ⟨by decide, fun x hx => by simp at hx, fun i _ hi => by simp at hi⟩⟩
  · simp [oneOffer] at h; omega
theorem oneCount_ok : CountsOk oneOffer [1] := by
  refine ⟨by decide, fun i hi => ?_⟩
  simp [oneOffer] at hi
  subst hi
  simp [oneOffer]
set_option maxRecDepth 100000 in
set_option maxHeartbeats 1000000 in
theorem shelves_any (w : World) : Calls Tryd.prog 23 #[] w (IsTrueG w) := by
  go_enter Tryd.func23, Tryd.ntmps23
  go_wp2_with (fail)
  obtain ⟨h1, h2, h3⟩ := heap_3 w (.cells #[.int .i64 5] 3) (.cells #[.string ⟨#[97]⟩, .string ⟨#[103]⟩, .slice (some ⟨w.heap.size, 0, none⟩) 1 1, .slice none 0 0, .slice none 0 0] 157) (.cells #[.int .i64 1] 3)
  have hg := gr_alloc (gr_alloc (gr_alloc (gr_refl w none) (.cells #[.int .i64 5] 3)) (.cells #[.string ⟨#[97]⟩, .string ⟨#[103]⟩, .slice (some ⟨w.heap.size, 0, none⟩) 1 1, .slice none 0 0, .slice none 0 0] 157)) (.cells #[.int .i64 1] 3)
  refine (worth_any oneOffer [1] (some ⟨w.heap.size + 1, 0, none⟩) (some ⟨w.heap.size + 1 + 1, 0, none⟩) [⟨⟨#[97]⟩, ⟨#[103]⟩, some ⟨w.heap.size, 0, none⟩, 1, 1, none, 0, 0, none, 0, 0⟩] 1 1 _ ⟨rfl, ?_, ?_⟩ oneOffer_ok ?_ oneCount_ok).mono ?_
  · intro j x hx
    refine ⟨_, 0, rfl, ?_⟩
    rw [Nat.zero_add]
    exact blkC h2 j (by simpa [flat, encOV] using hx)
  · intro i v o hv ho
    cases i with
    | zero =>
      simp only [oneOffer, List.getElem?_cons_zero, Option.some.injEq] at hv ho
      subst hv ho
      refine ⟨rfl, rfl, rfl, rfl, rfl, ?_, CellsAt.nil _ _, CellsAt.nil _ _, by show 1 ≤ 1; omega, by show 1 ≤ maxLen; unfold maxLen; omega⟩
      intro j x hx
      refine ⟨_, 0, rfl, ?_⟩
      rw [Nat.zero_add]
      exact blkC h1 j (by simpa [ints] using hx)
    | succ i => simp at hv
  · intro j x hx
    refine ⟨_, 0, rfl, ?_⟩
    rw [Nat.zero_add]
    exact blkC h3 j (by simpa [ints] using hx)
  rintro e w2 ⟨rfl, g2⟩
  have HE : Hid ((worthL oneOffer [1]).sum = 5) := by show _ = _; decide
  rw [HE.out]
  have g := gr_trans hg g2
  clear h1 h2 h3 hg g2
  go_wp2_with (fail)
  go_ret
  exact ⟨rfl, g⟩
/-! The stream's versions are small. -/
theorem verTo_mem (l : List Int) (k n : Nat) : ∀ s ∈ verTo l k n, s.size ≤ 100 := by
  induction n with
  | zero => intro s hs; simp [verTo] at hs
  | succ n ih =>
    intro s hs
    simp only [verTo, List.mem_append, List.mem_cons, List.not_mem_nil, or_false] at hs
    rcases hs with hs | rfl
    · exact ih s hs
    · have hm := oneS_mem l (k + n) verOne (by decide)
      obtain ⟨x, hx⟩ : ∃ x, x = oneS l (k + n) verOne := ⟨_, rfl⟩
      rw [← hx] at hm ⊢
      simp only [verOne, List.mem_cons, List.not_mem_nil, or_false] at hm
      rcases hm with rfl | rfl | rfl <;> decide
def VerSmall (n : Nat) (v : Ver) : Prop := v.lay.length ≤ n ∧ ∀ s ∈ v.lay, s.size ≤ 100
theorem versTo_small (l : List Int) (k n : Nat) (d : Int) (i : Nat) : ∀ v ∈ (versTo l k n d i).vs, VerSmall n v := by
  induction i with
  | zero => intro v hv; simp [versTo] at hv
  | succ i ih =>
    intro v hv
    simp only [versTo, List.mem_append, List.mem_cons, List.not_mem_nil, or_false] at hv
    rcases hv with hv | rfl
    · exact ih v hv
    · exact ⟨by rw [verTo_len]; exact Nat.le_refl _, verTo_mem _ _ _⟩
theorem verTurn_small (l : List Int) (j n : Nat) (v : Ver) (h : VerSmall n v) : VerSmall (n + 1) (verTurn l j v).1 := by
  unfold verTurn
  split
  · exact ⟨by have := h.1; show v.lay.length ≤ _; omega, h.2⟩
  · split
    · refine ⟨by have := h.1; simp; omega, fun s hs => ?_⟩
      rcases List.mem_append.1 hs with hs | hs
      · exact h.2 s hs
      · simp only [List.mem_cons, List.not_mem_nil, or_false] at hs; subst hs; decide
    · refine ⟨?_, ?_⟩
      · have := h.1
        show (if v.lay.length = 0 then [] else v.lay ++ [oneS l (j + 3) verLast]).length ≤ _
        split <;> simp
        omega
      · show ∀ s ∈ (if v.lay.length = 0 then [] else v.lay ++ [oneS l (j + 3) verLast]), _
        intro s hs
        split at hs
        · simp at hs
        · rcases List.mem_append.1 hs with hs | hs
          · exact h.2 s hs
          · simp only [List.mem_cons, List.not_mem_nil, or_false] at hs
            have hm := oneS_mem l (j + 3) verLast (by decide)
            rw [← hs] at hm
            simp only [verLast, List.mem_cons, List.not_mem_nil, or_false] at hm
            rcases hm with rfl | rfl <;> decide
theorem versM_small (l : List Int) (k : Nat) : (versM l k).length ≤ 4 ∧ ∀ v ∈ versM l k, VerSmall 4 v := by
  have r1 := nxt_range l k 4 (by decide)
  have r2 := nxt_range l (k + 2) 5 (by decide)
  have hn : vN l k ≤ 3 := by unfold vN; omega
  have hm : vM l k ≤ 4 := by unfold vM; omega
  have h1 : (versH l k).vs.length = vM l k := versTo_len _ _ _ _ _
  have h2 : ∀ v ∈ (versH l k).vs, VerSmall 3 v := fun v hv => by
    have := versTo_small _ _ _ _ _ v hv
    exact ⟨by have := this.1; omega, this.2⟩
  have h4 : ∀ v, VerSmall 3 v → VerSmall 4 v := fun v h => ⟨by have := h.1; omega, h.2⟩
  unfold versM versF
  split
  · split
    · exact ⟨by show (versH l k).vs.length ≤ 4; omega, fun v hv => h4 v (h2 v hv)⟩
    · refine ⟨by show ((versH l k).vs.set _ _).length ≤ 4; rw [List.length_set]; omega, fun v hv => ?_⟩
      rcases List.mem_or_eq_of_mem_set (show v ∈ (versH l k).vs.set _ _ from hv) with hv | rfl
      · exact h4 v (h2 v hv)
      · refine verTurn_small l _ 3 _ ?_
        rw [getD_eq _ _ _ (by have := nxt_range l ((versH l k).j + 1) (versH l k).vs.length (by omega); omega)]
        exact h2 _ (List.getElem_mem _)
  · exact ⟨by show (versH l k).vs.length ≤ 4; omega, fun v hv => h4 v (h2 v hv)⟩
end Go.Proofs.YtdjnomeabadbnaaDoor
