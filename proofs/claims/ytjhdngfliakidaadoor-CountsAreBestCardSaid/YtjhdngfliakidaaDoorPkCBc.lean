/- Package shelf: counts of a layout; arranging for counts that are all zero; doing nothing. -/
import Derived.Test.YtjhdngfliakidaaDoorPkCAv
import Derived.Test.YtjhdngfliakidaaDoorPkCAc
import Derived.Test.YtjhdngfliakidaaDoorPkCAb
namespace Go.Proofs.YtjhdngfliakidaaDoor
open Go.RowKit
attribute [local go_sem ↓] Go.wp_at_zero Go.wp_at_succ

/-- What is wrong with a layout of right offers. -/
def listF (os : List Offer) (xs : List ByteArray) : Int := if 60 < xs.length then 2 else if xs.any (strangeB os) then 8 else 0
def cntTo (os : List Offer) (xs : List ByteArray) : Nat → List Int
  | 0 => List.replicate os.length 0
  | k + 1 => if (xs.getD k ⟨#[]⟩).toList.isEmpty then cntTo os xs k else (cntTo os xs k).set (offIx os (xs.getD k ⟨#[]⟩)).toNat ((cntTo os xs k).getD (offIx os (xs.getD k ⟨#[]⟩)).toNat 0 + 1)
theorem cntTo_len (os : List Offer) (xs : List ByteArray) (k : Nat) : (cntTo os xs k).length = os.length := by
  induction k with
  | zero => simp [cntTo]
  | succ k ih => simp only [cntTo]; split <;> simp [ih]
theorem cntTo_bd (os : List Offer) (xs : List ByteArray) (k : Nat) : ∀ j, 0 ≤ (cntTo os xs k).getD j 0 ∧ (cntTo os xs k).getD j 0 ≤ k := by
  induction k with
  | zero => intro j; simp [cntTo, List.getD_eq_getElem?_getD, List.getElem?_replicate]; split <;> simp
  | succ k ih =>
    intro j
    have h1 := ih j
    simp only [cntTo]
    split
    · omega
    · have h2 := ih (offIx os (xs.getD k ⟨#[]⟩)).toNat
      by_cases hj : (offIx os (xs.getD k ⟨#[]⟩)).toNat = j
      · subst hj
        by_cases hl : (offIx os (xs.getD k ⟨#[]⟩)).toNat < (cntTo os xs k).length
        · rw [List.getD_eq_getElem?_getD, List.getElem?_set_self hl]
          simp only [Option.getD_some]
          omega
        · rw [List.getD_eq_getElem?_getD, List.getElem?_eq_none (by rw [List.length_set]; omega)]
          simp only [Option.getD_none]
          omega
      · rw [List.getD_eq_getElem?_getD, List.getElem?_set_ne hj, ← List.getD_eq_getElem?_getD]
        omega
theorem offIx_lt (os : List Offer) (k : ByteArray) : offIx os k < os.length := by
  unfold offIx findA; split <;> omega
theorem strange_off {os : List Offer} {xs : List ByteArray} (h : xs.any (strangeB os) = false) (k : Nat) (hk : k < xs.length) (he : (xs.getD k ⟨#[]⟩).toList.isEmpty = false) : 0 ≤ offIx os (xs.getD k ⟨#[]⟩) := by
  have h1 := List.any_eq_false.1 h (xs.getD k ⟨#[]⟩) (by rw [getD_eq xs k _ hk]; exact List.getElem_mem hk)
  unfold strangeB at h1
  rw [he] at h1
  simp at h1
  exact h1
def CountsPost (os : List Offer) (xs : List ByteArray) (w : World) (e : Ending) (w' : World) : Prop :=
  ∃ v n L, e = .returned (.tuple #[v, .int .i64 (listF os xs)]) ∧ w'.ownsRow w.heap.size 3 1 v n (ints L) ∧ (listF os xs = 0 → n = os.length ∧ L = cntTo os xs xs.length) ∧ w.grownBy w' none
theorem sum_rep (n : Nat) : (List.replicate n (0 : Int)).sum = 0 := by
  induction n with
  | zero => rfl
  | succ n ih => rw [List.replicate_succ, List.sum_cons, ih]; rfl
def ArrPost (os : List Offer) (xs : List ByteArray) (w : World) (e : Ending) (w' : World) : Prop :=
  ∃ v n L, e = .returned (.tuple #[v, .int .i64 (listF os xs)]) ∧ n ≤ 60 ∧ w'.ownsRow w.heap.size 9 1 v n (strs L) ∧ w.grownBy w' none
end Go.Proofs.YtjhdngfliakidaaDoor

/-! The offers that the stream makes are right: no program in sight. -/
namespace Go.Proofs.YtjhdngfliakidaaDoor
open Go.RowKit

def keyUp (j : Nat) : Bool := keyB (Utf8.encode (97 + (j : Int))) && decide ((Utf8.encode (97 + (j : Int))).size ≤ 100) && (j == 0 || !leB (Utf8.encode (97 + (j : Int))) (Utf8.encode (97 + ((j - 1 : Nat) : Int))))
theorem keyUp_all : (List.range 20).all keyUp = true := by kernel_rfl
theorem offKey_ok (j : Nat) (h : j < 20) : keyB (Utf8.encode (97 + (j : Int))) = true ∧ (Utf8.encode (97 + (j : Int))).size ≤ 100 ∧ (0 < j → leB (Utf8.encode (97 + (j : Int))) (Utf8.encode (97 + ((j - 1 : Nat) : Int))) = false) := by
  have h1 := List.all_eq_true.1 keyUp_all j (List.mem_range.2 h)
  unfold keyUp at h1
  simp only [Bool.and_eq_true, decide_eq_true_eq, Bool.or_eq_true, beq_iff_eq, Bool.not_eq_true'] at h1
  obtain ⟨⟨a, b⟩, c⟩ := h1
  refine ⟨a, b, fun h0 => ?_⟩
  rcases c with c | c
  · omega
  · exact c
theorem keysOk_sub {xs : List ByteArray} (h : List.Sublist xs offNuts) : KeysOk xs := by
  have h1 : xs = [] ∨ xs = [⟨#[109, 105, 108, 107]⟩] ∨ xs = [⟨#[110, 117, 116]⟩] ∨ xs = offNuts := by
    unfold offNuts at h ⊢
    cases h with
    | cons a h =>
      cases h with
      | cons a h => cases h; exact .inl rfl
      | cons_cons a h => cases h; exact .inr (.inr (.inl rfl))
    | cons_cons a h =>
      cases h with
      | cons a h => cases h; exact .inr (.inl rfl)
      | cons_cons a h => cases h; exact .inr (.inr (.inr rfl))
  have k1 : keyB ⟨#[109, 105, 108, 107]⟩ = true := by decide
  have k2 : keyB ⟨#[110, 117, 116]⟩ = true := by decide
  rcases h1 with rfl | rfl | rfl | rfl
  · exact ⟨by decide, fun x hx => by simp at hx, fun i _ hi => by simp at hi⟩
  · refine ⟨by decide, fun x hx => ?_, fun i h0 hi => ?_⟩
    · simp only [List.mem_cons, List.not_mem_nil, or_false] at hx; subst hx; exact ⟨k1, by decide⟩
    · simp at hi; omega
  · refine ⟨by decide, fun x hx => ?_, fun i h0 hi => ?_⟩
    · simp only [List.mem_cons, List.not_mem_nil, or_false] at hx; subst hx; exact ⟨k2, by decide⟩
    · simp at hi; omega
  · refine ⟨by decide, fun x hx => ?_, fun i h0 hi => ?_⟩
    · simp only [offNuts, List.mem_cons, List.not_mem_nil, or_false] at hx
      rcases hx with rfl | rfl
      · exact ⟨k1, by decide⟩
      · exact ⟨k2, by decide⟩
    · simp [offNuts] at hi
      have : i = 1 := by omega
      subst this
      show leB (offNuts.getD 1 ⟨#[]⟩) (offNuts.getD 0 ⟨#[]⟩) = false
      kernel_rfl
theorem offersTo_get (l : List Int) (k i : Nat) : ∀ j, j < i → ∃ m, (offersTo l k i).1[j]? = some (offerAt l m j) := by
  induction i with
  | zero => intro j h; omega
  | succ i ih =>
    intro j h
    simp only [offersTo]
    by_cases hj : j < i
    · obtain ⟨m, hm⟩ := ih j hj
      exact ⟨m, by rw [List.getElem?_append_left (by rw [offersTo_len]; exact hj)]; exact hm⟩
    · have : j = i := by omega
      subst this
      exact ⟨_, by rw [List.getElem?_append_right (by rw [offersTo_len]; omega), offersTo_len, Nat.sub_self]; rfl⟩
theorem offer_key4 {l : List Int} {m j : Nat} (a : keyB (Utf8.encode (97 + (j : Int))) = true) (b : keyB (oneS l m offGroups) = true) (c : (Utf8.encode (97 + (j : Int))).size ≤ 100) (d : (oneS l m offGroups).size ≤ 100) :
    keyB (offerAt l m j).key = true ∧ keyB (offerAt l m j).group = true ∧ (offerAt l m j).key.size ≤ 100 ∧ (offerAt l m j).group.size ≤ 100 := by
  simp only [offerAt]
  exact ⟨a, b, c, d⟩
theorem offer_key1 {l : List Int} {m m' i j : Nat} (a : leB (Utf8.encode (97 + (i : Int))) (Utf8.encode (97 + (j : Int))) = false) : leB (offerAt l m i).key (offerAt l m' j).key = false := by
  simp only [offerAt]
  exact a
theorem offersM_ok (l : List Int) (k most : Nat) (hm : most ≤ 20) : OffersOk (offersM l k most) := by
  have hN := (offersN_le l k most).1
  have hlen : (offersM l k most).length = offersN l k most := offersTo_len _ _ _
  have hget : ∀ j (h : j < (offersM l k most).length), ∃ m, (offersM l k most)[j] = offerAt l m j := by
    intro j h
    obtain ⟨m, hm⟩ := offersTo_get l (k + 1) (offersN l k most) j (by omega)
    exact ⟨m, by have := (List.getElem?_eq_some_iff.1 hm).2; exact this⟩
  have hall : ∀ o ∈ offersM l k most, ∃ m j, j < 20 ∧ o = offerAt l m j := by
    intro o ho
    obtain ⟨j, hj, rfl⟩ := List.getElem_of_mem ho
    obtain ⟨m, e⟩ := hget j hj
    exact ⟨m, j, by omega, e⟩
  refine ⟨by omega, ?_, ?_, ?_, ?_⟩
  · intro o ho
    obtain ⟨m, j, hj, rfl⟩ := hall o ho
    obtain ⟨q1, q2, _⟩ := offKey_ok j hj
    have hg := oneS_mem l m offGroups (by decide)
    have q3 : keyB (oneS l m offGroups) = true ∧ (oneS l m offGroups).size ≤ 100 := by
      obtain ⟨s, hs⟩ : ∃ s, s = oneS l m offGroups := ⟨_, rfl⟩
      rw [← hs] at hg ⊢
      clear hs
      simp only [offGroups, List.mem_cons, List.not_mem_nil, or_false] at hg
      rcases hg with rfl | rfl | rfl <;> decide
    exact offer_key4 q1 q3.1 q2 q3.2
  · intro o ho
    obtain ⟨m, j, hj, rfl⟩ := hall o ho
    have h1 := offN_le l m
    have hl : (offerAt l m j).profits.length = offN l m := profTo_len _ _ _ _
    have hp := pickM_mem l (m + 1) [3, 5, 9] (by decide)
    simp only [List.mem_cons, List.not_mem_nil, or_false] at hp
    refine ⟨by omega, by omega, fun n hn => ?_⟩
    have := profTo_mem l (m + 3) (pickM l (m + 1) [3, 5, 9]) (offN l m) n hn
    omega
  · intro o ho
    obtain ⟨m, j, hj, rfl⟩ := hall o ho
    exact ⟨keysOk_sub (someM_sub _ _ _ _), keysOk_sub (someM_sub _ _ _ _)⟩
  · intro i h0 h
    obtain ⟨m, e⟩ := hget i h
    obtain ⟨m', e'⟩ := hget (i - 1) (by omega)
    obtain ⟨_, _, q3⟩ := offKey_ok i (by omega)
    rw [e, e']
    exact offer_key1 (q3 h0)
end Go.Proofs.YtjhdngfliakidaaDoor
