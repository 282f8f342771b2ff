/- Package shelf: counts of a layout; arranging for counts that are all zero; doing nothing. -/
import Derived.Test.YtdjnomeabadbnaaDoorShelfC
import Derived.Test.YtdjnomeabadbnaaDoorCloneInt
import Derived.Test.YtdjnomeabadbnaaDoorCloneStr
import Derived.Test.YtdjnomeabadbnaaDoorStepApp
namespace Go.Proofs.YtdjnomeabadbnaaDoor
open Go.RowKit
attribute [local go_sem ↓] Go.wp_at_zero Go.wp_at_succ

/-- What is wrong with a layout of right offers. -/
def listF (os : List Offer) (xs : List ByteArray) : Int := if 60 < xs.length then 2 else if xs.any (strangeB os) then 8 else 0
def cntTo (os : List Offer) (xs : List ByteArray) : Nat → List Int
  | 0 => List.replicate os.length 0
  | k + 1 => if (xs.getD k ⟨#[]⟩).toList.isEmpty then cntTo os xs k else (cntTo os xs k).set (offIx os (xs.getD k ⟨#[]⟩)).toNat ((cntTo os xs k).getD (offIx os (xs.getD k ⟨#[]⟩)).toNat 0 + 1)
theorem cntTo_len (os : List Offer) (xs : List ByteArray) (k : Nat) : (cntTo os xs k).length = os.length := by
  induction k with
  | zero => simp [cntTo]
  | succ k ih => simp only [cntTo]; split <;> simp [ih]
theorem cntTo_bd (os : List Offer) (xs : List ByteArray) (k : Nat) : ∀ j, 0 ≤ (cntTo os xs k).getD j 0 ∧ (cntTo os xs k).getD j 0 ≤ k := by
  induction k with
  | zero => intro j; simp [cntTo, List.getD_eq_getElem?_getD, List.getElem?_replicate]; split <;> simp
  | succ k ih =>
    intro j
    have h1 := ih j
    simp only [cntTo]
    split
    · omega
    · have h2 := ih (offIx os (xs.getD k ⟨#[]⟩)).toNat
      by_cases hj : (offIx os (xs.getD k ⟨#[]⟩)).toNat = j
      · subst hj
        by_cases hl : (offIx os (xs.getD k ⟨#[]⟩)).toNat < (cntTo os xs k).length
        · rw [List.getD_eq_getElem?_getD, List.getElem?_set_self hl]
          simp only [Option.getD_some]
          omega
        · rw [List.getD_eq_getElem?_getD, List.getElem?_eq_none (by rw [List.length_set]; omega)]
          simp only [Option.getD_none]
          omega
      · rw [List.getD_eq_getElem?_getD, List.getElem?_set_ne hj, ← List.getD_eq_getElem?_getD]
        omega
theorem offIx_lt (os : List Offer) (k : ByteArray) : offIx os k < os.length := by
  unfold offIx findA; split <;> omega
theorem strange_off {os : List Offer} {xs : List ByteArray} (h : xs.any (strangeB os) = false) (k : Nat) (hk : k < xs.length) (he : (xs.getD k ⟨#[]⟩).toList.isEmpty = false) : 0 ≤ offIx os (xs.getD k ⟨#[]⟩) := by
  have h1 := List.any_eq_false.1 h (xs.getD k ⟨#[]⟩) (by rw [getD_eq xs k _ hk]; exact List.getElem_mem hk)
  unfold strangeB at h1
  rw [he] at h1
  simp at h1
  exact h1
def CountsPost (os : List Offer) (xs : List ByteArray) (w : World) (e : Ending) (w' : World) : Prop :=
  ∃ v n L, e = .returned (.tuple #[v, .int .i64 (listF os xs)]) ∧ w'.ownsRow w.heap.size 3 1 v n (ints L) ∧ (listF os xs = 0 → n = os.length ∧ L = cntTo os xs xs.length) ∧ w.grownBy w' none
theorem sum_rep (n : Nat) : (List.replicate n (0 : Int)).sum = 0 := by
  induction n with
  | zero => rfl
  | succ n ih => rw [List.replicate_succ, List.sum_cons, ih]; rfl
def ArrPost (os : List Offer) (xs : List ByteArray) (w : World) (e : Ending) (w' : World) : Prop :=
  ∃ v n L, e = .returned (.tuple #[v, .int .i64 (listF os xs)]) ∧ n ≤ 60 ∧ w'.ownsRow w.heap.size 9 1 v n (strs L) ∧ w.grownBy w' none
end Go.Proofs.YtdjnomeabadbnaaDoor
