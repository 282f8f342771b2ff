/- Right offers, as the stream makes them. -/
import Derived.Test.YtdjnomeabadbnaaDoorNest
import Derived.Test.YtdjnomeabadbnaaDoorMake
import Derived.Test.YtdjnomeabadbnaaDoorMakeInts
import Derived.Test.YtdjnomeabadbnaaDoorStrElem
import Derived.Deep.RegionLaw
import Derived.Deep.DeepFit
import Derived.IntWalk
import Derived.Laws.Cover4
namespace Go.Proofs.YtdjnomeabadbnaaDoor
open Go.RowKit
variable {lw : Nat}

structure Offer where
  key : ByteArray
  group : ByteArray
  profits : List Int
  has : List ByteArray
  hates : List ByteArray
def OffR (base : Nat) (w : World) (o : Offer) (c : List Value) : Prop :=
  ∃ v1 v2 v3, c = [.string o.key, .string o.group, v1, v2, v3] ∧ w.ownsRow base 3 1 v1 o.profits.length (ints o.profits) ∧ w.ownsRow base 9 1 v2 o.has.length (strs o.has) ∧ w.ownsRow base 9 1 v3 o.hates.length (strs o.hates)
theorem OffR.keep0 {base : Nat} {w w1 : World} (g : w.grownBy w1 none) (o : Offer) (c : List Value) (h : OffR base w o c) : OffR base w1 o c := by
  obtain ⟨v1, v2, v3, rfl, h1, h2, h3⟩ := h
  exact ⟨v1, v2, v3, rfl, own_keep0 h1 g, own_keep0 h2 g, own_keep0 h3 g⟩
theorem OffR.keepS {base p : Nat} {w w1 : World} (g : w.grownBy w1 (some p)) (hp : p < base) (o : Offer) (c : List Value) (h : OffR base w o c) : OffR base w1 o c := by
  obtain ⟨v1, v2, v3, rfl, h1, h2, h3⟩ := h
  exact ⟨v1, v2, v3, rfl, own_keepS h1 g hp, own_keepS h2 g hp, own_keepS h3 g hp⟩
/-- A row of offers is written: what they hold stays. -/
theorem OffR.keepU {base b2 e z n : Nat} {w w1 : World} {u : Value} {us : List Value} (hu : w.ownsRow b2 e z u n us) (h3 : 3 ≠ e) (hs : 9 ≠ e) (g : w.grownBy w1 u.ownBlock) (o : Offer) (c : List Value) (h : OffR base w o c) : OffR base w1 o c := by
  obtain ⟨v1, v2, v3, rfl, q1, q2, q3⟩ := h
  exact ⟨v1, v2, v3, rfl, own_keepU q1 hu h3 g, own_keepU q2 hu hs g, own_keepU q3 hu hs g⟩
theorem eOffer : ElemT Tryd.prog 158 157 (.agg #[.string ⟨#[]⟩, .string ⟨#[]⟩, .slice none 0 0, .slice none 0 0, .slice none 0 0]) 5 104 := ⟨by kernel_rfl, by kernel_rfl, by decide, by decide, by decide⟩
/-- Some of some strings. -/
def someM (l : List Int) (k : Nat) (n : Int) : List ByteArray → List ByteArray
  | [] => []
  | x :: xs => if flipM l k n then x :: someM l (k + 1) n xs else someM l (k + 1) n xs
theorem someM_snoc (l : List Int) (k : Nat) (n : Int) (xs : List ByteArray) (x : ByteArray) : someM l k n (xs ++ [x]) = someM l k n xs ++ (if flipM l (k + xs.length) n then [x] else []) := by
  induction xs generalizing k with
  | nil => simp [someM]
  | cons y ys ih =>
    simp only [List.cons_append, someM, List.length_cons]
    rw [ih (k + 1), show k + 1 + ys.length = k + (ys.length + 1) by omega]
    split <;> simp
theorem someM_len (l : List Int) (k : Nat) (n : Int) (xs : List ByteArray) : (someM l k n xs).length ≤ xs.length := by
  induction xs generalizing k with
  | nil => simp [someM]
  | cons y ys ih => have := ih (k + 1); simp only [someM]; split <;> simp <;> omega
theorem someM_sub (l : List Int) (k : Nat) (n : Int) (xs : List ByteArray) : List.Sublist (someM l k n xs) xs := by
  induction xs generalizing k with
  | nil => exact List.Sublist.refl _
  | cons y ys ih =>
    simp only [someM]
    split
    · exact (ih (k + 1)).cons_cons y
    · exact (ih (k + 1)).cons y
/-! The offers themselves. -/
def profTo (l : List Int) (k : Nat) (p : Int) : Nat → List Int × Int
  | 0 => ([], p)
  | n + 1 => ((profTo l k p n).1 ++ [(profTo l k p n).2], (profTo l k p n).2 - pickM l (k + n) [0, 1, 2, 4])
theorem profTo_len (l : List Int) (k : Nat) (p : Int) (n : Nat) : (profTo l k p n).1.length = n := by
  induction n with
  | zero => rfl
  | succ n ih => simp [profTo, ih]
theorem profTo_bd (l : List Int) (k : Nat) (p : Int) (n : Nat) : p - 4 * n ≤ (profTo l k p n).2 ∧ (profTo l k p n).2 ≤ p := by
  induction n with
  | zero => simp [profTo]
  | succ n ih =>
    have := pickM_mem l (k + n) [0, 1, 2, 4] (by decide)
    simp only [List.mem_cons, List.not_mem_nil, or_false] at this
    simp only [profTo]
    omega
theorem profTo_mem (l : List Int) (k : Nat) (p : Int) (n : Nat) : ∀ x ∈ (profTo l k p n).1, p - 4 * n ≤ x ∧ x ≤ p := by
  induction n with
  | zero => intro x hx; simp [profTo] at hx
  | succ n ih =>
    intro x hx
    simp only [profTo, List.mem_append, List.mem_cons, List.not_mem_nil, or_false] at hx
    have := profTo_bd l k p n
    rcases hx with hx | rfl
    · have := ih x hx; omega
    · omega
def offGroups : List ByteArray := [⟨#[115, 97, 108, 116]⟩, ⟨#[115, 119, 101, 101, 116]⟩, ⟨#[99, 111, 108, 100]⟩]
def offNuts : List ByteArray := [⟨#[109, 105, 108, 107]⟩, ⟨#[110, 117, 116]⟩]
def offN (l : List Int) (j : Nat) : Nat := (1 + nxt l (j + 2) (3 - 1 + 1)).toNat
theorem offN_le (l : List Int) (j : Nat) : 1 ≤ offN l j ∧ offN l j ≤ 3 ∧ ((offN l j : Nat) : Int) = 1 + nxt l (j + 2) (3 - 1 + 1) := by
  have := nxt_range l (j + 2) (3 - 1 + 1) (by decide)
  unfold offN
  omega
def offerAt (l : List Int) (j i : Nat) : Offer :=
  ⟨Utf8.encode (97 + (i : Int)), oneS l j offGroups, (profTo l (j + 3) (pickM l (j + 1) [3, 5, 9]) (offN l j)).1, someM l (j + 3 + offN l j) 4 offNuts, someM l (j + 5 + offN l j) 4 offNuts⟩
def offersTo (l : List Int) (k : Nat) : Nat → List Offer × Nat
  | 0 => ([], k)
  | i + 1 => ((offersTo l k i).1 ++ [offerAt l (offersTo l k i).2 i], (offersTo l k i).2 + 7 + offN l (offersTo l k i).2)
theorem offersTo_len (l : List Int) (k i : Nat) : (offersTo l k i).1.length = i := by
  induction i with
  | zero => rfl
  | succ i ih => simp [offersTo, ih]
theorem offersTo_k (l : List Int) (k i : Nat) : (offersTo l k i).2 ≤ k + 10 * i := by
  induction i with
  | zero => simp [offersTo]
  | succ i ih => have := offN_le l (offersTo l k i).2; simp only [offersTo]; omega
def offersN (l : List Int) (k most : Nat) : Nat := (nxt l k ((most : Int) + 1)).toNat
theorem offersN_le (l : List Int) (k most : Nat) : offersN l k most ≤ most ∧ ((offersN l k most : Nat) : Int) = nxt l k ((most : Int) + 1) := by
  have := nxt_range l k ((most : Int) + 1) (by omega)
  unfold offersN; omega
def offersM (l : List Int) (k most : Nat) : List Offer := (offersTo l (k + 1) (offersN l k most)).1
def offersK (l : List Int) (k most : Nat) : Nat := (offersTo l (k + 1) (offersN l k most)).2
def OffersPost (l : List Int) (k most p lw : Nat) (w : World) (e : Ending) (w' : World) : Prop :=
  ∃ v, e = .returned v ∧ OwnNest (OffR w.heap.size) w' w.heap.size 157 5 v (offersM l k most) ∧ StreamAt w' p lw l (offersK l k most) ∧ w.grownBy w' (some p)
theorem blk5 {w : World} {g t : Nat} {a b c d e : Value} (h : w.heap[g]? = some (.cells #[a, b, c, d, e] t (0, 0))) : w.cell? ⟨g, 0, none⟩ = some a ∧ w.cell? ⟨g, 1, none⟩ = some b ∧ w.cell? ⟨g, 2, none⟩ = some c ∧ w.cell? ⟨g, 3, none⟩ = some d ∧ w.cell? ⟨g, 4, none⟩ = some e :=
  ⟨blkC h 0 rfl, blkC h 1 rfl, blkC h 2 rfl, blkC h 3 rfl, blkC h 4 rfl⟩
end Go.Proofs.YtdjnomeabadbnaaDoor
