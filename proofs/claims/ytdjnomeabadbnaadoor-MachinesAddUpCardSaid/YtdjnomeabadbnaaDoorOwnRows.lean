/- Rows of ints that a call owns: an outer slice of slices, each in a block of its own. -/
import Derived.Test.YtdjnomeabadbnaaDoorMakeInts
import Derived.Test.YtdjnomeabadbnaaDoorTable
namespace Go.Proofs.YtdjnomeabadbnaaDoor
open Go.RowKit

theorem eRows : ElemT Tryd.prog 216 22 (.slice none 0 0) 1 24 := ⟨by kernel_rfl, by kernel_rfl, by decide, by decide, by decide⟩
/-- Rows of ints that the call owns: all of them in blocks of their own. -/
structure OwnRows (w : World) (base : Nat) (v : Value) (T : List (List Int)) (vs : List Value) : Prop where
  outer : w.ownsRow base 22 1 v T.length vs
  inner : ∀ i, i < T.length → w.ownsRow base 3 1 (vs.getD i undef) (T.getD i []).length (ints (T.getD i []))
  apart : ∀ i j, i < j → j < T.length → ∀ g, (vs.getD i undef).ownBlock = some g → (vs.getD j undef).ownBlock ≠ some g
/-- Owned rows of other types lie in other blocks. -/
theorem own_types {w : World} {b1 b2 e1 e2 s1 s2 n1 n2 : Nat} {v1 v2 : Value} {x1 x2 : List Value} (h1 : w.ownsRow b1 e1 s1 v1 n1 x1) (h2 : w.ownsRow b2 e2 s2 v2 n2 x2) (he : e1 ≠ e2) (g : Nat) (h : v1.ownBlock = some g) : v2.ownBlock ≠ some g := by
  intro h'
  rcases h1.2 with ⟨rfl, _⟩ | ⟨g1, c1, cur1, rfl, hb1, hg1, _⟩
  · simp [Value.ownBlock] at h
  rcases h2.2 with ⟨rfl, _⟩ | ⟨g2, c2, cur2, rfl, hb2, hg2, _⟩
  · simp [Value.ownBlock] at h'
  simp [Value.ownBlock] at h h'
  subst h
  subst h'
  rw [hg1] at hg2
  simp at hg2
  exact he hg2.2
theorem OwnRows.keepS {w w1 : World} {base p : Nat} {v : Value} {T : List (List Int)} {vs : List Value} (h : OwnRows w base v T vs) (g : w.grownBy w1 (some p)) (hp : p < base) : OwnRows w1 base v T vs :=
  ⟨own_keepS h.outer g hp, fun i hi => own_keepS (h.inner i hi) g hp, h.apart⟩
theorem OwnRows.keep0 {w w1 : World} {base : Nat} {v : Value} {T : List (List Int)} {vs : List Value} (h : OwnRows w base v T vs) (g : w.grownBy w1 none) : OwnRows w1 base v T vs :=
  ⟨own_keep0 h.outer g, fun i hi => own_keep0 (h.inner i hi) g, h.apart⟩
theorem OwnRows.low {w : World} {base base' : Nat} {v : Value} {T : List (List Int)} {vs : List Value} (h : OwnRows w base v T vs) (hb : base' ≤ base) : OwnRows w base' v T vs :=
  ⟨own_base h.outer hb, fun i hi => own_base (h.inner i hi) hb, h.apart⟩
theorem OwnRows.nil (w : World) (base : Nat) : OwnRows w base (.slice none 0 0) [] [] := ⟨World.ownsRow_nil _ _ _ _, fun _ hi => absurd hi (Nat.not_lt_zero _), fun _ _ _ hj => absurd hj (Nat.not_lt_zero _)⟩
theorem OwnRows.vlen {w : World} {base : Nat} {v : Value} {T : List (List Int)} {vs : List Value} (h : OwnRows w base v T vs) : vs.length = T.length := by
  have := h.outer.1
  simpa using this
/-- Owned rows as rows that are read. -/
theorem OwnRows.rows {w : World} {base n cap : Nat} {a : Option Addr} {T : List (List Int)} {vs : List Value} (h : OwnRows w base (.slice a n cap) T vs) : n = T.length ∧ RowsAt w a T := by
  obtain ⟨a', cap', he, _, _, hc, _⟩ := own_shape h.outer
  cases he
  refine ⟨rfl, ?_⟩
  intro j hj
  have hvl := h.vlen
  obtain ⟨a2, c2, he2, _, _, hc2, _⟩ := own_shape (h.inner j hj)
  obtain ⟨b, off, rfl, hx⟩ := hc j (vs.getD j undef) (by rw [List.getD_eq_getElem?_getD, List.getElem?_eq_getElem (by omega)]; rfl)
  refine ⟨b, off, a2, c2, rfl, ?_, hc2⟩
  rw [hx, he2]
/-- A row more. -/
theorem OwnRows.push {w w6 : World} {base b2 ga ca m : Nat} {v v6 : Value} {T : List (List Int)} {vs : List Value} {R : List Int} (h : OwnRows w base v T vs)
    (hrow : w.ownsRow b2 3 1 (.slice (some ⟨ga, 0, none⟩) m ca) m (ints R)) (hm : R.length = m) (hb : base ≤ ga) (hne : ∀ i, i < T.length → (vs.getD i undef).ownBlock ≠ some ga)
    (hown6 : w6.ownsRow base 22 1 v6 (T.length + 1) (vs ++ [.slice (some ⟨ga, 0, none⟩) m ca])) (hg6 : w.grownBy w6 v.ownBlock) :
    OwnRows w6 base v6 (T ++ [R]) (vs ++ [.slice (some ⟨ga, 0, none⟩) m ca]) := by
  have hvl := h.vlen
  refine ⟨?_, ?_, ?_⟩
  · simpa using hown6
  · intro i hi
    simp only [List.length_append, List.length_cons, List.length_nil] at hi
    rw [List.getD_eq_getElem?_getD, List.getD_eq_getElem?_getD]
    by_cases e : i < T.length
    · rw [List.getElem?_append_left (by omega), List.getElem?_append_left e, ← List.getD_eq_getElem?_getD, ← List.getD_eq_getElem?_getD]
      have h0 := h.inner i e
      have hn : ∀ g, v.ownBlock = some g → (vs.getD i undef).ownBlock ≠ some g := fun g hg => own_types h.outer h0 (by decide) g hg
      refine own_keep h0 hg6 ?_
      cases hv : (vs.getD i undef).ownBlock with
      | none => exact .inl rfl
      | some b => exact .inr (fun e2 => hn b e2.symm hv)
    · have ei : i = T.length := by omega
      rw [List.getElem?_append_right (by omega), List.getElem?_append_right (by omega), hvl, ei, Nat.sub_self]
      simp only [List.getElem?_cons_zero, Option.getD_some, hm]
      have hn : ∀ g, v.ownBlock = some g → (Value.slice (some ⟨ga, 0, none⟩) m ca).ownBlock ≠ some g := fun g hg => own_types h.outer hrow (by decide) g hg
      have h1 := own_keep hrow hg6 (.inr (fun e2 => hn ga e2.symm rfl))
      rcases h1.2 with ⟨h2, _⟩ | ⟨g', c', cur', he', hg', r'⟩
      · cases h2
      · refine ⟨h1.1, .inr ⟨g', c', cur', he', ?_, r'⟩⟩
        cases he'
        exact hb
  · intro i j hij hj g
    simp only [List.length_append, List.length_cons, List.length_nil] at hj
    rw [List.getD_eq_getElem?_getD, List.getD_eq_getElem?_getD, List.getElem?_append_left (by omega), ← List.getD_eq_getElem?_getD]
    intro hg
    by_cases e : j < T.length
    · rw [List.getElem?_append_left (by omega), ← List.getD_eq_getElem?_getD]
      exact h.apart i j hij e g hg
    · have ej : j = T.length := by omega
      rw [List.getElem?_append_right (by omega), hvl, ej, Nat.sub_self]
      simp only [List.getElem?_cons_zero, Option.getD_some]
      intro e2
      have : ga = g := by simpa [Value.ownBlock] using e2
      subst this
      exact hne i (by omega) hg
/-- A row that is not empty, as a value. -/
theorem OwnRows.shape {w : World} {base n cap : Nat} {a : Option Addr} {T : List (List Int)} {vs : List Value} (h : OwnRows w base (.slice a n cap) T vs) (r : Nat) (hr : r < T.length) (hs : 0 < (T.getD r []).length) :
    ∃ g0 g c, a = some ⟨g0, 0, none⟩ ∧ base ≤ g0 ∧ g0 < w.heap.size ∧ vs.getD r undef = .slice (some ⟨g, 0, none⟩) (T.getD r []).length c ∧ base ≤ g ∧ g < w.heap.size := by
  obtain ⟨g0, c0, he0, hg0, hg1, _, _⟩ := own_some h.outer (by omega)
  cases he0
  obtain ⟨g, c, he, hg2, hg3, _, _⟩ := own_some (h.inner r hr) hs
  exact ⟨g0, g, c, rfl, hg0, hg1, he, hg2, hg3⟩
/-- A number stored into a row. -/
theorem OwnRows.put {w : World} {base n cap g0 g c : Nat} {T : List (List Int)} {vs : List Value} (h : OwnRows w base (.slice (some ⟨g0, 0, none⟩) n cap) T vs) (r s : Nat) (hr : r < T.length) (hs : s < (T.getD r []).length)
    (he : vs.getD r undef = .slice (some ⟨g, 0, none⟩) (T.getD r []).length c) :
    w.cell? ⟨g0, r, none⟩ = some (.slice (some ⟨g, 0, none⟩) (T.getD r []).length c) ∧ w.cell? ⟨g, s, none⟩ = some (.int .i64 ((T.getD r []).getD s 0)) ∧ w.frozen? ⟨g, s, none⟩ = false ∧
      ∀ x, OwnRows (w.setCell ⟨g, s, none⟩ (.int .i64 x)) base (.slice (some ⟨g0, 0, none⟩) n cap) (T.set r ((T.getD r []).set s x)) vs := by
  have hvl := h.vlen
  have hri := h.inner r hr
  have hrr := hri
  rw [he] at hrr
  obtain ⟨d1, d2, d3⟩ := own_int hrr s hs
  obtain ⟨a', cap', he', _, _, hc, _⟩ := own_shape h.outer
  cases he'
  obtain ⟨b, off, hb, hx⟩ := hc r (vs.getD r undef) (by rw [List.getD_eq_getElem?_getD, List.getElem?_eq_getElem (by omega)]; rfl)
  cases hb
  rw [he] at hx
  refine ⟨by simpa using hx, d1, d2, fun x => ⟨?_, ?_, ?_⟩⟩
  · rw [List.length_set]
    exact own_keep h.outer (gr_set (gr_refl w (some g)) rfl _) (.inr (fun e => own_types h.outer hri (by decide) g e (by rw [he]; rfl)))
  · intro i hi
    rw [List.length_set] at hi
    by_cases e : i = r
    · subst e
      have hgd : (T.set i ((T.getD i []).set s x)).getD i [] = (T.getD i []).set s x := by rw [List.getD_eq_getElem?_getD, List.getElem?_set_self (by omega)]; rfl
      rw [hgd, List.length_set, he]
      exact d3 x
    · have hgd : (T.set r ((T.getD r []).set s x)).getD i [] = T.getD i [] := by rw [List.getD_eq_getElem?_getD, List.getElem?_set_ne (by omega), ← List.getD_eq_getElem?_getD]
      rw [hgd]
      refine own_keep (h.inner i hi) (gr_set (gr_refl w (some g)) rfl _) (.inr ?_)
      intro e2
      rcases Nat.lt_or_gt_of_ne e with hl | hl
      · exact h.apart i r hl hr g e2 (by rw [he]; rfl)
      · exact h.apart r i hl hi g (by rw [he]; rfl) e2
  · intro i j hij hj
    rw [List.length_set] at hj
    exact h.apart i j hij hj
end Go.Proofs.YtdjnomeabadbnaaDoor
