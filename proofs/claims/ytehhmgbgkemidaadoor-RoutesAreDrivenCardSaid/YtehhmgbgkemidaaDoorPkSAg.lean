/- Sums of ints: the packages' own. -/
import Derived.Test.YtehhmgbgkemidaaDoorPkSAb
import Derived.Test.YtehhmgbgkemidaaDoorPkSAf
import Derived.Test.YtehhmgbgkemidaaDoorPkSAc
import Derived.Deep.QuietTactic
namespace Go.Proofs.YtehhmgbgkemidaaDoor
open Go.RowKit

end Go.Proofs.YtehhmgbgkemidaaDoor

/-! Tables of shares: what is wrong with one, by package and by document. -/
namespace Go.Proofs.YtehhmgbgkemidaaDoor
open Go.RowKit

/-- Rows of ints behind a slice of slices. -/
def RowsAt (w : World) (a : Option Addr) (T : List (List Int)) : Prop :=
  ∀ i, i < T.length → ∃ b off ra rc, a = some ⟨b, off, none⟩ ∧ w.cell? ⟨b, off + i, none⟩ = some (.slice ra (T.getD i []).length rc) ∧ CellsAt w ra (ints (T.getD i []))
theorem RowsAt.keep0 {w w1 : World} {a : Option Addr} {T : List (List Int)} (h : RowsAt w a T) (g : w.grownBy w1 none) : RowsAt w1 a T := by
  intro i hi
  obtain ⟨b, off, ra, rc, e, c, r⟩ := h i hi
  exact ⟨b, off, ra, rc, e, by rw [gr_cell g (lt_of_cell c)]; exact c, r.keep0 g⟩
/-- The first of some codes that is not 0. -/
def firstCode (f : Nat → Int) : Nat → Int
  | 0 => 0
  | n + 1 => if firstCode f n = 0 then f n else firstCode f n
theorem firstCode_none (f : Nat → Int) (n : Nat) (h : ∀ j, j < n → f j = 0) : firstCode f n = 0 := by
  induction n with
  | zero => rfl
  | succ n ih => rw [firstCode, if_pos (ih fun j hj => h j (by omega))]; exact h n (by omega)
theorem firstCode_at (f : Nat → Int) (n k : Nat) (hk : k < n) (h : ∀ j, j < k → f j = 0) (hf : f k ≠ 0) : firstCode f n = f k := by
  induction n with
  | zero => omega
  | succ n ih =>
    rw [firstCode]
    by_cases e : k = n
    · subst e; rw [if_pos (firstCode_none f k h)]
    · rw [ih (by omega), if_neg hf]
theorem firstCode_zero (f : Nat → Int) (n : Nat) (h : firstCode f n = 0) (j : Nat) (hj : j < n) : f j = 0 := by
  induction n with
  | zero => omega
  | succ n ih =>
    rw [firstCode] at h
    by_cases e : firstCode f n = 0
    · rw [if_pos e] at h
      by_cases e2 : j = n
      · rw [e2]; exact h
      · exact ih e (by omega)
    · rw [if_neg e] at h; exact absurd h e
def odd100 (x : Int) : Bool := decide (x < 0) || decide (100 < x)
def rowCode (n i : Nat) (r : List Int) : Int := if r.length ≠ n then 3 else if r.any odd100 = true ∨ r.getD i 0 ≠ 0 ∨ 100 < r.sum then 1 else 0
def tableCode (T : List (List Int)) : Int := if T.length = 0 then 8 else if 30 < T.length then 2 else firstCode (fun i => rowCode T.length i (T.getD i [])) T.length

/-! demand.Instead: what holds between sold, left and lost; no program in sight. -/

theorem sum_set (l : List Int) (j : Nat) (x : Int) (h : j < l.length) : (l.set j x).sum = l.sum - l.getD j 0 + x := by
  induction l generalizing j with
  | nil => simp at h
  | cons a l ih =>
    cases j with
    | zero => simp; omega
    | succ j => simp only [List.set_cons_succ, List.sum_cons, List.getD_cons_succ]; rw [ih j (by simpa using h)]; omega
theorem getD_set (l : List Int) (j q : Nat) (x : Int) (h : j < l.length) : (l.set j x).getD q 0 = if q = j then x else l.getD q 0 := by
  rw [List.getD_eq_getElem?_getD, List.getElem?_set]
  by_cases e : j = q
  · subst e; simp [h]
  · rw [if_neg e, if_neg (by omega), ← List.getD_eq_getElem?_getD]

/-- A right table: the rows' shares. -/
theorem tableCode_ok (T : List (List Int)) (h : tableCode T = 0) : 1 ≤ T.length ∧ T.length ≤ 30 ∧ ∀ i, i < T.length → (T.getD i []).length = T.length ∧ (∀ x ∈ T.getD i [], 0 ≤ x ∧ x ≤ 100) ∧ (T.getD i []).sum ≤ 100 := by
  unfold tableCode at h
  split at h
  · omega
  split at h
  · omega
  refine ⟨by omega, by omega, fun i hi => ?_⟩
  have h1 : rowCode T.length i (T.getD i []) = 0 := firstCode_zero _ _ h i hi
  generalize T.getD i [] = r at h1
  unfold rowCode at h1
  split at h1
  · omega
  split at h1
  · omega
  · rename_i e1 e2
    refine ⟨by simpa using e1, ?_, by omega⟩
    intro x hx
    have h2 : ¬ (r.any odd100 = true) := fun e => e2 (.inl e)
    rw [List.any_eq_true] at h2
    have h3 : ¬ odd100 x = true := fun e => h2 ⟨x, hx, e⟩
    simp [odd100] at h3
    omega
def oddM (x : Int) : Bool := decide (x < 0) || decide (1000000 < x)
def insteadCode (T : List (List Int)) (W S : List Int) : Int :=
  if tableCode T ≠ 0 then tableCode T else if W.length ≠ T.length ∨ S.length ≠ T.length then 3 else if (W ++ S).any oddM = true then 1 else 0
theorem insteadCode_ok (T : List (List Int)) (W S : List Int) (h : insteadCode T W S = 0) : tableCode T = 0 ∧ W.length = T.length ∧ S.length = T.length ∧ (∀ i, i < T.length → 0 ≤ W.getD i 0 ∧ W.getD i 0 ≤ 1000000) ∧ (∀ i, i < T.length → 0 ≤ S.getD i 0 ∧ S.getD i 0 ≤ 1000000) := by
  unfold insteadCode at h
  split at h
  · omega
  split at h
  · omega
  split at h
  · omega
  rename_i e1 e2 e3
  have e2' : W.length = T.length ∧ S.length = T.length := by omega
  have hb : ∀ x, x ∈ W ++ S → 0 ≤ x ∧ x ≤ 1000000 := by
    intro x hx
    rw [List.any_eq_true] at e3
    have h3 : ¬ oddM x = true := fun e => e3 ⟨x, hx, e⟩
    simp [oddM] at h3
    omega
  refine ⟨by omega, e2'.1, e2'.2, fun i hi => ?_, fun i hi => ?_⟩
  · refine hb _ (List.mem_append_left _ ?_)
    rw [List.getD_eq_getElem?_getD, List.getElem?_eq_getElem (by omega)]
    exact List.getElem_mem _
  · refine hb _ (List.mem_append_right _ ?_)
    rw [List.getD_eq_getElem?_getD, List.getElem?_eq_getElem (by omega)]
    exact List.getElem_mem _
/-- What holds between sold, left and lost. -/
structure InsInv (n : Nat) (W S A L B : List Int) : Prop where
  la : A.length = n
  ll : L.length = n
  lb : B.length = n
  al : ∀ q, q < n → A.getD q 0 + L.getD q 0 = S.getD q 0
  l0 : ∀ q, q < n → 0 ≤ L.getD q 0
  am : ∀ q, q < n → min (W.getD q 0) (S.getD q 0) ≤ A.getD q 0
  b0 : ∀ q, q < n → 0 ≤ B.getD q 0
  bw : ∀ q, q < n → B.getD q 0 ≤ W.getD q 0
  sm : A.sum + B.sum = W.sum
/-- Loop 1: rows below i are done. -/
structure InsOne (n i : Nat) (W S A L B : List Int) : Prop where
  la : A.length = n
  ll : L.length = n
  lb : B.length = n
  dn : ∀ q, q < n → q < i → A.getD q 0 = min (W.getD q 0) (S.getD q 0) ∧ L.getD q 0 = S.getD q 0 - A.getD q 0 ∧ B.getD q 0 = W.getD q 0 - A.getD q 0
  td : ∀ q, q < n → i ≤ q → A.getD q 0 = 0 ∧ L.getD q 0 = S.getD q 0 ∧ B.getD q 0 = 0
  sm : A.sum + B.sum = (W.take i).sum
theorem repl_getD (n q : Nat) : (List.replicate n (0 : Int)).getD q 0 = 0 := by
  rw [List.getD_eq_getElem?_getD, List.getElem?_replicate]; split <;> rfl
theorem repl_sum (n : Nat) : (List.replicate n (0 : Int)).sum = 0 := by
  induction n with
  | zero => rfl
  | succ n ih => simp [List.replicate_succ, ih]
theorem InsOne.start (n : Nat) (W S : List Int) (hs : S.length = n) : InsOne n 0 W S (List.replicate n 0) S (List.replicate n 0) :=
  ⟨by simp, hs, by simp, fun q _ h => absurd h (Nat.not_lt_zero _), fun q _ _ => ⟨repl_getD _ _, rfl, repl_getD _ _⟩, by rw [repl_sum]; rfl⟩
theorem InsOne.next {n i : Nat} {W S A L B : List Int} (h : InsOne n i W S A L B) (hi : i < n) (hw : W.length = n) (k : Int) (hk : k = min (W.getD i 0) (S.getD i 0)) :
    InsOne n (i + 1) W S (A.set i k) (L.set i (S.getD i 0 - k)) (B.set i (W.getD i 0 - k)) := by
  have hla := h.la
  have hll := h.ll
  have hlb := h.lb
  refine ⟨by simpa using h.la, by simpa using h.ll, by simpa using h.lb, ?_, ?_, ?_⟩
  · intro q hq hqi
    rw [getD_set _ _ _ _ (by omega), getD_set _ _ _ _ (by omega), getD_set _ _ _ _ (by omega)]
    by_cases e : q = i
    · subst e; rw [if_pos rfl, if_pos rfl, if_pos rfl]; exact ⟨hk, rfl, rfl⟩
    · simp only [if_neg e]; exact h.dn q hq (by omega)
  · intro q hq hqi
    have e : ¬ q = i := by omega
    rw [getD_set _ _ _ _ (by omega), getD_set _ _ _ _ (by omega), getD_set _ _ _ _ (by omega)]
    simp only [if_neg e]; exact h.td q hq (by omega)
  · rw [sum_set _ _ _ (by omega), sum_set _ _ _ (by omega), sum_next W i (by omega), ← h.sm]
    have := h.td i hi (Nat.le_refl _)
    omega
theorem InsOne.done {n : Nat} {W S A L B : List Int} (h : InsOne n n W S A L B) (hw : W.length = n) (hw0 : ∀ q, q < n → 0 ≤ W.getD q 0) (hs0 : ∀ q, q < n → 0 ≤ S.getD q 0) : InsInv n W S A L B := by
  refine ⟨h.la, h.ll, h.lb, fun q hq => ?_, fun q hq => ?_, fun q hq => ?_, fun q hq => ?_, fun q hq => ?_, ?_⟩
  · have := h.dn q hq hq; omega
  · have := h.dn q hq hq; have := hs0 q hq; omega
  · have := h.dn q hq hq; omega
  · have := h.dn q hq hq; omega
  · have := h.dn q hq hq; have := hs0 q hq; have := hw0 q hq; omega
  · have := h.sm
    rw [List.take_of_length_le (by omega)] at this
    exact this
/-- What the row i still wants: at least its part of what is not shared yet. -/
def InsRow (i j : Nat) (many : Int) (R B : List Int) : Prop := 100 * many - many * (R.take j).sum ≤ 100 * B.getD i 0
theorem InsInv.next {n i j : Nat} {W S A L B R : List Int} {many k : Int} (h : InsInv n W S A L B) (hi : i < n) (hj : j < n) (hr : R.length = n) (hR : ∀ x ∈ R, 0 ≤ x ∧ x ≤ 100) (hRs : R.sum ≤ 100) (hm : 0 ≤ many)
    (hk : k = min (many * R.getD j 0 / 100) (L.getD j 0)) (hrow : InsRow i j many R B) :
    InsInv n W S (A.set j (A.getD j 0 + k)) (L.set j (L.getD j 0 - k)) (B.set i (B.getD i 0 - k)) ∧ InsRow i (j + 1) many R (B.set i (B.getD i 0 - k)) ∧ 0 ≤ k := by
  have hla := h.la
  have hll := h.ll
  have hlb := h.lb
  have hRj : 0 ≤ R.getD j 0 ∧ R.getD j 0 ≤ 100 := by
    have : R.getD j 0 ∈ R := by rw [List.getD_eq_getElem?_getD, List.getElem?_eq_getElem (by omega)]; exact List.getElem_mem _
    exact hR _ this
  have hp : 0 ≤ many * R.getD j 0 := Int.mul_nonneg hm hRj.1
  have hd : 0 ≤ many * R.getD j 0 / 100 := Int.ediv_nonneg hp (by omega)
  have hd2 : 100 * (many * R.getD j 0 / 100) ≤ many * R.getD j 0 := by omega
  have hl0 := h.l0 j hj
  have hk0 : 0 ≤ k := by omega
  have hk1 : 100 * k ≤ many * R.getD j 0 := by omega
  have hkl : k ≤ L.getD j 0 := by omega
  have hsn := sum_next R j (by omega)
  have hrow' : 100 * many - many * (R.take (j + 1)).sum ≤ 100 * (B.getD i 0 - k) := by
    unfold InsRow at hrow
    rw [hsn, Int.mul_add]
    omega
  have hle : (R.take (j + 1)).sum ≤ 100 := by
    have h1 : R.sum = (R.take (j + 1)).sum + (R.drop (j + 1)).sum := by rw [← List.sum_append, List.take_append_drop]
    have h2 : 0 ≤ (R.drop (j + 1)).sum := by
      have : ∀ l : List Int, (∀ x ∈ l, 0 ≤ x) → 0 ≤ l.sum := by
        intro l hl
        induction l with
        | nil => simp
        | cons a l ih =>
          have h1 := hl a (by simp)
          have h2 := ih (fun x hx => hl x (by simp [hx]))
          simp only [List.sum_cons]
          omega
      exact this _ (fun x hx => (hR x (List.mem_of_mem_drop hx)).1)
    omega
  have hB0 : 0 ≤ B.getD i 0 - k := by
    have : many * (R.take (j + 1)).sum ≤ many * 100 := Int.mul_le_mul_of_nonneg_left hle hm
    omega
  refine ⟨⟨by simpa using hla, by simpa using hll, by simpa using hlb, fun q hq => ?_, fun q hq => ?_, fun q hq => ?_, fun q hq => ?_, fun q hq => ?_, ?_⟩, ?_, hk0⟩
  · rw [getD_set _ _ _ _ (by omega), getD_set _ _ _ _ (by omega)]
    have := h.al q hq
    split
    · rename_i e; subst e; omega
    · exact this
  · rw [getD_set _ _ _ _ (by omega)]
    have := h.l0 q hq
    split <;> omega
  · rw [getD_set _ _ _ _ (by omega)]
    have := h.am q hq
    split
    · rename_i e; subst e; omega
    · exact this
  · rw [getD_set _ _ _ _ (by omega)]
    have := h.b0 q hq
    split <;> omega
  · rw [getD_set _ _ _ _ (by omega)]
    have := h.bw q hq
    split
    · rename_i e; subst e; omega
    · exact this
  · rw [sum_set _ _ _ (by omega), sum_set _ _ _ (by omega)]
    have := h.sm
    omega
  · unfold InsRow
    rw [getD_set _ _ _ _ (by omega), if_pos rfl]
    exact hrow'
end Go.Proofs.YtehhmgbgkemidaaDoor

/-! Rows of ints that a call owns: an outer slice of slices, each in a block of its own. -/
namespace Go.Proofs.YtehhmgbgkemidaaDoor
open Go.RowKit

theorem eRows : ElemT Tryd.prog 44 22 (.slice none 0 0) 1 24 := ⟨by kernel_rfl, by kernel_rfl, by decide, by decide, by decide⟩
/-- Rows of ints that the call owns: all of them in blocks of their own. -/
structure OwnRows (w : World) (base : Nat) (v : Value) (T : List (List Int)) (vs : List Value) : Prop where
  outer : w.ownsRow base 22 1 v T.length vs
  inner : ∀ i, i < T.length → w.ownsRow base 3 1 (vs.getD i undef) (T.getD i []).length (ints (T.getD i []))
  apart : ∀ i j, i < j → j < T.length → ∀ g, (vs.getD i undef).ownBlock = some g → (vs.getD j undef).ownBlock ≠ some g
/-- Owned rows of other types lie in other blocks. -/
theorem own_types {w : World} {b1 b2 e1 e2 s1 s2 n1 n2 : Nat} {v1 v2 : Value} {x1 x2 : List Value} (h1 : w.ownsRow b1 e1 s1 v1 n1 x1) (h2 : w.ownsRow b2 e2 s2 v2 n2 x2) (he : e1 ≠ e2) (g : Nat) (h : v1.ownBlock = some g) : v2.ownBlock ≠ some g := by
  intro h'
  rcases h1.2 with ⟨rfl, _⟩ | ⟨g1, c1, cur1, rfl, hb1, hg1, _⟩
  · simp [Value.ownBlock] at h
  rcases h2.2 with ⟨rfl, _⟩ | ⟨g2, c2, cur2, rfl, hb2, hg2, _⟩
  · simp [Value.ownBlock] at h'
  simp [Value.ownBlock] at h h'
  subst h
  subst h'
  rw [hg1] at hg2
  simp at hg2
  exact he hg2.2
theorem OwnRows.keepS {w w1 : World} {base p : Nat} {v : Value} {T : List (List Int)} {vs : List Value} (h : OwnRows w base v T vs) (g : w.grownBy w1 (some p)) (hp : p < base) : OwnRows w1 base v T vs :=
  ⟨own_keepS h.outer g hp, fun i hi => own_keepS (h.inner i hi) g hp, h.apart⟩
theorem OwnRows.keep0 {w w1 : World} {base : Nat} {v : Value} {T : List (List Int)} {vs : List Value} (h : OwnRows w base v T vs) (g : w.grownBy w1 none) : OwnRows w1 base v T vs :=
  ⟨own_keep0 h.outer g, fun i hi => own_keep0 (h.inner i hi) g, h.apart⟩
theorem OwnRows.low {w : World} {base base' : Nat} {v : Value} {T : List (List Int)} {vs : List Value} (h : OwnRows w base v T vs) (hb : base' ≤ base) : OwnRows w base' v T vs :=
  ⟨own_base h.outer hb, fun i hi => own_base (h.inner i hi) hb, h.apart⟩
theorem OwnRows.nil (w : World) (base : Nat) : OwnRows w base (.slice none 0 0) [] [] := ⟨World.ownsRow_nil _ _ _ _, fun _ hi => absurd hi (Nat.not_lt_zero _), fun _ _ _ hj => absurd hj (Nat.not_lt_zero _)⟩
theorem OwnRows.vlen {w : World} {base : Nat} {v : Value} {T : List (List Int)} {vs : List Value} (h : OwnRows w base v T vs) : vs.length = T.length := by
  have := h.outer.1
  simpa using this
/-- Owned rows as rows that are read. -/
theorem OwnRows.rows {w : World} {base n cap : Nat} {a : Option Addr} {T : List (List Int)} {vs : List Value} (h : OwnRows w base (.slice a n cap) T vs) : n = T.length ∧ RowsAt w a T := by
  obtain ⟨a', cap', he, _, _, hc, _⟩ := own_shape h.outer
  cases he
  refine ⟨rfl, ?_⟩
  intro j hj
  have hvl := h.vlen
  obtain ⟨a2, c2, he2, _, _, hc2, _⟩ := own_shape (h.inner j hj)
  obtain ⟨b, off, rfl, hx⟩ := hc j (vs.getD j undef) (by rw [List.getD_eq_getElem?_getD, List.getElem?_eq_getElem (by omega)]; rfl)
  refine ⟨b, off, a2, c2, rfl, ?_, hc2⟩
  rw [hx, he2]
/-- A row more. -/
theorem OwnRows.push {w w6 : World} {base b2 ga ca m : Nat} {v v6 : Value} {T : List (List Int)} {vs : List Value} {R : List Int} (h : OwnRows w base v T vs)
    (hrow : w.ownsRow b2 3 1 (.slice (some ⟨ga, 0, none⟩) m ca) m (ints R)) (hm : R.length = m) (hb : base ≤ ga) (hne : ∀ i, i < T.length → (vs.getD i undef).ownBlock ≠ some ga)
    (hown6 : w6.ownsRow base 22 1 v6 (T.length + 1) (vs ++ [.slice (some ⟨ga, 0, none⟩) m ca])) (hg6 : w.grownBy w6 v.ownBlock) :
    OwnRows w6 base v6 (T ++ [R]) (vs ++ [.slice (some ⟨ga, 0, none⟩) m ca]) := by
  have hvl := h.vlen
  refine ⟨?_, ?_, ?_⟩
  · simpa using hown6
  · intro i hi
    simp only [List.length_append, List.length_cons, List.length_nil] at hi
    rw [List.getD_eq_getElem?_getD, List.getD_eq_getElem?_getD]
    by_cases e : i < T.length
    · rw [List.getElem?_append_left (by omega), List.getElem?_append_left e, ← List.getD_eq_getElem?_getD, ← List.getD_eq_getElem?_getD]
      have h0 := h.inner i e
      have hn : ∀ g, v.ownBlock = some g → (vs.getD i undef).ownBlock ≠ some g := fun g hg => own_types h.outer h0 (by decide) g hg
      refine own_keep h0 hg6 ?_
      cases hv : (vs.getD i undef).ownBlock with
      | none => exact .inl rfl
      | some b => exact .inr (fun e2 => hn b e2.symm hv)
    · have ei : i = T.length := by omega
      rw [List.getElem?_append_right (by omega), List.getElem?_append_right (by omega), hvl, ei, Nat.sub_self]
      simp only [List.getElem?_cons_zero, Option.getD_some, hm]
      have hn : ∀ g, v.ownBlock = some g → (Value.slice (some ⟨ga, 0, none⟩) m ca).ownBlock ≠ some g := fun g hg => own_types h.outer hrow (by decide) g hg
      have h1 := own_keep hrow hg6 (.inr (fun e2 => hn ga e2.symm rfl))
      rcases h1.2 with ⟨h2, _⟩ | ⟨g', c', cur', he', hg', r'⟩
      · cases h2
      · refine ⟨h1.1, .inr ⟨g', c', cur', he', ?_, r'⟩⟩
        cases he'
        exact hb
  · intro i j hij hj g
    simp only [List.length_append, List.length_cons, List.length_nil] at hj
    rw [List.getD_eq_getElem?_getD, List.getD_eq_getElem?_getD, List.getElem?_append_left (by omega), ← List.getD_eq_getElem?_getD]
    intro hg
    by_cases e : j < T.length
    · rw [List.getElem?_append_left (by omega), ← List.getD_eq_getElem?_getD]
      exact h.apart i j hij e g hg
    · have ej : j = T.length := by omega
      rw [List.getElem?_append_right (by omega), hvl, ej, Nat.sub_self]
      simp only [List.getElem?_cons_zero, Option.getD_some]
      intro e2
      have : ga = g := by simpa [Value.ownBlock] using e2
      subst this
      exact hne i (by omega) hg
/-- A row that is not empty, as a value. -/
theorem OwnRows.shape {w : World} {base n cap : Nat} {a : Option Addr} {T : List (List Int)} {vs : List Value} (h : OwnRows w base (.slice a n cap) T vs) (r : Nat) (hr : r < T.length) (hs : 0 < (T.getD r []).length) :
    ∃ g0 g c, a = some ⟨g0, 0, none⟩ ∧ base ≤ g0 ∧ g0 < w.heap.size ∧ vs.getD r undef = .slice (some ⟨g, 0, none⟩) (T.getD r []).length c ∧ base ≤ g ∧ g < w.heap.size := by
  obtain ⟨g0, c0, he0, hg0, hg1, _, _⟩ := own_some h.outer (by omega)
  cases he0
  obtain ⟨g, c, he, hg2, hg3, _, _⟩ := own_some (h.inner r hr) hs
  exact ⟨g0, g, c, rfl, hg0, hg1, he, hg2, hg3⟩
/-- A number stored into a row. -/
theorem OwnRows.put {w : World} {base n cap g0 g c : Nat} {T : List (List Int)} {vs : List Value} (h : OwnRows w base (.slice (some ⟨g0, 0, none⟩) n cap) T vs) (r s : Nat) (hr : r < T.length) (hs : s < (T.getD r []).length)
    (he : vs.getD r undef = .slice (some ⟨g, 0, none⟩) (T.getD r []).length c) :
    w.cell? ⟨g0, r, none⟩ = some (.slice (some ⟨g, 0, none⟩) (T.getD r []).length c) ∧ w.cell? ⟨g, s, none⟩ = some (.int .i64 ((T.getD r []).getD s 0)) ∧ w.frozen? ⟨g, s, none⟩ = false ∧
      ∀ x, OwnRows (w.setCell ⟨g, s, none⟩ (.int .i64 x)) base (.slice (some ⟨g0, 0, none⟩) n cap) (T.set r ((T.getD r []).set s x)) vs := by
  have hvl := h.vlen
  have hri := h.inner r hr
  have hrr := hri
  rw [he] at hrr
  obtain ⟨d1, d2, d3⟩ := own_int hrr s hs
  obtain ⟨a', cap', he', _, _, hc, _⟩ := own_shape h.outer
  cases he'
  obtain ⟨b, off, hb, hx⟩ := hc r (vs.getD r undef) (by rw [List.getD_eq_getElem?_getD, List.getElem?_eq_getElem (by omega)]; rfl)
  cases hb
  rw [he] at hx
  refine ⟨by simpa using hx, d1, d2, fun x => ⟨?_, ?_, ?_⟩⟩
  · rw [List.length_set]
    exact own_keep h.outer (gr_set (gr_refl w (some g)) rfl _) (.inr (fun e => own_types h.outer hri (by decide) g e (by rw [he]; rfl)))
  · intro i hi
    rw [List.length_set] at hi
    by_cases e : i = r
    · subst e
      have hgd : (T.set i ((T.getD i []).set s x)).getD i [] = (T.getD i []).set s x := by rw [List.getD_eq_getElem?_getD, List.getElem?_set_self (by omega)]; rfl
      rw [hgd, List.length_set, he]
      exact d3 x
    · have hgd : (T.set r ((T.getD r []).set s x)).getD i [] = T.getD i [] := by rw [List.getD_eq_getElem?_getD, List.getElem?_set_ne (by omega), ← List.getD_eq_getElem?_getD]
      rw [hgd]
      refine own_keep (h.inner i hi) (gr_set (gr_refl w (some g)) rfl _) (.inr ?_)
      intro e2
      rcases Nat.lt_or_gt_of_ne e with hl | hl
      · exact h.apart i r hl hr g e2 (by rw [he]; rfl)
      · exact h.apart r i hl hi g (by rw [he]; rfl) e2
  · intro i j hij hj
    rw [List.length_set] at hj
    exact h.apart i j hij hj
end Go.Proofs.YtehhmgbgkemidaaDoor

/-! Package vend: totals. -/
namespace Go.Proofs.YtehhmgbgkemidaaDoor
open Go.RowKit

def totL (l : List Tube) : List Int := l.map fun t => t.value * t.count
def totT (l : List Tube) : Int := (totL l).sum
theorem tube_prod {l : List Tube} (h : OkTubes l) (k : Nat) (hk : k < l.length) (c : Int) (hc0 : 0 ≤ c) (hc1 : c ≤ 1000000) : 0 ≤ (tubeAt l k).value * c ∧ (tubeAt l k).value * c ≤ 10000000000 := by
  have o := h.ok k hk
  have := o.v0
  have := o.v1
  have h1 := Int.mul_nonneg (show 0 ≤ (tubeAt l k).value by omega) hc0
  have h2 := Int.mul_le_mul o.v1 hc1 hc0 (by decide)
  omega
theorem totL_get {l : List Tube} (k : Nat) (hk : k < l.length) : (totL l).getD k 0 = (tubeAt l k).value * (tubeAt l k).count := by
  rw [totL, tubeAt, List.getD_eq_getElem?_getD, List.getD_eq_getElem?_getD, List.getElem?_map, List.getElem?_eq_getElem hk]; rfl
theorem totL_mem {l : List Tube} (h : OkTubes l) : ∀ x ∈ totL l, 0 ≤ x ∧ x ≤ 10000000000 := by
  intro x hx
  obtain ⟨k, hk, rfl⟩ := List.getElem_of_mem hx
  have hkl : k < l.length := by simpa [totL] using hk
  have := totL_get k hkl
  rw [List.getD_eq_getElem?_getD, List.getElem?_eq_getElem hk] at this
  have o := h.ok k hkl
  have h3 := tube_prod h k hkl _ o.c0 (by have := o.c1; have := o.m1; omega)
  rw [← this] at h3
  exact h3

def oneTube : List Tube := [⟨10, 3, 5⟩]
theorem oneTube_ok : OkTubes oneTube := by
  refine ⟨by decide, fun i hi => ?_⟩
  obtain rfl : i = 0 := by simp [oneTube] at hi; omega
  constructor <;> simp [oneTube, tubeAt]
/-- What coins are worth. -/
def worthL (t : List Tube) (xs : List Int) : List Int := List.zipWith (fun x (t : Tube) => x * t.value) xs t
def worthM (t : List Tube) (xs : List Int) : Int := (worthL t xs).sum
theorem worthL_len (t : List Tube) (xs : List Int) (h : xs.length ≤ t.length) : (worthL t xs).length = xs.length := by simp [worthL]; omega
theorem worthL_get (t : List Tube) (xs : List Int) (k : Nat) (h : xs.length ≤ t.length) (hk : k < xs.length) : (worthL t xs).getD k 0 = xs.getD k 0 * (tubeAt t k).value := by
  have hk2 : k < t.length := by omega
  rw [worthL, tubeAt, List.getD_eq_getElem?_getD, List.getD_eq_getElem?_getD, List.getD_eq_getElem?_getD, List.getElem?_zipWith, List.getElem?_eq_getElem hk, List.getElem?_eq_getElem hk2]
  rfl
theorem worthL_mem (t : List Tube) (xs : List Int) (h : xs.length ≤ t.length) (ho : OkTubes t) (hx : ∀ x ∈ xs, -1000000 ≤ x ∧ x ≤ 1000000) : ∀ x ∈ worthL t xs, -10000000000 ≤ x ∧ x ≤ 10000000000 := by
  intro x hm
  obtain ⟨k, hk, rfl⟩ := List.getElem_of_mem hm
  rw [worthL_len t xs h] at hk
  have hg := worthL_get t xs k h hk
  rw [getD_eq _ _ _ (by rw [worthL_len t xs h]; exact hk)] at hg
  rw [hg]
  have o := ho.ok k (by omega)
  have := o.v0
  have := o.v1
  have hb := hx _ (show xs.getD k 0 ∈ xs by rw [getD_eq _ _ _ hk]; exact List.getElem_mem hk)
  have h1 : xs.getD k 0 * (tubeAt t k).value ≤ 1000000 * (tubeAt t k).value := Int.mul_le_mul_of_nonneg_right hb.2 (by omega)
  have h2 : -1000000 * (tubeAt t k).value ≤ xs.getD k 0 * (tubeAt t k).value := Int.mul_le_mul_of_nonneg_right hb.1 (by omega)
  omega

end Go.Proofs.YtehhmgbgkemidaaDoor

/-! Package vend: which coins tubes should have. -/
namespace Go.Proofs.YtehhmgbgkemidaaDoor
open Go.RowKit

/-- What numbers of coins, for tubes, are worth together. -/
def FitsT (l : List Tube) (f : List Int) : Prop := f.length = l.length ∧ ∀ k, k < l.length → 0 ≤ f.getD k 0 ∧ f.getD k 0 ≤ (tubeAt l k).most
theorem worth_set (l : List Tube) (f : List Int) (k : Nat) (h : f.length = l.length) (hk : k < l.length) : worthM l (f.set k (f.getD k 0 + 1)) = worthM l f + (tubeAt l k).value := by
  have key : ∀ (l : List Tube) (f : List Int) (k : Nat), f.length = l.length → k < l.length → (List.zipWith (fun x (t : Tube) => x * t.value) (f.set k (f.getD k 0 + 1)) l).sum = (List.zipWith (fun x (t : Tube) => x * t.value) f l).sum + (l.getD k ⟨0, 0, 0⟩).value := by
    intro l
    induction l with
    | nil => intro f k _ hk; simp at hk
    | cons t l ih =>
      intro f k h hk
      cases f with
      | nil => simp at h
      | cons x f =>
        cases k with
        | zero => simp [Int.add_mul]; omega
        | succ k =>
          have := ih f k (by simpa using h) (by simpa using hk)
          simp at this
          simp [this]; omega
  exact key l f k h hk
theorem fits_set {l : List Tube} {f : List Int} {k : Nat} (h : FitsT l f) (hk : k < l.length) (hm : f.getD k 0 < (tubeAt l k).most) : FitsT l (f.set k (f.getD k 0 + 1)) := by
  refine ⟨by simp [h.1], fun j hj => ?_⟩
  have hb := h.2 j hj
  rw [List.getD_eq_getElem?_getD, List.getElem?_set]
  by_cases e : k = j
  · subst e
    rw [if_pos rfl, if_pos (by rw [h.1]; exact hk)]
    simp only [Option.getD_some]
    omega
  · rw [if_neg e, ← List.getD_eq_getElem?_getD]
    exact hb
theorem fits_zero (l : List Tube) (ho : OkTubes l) : FitsT l (List.replicate l.length 0) := by
  refine ⟨by simp, fun k hk => ?_⟩
  have := (ho.ok k hk).m0
  rw [List.getD_eq_getElem?_getD, List.getElem?_replicate, if_pos hk]
  simpa using this
theorem worth_zero (l : List Tube) (n : Nat) : worthM l (List.replicate n 0) = 0 := by
  have key : ∀ (l : List Tube) (n : Nat), (List.zipWith (fun x (t : Tube) => x * t.value) (List.replicate n 0) l).sum = 0 := by
    intro l
    induction l with
    | nil => intro n; simp
    | cons t l ih => intro n; cases n <;> simp [List.replicate_succ, ih]
  exact key l n

theorem own_of_heap {w w' : World} {base e size n : Nat} {v : Value} {xs : List Value} (h : w.ownsRow base e size v n xs) (he : w'.heap = w.heap) : w'.ownsRow base e size v n xs := by
  unfold World.ownsRow at *
  rw [he]
  exact h
def boolOf : Value → Bool | .bool b => b | _ => false

theorem take_drop_set (V f : List Int) (k : Nat) (hV : k < V.length) (hf : k < f.length) : (V.take k ++ f.drop k).set k (V.getD k 0) = V.take (k + 1) ++ f.drop (k + 1) := by
  rw [List.drop_eq_getElem_cons hf, List.set_append_right _ _ (by simp; omega), List.length_take, Nat.min_eq_left (by omega), Nat.sub_self, List.set_cons_zero, List.take_succ_eq_append_getElem hV, List.getD_eq_getElem?_getD, List.getElem?_eq_getElem hV, List.append_assoc]
  rfl

def FloatPost (l : List Tube) (want : Int) (w : World) (e : Ending) (w' : World) : Prop :=
  ∃ v f, e = .returned (.tuple #[v, .int .i64 0]) ∧ w'.ownsRow w.heap.size 3 1 v l.length (ints f) ∧ w.grownBy w' none ∧ ∃ g, FitsT l g ∧ worthM l g ≤ want ∧ f.length = l.length ∧ ∀ k, k < l.length → f.getD k 0 = g.getD k 0 - (tubeAt l k).count

end Go.Proofs.YtehhmgbgkemidaaDoor

/-! slices.Reverse of a part of an owned row of ints; slices.Equal of ints. -/
namespace Go.Proofs.YtehhmgbgkemidaaDoor
open Go.RowKit

def BoolSome (w : World) (e : Ending) (w' : World) : Prop := (∃ b : Bool, e = .returned (.bool b)) ∧ w.grownBy w' none
set_option maxRecDepth 100000 in
theorem equal_gen (xs ys : List Int) (a b : Option Addr) (c d : Nat) (w : World) (ha : CellsAt w a (ints xs)) (hb : CellsAt w b (ints ys)) (hl : xs.length ≤ 1000000) :
    Calls Tryd.prog 31 #[.slice a xs.length c, .slice b ys.length d] w (BoolSome w) := by
  by_cases hne : xs.length = ys.length
  · have HNE := Lib.hid hne
    rw [← hne]
    clear hne
    go_enter Tryd.func31, Tryd.ntmps31
    go_wp2_with (fail)
    go_loopw [13] (fun i wr => ∃ k : Nat, k ≤ xs.length ∧ i = .int .i64 k ∧ w.grownBy wr none) (fun i _ => xs.length - (intOf i).toNat)
    case atStart => exact ⟨0, Nat.zero_le _, rfl, gr_refl _ _⟩
    case round =>
      obtain ⟨k, hk, rfl, hgr⟩ := hrel
      obtain ⟨wo, rfl⟩ : ∃ wo : World, wo = wr := ⟨_, rfl⟩
      by_cases hlt : k < xs.length
      · obtain ⟨b1, o1, rfl, c1⟩ := (ha.keep0 hgr) k _ (ints_get xs k hlt)
        obtain ⟨b2, o2, rfl, c2⟩ := (hb.keep0 hgr) k _ (ints_get ys k (by have := HNE.out; omega))
        obtain ⟨x, hx⟩ : ∃ x, x = xs.getD k 0 := ⟨_, rfl⟩
        obtain ⟨y, hy⟩ : ∃ y, y = ys.getD k 0 := ⟨_, rfl⟩
        rw [← hx] at c1
        rw [← hy] at c2
        clear hx hy
        by_cases hxy : x = y
        · subst hxy
          go_wp2_with (fail)
          go_region
          all_goals (go_wp2_with (fail))
          all_goals go_roundw
          case rel => exact ⟨k + 1, by omega, by go_num, gr_drew hgr⟩
          case measure => simp [intOf]; omega
        · have h1 : (x == y) = false := by simpa using hxy
          have h2 : (x != y) = true := by simpa using hxy
          go_wp2_with (fail)
          go_region
          all_goals (go_wp2_with (fail))
          all_goals (go_ret; exact ⟨⟨_, rfl⟩, gr_drew hgr⟩)
      · go_wp2_with (fail)
        go_ret
        exact ⟨⟨_, rfl⟩, hgr⟩
  · have h2 : ((xs.length : Int) == (ys.length : Int)) = false := by simp; omega
    have h3 : ((xs.length : Int) != (ys.length : Int)) = true := by simp; omega
    go_enter Tryd.func31, Tryd.ntmps31
    go_wp2_with (fail)
    go_ret
    exact ⟨⟨_, rfl⟩, gr_refl _ _⟩
theorem set_mem2 {L : List Int} {i j : Nat} {a b : Int} (ha : a ∈ L) (hb : b ∈ L) : ∀ x ∈ (L.set i a).set j b, x ∈ L := by
  intro x hx
  rcases List.mem_or_eq_of_mem_set hx with h | rfl
  · rcases List.mem_or_eq_of_mem_set h with h | rfl
    · exact h
    · exact ha
  · exact hb
def RevPost (base g n cap : Nat) (L : List Int) (w : World) (e : Ending) (w' : World) : Prop :=
  e = .returned (.tuple #[]) ∧ (∃ L' : List Int, (∀ x ∈ L', x ∈ L) ∧ w'.ownsRow base 3 1 (.slice (some ⟨g, 0, none⟩) n cap) n (ints L')) ∧ w.grownBy w' (some g)
set_option maxRecDepth 100000 in
set_option maxHeartbeats 2000000 in
theorem reverse_any (base g n cap o m c : Nat) (L : List Int) (w : World) (hown : w.ownsRow base 3 1 (.slice (some ⟨g, 0, none⟩) n cap) n (ints L)) (hom : o + m ≤ n) (hn : n ≤ 100000) :
    Calls Tryd.prog 30 #[.slice (some ⟨g, o, none⟩) m c] w (RevPost base g n cap L w) := by
  go_enter Tryd.func30, Tryd.ntmps30
  go_wp2_with (fail)
  go_loopw [2, 3] (fun i j wr => ∃ (k : Nat) (q : Int) (L' : List Int), i = .int .i64 k ∧ j = .int .i64 q ∧ q = (m : Int) - 1 - k ∧ (∀ x ∈ L', x ∈ L) ∧ wr.ownsRow base 3 1 (.slice (some ⟨g, 0, none⟩) n cap) n (ints L') ∧ w.grownBy wr (some g)) (fun i _ _ => m - (intOf i).toNat)
  case atStart => exact ⟨0, (m : Int) - 1, L, rfl, rfl, by omega, fun x h => h, hown, gr_refl _ _⟩
  case round =>
    obtain ⟨k, q, L', rfl, rfl, hq, hm, hown', hgr⟩ := hrel
    obtain ⟨wo, rfl⟩ : ∃ wo : World, wo = wr := ⟨_, rfl⟩
    have HM := Lib.hid hm
    clear hm
    by_cases hlt : (k : Int) < q
    · obtain ⟨r, hr⟩ : ∃ r : Nat, q = (r : Int) := ⟨q.toNat, by omega⟩
      subst hr
      have hkr : k < r := by omega
      have hrm : r < m := by omega
      have hkm : k < m := by omega
      have hrq : (r : Int) - 1 = (m : Int) - 1 - (k + 1 : Nat) := by omega
      have HRQ := Lib.hid hrq
      clear hq hrq hlt
      obtain ⟨d0, d1, d2⟩ := own_int hown' (o + k) (by omega)
      obtain ⟨e0, e1, e2⟩ := own_int hown' (o + r) (by omega)
      have hll := own_len hown'
      have hx1 : L'.getD (o + k) 0 ∈ L' := by rw [getD_eq' L' _ 0 (by omega)]; exact List.getElem_mem _
      have hy1 : L'.getD (o + r) 0 ∈ L' := by rw [getD_eq' L' _ 0 (by omega)]; exact List.getElem_mem _
      obtain ⟨x, hx⟩ : ∃ x, x = L'.getD (o + k) 0 := ⟨_, rfl⟩
      obtain ⟨y, hy⟩ : ∃ y, y = L'.getD (o + r) 0 := ⟨_, rfl⟩
      rw [← hx] at d0 hx1
      rw [← hy] at e0 hy1
      have D2 := Lib.hid ((own_int (d2 y) (o + r) (by omega)).2.2 x)
      have D3 := Lib.hid ((own_int (e2 x) (o + k) (by omega)).2.2 y)
      have M2 := Lib.hid (fun z hz => HM.out z (set_mem2 (i := o + k) (j := o + r) hy1 hx1 z hz))
      have M3 := Lib.hid (fun z hz => HM.out z (set_mem2 (i := o + r) (j := o + k) hx1 hy1 z hz))
      clear d2 e2 hx hy hll hx1 hy1 hown'
      go_wp2_with (fail)
      go_region
      all_goals (go_wp2_with (fail))
      all_goals go_roundw
      all_goals first | (simp [intOf]; omega) | skip
      all_goals first
        | exact ⟨k + 1, (r : Int) - 1, _, by go_num, by go_num, HRQ.out, M2.out, own_of_heap D2.out rfl, gr_drew (gr_set (q := ⟨g, o + r, none⟩) (gr_set (q := ⟨g, o + k, none⟩) hgr rfl _) rfl _)⟩
        | exact ⟨k + 1, (r : Int) - 1, _, by go_num, by go_num, HRQ.out, M3.out, own_of_heap D3.out rfl, gr_drew (gr_set (q := ⟨g, o + k, none⟩) (gr_set (q := ⟨g, o + r, none⟩) hgr rfl _) rfl _)⟩
    · go_wp2_with (fail)
      first | go_end0 | ((try simp only [Exit.inBlock, Exit.then]); refine bodyPost_ret (results_none rfl _ _ _) rfl ?_)
      exact ⟨rfl, ⟨L', HM.out, hown'⟩, hgr⟩
end Go.Proofs.YtehhmgbgkemidaaDoor
