/- Sums of ints: the packages' own. -/
import Derived.Test.YtdminjijhpemkaaGreatDoorPkSAc
import Derived.Test.YtdminjijhpemkaaGreatDoorPkSAk
import Derived.Test.YtdminjijhpemkaaGreatDoorPkSAa
namespace Go.Proofs.YtdminjijhpemkaaGreatDoor
open Go.RowKit

end Go.Proofs.YtdminjijhpemkaaGreatDoor

/-! Tables of shares: what is wrong with one, by package and by document. -/
namespace Go.Proofs.YtdminjijhpemkaaGreatDoor
open Go.RowKit

/-- Rows of ints behind a slice of slices. -/
def RowsAt (w : World) (a : Option Addr) (T : List (List Int)) : Prop :=
  ∀ i, i < T.length → ∃ b off ra rc, a = some ⟨b, off, none⟩ ∧ w.cell? ⟨b, off + i, none⟩ = some (.slice ra (T.getD i []).length rc) ∧ CellsAt w ra (ints (T.getD i []))
theorem RowsAt.keep0 {w w1 : World} {a : Option Addr} {T : List (List Int)} (h : RowsAt w a T) (g : w.grownBy w1 none) : RowsAt w1 a T := by
  intro i hi
  obtain ⟨b, off, ra, rc, e, c, r⟩ := h i hi
  exact ⟨b, off, ra, rc, e, by rw [gr_cell g (lt_of_cell c)]; exact c, r.keep0 g⟩
/-- The first of some codes that is not 0. -/
def firstCode (f : Nat → Int) : Nat → Int
  | 0 => 0
  | n + 1 => if firstCode f n = 0 then f n else firstCode f n
theorem firstCode_none (f : Nat → Int) (n : Nat) (h : ∀ j, j < n → f j = 0) : firstCode f n = 0 := by
  induction n with
  | zero => rfl
  | succ n ih => rw [firstCode, if_pos (ih fun j hj => h j (by omega))]; exact h n (by omega)
theorem firstCode_at (f : Nat → Int) (n k : Nat) (hk : k < n) (h : ∀ j, j < k → f j = 0) (hf : f k ≠ 0) : firstCode f n = f k := by
  induction n with
  | zero => omega
  | succ n ih =>
    rw [firstCode]
    by_cases e : k = n
    · subst e; rw [if_pos (firstCode_none f k h)]
    · rw [ih (by omega), if_neg hf]
theorem firstCode_zero (f : Nat → Int) (n : Nat) (h : firstCode f n = 0) (j : Nat) (hj : j < n) : f j = 0 := by
  induction n with
  | zero => omega
  | succ n ih =>
    rw [firstCode] at h
    by_cases e : firstCode f n = 0
    · rw [if_pos e] at h
      by_cases e2 : j = n
      · rw [e2]; exact h
      · exact ih e (by omega)
    · rw [if_neg e] at h; exact absurd h e
def odd100 (x : Int) : Bool := decide (x < 0) || decide (100 < x)
def rowCode (n i : Nat) (r : List Int) : Int := if r.length ≠ n then 3 else if r.any odd100 = true ∨ r.getD i 0 ≠ 0 ∨ 100 < r.sum then 1 else 0
def tableCode (T : List (List Int)) : Int := if T.length = 0 then 8 else if 30 < T.length then 2 else firstCode (fun i => rowCode T.length i (T.getD i [])) T.length

/-! demand.Instead: what holds between sold, left and lost; no program in sight. -/

theorem sum_set (l : List Int) (j : Nat) (x : Int) (h : j < l.length) : (l.set j x).sum = l.sum - l.getD j 0 + x := by
  induction l generalizing j with
  | nil => simp at h
  | cons a l ih =>
    cases j with
    | zero => simp; omega
    | succ j => simp only [List.set_cons_succ, List.sum_cons, List.getD_cons_succ]; rw [ih j (by simpa using h)]; omega
theorem getD_set (l : List Int) (j q : Nat) (x : Int) (h : j < l.length) : (l.set j x).getD q 0 = if q = j then x else l.getD q 0 := by
  rw [List.getD_eq_getElem?_getD, List.getElem?_set]
  by_cases e : j = q
  · subst e; simp [h]
  · rw [if_neg e, if_neg (by omega), ← List.getD_eq_getElem?_getD]

/-- A right table: the rows' shares. -/
theorem tableCode_ok (T : List (List Int)) (h : tableCode T = 0) : 1 ≤ T.length ∧ T.length ≤ 30 ∧ ∀ i, i < T.length → (T.getD i []).length = T.length ∧ (∀ x ∈ T.getD i [], 0 ≤ x ∧ x ≤ 100) ∧ (T.getD i []).sum ≤ 100 := by
  unfold tableCode at h
  split at h
  · omega
  split at h
  · omega
  refine ⟨by omega, by omega, fun i hi => ?_⟩
  have h1 : rowCode T.length i (T.getD i []) = 0 := firstCode_zero _ _ h i hi
  generalize T.getD i [] = r at h1
  unfold rowCode at h1
  split at h1
  · omega
  split at h1
  · omega
  · rename_i e1 e2
    refine ⟨by simpa using e1, ?_, by omega⟩
    intro x hx
    have h2 : ¬ (r.any odd100 = true) := fun e => e2 (.inl e)
    rw [List.any_eq_true] at h2
    have h3 : ¬ odd100 x = true := fun e => h2 ⟨x, hx, e⟩
    simp [odd100] at h3
    omega
def oddM (x : Int) : Bool := decide (x < 0) || decide (1000000 < x)
def insteadCode (T : List (List Int)) (W S : List Int) : Int :=
  if tableCode T ≠ 0 then tableCode T else if W.length ≠ T.length ∨ S.length ≠ T.length then 3 else if (W ++ S).any oddM = true then 1 else 0
theorem insteadCode_ok (T : List (List Int)) (W S : List Int) (h : insteadCode T W S = 0) : tableCode T = 0 ∧ W.length = T.length ∧ S.length = T.length ∧ (∀ i, i < T.length → 0 ≤ W.getD i 0 ∧ W.getD i 0 ≤ 1000000) ∧ (∀ i, i < T.length → 0 ≤ S.getD i 0 ∧ S.getD i 0 ≤ 1000000) := by
  unfold insteadCode at h
  split at h
  · omega
  split at h
  · omega
  split at h
  · omega
  rename_i e1 e2 e3
  have e2' : W.length = T.length ∧ S.length = T.length := by omega
  have hb : ∀ x, x ∈ W ++ S → 0 ≤ x ∧ x ≤ 1000000 := by
    intro x hx
    rw [List.any_eq_true] at e3
    have h3 : ¬ oddM x = true := fun e => e3 ⟨x, hx, e⟩
    simp [oddM] at h3
    omega
  refine ⟨by omega, e2'.1, e2'.2, fun i hi => ?_, fun i hi => ?_⟩
  · refine hb _ (List.mem_append_left _ ?_)
    rw [List.getD_eq_getElem?_getD, List.getElem?_eq_getElem (by omega)]
    exact List.getElem_mem _
  · refine hb _ (List.mem_append_right _ ?_)
    rw [List.getD_eq_getElem?_getD, List.getElem?_eq_getElem (by omega)]
    exact List.getElem_mem _
/-- What holds between sold, left and lost. -/
structure InsInv (n : Nat) (W S A L B : List Int) : Prop where
  la : A.length = n
  ll : L.length = n
  lb : B.length = n
  al : ∀ q, q < n → A.getD q 0 + L.getD q 0 = S.getD q 0
  l0 : ∀ q, q < n → 0 ≤ L.getD q 0
  am : ∀ q, q < n → min (W.getD q 0) (S.getD q 0) ≤ A.getD q 0
  b0 : ∀ q, q < n → 0 ≤ B.getD q 0
  bw : ∀ q, q < n → B.getD q 0 ≤ W.getD q 0
  sm : A.sum + B.sum = W.sum
/-- Loop 1: rows below i are done. -/
structure InsOne (n i : Nat) (W S A L B : List Int) : Prop where
  la : A.length = n
  ll : L.length = n
  lb : B.length = n
  dn : ∀ q, q < n → q < i → A.getD q 0 = min (W.getD q 0) (S.getD q 0) ∧ L.getD q 0 = S.getD q 0 - A.getD q 0 ∧ B.getD q 0 = W.getD q 0 - A.getD q 0
  td : ∀ q, q < n → i ≤ q → A.getD q 0 = 0 ∧ L.getD q 0 = S.getD q 0 ∧ B.getD q 0 = 0
  sm : A.sum + B.sum = (W.take i).sum
theorem repl_getD (n q : Nat) : (List.replicate n (0 : Int)).getD q 0 = 0 := by
  rw [List.getD_eq_getElem?_getD, List.getElem?_replicate]; split <;> rfl
theorem repl_sum (n : Nat) : (List.replicate n (0 : Int)).sum = 0 := by
  induction n with
  | zero => rfl
  | succ n ih => simp [List.replicate_succ, ih]
theorem InsOne.start (n : Nat) (W S : List Int) (hs : S.length = n) : InsOne n 0 W S (List.replicate n 0) S (List.replicate n 0) :=
  ⟨by simp, hs, by simp, fun q _ h => absurd h (Nat.not_lt_zero _), fun q _ _ => ⟨repl_getD _ _, rfl, repl_getD _ _⟩, by rw [repl_sum]; rfl⟩
theorem InsOne.next {n i : Nat} {W S A L B : List Int} (h : InsOne n i W S A L B) (hi : i < n) (hw : W.length = n) (k : Int) (hk : k = min (W.getD i 0) (S.getD i 0)) :
    InsOne n (i + 1) W S (A.set i k) (L.set i (S.getD i 0 - k)) (B.set i (W.getD i 0 - k)) := by
  have hla := h.la
  have hll := h.ll
  have hlb := h.lb
  refine ⟨by simpa using h.la, by simpa using h.ll, by simpa using h.lb, ?_, ?_, ?_⟩
  · intro q hq hqi
    rw [getD_set _ _ _ _ (by omega), getD_set _ _ _ _ (by omega), getD_set _ _ _ _ (by omega)]
    by_cases e : q = i
    · subst e; rw [if_pos rfl, if_pos rfl, if_pos rfl]; exact ⟨hk, rfl, rfl⟩
    · simp only [if_neg e]; exact h.dn q hq (by omega)
  · intro q hq hqi
    have e : ¬ q = i := by omega
    rw [getD_set _ _ _ _ (by omega), getD_set _ _ _ _ (by omega), getD_set _ _ _ _ (by omega)]
    simp only [if_neg e]; exact h.td q hq (by omega)
  · rw [sum_set _ _ _ (by omega), sum_set _ _ _ (by omega), sum_next W i (by omega), ← h.sm]
    have := h.td i hi (Nat.le_refl _)
    omega
theorem InsOne.done {n : Nat} {W S A L B : List Int} (h : InsOne n n W S A L B) (hw : W.length = n) (hw0 : ∀ q, q < n → 0 ≤ W.getD q 0) (hs0 : ∀ q, q < n → 0 ≤ S.getD q 0) : InsInv n W S A L B := by
  refine ⟨h.la, h.ll, h.lb, fun q hq => ?_, fun q hq => ?_, fun q hq => ?_, fun q hq => ?_, fun q hq => ?_, ?_⟩
  · have := h.dn q hq hq; omega
  · have := h.dn q hq hq; have := hs0 q hq; omega
  · have := h.dn q hq hq; omega
  · have := h.dn q hq hq; omega
  · have := h.dn q hq hq; have := hs0 q hq; have := hw0 q hq; omega
  · have := h.sm
    rw [List.take_of_length_le (by omega)] at this
    exact this
/-- What the row i still wants: at least its part of what is not shared yet. -/
def InsRow (i j : Nat) (many : Int) (R B : List Int) : Prop := 100 * many - many * (R.take j).sum ≤ 100 * B.getD i 0
theorem InsInv.next {n i j : Nat} {W S A L B R : List Int} {many k : Int} (h : InsInv n W S A L B) (hi : i < n) (hj : j < n) (hr : R.length = n) (hR : ∀ x ∈ R, 0 ≤ x ∧ x ≤ 100) (hRs : R.sum ≤ 100) (hm : 0 ≤ many)
    (hk : k = min (many * R.getD j 0 / 100) (L.getD j 0)) (hrow : InsRow i j many R B) :
    InsInv n W S (A.set j (A.getD j 0 + k)) (L.set j (L.getD j 0 - k)) (B.set i (B.getD i 0 - k)) ∧ InsRow i (j + 1) many R (B.set i (B.getD i 0 - k)) ∧ 0 ≤ k := by
  have hla := h.la
  have hll := h.ll
  have hlb := h.lb
  have hRj : 0 ≤ R.getD j 0 ∧ R.getD j 0 ≤ 100 := by
    have : R.getD j 0 ∈ R := by rw [List.getD_eq_getElem?_getD, List.getElem?_eq_getElem (by omega)]; exact List.getElem_mem _
    exact hR _ this
  have hp : 0 ≤ many * R.getD j 0 := Int.mul_nonneg hm hRj.1
  have hd : 0 ≤ many * R.getD j 0 / 100 := Int.ediv_nonneg hp (by omega)
  have hd2 : 100 * (many * R.getD j 0 / 100) ≤ many * R.getD j 0 := by omega
  have hl0 := h.l0 j hj
  have hk0 : 0 ≤ k := by omega
  have hk1 : 100 * k ≤ many * R.getD j 0 := by omega
  have hkl : k ≤ L.getD j 0 := by omega
  have hsn := sum_next R j (by omega)
  have hrow' : 100 * many - many * (R.take (j + 1)).sum ≤ 100 * (B.getD i 0 - k) := by
    unfold InsRow at hrow
    rw [hsn, Int.mul_add]
    omega
  have hle : (R.take (j + 1)).sum ≤ 100 := by
    have h1 : R.sum = (R.take (j + 1)).sum + (R.drop (j + 1)).sum := by rw [← List.sum_append, List.take_append_drop]
    have h2 : 0 ≤ (R.drop (j + 1)).sum := by
      have : ∀ l : List Int, (∀ x ∈ l, 0 ≤ x) → 0 ≤ l.sum := by
        intro l hl
        induction l with
        | nil => simp
        | cons a l ih =>
          have h1 := hl a (by simp)
          have h2 := ih (fun x hx => hl x (by simp [hx]))
          simp only [List.sum_cons]
          omega
      exact this _ (fun x hx => (hR x (List.mem_of_mem_drop hx)).1)
    omega
  have hB0 : 0 ≤ B.getD i 0 - k := by
    have : many * (R.take (j + 1)).sum ≤ many * 100 := Int.mul_le_mul_of_nonneg_left hle hm
    omega
  refine ⟨⟨by simpa using hla, by simpa using hll, by simpa using hlb, fun q hq => ?_, fun q hq => ?_, fun q hq => ?_, fun q hq => ?_, fun q hq => ?_, ?_⟩, ?_, hk0⟩
  · rw [getD_set _ _ _ _ (by omega), getD_set _ _ _ _ (by omega)]
    have := h.al q hq
    split
    · rename_i e; subst e; omega
    · exact this
  · rw [getD_set _ _ _ _ (by omega)]
    have := h.l0 q hq
    split <;> omega
  · rw [getD_set _ _ _ _ (by omega)]
    have := h.am q hq
    split
    · rename_i e; subst e; omega
    · exact this
  · rw [getD_set _ _ _ _ (by omega)]
    have := h.b0 q hq
    split <;> omega
  · rw [getD_set _ _ _ _ (by omega)]
    have := h.bw q hq
    split
    · rename_i e; subst e; omega
    · exact this
  · rw [sum_set _ _ _ (by omega), sum_set _ _ _ (by omega)]
    have := h.sm
    omega
  · unfold InsRow
    rw [getD_set _ _ _ _ (by omega), if_pos rfl]
    exact hrow'
end Go.Proofs.YtdminjijhpemkaaGreatDoor

/-! slices.Equal of ints, EqualFunc of rows with the same contents. -/
namespace Go.Proofs.YtdminjijhpemkaaGreatDoor
open Go.RowKit

set_option maxRecDepth 100000 in
theorem equal_int (xs : List Int) (a b : Option Addr) (c d : Nat) (w : World) (ha : CellsAt w a (ints xs)) (hb : CellsAt w b (ints xs)) (hl : xs.length ≤ 1000000) :
    Calls Tryz.prog 64 #[.slice a xs.length c, .slice b xs.length d] w fun e w' => e = .returned (.bool true) ∧ w.grownBy w' none := by
  go_enter Tryz.func64, Tryz.ntmps64
  go_wp2_with (fail)
  go_loopw [13] (fun i wr => ∃ k : Nat, k ≤ xs.length ∧ i = .int .i64 k ∧ w.grownBy wr none) (fun i _ => xs.length - (intOf i).toNat)
  case atStart => exact ⟨0, Nat.zero_le _, rfl, gr_refl _ _⟩
  case round =>
    obtain ⟨k, hk, rfl, hgr⟩ := hrel
    obtain ⟨wo, rfl⟩ : ∃ wo : World, wo = wr := ⟨_, rfl⟩
    by_cases hlt : k < xs.length
    · obtain ⟨b1, o1, rfl, c1⟩ := (ha.keep0 hgr) k _ (ints_get xs k hlt)
      obtain ⟨b2, o2, rfl, c2⟩ := (hb.keep0 hgr) k _ (ints_get xs k hlt)
      obtain ⟨x, hx⟩ : ∃ x, x = xs.getD k 0 := ⟨_, rfl⟩
      rw [← hx] at c1 c2
      clear hx
      go_wp2_with (fail)
      go_region
      all_goals (go_wp2_with (fail))
      all_goals go_roundw
      case rel => exact ⟨k + 1, by omega, by go_num, gr_drew hgr⟩
      case measure => simp [intOf]; omega
    · go_wp2_with (fail)
      go_ret
      exact ⟨rfl, hgr⟩

end Go.Proofs.YtdminjijhpemkaaGreatDoor

/-! Sales of days: as the stream makes them. -/
namespace Go.Proofs.YtdminjijhpemkaaGreatDoor
open Go.RowKit
variable {lw : Nat}

structure Sale where
  day : Int
  sold : Int
  out : Bool
def encSale (s : Sale) : List Value := [.int .i64 s.day, .int .i64 s.sold, .bool s.out]
def sales (l : List Sale) : List Value := l.flatMap encSale
theorem sales_length (l : List Sale) : (sales l).length = l.length * 3 := by
  induction l with
  | nil => rfl
  | cons a l ih => simp only [sales, List.flatMap_cons, List.length_append, List.length_cons] at *; rw [ih]; simp [encSale]; omega
theorem sales_append (l m : List Sale) : sales (l ++ m) = sales l ++ sales m := by simp [sales]
theorem sales_one (l : List Sale) : ∀ u ∈ sales l, u.oneCell' = true := by
  intro u hu
  simp only [sales, List.mem_flatMap] at hu
  obtain ⟨s, _, hs⟩ := hu
  simp only [encSale, List.mem_cons, List.not_mem_nil, or_false] at hs
  rcases hs with rfl | rfl | rfl <;> rfl
theorem eSales : ElemT Tryz.prog 128 127 (.agg #[.int .i64 0, .int .i64 0, .bool false]) 3 24 := ⟨by kernel_rfl, by kernel_rfl, by decide, by decide, by decide⟩

def dayAt (l : List Int) (k : Nat) (d0 : Int) : Nat → Int
  | 0 => d0
  | i + 1 => dayAt l k d0 i + pickM l (k + 3 * i + 2) [1, 1, 1, 3]
def saleAt (l : List Int) (k : Nat) (d0 : Int) (i : Nat) : Sale := ⟨dayAt l k d0 i, pickM l (k + 3 * i) [0, 1, 2, 3, 5, 9], flipM l (k + 3 * i + 1) 4⟩
def salesTo (l : List Int) (k : Nat) (d0 : Int) (n : Nat) : List Sale := (List.range n).map (saleAt l k d0)
theorem salesTo_succ (l : List Int) (k : Nat) (d0 : Int) (n : Nat) : salesTo l k d0 (n + 1) = salesTo l k d0 n ++ [saleAt l k d0 n] := by simp [salesTo, List.range_succ]
theorem salesTo_length (l : List Int) (k : Nat) (d0 : Int) (n : Nat) : (salesTo l k d0 n).length = n := by simp [salesTo]
theorem dayAt_bound (l : List Int) (k : Nat) (d0 : Int) (h0 : 0 ≤ d0) (h5 : d0 ≤ 5) (n : Nat) : 0 ≤ dayAt l k d0 n ∧ dayAt l k d0 n ≤ 5 + 3 * n := by
  induction n with
  | zero => simp only [dayAt]; omega
  | succ n ih =>
    have := pickM_mem l (k + 3 * n + 2) [1, 1, 1, 3] (by decide)
    simp only [List.mem_cons, List.not_mem_nil, or_false] at this
    simp only [dayAt]
    omega
def daysN (l : List Int) (k : Nat) : Nat := (nxt l (k + 1) 12).toNat
def daysHead (l : List Int) (k : Nat) : List Sale := salesTo l (k + 2) (nxt l k 5) (daysN l k)
def daysMore (l : List Int) (k : Nat) : Bool := flipM l (k + 2 + 3 * daysN l k) 15
def daysLast (l : List Int) (k : Nat) : Sale := ⟨pickM l (k + 2 + 3 * daysN l k + 1) [-1, 0, 4000, 4001], pickM l (k + 2 + 3 * daysN l k + 2) [-1, 0, 1000, 1001], false⟩
def daysM (l : List Int) (k : Nat) : List Sale := if daysMore l k then daysHead l k ++ [daysLast l k] else daysHead l k
def daysK (l : List Int) (k : Nat) : Nat := if daysMore l k then k + 2 + 3 * daysN l k + 3 else k + 2 + 3 * daysN l k + 1
theorem daysN_lt (l : List Int) (k : Nat) : daysN l k < 12 := by
  have := nxt_range l (k + 1) 12 (by omega)
  unfold daysN; omega
theorem daysK_le (l : List Int) (k : Nat) : daysK l k ≤ k + 40 := by
  have := daysN_lt l k
  unfold daysK; split <;> omega

end Go.Proofs.YtdminjijhpemkaaGreatDoor

/-! Package demand on days: what is checked, sums, rates. -/
namespace Go.Proofs.YtdminjijhpemkaaGreatDoor
open Go.RowKit

def sAt (l : List Sale) (i : Nat) : Sale := l.getD i ⟨0, 0, false⟩
structure OkSale (l : List Sale) (i : Nat) : Prop where
  d0 : 0 ≤ (sAt l i).day
  d1 : (sAt l i).day ≤ 4000
  up : 0 < i → (sAt l (i - 1)).day < (sAt l i).day
  s0 : 0 ≤ (sAt l i).sold
  s1 : (sAt l i).sold ≤ 1000
structure OkDays (l : List Sale) : Prop where
  len : l.length ≤ 400
  ok : ∀ i, i < l.length → OkSale l i

theorem sales_get (l : List Sale) (i : Nat) (h : i < l.length) : (sales l)[i * 3]? = some (.int .i64 (sAt l i).day) ∧ (sales l)[i * 3 + 1]? = some (.int .i64 (sAt l i).sold) ∧ (sales l)[i * 3 + 2]? = some (.bool (sAt l i).out) := by
  induction l generalizing i with
  | nil => simp at h
  | cons a l ih =>
    cases i with
    | zero => simp [sales, encSale, sAt]
    | succ i =>
      have := ih i (by simpa using h)
      rw [show (i + 1) * 3 = i * 3 + 3 by omega]
      simpa [sales, encSale, sAt] using this
/-- The cells of one element. -/
theorem sales_cells {w : World} {a : Option Addr} {l : List Sale} (hc : CellsAt w a (sales l)) (i : Nat) (h : i < l.length) : ∃ b off, a = some ⟨b, off, none⟩ ∧ ∀ j, j < l.length →
    w.cell? ⟨b, off + j * 3, none⟩ = some (.int .i64 (sAt l j).day) ∧ w.cell? ⟨b, off + j * 3 + 1, none⟩ = some (.int .i64 (sAt l j).sold) ∧ w.cell? ⟨b, off + j * 3 + 2, none⟩ = some (.bool (sAt l j).out) := by
  obtain ⟨g1, _, _⟩ := sales_get l i h
  obtain ⟨b, off, rfl, _⟩ := hc _ _ g1
  refine ⟨b, off, rfl, fun j hj => ?_⟩
  obtain ⟨g1, g2, g3⟩ := sales_get l j hj
  obtain ⟨b1, o1, e1, c1⟩ := hc _ _ g1
  obtain ⟨b2, o2, e2, c2⟩ := hc _ _ g2
  obtain ⟨b3, o3, e3, c3⟩ := hc _ _ g3
  cases e1; cases e2; cases e3
  exact ⟨c1, c2, c3⟩

theorem not_days {l : List Sale} {k : Nat} (hk : k < l.length) (h : ¬ OkSale l k) : ¬ OkDays l := fun o => h (o.ok k hk)

end Go.Proofs.YtdminjijhpemkaaGreatDoor

/-! Package demand on days: the check of the program. -/
namespace Go.Proofs.YtdminjijhpemkaaGreatDoor
open Go.RowKit

set_option maxRecDepth 100000 in
set_option maxHeartbeats 2000000 in
theorem checkDays_any (l : List Sale) (a : Option Addr) (c : Nat) (w : World) (hc : CellsAt w a (sales l)) (hl : l.length ≤ 1000000) :
    Calls Tryz.prog 106 #[.slice a l.length c] w (FaultPost (OkDays l) w) := by
  by_cases h4 : 400 < l.length
  · go_enter Tryz.func106, Tryz.ntmps106
    go_wp2
    go_ret
    exact fault_bad 2 (by decide) (fun h => by have := h.len; omega) (gr_refl _ _)
  · have h4' : l.length ≤ 400 := by omega
    go_enter Tryz.func106, Tryz.ntmps106
    go_wp2
    go_loopw [10] (fun i wr => ∃ k : Nat, k ≤ l.length ∧ i = .int .i64 k ∧ (∀ j, j < k → OkSale l j) ∧ w.grownBy wr none) (fun i _ => l.length - (intOf i).toNat)
    case atStart => exact ⟨0, Nat.zero_le _, rfl, fun j hj => by omega, gr_refl _ _⟩
    case round =>
      obtain ⟨k, hk, rfl, hok, hgr⟩ := hrel
      have HOK := Lib.hid hok; clear hok
      obtain ⟨wo, rfl⟩ : ∃ wo : World, wo = wr := ⟨_, rfl⟩
      by_cases hlt : k < l.length
      · obtain ⟨b, off, rfl, hcs⟩ := sales_cells (hc.keep0 hgr) k hlt
        obtain ⟨c0, c1, c2⟩ := hcs k hlt
        have hbl := lt_of_cell c0
        obtain ⟨x, hx⟩ : ∃ x, x = sAt l k := ⟨_, rfl⟩
        rw [← hx] at c0 c1 c2
        have HX := Lib.hid hx; clear hx
        have HCS := Lib.hid hcs; clear hcs
        by_cases hd0 : x.day < 0
        · go_wp2
          go_ret
          exact fault_bad 1 (by decide) (not_days hlt fun o => by have := o.d0; rw [← HX.out] at this; omega) (gr_alloc hgr _)
        by_cases hd1 : 4000 < x.day
        · go_wp2
          go_ret
          exact fault_bad 1 (by decide) (not_days hlt fun o => by have := o.d1; rw [← HX.out] at this; omega) (gr_alloc hgr _)
        have hin : wo.cell? ⟨b, off + (k - 1) * 3, none⟩ = some (.int .i64 (sAt l (k - 1)).day) := (HCS.out (k - 1) (by omega)).1
        obtain ⟨y, hy⟩ : ∃ y, y = (sAt l (k - 1)).day := ⟨_, rfl⟩
        rw [← hy] at hin
        have HY := Lib.hid hy; clear hy
        by_cases hk0 : k = 0
        · have hkb : decide (0 < k) = false := by simp; omega
          have HK := Lib.hid hk0; clear hk0
          by_cases hs0 : x.sold < 0
          · go_wp2
            go_quiet (fail)
            go_wp2
            go_ret
            exact fault_bad 1 (by decide) (not_days hlt fun o => by have := o.s0; rw [← HX.out] at this; omega) (gr_drewN (gr_alloc hgr _) _)
          by_cases hs1 : 1000 < x.sold
          · go_wp2
            go_quiet (fail)
            go_wp2
            go_ret
            exact fault_bad 1 (by decide) (not_days hlt fun o => by have := o.s1; rw [← HX.out] at this; omega) (gr_drewN (gr_alloc hgr _) _)
          go_wp2
          go_quiet (fail)
          go_wp2
          go_roundw
          case rel =>
            refine ⟨k + 1, by omega, by go_num, ?_, gr_drewN (gr_alloc hgr _) _⟩
            intro j hj
            by_cases hjk : j = k
            · subst hjk
              exact ⟨by rw [← HX.out]; omega, by rw [← HX.out]; omega, by intro h; exact absurd HK.out (by omega), by rw [← HX.out]; omega, by rw [← HX.out]; omega⟩
            · exact HOK.out j (by omega)
          case measure => simp [intOf]; omega
        · obtain ⟨k', rfl⟩ : ∃ k', k = k' + 1 := ⟨k - 1, by omega⟩
          rw [show k' + 1 - 1 = k' by omega] at hin HY
          by_cases hle : x.day ≤ y
          · go_wp2
            go_quiet (fail)
            go_wp2
            go_ret
            exact fault_bad 7 (by decide) (not_days hlt fun o => by have := o.up (by omega); rw [← HX.out, show k' + 1 - 1 = k' by omega, ← HY.out] at this; omega) (gr_drewN (gr_alloc hgr _) _)
          by_cases hs0 : x.sold < 0
          · go_wp2
            go_quiet (fail)
            go_wp2
            go_ret
            exact fault_bad 1 (by decide) (not_days hlt fun o => by have := o.s0; rw [← HX.out] at this; omega) (gr_drewN (gr_alloc hgr _) _)
          by_cases hs1 : 1000 < x.sold
          · go_wp2
            go_quiet (fail)
            go_wp2
            go_ret
            exact fault_bad 1 (by decide) (not_days hlt fun o => by have := o.s1; rw [← HX.out] at this; omega) (gr_drewN (gr_alloc hgr _) _)
          go_wp2
          go_quiet (fail)
          go_wp2
          go_roundw
          case rel =>
            refine ⟨(k' + 1) + 1, by omega, by go_num, ?_, gr_drewN (gr_alloc hgr _) _⟩
            intro j hj
            by_cases hjk : j = (k' + 1)
            · subst hjk
              exact ⟨by rw [← HX.out]; omega, by rw [← HX.out]; omega, by intro h; rw [← HX.out, show k' + 1 - 1 = k' by omega, ← HY.out]; omega, by rw [← HX.out]; omega, by rw [← HX.out]; omega⟩
            · exact HOK.out j (by omega)
          case measure => simp [intOf]; omega
      · have hkl : k = l.length := by omega
        have HK := Lib.hid hkl; clear hkl
        go_wp2
        go_ret
        exact fault_good ⟨h4', fun j hj => HOK.out j (by have := HK.out; omega)⟩ hgr
end Go.Proofs.YtdminjijhpemkaaGreatDoor

/-! Package demand on days: sums. -/
namespace Go.Proofs.YtdminjijhpemkaaGreatDoor
open Go.RowKit

def takes (P : Sale → Bool) (s : Sale) : Bool := !s.out && P s
def cnt (P : Sale → Bool) (l : List Sale) : Nat := (l.filter (takes P)).length
def tot (P : Sale → Bool) (l : List Sale) : Int := ((l.filter (takes P)).map Sale.sold).sum
theorem take_sale (l : List Sale) (k : Nat) (h : k < l.length) : l.take (k + 1) = l.take k ++ [sAt l k] := by
  rw [List.take_succ_eq_append_getElem h, sAt, List.getD_eq_getElem?_getD, List.getElem?_eq_getElem h]
  rfl
theorem cnt_yes {P : Sale → Bool} {l : List Sale} {k : Nat} (h : k < l.length) (hp : takes P (sAt l k) = true) : cnt P (l.take (k + 1)) = cnt P (l.take k) + 1 := by
  simp [cnt, take_sale l k h, List.filter_append, hp]
theorem cnt_no {P : Sale → Bool} {l : List Sale} {k : Nat} (h : k < l.length) (hp : takes P (sAt l k) = false) : cnt P (l.take (k + 1)) = cnt P (l.take k) := by
  simp [cnt, take_sale l k h, List.filter_append, hp]
theorem tot_yes {P : Sale → Bool} {l : List Sale} {k : Nat} (h : k < l.length) (hp : takes P (sAt l k) = true) : tot P (l.take (k + 1)) = tot P (l.take k) + (sAt l k).sold := by
  simp [tot, take_sale l k h, List.filter_append, hp]
theorem tot_no {P : Sale → Bool} {l : List Sale} {k : Nat} (h : k < l.length) (hp : takes P (sAt l k) = false) : tot P (l.take (k + 1)) = tot P (l.take k) := by
  simp [tot, take_sale l k h, List.filter_append, hp]
theorem cnt_le (P : Sale → Bool) (l : List Sale) : cnt P l ≤ l.length := List.length_filter_le _ _
theorem tot_bound (P : Sale → Bool) (l : List Sale) (h : OkDays l) (k : Nat) (hk : k ≤ l.length) : 0 ≤ tot P (l.take k) ∧ tot P (l.take k) ≤ 1000 * k := by
  induction k with
  | zero => simp [tot]
  | succ k ih =>
    have := ih (by omega)
    have o := h.ok k (by omega)
    have := o.s0
    have := o.s1
    cases hp : takes P (sAt l k) with
    | true => rw [tot_yes (by omega) hp]; omega
    | false => rw [tot_no (by omega) hp]; omega

def allP : Sale → Bool := fun _ => true
def weekP (d : Int) : Sale → Bool := fun s => s.day % 7 == d

theorem every_any (x : Sale) (w : World) : Calls Tryz.prog 108 #[.agg #[.int .i64 x.day, .int .i64 x.sold, .bool x.out]] w fun e w' => e = .returned (.bool (allP x)) ∧ w.grownBy w' none := by
  go_enter Tryz.func108, Tryz.ntmps108
  go_wp2_with (fail)
  go_ret
  exact ⟨rfl, gr_alloc (gr_refl _ _) _⟩
set_option maxRecDepth 100000 in
set_option maxHeartbeats 2000000 in
theorem sumAll_any (l : List Sale) (a : Option Addr) (c : Nat) (w : World) (hc : CellsAt w a (sales l)) (ho : OkDays l) :
    Calls Tryz.prog 107 #[.slice a l.length c, .func (.func 108) #[] #[]] w fun e w' => e = .returned (.tuple #[.int .i64 (tot allP l), .int .i64 (cnt allP l)]) ∧ w.grownBy w' none := by
  have hl := ho.len
  go_enter Tryz.func107, Tryz.ntmps107
  go_wp2_with (fail)
  go_loopw [4, 5, 10] (fun s n i wr => ∃ k : Nat, k ≤ l.length ∧ i = .int .i64 k ∧ s = .int .i64 (tot allP (l.take k)) ∧ n = .int .i64 (cnt allP (l.take k)) ∧ w.grownBy wr none) (fun _ _ i _ => l.length - (intOf i).toNat)
  case atStart => exact ⟨0, Nat.zero_le _, rfl, rfl, rfl, gr_refl _ _⟩
  case round =>
    obtain ⟨k, hk, rfl, rfl, rfl, hgr⟩ := hrel
    obtain ⟨wo, rfl⟩ : ∃ wo : World, wo = wr := ⟨_, rfl⟩
    have htb := tot_bound allP l ho k hk
    obtain ⟨s, hs⟩ : ∃ s, s = tot allP (l.take k) := ⟨_, rfl⟩
    obtain ⟨n, hn⟩ : ∃ n, n = cnt allP (l.take k) := ⟨_, rfl⟩
    have hnk : n ≤ k := by rw [hn]; exact Nat.le_trans (cnt_le _ _) (List.length_take_le _ _)
    rw [← hs] at htb
    obtain ⟨htb0, htb1⟩ := htb
    rw [← hs, ← hn]
    have HS := Lib.hid hs; clear hs
    have HN := Lib.hid hn; clear hn
    by_cases hlt : k < l.length
    · obtain ⟨b, off, rfl, hcs⟩ := sales_cells (hc.keep0 hgr) k hlt
      obtain ⟨c0, c1, c2⟩ := hcs k hlt
      have hbl := lt_of_cell c0
      have ok := ho.ok k hlt
      have ok0 := ok.s0
      have ok1 := ok.s1
      have ok2 := ok.d0
      have ok3 := ok.d1
      obtain ⟨x, hx⟩ : ∃ x, x = sAt l k := ⟨_, rfl⟩
      rw [← hx] at c0 c1 c2 ok0 ok1 ok2 ok3
      have HX := Lib.hid hx; clear hx hcs ok
      cases hxo : x.out with
      | true =>
        rw [hxo] at c2
        have ht : takes allP (sAt l k) = false := by rw [← HX.out]; simp [takes, hxo]
        have HO := Lib.hid hxo; clear hxo
        go_wp2_with (fail)
        go_roundw
        case rel => exact ⟨k + 1, by omega, by go_num, by rw [tot_no hlt ht, HS.out], by rw [cnt_no hlt ht, HN.out], gr_alloc hgr _⟩
        case measure => simp [intOf]; omega
      | false =>
        rw [hxo] at c2
        have ht : takes allP (sAt l k) = true := by rw [← HX.out]; simp [takes, hxo, allP]
        have HO := Lib.hid hxo; clear hxo
        go_wp2_with (fail)
        refine (every_any ⟨x.day, x.sold, false⟩ _).mono ?_
        rintro e w1 ⟨rfl, hg1⟩
        have d0 : w1.cell? ⟨wo.heap.size, 1, none⟩ = some (.int .i64 x.sold) := made_cell hg1 1 rfl
        have hp : allP ⟨x.day, x.sold, false⟩ = true := rfl
        rw [hp]
        have hgw := gr_trans (gr_alloc hgr _) hg1
        go_wp2_with (fail)
        go_roundw
        case rel => exact ⟨k + 1, by omega, by go_num, by rw [tot_yes hlt ht, HS.out, HX.out], by rw [cnt_yes hlt ht, HN.out]; go_num, hgw⟩
        case measure => simp [intOf]; omega
    · have hkl : k = l.length := by omega
      have HK := Lib.hid hkl; clear hkl
      have ht : l.take k = l := by rw [HK.out]; exact List.take_length
      rw [ht] at HS HN
      go_wp2_with (fail)
      go_ret2
      exact ⟨by rw [← HS.out, ← HN.out]; rfl, hgr⟩
end Go.Proofs.YtdminjijhpemkaaGreatDoor

/-! Package demand on days: the sum over a day of the week. -/
namespace Go.Proofs.YtdminjijhpemkaaGreatDoor
open Go.RowKit

end Go.Proofs.YtdminjijhpemkaaGreatDoor

/-! Package base: the greatest divisor, and fractions. -/
namespace Go.Proofs.YtdminjijhpemkaaGreatDoor
open Go.RowKit

set_option maxRecDepth 100000 in
theorem gcd_any (a b : Int) (w : World) (ha : 0 ≤ a) (hb : 0 ≤ b) (ha' : a ≤ 9223372036854775807) (hb' : b ≤ 9223372036854775807) :
    Calls Tryz.prog 148 #[.int .i64 a, .int .i64 b] w (Pure (.int .i64 (Int.gcd a b)) w) := by
  go_enter Tryz.func148, Tryz.ntmps148
  go_wp2
  go_loopw [0, 1] (fun s t wr => ∃ x y : Nat, (x : Int) ≤ 9223372036854775807 ∧ (y : Int) ≤ 9223372036854775807 ∧ s = .int .i64 x ∧ t = .int .i64 y ∧ Nat.gcd x y = Int.gcd a b ∧ ∃ n, wr = w.drewN n)
    (fun _ t _ => (intOf t).toNat)
  case atStart => exact ⟨a.toNat, b.toNat, by omega, by omega, by rw [Int.toNat_of_nonneg ha], by rw [Int.toNat_of_nonneg hb], by simp [Int.gcd]; congr 1 <;> omega, 0, rfl⟩
  case round =>
    obtain ⟨x, y, hx, hy, rfl, rfl, hg, nd, rfl⟩ := hrel
    have HG := Lib.hid hg; clear hg
    by_cases h0 : y = 0
    · subst h0
      go_wp2
      go_ret
      exact ⟨ret_int (by rw [← HG.out, Nat.gcd_zero_right]), nd, rfl⟩
    · have hne : ((y : Int) == 0) = false := by simp; omega
      have hne' : ((y : Int) != 0) = true := by simp; omega
      go_wp2_with (fail)
      go_quiet (fail)
      go_wp2_with (fail)
      go_roundw
      case rel =>
        have h1 : x % y < y := Nat.mod_lt _ (by omega)
        have h2 : ((x % y : Nat) : Int) = (x : Int) % y := Int.natCast_emod x y
        exact ⟨y, x % y, hy, by omega, rfl, by rw [h2], by rw [← HG.out, Nat.gcd_comm y, ← Nat.gcd_rec, Nat.gcd_comm], _, World.drewN_drewN ..⟩
      case measure =>
        have h1 : x % y < y := Nat.mod_lt _ (by omega)
        have h2 : ((x % y : Nat) : Int) = (x : Int) % y := Int.natCast_emod x y
        simp only [intOf]; omega

theorem tdiv_exact (n g : Int) (h : g ∣ n) : n.tdiv g = n / g := Int.tdiv_eq_ediv_of_dvd h

theorem fraction_any (num den : Int) (w : World) (hn : -9223372036854775807 ≤ num) (hn' : num ≤ 9223372036854775807) (hd : 1 ≤ den) (hd' : den ≤ 9223372036854775807) :
    Calls Tryz.prog 109 #[.int .i64 num, .int .i64 den] w fun e w' => e = .returned (.agg #[.int .i64 (num / Int.gcd num den), .int .i64 (den / Int.gcd num den)]) ∧ w.grownBy w' none := by
  obtain ⟨g, hg⟩ : ∃ g : Int, g = Int.gcd num den := ⟨_, rfl⟩
  have hgp : 1 ≤ g := by
    have : 0 < Int.gcd num den := Int.gcd_pos_of_ne_zero_right _ (by omega)
    omega
  have hgn : g ∣ num := by rw [hg]; exact Int.gcd_dvd_left ..
  have hgd : g ∣ den := by rw [hg]; exact Int.gcd_dvd_right ..
  have e1 := tdiv_exact num g hgn
  have e2 := tdiv_exact den g hgd
  obtain ⟨b1, b1'⟩ : num.tdiv g ≤ 9223372036854775807 ∧ -9223372036854775807 ≤ num.tdiv g := by
    have := Int.natAbs_tdiv_le_natAbs num g
    omega
  have hgz : (g == 0) = false := by simp; omega
  have hg2 : (Int.gcd num den : Int) = g := hg.symm
  have hg3 : (Int.gcd (-num) den : Int) = g := by rw [Int.neg_gcd, hg]
  rw [hg2]
  have HG := Lib.hid hg2
  have HG3 := Lib.hid hg3
  have E1 := Lib.hid e1
  have E2 := Lib.hid e2
  clear hg2 hg3 hg e1 e2 hgn hgd
  by_cases h0 : 0 ≤ num
  · go_enter Tryz.func109, Tryz.ntmps109
    go_wp2_with (fail)
    refine (gcd_any _ _ _ (by omega) (by omega) (by omega) (by omega)).mono ?_
    rintro e w' ⟨rfl, nd, rfl⟩
    rw [HG.out]
    go_wp2_with (fail)
    go_region
    go_wp2
    rw [E1.out]
    refine bodyPost_ret (v := .agg #[.int .i64 (num / g), .int .i64 (den / g)]) ?_ rfl ⟨rfl, ?_⟩
    · simp [results, Tryz.results109, go_sem, set_drewN]
    · exact gr_new (gr_new (gr_drewN (gr_alloc (gr_refl _ _) _) _) (by simp) _) (by simp) _
  · have h0' : num < 0 := by omega
    clear h0
    go_enter Tryz.func109, Tryz.ntmps109
    go_wp2_with (fail)
    refine (gcd_any _ _ _ (by omega) (by omega) (by omega) (by omega)).mono ?_
    rintro e w' ⟨rfl, nd, rfl⟩
    rw [HG3.out]
    go_wp2_with (fail)
    go_region
    go_wp2
    rw [E1.out]
    refine bodyPost_ret (v := .agg #[.int .i64 (num / g), .int .i64 (den / g)]) ?_ rfl ⟨rfl, ?_⟩
    · simp [results, Tryz.results109, go_sem, set_drewN]
    · exact gr_new (gr_new (gr_drewN (gr_alloc (gr_refl _ _) _) _) (by simp) _) (by simp) _
end Go.Proofs.YtdminjijhpemkaaGreatDoor
