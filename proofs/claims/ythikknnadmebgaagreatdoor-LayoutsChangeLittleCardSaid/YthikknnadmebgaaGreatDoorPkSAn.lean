/- Sums of ints: the packages' own. -/
import Derived.Test.YthikknnadmebgaaGreatDoorPkSAc
import Derived.Test.YthikknnadmebgaaGreatDoorPkSAl
namespace Go.Proofs.YthikknnadmebgaaGreatDoor
open Go.RowKit

set_option maxRecDepth 100000 in
theorem refSum_any (xs : List Int) (a : Option Addr) (c : Nat) (w : World) (hc : CellsAt w a (ints xs)) (hl : xs.length ≤ 1000000) (hb : ∀ x ∈ xs, -1000000000000 ≤ x ∧ x ≤ 1000000000000) :
    Calls Tryz.prog 65 #[.slice a xs.length c] w fun e w' => e = .returned (.int .i64 xs.sum) ∧ w.grownBy w' none := by
  have HB := Lib.hid (sum_bound xs (-1000000000000) 1000000000000 (by omega) (by omega) hb); clear hb
  go_enter Tryz.func65, Tryz.ntmps65
  go_wp2_with (fail)
  go_loopw [3, 8] (fun s i wr => ∃ k : Nat, k ≤ xs.length ∧ i = .int .i64 k ∧ s = .int .i64 (xs.take k).sum ∧ w.grownBy wr none) (fun _ i _ => xs.length - (intOf i).toNat)
  case atStart => exact ⟨0, Nat.zero_le _, rfl, rfl, gr_refl _ _⟩
  case round =>
    obtain ⟨k, hk, rfl, rfl, hgr⟩ := hrel
    obtain ⟨wo, rfl⟩ : ∃ wo : World, wo = wr := ⟨_, rfl⟩
    by_cases hlt : k < xs.length
    · obtain ⟨b, off, rfl, d0⟩ := (hc.keep0 hgr) k _ (ints_get xs k hlt)
      obtain ⟨b0, b1⟩ := HB.out k
      obtain ⟨b2, b3⟩ := HB.out (k + 1)
      have hnx := sum_next xs k hlt
      obtain ⟨x, hx⟩ : ∃ x, x = xs.getD k 0 := ⟨_, rfl⟩
      obtain ⟨s, hs⟩ : ∃ s, s = (xs.take k).sum := ⟨_, rfl⟩
      rw [← hx] at d0 hnx
      rw [← hs] at hnx b0 b1
      rw [← hs]
      rw [hnx] at b2 b3
      have HNX := Lib.hid hnx; clear hnx
      have HX := Lib.hid hx; clear hx
      have HS := Lib.hid hs; clear hs
      go_wp2_with (fail)
      go_roundw
      case rel => exact ⟨k + 1, by omega, by go_num, by rw [HNX.out], hgr⟩
      case measure => simp [intOf]; omega
    · have hkl : k = xs.length := by omega
      have hfin : Hid ((xs.take k).sum = xs.sum) := by show _ = _; rw [hkl, List.take_length]
      have HK := Lib.hid hkl; clear hkl
      go_wp2_with (fail)
      go_ret
      exact ⟨ret_int hfin.out, hgr⟩
end Go.Proofs.YthikknnadmebgaaGreatDoor

/-! Tables of shares: what is wrong with one, by package and by document. -/
namespace Go.Proofs.YthikknnadmebgaaGreatDoor
open Go.RowKit

/-- Rows of ints behind a slice of slices. -/
def RowsAt (w : World) (a : Option Addr) (T : List (List Int)) : Prop :=
  ∀ i, i < T.length → ∃ b off ra rc, a = some ⟨b, off, none⟩ ∧ w.cell? ⟨b, off + i, none⟩ = some (.slice ra (T.getD i []).length rc) ∧ CellsAt w ra (ints (T.getD i []))
theorem RowsAt.keep0 {w w1 : World} {a : Option Addr} {T : List (List Int)} (h : RowsAt w a T) (g : w.grownBy w1 none) : RowsAt w1 a T := by
  intro i hi
  obtain ⟨b, off, ra, rc, e, c, r⟩ := h i hi
  exact ⟨b, off, ra, rc, e, by rw [gr_cell g (lt_of_cell c)]; exact c, r.keep0 g⟩
/-- The first of some codes that is not 0. -/
def firstCode (f : Nat → Int) : Nat → Int
  | 0 => 0
  | n + 1 => if firstCode f n = 0 then f n else firstCode f n
theorem firstCode_none (f : Nat → Int) (n : Nat) (h : ∀ j, j < n → f j = 0) : firstCode f n = 0 := by
  induction n with
  | zero => rfl
  | succ n ih => rw [firstCode, if_pos (ih fun j hj => h j (by omega))]; exact h n (by omega)
theorem firstCode_at (f : Nat → Int) (n k : Nat) (hk : k < n) (h : ∀ j, j < k → f j = 0) (hf : f k ≠ 0) : firstCode f n = f k := by
  induction n with
  | zero => omega
  | succ n ih =>
    rw [firstCode]
    by_cases e : k = n
    · subst e; rw [if_pos (firstCode_none f k h)]
    · rw [ih (by omega), if_neg hf]
theorem firstCode_zero (f : Nat → Int) (n : Nat) (h : firstCode f n = 0) (j : Nat) (hj : j < n) : f j = 0 := by
  induction n with
  | zero => omega
  | succ n ih =>
    rw [firstCode] at h
    by_cases e : firstCode f n = 0
    · rw [if_pos e] at h
      by_cases e2 : j = n
      · rw [e2]; exact h
      · exact ih e (by omega)
    · rw [if_neg e] at h; exact absurd h e
def odd100 (x : Int) : Bool := decide (x < 0) || decide (100 < x)
def rowCode (n i : Nat) (r : List Int) : Int := if r.length ≠ n then 3 else if r.any odd100 = true ∨ r.getD i 0 ≠ 0 ∨ 100 < r.sum then 1 else 0
def tableCode (T : List (List Int)) : Int := if T.length = 0 then 8 else if 30 < T.length then 2 else firstCode (fun i => rowCode T.length i (T.getD i [])) T.length

/-! demand.Instead: what holds between sold, left and lost; no program in sight. -/

theorem sum_set (l : List Int) (j : Nat) (x : Int) (h : j < l.length) : (l.set j x).sum = l.sum - l.getD j 0 + x := by
  induction l generalizing j with
  | nil => simp at h
  | cons a l ih =>
    cases j with
    | zero => simp; omega
    | succ j => simp only [List.set_cons_succ, List.sum_cons, List.getD_cons_succ]; rw [ih j (by simpa using h)]; omega
theorem getD_set (l : List Int) (j q : Nat) (x : Int) (h : j < l.length) : (l.set j x).getD q 0 = if q = j then x else l.getD q 0 := by
  rw [List.getD_eq_getElem?_getD, List.getElem?_set]
  by_cases e : j = q
  · subst e; simp [h]
  · rw [if_neg e, if_neg (by omega), ← List.getD_eq_getElem?_getD]

/-- A right table: the rows' shares. -/
theorem tableCode_ok (T : List (List Int)) (h : tableCode T = 0) : 1 ≤ T.length ∧ T.length ≤ 30 ∧ ∀ i, i < T.length → (T.getD i []).length = T.length ∧ (∀ x ∈ T.getD i [], 0 ≤ x ∧ x ≤ 100) ∧ (T.getD i []).sum ≤ 100 := by
  unfold tableCode at h
  split at h
  · omega
  split at h
  · omega
  refine ⟨by omega, by omega, fun i hi => ?_⟩
  have h1 : rowCode T.length i (T.getD i []) = 0 := firstCode_zero _ _ h i hi
  generalize T.getD i [] = r at h1
  unfold rowCode at h1
  split at h1
  · omega
  split at h1
  · omega
  · rename_i e1 e2
    refine ⟨by simpa using e1, ?_, by omega⟩
    intro x hx
    have h2 : ¬ (r.any odd100 = true) := fun e => e2 (.inl e)
    rw [List.any_eq_true] at h2
    have h3 : ¬ odd100 x = true := fun e => h2 ⟨x, hx, e⟩
    simp [odd100] at h3
    omega
def oddM (x : Int) : Bool := decide (x < 0) || decide (1000000 < x)
def insteadCode (T : List (List Int)) (W S : List Int) : Int :=
  if tableCode T ≠ 0 then tableCode T else if W.length ≠ T.length ∨ S.length ≠ T.length then 3 else if (W ++ S).any oddM = true then 1 else 0
theorem insteadCode_ok (T : List (List Int)) (W S : List Int) (h : insteadCode T W S = 0) : tableCode T = 0 ∧ W.length = T.length ∧ S.length = T.length ∧ (∀ i, i < T.length → 0 ≤ W.getD i 0 ∧ W.getD i 0 ≤ 1000000) ∧ (∀ i, i < T.length → 0 ≤ S.getD i 0 ∧ S.getD i 0 ≤ 1000000) := by
  unfold insteadCode at h
  split at h
  · omega
  split at h
  · omega
  split at h
  · omega
  rename_i e1 e2 e3
  have e2' : W.length = T.length ∧ S.length = T.length := by omega
  have hb : ∀ x, x ∈ W ++ S → 0 ≤ x ∧ x ≤ 1000000 := by
    intro x hx
    rw [List.any_eq_true] at e3
    have h3 : ¬ oddM x = true := fun e => e3 ⟨x, hx, e⟩
    simp [oddM] at h3
    omega
  refine ⟨by omega, e2'.1, e2'.2, fun i hi => ?_, fun i hi => ?_⟩
  · refine hb _ (List.mem_append_left _ ?_)
    rw [List.getD_eq_getElem?_getD, List.getElem?_eq_getElem (by omega)]
    exact List.getElem_mem _
  · refine hb _ (List.mem_append_right _ ?_)
    rw [List.getD_eq_getElem?_getD, List.getElem?_eq_getElem (by omega)]
    exact List.getElem_mem _
/-- What holds between sold, left and lost. -/
structure InsInv (n : Nat) (W S A L B : List Int) : Prop where
  la : A.length = n
  ll : L.length = n
  lb : B.length = n
  al : ∀ q, q < n → A.getD q 0 + L.getD q 0 = S.getD q 0
  l0 : ∀ q, q < n → 0 ≤ L.getD q 0
  am : ∀ q, q < n → min (W.getD q 0) (S.getD q 0) ≤ A.getD q 0
  b0 : ∀ q, q < n → 0 ≤ B.getD q 0
  bw : ∀ q, q < n → B.getD q 0 ≤ W.getD q 0
  sm : A.sum + B.sum = W.sum
/-- Loop 1: rows below i are done. -/
structure InsOne (n i : Nat) (W S A L B : List Int) : Prop where
  la : A.length = n
  ll : L.length = n
  lb : B.length = n
  dn : ∀ q, q < n → q < i → A.getD q 0 = min (W.getD q 0) (S.getD q 0) ∧ L.getD q 0 = S.getD q 0 - A.getD q 0 ∧ B.getD q 0 = W.getD q 0 - A.getD q 0
  td : ∀ q, q < n → i ≤ q → A.getD q 0 = 0 ∧ L.getD q 0 = S.getD q 0 ∧ B.getD q 0 = 0
  sm : A.sum + B.sum = (W.take i).sum
theorem repl_getD (n q : Nat) : (List.replicate n (0 : Int)).getD q 0 = 0 := by
  rw [List.getD_eq_getElem?_getD, List.getElem?_replicate]; split <;> rfl
theorem repl_sum (n : Nat) : (List.replicate n (0 : Int)).sum = 0 := by
  induction n with
  | zero => rfl
  | succ n ih => simp [List.replicate_succ, ih]
theorem InsOne.start (n : Nat) (W S : List Int) (hs : S.length = n) : InsOne n 0 W S (List.replicate n 0) S (List.replicate n 0) :=
  ⟨by simp, hs, by simp, fun q _ h => absurd h (Nat.not_lt_zero _), fun q _ _ => ⟨repl_getD _ _, rfl, repl_getD _ _⟩, by rw [repl_sum]; rfl⟩
theorem InsOne.next {n i : Nat} {W S A L B : List Int} (h : InsOne n i W S A L B) (hi : i < n) (hw : W.length = n) (k : Int) (hk : k = min (W.getD i 0) (S.getD i 0)) :
    InsOne n (i + 1) W S (A.set i k) (L.set i (S.getD i 0 - k)) (B.set i (W.getD i 0 - k)) := by
  have hla := h.la
  have hll := h.ll
  have hlb := h.lb
  refine ⟨by simpa using h.la, by simpa using h.ll, by simpa using h.lb, ?_, ?_, ?_⟩
  · intro q hq hqi
    rw [getD_set _ _ _ _ (by omega), getD_set _ _ _ _ (by omega), getD_set _ _ _ _ (by omega)]
    by_cases e : q = i
    · subst e; rw [if_pos rfl, if_pos rfl, if_pos rfl]; exact ⟨hk, rfl, rfl⟩
    · simp only [if_neg e]; exact h.dn q hq (by omega)
  · intro q hq hqi
    have e : ¬ q = i := by omega
    rw [getD_set _ _ _ _ (by omega), getD_set _ _ _ _ (by omega), getD_set _ _ _ _ (by omega)]
    simp only [if_neg e]; exact h.td q hq (by omega)
  · rw [sum_set _ _ _ (by omega), sum_set _ _ _ (by omega), sum_next W i (by omega), ← h.sm]
    have := h.td i hi (Nat.le_refl _)
    omega
theorem InsOne.done {n : Nat} {W S A L B : List Int} (h : InsOne n n W S A L B) (hw : W.length = n) (hw0 : ∀ q, q < n → 0 ≤ W.getD q 0) (hs0 : ∀ q, q < n → 0 ≤ S.getD q 0) : InsInv n W S A L B := by
  refine ⟨h.la, h.ll, h.lb, fun q hq => ?_, fun q hq => ?_, fun q hq => ?_, fun q hq => ?_, fun q hq => ?_, ?_⟩
  · have := h.dn q hq hq; omega
  · have := h.dn q hq hq; have := hs0 q hq; omega
  · have := h.dn q hq hq; omega
  · have := h.dn q hq hq; omega
  · have := h.dn q hq hq; have := hs0 q hq; have := hw0 q hq; omega
  · have := h.sm
    rw [List.take_of_length_le (by omega)] at this
    exact this
/-- What the row i still wants: at least its part of what is not shared yet. -/
def InsRow (i j : Nat) (many : Int) (R B : List Int) : Prop := 100 * many - many * (R.take j).sum ≤ 100 * B.getD i 0
theorem InsInv.next {n i j : Nat} {W S A L B R : List Int} {many k : Int} (h : InsInv n W S A L B) (hi : i < n) (hj : j < n) (hr : R.length = n) (hR : ∀ x ∈ R, 0 ≤ x ∧ x ≤ 100) (hRs : R.sum ≤ 100) (hm : 0 ≤ many)
    (hk : k = min (many * R.getD j 0 / 100) (L.getD j 0)) (hrow : InsRow i j many R B) :
    InsInv n W S (A.set j (A.getD j 0 + k)) (L.set j (L.getD j 0 - k)) (B.set i (B.getD i 0 - k)) ∧ InsRow i (j + 1) many R (B.set i (B.getD i 0 - k)) ∧ 0 ≤ k := by
  have hla := h.la
  have hll := h.ll
  have hlb := h.lb
  have hRj : 0 ≤ R.getD j 0 ∧ R.getD j 0 ≤ 100 := by
    have : R.getD j 0 ∈ R := by rw [List.getD_eq_getElem?_getD, List.getElem?_eq_getElem (by omega)]; exact List.getElem_mem _
    exact hR _ this
  have hp : 0 ≤ many * R.getD j 0 := Int.mul_nonneg hm hRj.1
  have hd : 0 ≤ many * R.getD j 0 / 100 := Int.ediv_nonneg hp (by omega)
  have hd2 : 100 * (many * R.getD j 0 / 100) ≤ many * R.getD j 0 := by omega
  have hl0 := h.l0 j hj
  have hk0 : 0 ≤ k := by omega
  have hk1 : 100 * k ≤ many * R.getD j 0 := by omega
  have hkl : k ≤ L.getD j 0 := by omega
  have hsn := sum_next R j (by omega)
  have hrow' : 100 * many - many * (R.take (j + 1)).sum ≤ 100 * (B.getD i 0 - k) := by
    unfold InsRow at hrow
    rw [hsn, Int.mul_add]
    omega
  have hle : (R.take (j + 1)).sum ≤ 100 := by
    have h1 : R.sum = (R.take (j + 1)).sum + (R.drop (j + 1)).sum := by rw [← List.sum_append, List.take_append_drop]
    have h2 : 0 ≤ (R.drop (j + 1)).sum := by
      have : ∀ l : List Int, (∀ x ∈ l, 0 ≤ x) → 0 ≤ l.sum := by
        intro l hl
        induction l with
        | nil => simp
        | cons a l ih =>
          have h1 := hl a (by simp)
          have h2 := ih (fun x hx => hl x (by simp [hx]))
          simp only [List.sum_cons]
          omega
      exact this _ (fun x hx => (hR x (List.mem_of_mem_drop hx)).1)
    omega
  have hB0 : 0 ≤ B.getD i 0 - k := by
    have : many * (R.take (j + 1)).sum ≤ many * 100 := Int.mul_le_mul_of_nonneg_left hle hm
    omega
  refine ⟨⟨by simpa using hla, by simpa using hll, by simpa using hlb, fun q hq => ?_, fun q hq => ?_, fun q hq => ?_, fun q hq => ?_, fun q hq => ?_, ?_⟩, ?_, hk0⟩
  · rw [getD_set _ _ _ _ (by omega), getD_set _ _ _ _ (by omega)]
    have := h.al q hq
    split
    · rename_i e; subst e; omega
    · exact this
  · rw [getD_set _ _ _ _ (by omega)]
    have := h.l0 q hq
    split <;> omega
  · rw [getD_set _ _ _ _ (by omega)]
    have := h.am q hq
    split
    · rename_i e; subst e; omega
    · exact this
  · rw [getD_set _ _ _ _ (by omega)]
    have := h.b0 q hq
    split <;> omega
  · rw [getD_set _ _ _ _ (by omega)]
    have := h.bw q hq
    split
    · rename_i e; subst e; omega
    · exact this
  · rw [sum_set _ _ _ (by omega), sum_set _ _ _ (by omega)]
    have := h.sm
    omega
  · unfold InsRow
    rw [getD_set _ _ _ _ (by omega), if_pos rfl]
    exact hrow'
end Go.Proofs.YthikknnadmebgaaGreatDoor

/-! slices.Equal of ints, EqualFunc of rows with the same contents. -/
namespace Go.Proofs.YthikknnadmebgaaGreatDoor
open Go.RowKit

set_option maxRecDepth 100000 in
theorem equal_int (xs : List Int) (a b : Option Addr) (c d : Nat) (w : World) (ha : CellsAt w a (ints xs)) (hb : CellsAt w b (ints xs)) (hl : xs.length ≤ 1000000) :
    Calls Tryz.prog 32 #[.slice a xs.length c, .slice b xs.length d] w fun e w' => e = .returned (.bool true) ∧ w.grownBy w' none := by
  go_enter Tryz.func32, Tryz.ntmps32
  go_wp2_with (fail)
  go_loopw [13] (fun i wr => ∃ k : Nat, k ≤ xs.length ∧ i = .int .i64 k ∧ w.grownBy wr none) (fun i _ => xs.length - (intOf i).toNat)
  case atStart => exact ⟨0, Nat.zero_le _, rfl, gr_refl _ _⟩
  case round =>
    obtain ⟨k, hk, rfl, hgr⟩ := hrel
    obtain ⟨wo, rfl⟩ : ∃ wo : World, wo = wr := ⟨_, rfl⟩
    by_cases hlt : k < xs.length
    · obtain ⟨b1, o1, rfl, c1⟩ := (ha.keep0 hgr) k _ (ints_get xs k hlt)
      obtain ⟨b2, o2, rfl, c2⟩ := (hb.keep0 hgr) k _ (ints_get xs k hlt)
      obtain ⟨x, hx⟩ : ∃ x, x = xs.getD k 0 := ⟨_, rfl⟩
      rw [← hx] at c1 c2
      clear hx
      go_wp2_with (fail)
      go_region
      all_goals (go_wp2_with (fail))
      all_goals go_roundw
      case rel => exact ⟨k + 1, by omega, by go_num, gr_drew hgr⟩
      case measure => simp [intOf]; omega
    · go_wp2_with (fail)
      go_ret
      exact ⟨rfl, hgr⟩

end Go.Proofs.YthikknnadmebgaaGreatDoor
