/- What is wrong with pieces for a coil: the reference. -/
import Derived.Test.YtakabckmiodjaaaPkSAp
import Derived.Deep.DrawnRows
import Derived.IntWalk
import Derived.Deep.QuietTactic
import Derived.BigQuiet
import Derived.Deep.RegionLaw
import Derived.Deep.CutRange
namespace Go.Proofs.Ytakabckmiodjaaa
open Go.RowKit
attribute [local go_sem ↓] Go.wp_at_zero Go.wp_at_succ

theorem unitsL_len (ps : List Piece) (h : ∀ i, i < ps.length → 0 ≤ pcMany ps i) : ((unitsL ps).length : Int) = pcSum ps := by
  have h2 : ∀ x ∈ ps, 0 ≤ x.many := by
    intro x hx
    obtain ⟨i, hi, rfl⟩ := List.getElem_of_mem hx
    have := h i hi
    unfold pcMany at this
    rwa [getD_eq ps i _ hi] at this
  clear h
  induction ps with
  | nil => rfl
  | cons x ps ih =>
    have := ih (fun y hy => h2 y (by simp [hy]))
    have hx := h2 x (by simp)
    unfold unitsL pcSum at *
    simp only [List.flatMap_cons, List.length_append, List.length_replicate, List.map_cons, List.sum_cons]
    omega
/-- A piece fits: its lot is known, of the coil's product, and it has a right number. -/
structure PcFit (P : ByteArray) (xs : List Lot) (k : ByteArray) (m : Int) : Prop where
  has : lotHas xs k = true
  prod : ((lotGet xs k).prod.toList == P.toList) = true
  lo : 1 ≤ m
  hi : m ≤ 1000
structure PushOk (c : Coil) (xs : List Lot) (p : List Piece) : Prop where
  coil : CoilOk c
  fit : ∀ i, i < p.length → PcFit c.prod xs (pcLot p i) (pcMany p i)
  sum : pcSum c.ps + pcSum p ≤ c.most
def PushChk (c : Coil) (xs : List Lot) (p : List Piece) (w : World) (e : Ending) (w' : World) : Prop := ∃ r : Int, e = .returned (.int .i64 r) ∧ (r = 0 ↔ PushOk c xs p) ∧ w.grownBy w' none
theorem push_no {c : Coil} {xs : List Lot} {p : List Piece} {w w' : World} (r : Int) (hr : r ≠ 0) (h : ¬ PushOk c xs p) (g : w.grownBy w' none) : PushChk c xs p w (.returned (.int .i64 r)) w' := ⟨r, rfl, ⟨fun e => absurd e hr, fun e => absurd e h⟩, g⟩
structure PcsSm (ps : List Piece) : Prop where
  len : ps.length ≤ 1000
  all : ∀ x ∈ ps, x.lot.size ≤ 1000 ∧ -100000 ≤ x.many ∧ x.many ≤ 100000
end Go.Proofs.Ytakabckmiodjaaa

/-! Pieces and their units: joined, sold. No program in sight. -/
namespace Go.Proofs.Ytakabckmiodjaaa
open Go.RowKit

theorem bytes_of {a b : ByteArray} (h : a.toList = b.toList) : a = b := by
  rw [ByteArray.toList_eq, ByteArray.toList_eq] at h
  cases a; cases b
  simp at h
  rw [h]
theorem unitsL_app (a b : List Piece) : unitsL (a ++ b) = unitsL a ++ unitsL b := by simp [unitsL]
theorem unitsL_cons (x : Piece) (a : List Piece) : unitsL (x :: a) = List.replicate x.many.toNat x.lot ++ unitsL a := by simp [unitsL]
theorem pcSum_app (a b : List Piece) : pcSum (a ++ b) = pcSum a + pcSum b := by simp [pcSum]
theorem pcSum_cons (x : Piece) (a : List Piece) : pcSum (x :: a) = x.many + pcSum a := by simp [pcSum]
/-- The last piece apart. -/
theorem pc_last {out : List Piece} (h : 0 < out.length) : ∃ D y, out = D ++ [y] ∧ pcLot out (out.length - 1) = y.lot ∧ pcMany out (out.length - 1) = y.many ∧ ∀ x, out.set (out.length - 1) x = D ++ [x] := by
  have hne : out ≠ [] := by intro e; subst e; simp at h
  refine ⟨out.dropLast, out.getLast hne, (List.dropLast_concat_getLast hne).symm, ?_, ?_, ?_⟩
  · unfold pcLot; rw [getD_eq _ _ _ (by omega), List.getLast_eq_getElem]
  · unfold pcMany; rw [getD_eq _ _ _ (by omega), List.getLast_eq_getElem]
  · intro x
    obtain ⟨D, y, e⟩ : ∃ D y, out = D ++ [y] := ⟨_, _, (List.dropLast_concat_getLast hne).symm⟩
    subst e
    simp
/-- Pieces as joining leaves them: of more than nothing, no two of one lot beside each other. -/
structure PcsIn (ps : List Piece) : Prop where
  lo : ∀ x ∈ ps, 1 ≤ x.many
  ne : ∀ i, 0 < i → i < ps.length → (pcLot ps i).toList ≠ (pcLot ps (i - 1)).toList
theorem pcLot_app_left (a b : List Piece) (i : Nat) (h : i < a.length) : pcLot (a ++ b) i = pcLot a i := by
  unfold pcLot; rw [getD_eq _ _ _ (by simp; omega), getD_eq _ _ _ h, List.getElem_append_left h]
theorem pcMany_app_left (a b : List Piece) (i : Nat) (h : i < a.length) : pcMany (a ++ b) i = pcMany a i := by
  unfold pcMany; rw [getD_eq _ _ _ (by simp; omega), getD_eq _ _ _ h, List.getElem_append_left h]
theorem pcLot_app_right (a b : List Piece) (i : Nat) (h : i < b.length) : pcLot (a ++ b) (a.length + i) = pcLot b i := by
  unfold pcLot; rw [getD_eq _ _ _ (by simp; omega), getD_eq _ _ _ h, List.getElem_append_right (by omega)]; simp
theorem pcMany_app_right (a b : List Piece) (i : Nat) (h : i < b.length) : pcMany (a ++ b) (a.length + i) = pcMany b i := by
  unfold pcMany; rw [getD_eq _ _ _ (by simp; omega), getD_eq _ _ _ h, List.getElem_append_right (by omega)]; simp
theorem pcLot_snoc (a : List Piece) (y : Piece) : pcLot (a ++ [y]) a.length = y.lot := by
  have := pcLot_app_right a [y] 0 (by simp); exact this
theorem joinStep_law {out : List Piece} {k : ByteArray} {m : Int} (h : PcsIn out) (hm : 1 ≤ m) :
    PcsIn (joinStep out k m) ∧ unitsL (joinStep out k m) = unitsL out ++ List.replicate m.toNat k ∧ pcSum (joinStep out k m) = pcSum out + m ∧ ∀ x ∈ joinStep out k m, (∃ y ∈ out, x.lot = y.lot) ∨ x.lot = k := by
  unfold joinStep
  split
  · rename_i hl
    unfold lastIs at hl
    simp only [Bool.and_eq_true, decide_eq_true_eq] at hl
    obtain ⟨h0, h1⟩ := hl
    have h1 := bytes_of (by simpa using h1)
    obtain ⟨D, y, rfl, e1, e2, e3⟩ := pc_last h0
    rw [e1] at h1
    rw [e1, e2, e3]
    subst h1
    have hy := h.lo y (by simp)
    refine ⟨⟨?_, ?_⟩, ?_, ?_, ?_⟩
    · intro x hx
      rw [List.mem_append] at hx
      rcases hx with hx | hx
      · exact h.lo x (by simp [hx])
      · simp at hx; subst hx; simp only; omega
    · intro i h0 hi
      have := h.ne i h0 (by simpa using hi)
      simp only [List.length_append, List.length_cons, List.length_nil] at hi
      by_cases hil : i < D.length
      · rw [pcLot_app_left _ _ _ hil, pcLot_app_left _ _ _ (by omega)] at this ⊢; exact this
      · obtain rfl : i = D.length := by omega
        rw [pcLot_snoc, pcLot_app_left _ _ _ (by omega)] at this ⊢; exact this
    · rw [unitsL_app, unitsL_app, List.append_assoc]
      congr 1
      simp only [unitsL, List.flatMap_cons, List.flatMap_nil, List.append_nil]
      rw [show (y.many + m).toNat = y.many.toNat + m.toNat by omega, ← List.replicate_append_replicate]
    · rw [pcSum_app, pcSum_app]
      simp only [pcSum_cons]
      simp [pcSum]; omega
    · intro x hx
      rw [List.mem_append] at hx
      rcases hx with hx | hx
      · exact .inl ⟨x, by simp [hx], rfl⟩
      · simp at hx; subst hx; exact .inr rfl
  · rename_i hl
    refine ⟨⟨?_, ?_⟩, ?_, ?_, ?_⟩
    · intro x hx
      rw [List.mem_append] at hx
      rcases hx with hx | hx
      · exact h.lo x hx
      · simp at hx; subst hx; exact hm
    · intro i h0 hi
      simp only [List.length_append, List.length_cons, List.length_nil] at hi
      by_cases hil : i < out.length
      · rw [pcLot_app_left _ _ _ hil, pcLot_app_left _ _ _ (by omega)]; exact h.ne i h0 hil
      · obtain rfl : i = out.length := by omega
        rw [pcLot_snoc, pcLot_app_left _ _ _ (by omega)]
        simp only
        intro e
        apply hl
        unfold lastIs
        simp [h0, e]
    · rw [unitsL_app]; simp [unitsL]
    · rw [pcSum_app]; simp [pcSum]
    · intro x hx
      rw [List.mem_append] at hx
      rcases hx with hx | hx
      · exact .inl ⟨x, hx, rfl⟩
      · simp at hx; subst hx; exact .inr rfl
theorem joinL_law (l : List Piece) (h : ∀ x ∈ l, 1 ≤ x.many) : PcsIn (joinL l) ∧ unitsL (joinL l) = unitsL l ∧ pcSum (joinL l) = pcSum l ∧ ∀ x ∈ joinL l, ∃ y ∈ l, x.lot = y.lot := by
  have key : ∀ k, k ≤ l.length → PcsIn (joinTo l k) ∧ unitsL (joinTo l k) = unitsL (l.take k) ∧ pcSum (joinTo l k) = pcSum (l.take k) ∧ ∀ x ∈ joinTo l k, ∃ y ∈ l, x.lot = y.lot := by
    intro k
    induction k with
    | zero =>
      intro _
      refine ⟨⟨fun x hx => by simp [joinTo] at hx, fun i _ hi => by simp [joinTo] at hi⟩, rfl, rfl, fun x hx => by simp [joinTo] at hx⟩
    | succ k ih =>
      intro hk
      obtain ⟨h1, h2, h3, h4⟩ := ih (by omega)
      have hm := pc_mem (P := fun x => 1 ≤ x.many) h k (by omega)
      simp only at hm
      obtain ⟨j1, j2, j3, j4⟩ := joinStep_law (k := pcLot l k) (m := pcMany l k) h1 hm
      have ht : l.take (k + 1) = l.take k ++ [l[k]] := take_next l k (by omega)
      have hg : l[k] = ⟨pcLot l k, pcMany l k⟩ := pc_get l k (by omega)
      refine ⟨j1, ?_, ?_, ?_⟩
      · show unitsL (joinStep _ _ _) = _
        rw [j2, h2, ht, unitsL_app, hg]
        simp [unitsL]
      · show pcSum (joinStep _ _ _) = _
        rw [j3, h3, ht, pcSum_app, hg]
        simp [pcSum]
      · intro x hx
        rcases j4 x hx with ⟨y, hy, e⟩ | e
        · obtain ⟨z, hz, e2⟩ := h4 y hy
          exact ⟨z, hz, e.trans e2⟩
        · exact ⟨l[k], List.getElem_mem _, by rw [e, hg]⟩
  obtain ⟨h1, h2, h3, h4⟩ := key l.length (Nat.le_refl _)
  rw [List.take_length] at h2 h3
  exact ⟨h1, h2, h3, h4⟩
/-! Selling from the front: what comes out, and what is left. -/
def sellL : List Piece → Int → List Piece × List Piece
  | [], _ => ([], [])
  | p :: ps, n => if n ≤ 0 then ([], p :: ps) else if n < p.many then ([⟨p.lot, n⟩], ⟨p.lot, p.many - n⟩ :: ps) else (⟨p.lot, p.many⟩ :: (sellL ps (n - p.many)).1, (sellL ps (n - p.many)).2)
theorem sellL_law (ps : List Piece) (n : Int) (h0 : 0 ≤ n) (hs : n ≤ pcSum ps) (hlo : ∀ x ∈ ps, 1 ≤ x.many) :
    unitsL ps = unitsL (sellL ps n).1 ++ unitsL (sellL ps n).2 ∧ pcSum (sellL ps n).2 = pcSum ps - n ∧ (∀ x ∈ (sellL ps n).2, 1 ≤ x.many) ∧ (∃ d, ((sellL ps n).2).map Piece.lot = (ps.map Piece.lot).drop d) := by
  induction ps generalizing n with
  | nil =>
    simp only [sellL, pcSum, List.map_nil, List.sum_nil] at *
    exact ⟨rfl, by omega, fun x hx => by simp at hx, 0, rfl⟩
  | cons p ps ih =>
    have hp := hlo p (by simp)
    have hps : ∀ x ∈ ps, 1 ≤ x.many := fun x hx => hlo x (by simp [hx])
    rw [pcSum_cons] at hs
    simp only [sellL]
    by_cases h1 : n ≤ 0
    · rw [if_pos h1]
      refine ⟨by simp [unitsL], by simp only; omega, hlo, 0, rfl⟩
    · rw [if_neg h1]
      by_cases h2 : n < p.many
      · rw [if_pos h2]
        refine ⟨?_, ?_, ?_, 0, rfl⟩
        · simp only [unitsL_cons]
          rw [← List.append_assoc]
          congr 1
          simp only [unitsL, List.flatMap_nil, List.append_nil]
          rw [List.replicate_append_replicate]
          congr 1
          omega
        · simp only [pcSum_cons]; omega
        · intro x hx
          rcases List.mem_cons.1 hx with rfl | hx
          · simp only; omega
          · exact hps x hx
      · rw [if_neg h2]
        obtain ⟨i1, i2, i3, d, i4⟩ := ih (n - p.many) (by omega) (by omega) hps
        refine ⟨?_, ?_, i3, d + 1, ?_⟩
        · simp only [unitsL_cons]
          rw [i1, List.append_assoc]
        · simp only [pcSum_cons]; rw [i2]; omega
        · simp only [List.map_cons, List.drop_succ_cons]; exact i4
theorem sellL_zero (ps : List Piece) (n : Int) (h : n ≤ 0) : sellL ps n = ([], ps) := by
  cases ps with
  | nil => rfl
  | cons p ps => simp only [sellL]; rw [if_pos h]
end Go.Proofs.Ytakabckmiodjaaa
