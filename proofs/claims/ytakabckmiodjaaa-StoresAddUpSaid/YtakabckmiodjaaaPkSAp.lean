/- Where a lot is: in stock, and in the reference. -/
import Derived.Test.YtakabckmiodjaaaPkSAl
import Derived.WalkLawsBesides
import Derived.Test.YtakabckmiodjaaaPkSAa
import Derived.IntWalk
namespace Go.Proofs.Ytakabckmiodjaaa
open Go.RowKit

def idIs (k : ByteArray) (x : Lot) : Bool := x.id.toList == k.toList
def lotIx (xs : List Lot) (k : ByteArray) : Int := findA (idIs k) xs
theorem lot1_fn : ∀ (args : Array Value) (w : World), (callFunc 117 args).run Try.prog w = .ok (.enter 117 args) w := fun _ _ => by kernel_rfl
set_option maxRecDepth 100000 in
theorem lot1_any (t : Lot) (x : ByteArray) (q : Nat) (w : World) (hq : w.cell? ⟨q, 0, none⟩ = some (.string x)) :
    Calls Try.prog 117 #[.agg #[.string t.id, .string t.prod, .int .i64 t.exp, .int .i64 t.many], .pointer (some ⟨q, 0, none⟩)] w fun e w' => e = .returned (.bool (idIs x t)) ∧ w.grownBy w' none := by
  have hqlt := lt_of_cell hq
  go_enter Try.func117, Try.ntmps117
  go_wp2_with (fail)
  go_ret
  exact ⟨rfl, gr_alloc (gr_refl w none) _⟩
set_option maxRecDepth 100000 in
theorem lot_any (key : ByteArray) (xs : List Lot) (a : Option Addr) (c : Nat) (w : World) (h : CellsAt w a (flat encLot xs)) (hl : xs.length ≤ 100000) :
    Calls Try.prog 82 #[.slice a xs.length c, .string key] w fun e w' => e = .returned (.int .i64 (lotIx xs key)) ∧ w.grownBy w' none := by
  have H := Lib.hid h
  clear h
  go_enter Try.func82, Try.ntmps82
  go_wp2_with (fail)
  have hg1 := gr_alloc (gr_refl w none) (.cells #[.string key] 9)
  refine (indexFunc_Lot _ ⟨w.heap.size, 0, none⟩ (idIs key) xs a c _ (H.out.keep0 hg1) (by omega) lot1_fn ?_).mono ?_
  · intro t _ w1 hg
    exact lot1_any t key w.heap.size w1 ((gr_cell hg (by simp)).trans (by rw [World.cell?_alloc_at _ _ _ _ rfl]; rfl))
  rintro e w2 ⟨rfl, hg2⟩
  go_wp2_with (fail)
  go_ret
  exact ⟨rfl, gr_trans hg1 hg2⟩
/-- The lot that is found, or an empty one. -/
def lotGet (xs : List Lot) (k : ByteArray) : Lot := (xs.find? (idIs k)).getD ⟨⟨#[]⟩, ⟨#[]⟩, 0, 0⟩
def lotHas (xs : List Lot) (k : ByteArray) : Bool := xs.any (idIs k)
theorem find_at {α : Type} {P : α → Bool} {xs : List α} {k : Nat} (hk : k < xs.length) (hp : P xs[k] = true) (hno : ∀ j (hj : j < xs.length), j < k → P xs[j] = false) : xs.find? P = some xs[k] := by
  induction xs generalizing k with
  | nil => cases hk
  | cons x xs ih =>
    cases k with
    | zero => simp only [List.getElem_cons_zero] at hp ⊢; rw [List.find?_cons, hp]
    | succ k =>
      have h0 := hno 0 (by simp) (by omega)
      simp only [List.getElem_cons_zero] at h0
      rw [List.find?_cons, h0]
      exact ih (by simpa using hk) hp (fun j hj h => by have := hno (j + 1) (by simpa using hj) (by omega); simpa using this)
theorem find_not {α : Type} {P : α → Bool} {xs : List α} (hno : ∀ j (hj : j < xs.length), P xs[j] = false) : xs.find? P = none := by
  rw [List.find?_eq_none]
  intro x hx
  obtain ⟨j, hj, rfl⟩ := List.getElem_of_mem hx
  simp [hno j hj]
theorem lotHas_get {xs : List Lot} {k : ByteArray} : lotHas xs k = (xs.find? (idIs k)).isSome := by
  unfold lotHas
  rw [Bool.eq_iff_iff, List.any_eq_true, List.find?_isSome]
theorem lotIx_neg {xs : List Lot} {k : ByteArray} : lotIx xs k < 0 ↔ lotHas xs k = false := by
  have := any_findA (idIs k) xs
  unfold lotIx lotHas
  rw [this]
  simp
theorem lotIx_at {xs : List Lot} {k : ByteArray} (h : lotHas xs k = true) : ∃ (j : Nat) (hj : j < xs.length), lotIx xs k = j ∧ xs[j] = lotGet xs k := by
  rw [lotHas_get] at h
  have hex : ∃ j, ∃ hj : j < xs.length, idIs k xs[j] = true := by
    obtain ⟨x, hx, hp⟩ := List.find?_isSome.mp h
    obtain ⟨j, hj, rfl⟩ := List.getElem_of_mem hx
    exact ⟨j, hj, hp⟩
  have hmin : ∀ n, (∃ j, ∃ hj : j < xs.length, j ≤ n ∧ idIs k xs[j] = true) → ∃ j, ∃ hj : j < xs.length, idIs k xs[j] = true ∧ ∀ i (hi : i < xs.length), i < j → idIs k xs[i] = false := by
    intro n
    induction n with
    | zero =>
      rintro ⟨j, hj, h0, hp⟩
      exact ⟨j, hj, hp, fun i _ hi => by omega⟩
    | succ n ih =>
      rintro ⟨j, hj, h0, hp⟩
      by_cases hb : ∃ j, ∃ hj : j < xs.length, j ≤ n ∧ idIs k xs[j] = true
      · exact ih hb
      · refine ⟨j, hj, hp, fun i hi hij => ?_⟩
        cases hq : idIs k xs[i] with
        | false => rfl
        | true => exact absurd ⟨i, hi, by omega, hq⟩ hb
  obtain ⟨j, hj, hp⟩ := hex
  obtain ⟨j, hj, hp, hno⟩ := hmin j ⟨j, hj, Nat.le_refl _, hp⟩
  refine ⟨j, hj, findA_at hj hp (fun i hi => hno i (by omega) hi), ?_⟩
  unfold lotGet
  rw [find_at hj hp hno]
  rfl
def vLot (x : Lot) : Value := .agg #[.string x.id, .string x.prod, .int .i64 x.exp, .int .i64 x.many]
end Go.Proofs.Ytakabckmiodjaaa

/-! The units of pieces, one by one: the reference. -/
namespace Go.Proofs.Ytakabckmiodjaaa
open Go.RowKit
attribute [local go_sem ↓] Go.wp_at_zero Go.wp_at_succ

def unitsL (ps : List Piece) : List ByteArray := ps.flatMap (fun p => List.replicate p.many.toNat p.lot)
theorem unitsL_take (ps : List Piece) (k : Nat) (hk : k < ps.length) : unitsL (ps.take (k + 1)) = unitsL (ps.take k) ++ List.replicate (pcMany ps k).toNat (pcLot ps k) := by
  have : ps.take (k + 1) = ps.take k ++ [ps[k]] := by simp
  rw [this]
  unfold unitsL pcMany pcLot
  rw [List.flatMap_append]
  rw [getD_eq ps k _ hk]
  simp
theorem unitsL_mono (ps : List Piece) (k : Nat) : (unitsL (ps.take k)).length ≤ (unitsL ps).length := by
  have : unitsL ps = unitsL (ps.take k) ++ unitsL (ps.drop k) := by
    unfold unitsL; rw [← List.flatMap_append, List.take_append_drop]
  rw [this, List.length_append]; omega
theorem strs_app (a b : List ByteArray) : strs (a ++ b) = strs a ++ strs b := by simp [strs]
end Go.Proofs.Ytakabckmiodjaaa

/-! Pieces of one lot that stand next to each other are joined. -/
namespace Go.Proofs.Ytakabckmiodjaaa
open Go.RowKit
attribute [local go_sem ↓] Go.wp_at_zero Go.wp_at_succ

/-- The last piece is of this lot. -/
def lastIs (out : List Piece) (k : ByteArray) : Bool := decide (0 < out.length) && (pcLot out (out.length - 1)).toList == k.toList
def joinStep (out : List Piece) (k : ByteArray) (m : Int) : List Piece :=
  if lastIs out k then out.set (out.length - 1) ⟨pcLot out (out.length - 1), pcMany out (out.length - 1) + m⟩ else out ++ [⟨k, m⟩]
def joinTo (l : List Piece) : Nat → List Piece
  | 0 => []
  | k + 1 => joinStep (joinTo l k) (pcLot l k) (pcMany l k)
def joinL (l : List Piece) : List Piece := joinTo l l.length
theorem joinStep_bd {out : List Piece} {k : ByteArray} {m : Int} {n : Nat} {B : Int} (hl : out.length ≤ n) (hb : ∀ i, i < out.length → -B ≤ pcMany out i ∧ pcMany out i ≤ B) (hm : -100000 ≤ m ∧ m ≤ 100000) (hB : 0 ≤ B) :
    (joinStep out k m).length ≤ n + 1 ∧ ∀ i, i < (joinStep out k m).length → -(B + 100000) ≤ pcMany (joinStep out k m) i ∧ pcMany (joinStep out k m) i ≤ B + 100000 := by
  unfold joinStep
  split
  · rename_i h
    unfold lastIs at h
    simp only [Bool.and_eq_true, decide_eq_true_eq] at h
    refine ⟨by simp; omega, fun i hi => ?_⟩
    simp only [List.length_set] at hi
    have h1 := hb i hi
    have h2 := hb (out.length - 1) (by omega)
    by_cases e : i = out.length - 1
    · subst e
      have : pcMany (out.set (out.length - 1) ⟨pcLot out (out.length - 1), pcMany out (out.length - 1) + m⟩) (out.length - 1) = pcMany out (out.length - 1) + m := by
        conv => lhs; unfold pcMany
        rw [getD_eq _ _ _ (by simpa using hi), List.getElem_set_self]
        rfl
      rw [this]; omega
    · have : pcMany (out.set (out.length - 1) ⟨pcLot out (out.length - 1), pcMany out (out.length - 1) + m⟩) i = pcMany out i := by
        unfold pcMany
        rw [getD_eq _ _ _ (by simpa using hi), getD_eq out _ _ hi, List.getElem_set_ne (by omega)]
      rw [this]; omega
  · refine ⟨by simp; omega, fun i hi => ?_⟩
    simp only [List.length_append, List.length_cons, List.length_nil] at hi
    by_cases e : i < out.length
    · have : pcMany (out ++ [⟨k, m⟩]) i = pcMany out i := by
        unfold pcMany
        rw [getD_eq _ _ _ (by simp; omega), getD_eq out _ _ e, List.getElem_append_left e]
      have h1 := hb i e
      rw [this]; omega
    · have : pcMany (out ++ [⟨k, m⟩]) i = m := by
        unfold pcMany
        rw [getD_eq _ _ _ (by simp; omega), List.getElem_append_right (by omega)]
        have : i - out.length = 0 := by omega
        simp [this]
      rw [this]; omega
theorem joinTo_bd (l : List Piece) (h : ∀ x ∈ l, x.lot.size ≤ 1000 ∧ -100000 ≤ x.many ∧ x.many ≤ 100000) (k : Nat) (hk : k ≤ l.length) :
    (joinTo l k).length ≤ k ∧ ∀ i, i < (joinTo l k).length → -(100000 * (k : Int)) ≤ pcMany (joinTo l k) i ∧ pcMany (joinTo l k) i ≤ 100000 * (k : Int) := by
  induction k with
  | zero => exact ⟨Nat.le_refl _, fun i hi => absurd hi (Nat.not_lt_zero _)⟩
  | succ k ih =>
    obtain ⟨h1, h2⟩ := ih (by omega)
    have hm := pc_mem (P := fun x => -100000 ≤ x.many ∧ x.many ≤ 100000) (fun x hx => (h x hx).2) k (by omega)
    simp only at hm
    have := joinStep_bd (k := pcLot l k) h1 h2 hm (by omega)
    refine ⟨this.1, fun i hi => ?_⟩
    have := this.2 i hi
    show _ ≤ pcMany (joinStep _ _ _) i ∧ pcMany (joinStep _ _ _) i ≤ _
    omega
theorem pc_get (l : List Piece) (k : Nat) (hk : k < l.length) : l[k] = ⟨pcLot l k, pcMany l k⟩ := by
  unfold pcLot pcMany
  rw [getD_eq l k _ hk]
end Go.Proofs.Ytakabckmiodjaaa
