/- Where a lot is: in stock, and in the reference. -/
import Derived.Test.YtoiclngamaadgaaFindLot
import Derived.WalkLawsBesides
namespace Go.Proofs.Ytoiclngamaadgaa
open Go.RowKit

def idIs (k : ByteArray) (x : Lot) : Bool := x.id.toList == k.toList
def lotIx (xs : List Lot) (k : ByteArray) : Int := findA (idIs k) xs
theorem lot1_fn : ∀ (args : Array Value) (w : World), (callFunc 131 args).run Try.prog w = .ok (.enter 131 args) w := fun _ _ => by kernel_rfl
set_option maxRecDepth 100000 in
theorem lot1_any (t : Lot) (x : ByteArray) (q : Nat) (w : World) (hq : w.cell? ⟨q, 0, none⟩ = some (.string x)) :
    Calls Try.prog 131 #[.agg #[.string t.id, .string t.prod, .int .i64 t.exp, .int .i64 t.many], .pointer (some ⟨q, 0, none⟩)] w fun e w' => e = .returned (.bool (idIs x t)) ∧ w.grownBy w' none := by
  have hqlt := lt_of_cell hq
  go_enter Try.func131, Try.ntmps131
  go_wp2_with (fail)
  go_ret
  exact ⟨rfl, gr_alloc (gr_refl w none) _⟩
set_option maxRecDepth 100000 in
theorem lot_any (key : ByteArray) (xs : List Lot) (a : Option Addr) (c : Nat) (w : World) (h : CellsAt w a (flat encLot xs)) (hl : xs.length ≤ 100000) :
    Calls Try.prog 96 #[.slice a xs.length c, .string key] w fun e w' => e = .returned (.int .i64 (lotIx xs key)) ∧ w.grownBy w' none := by
  have H := Lib.hid h
  clear h
  go_enter Try.func96, Try.ntmps96
  go_wp2_with (fail)
  have hg1 := gr_alloc (gr_refl w none) (.cells #[.string key] 9)
  refine (indexFunc_Lot _ ⟨w.heap.size, 0, none⟩ (idIs key) xs a c _ (H.out.keep0 hg1) (by omega) lot1_fn ?_).mono ?_
  · intro t _ w1 hg
    exact lot1_any t key w.heap.size w1 ((gr_cell hg (by simp)).trans (by rw [World.cell?_alloc_at _ _ _ _ rfl]; rfl))
  rintro e w2 ⟨rfl, hg2⟩
  go_wp2_with (fail)
  go_ret
  exact ⟨rfl, gr_trans hg1 hg2⟩
/-- The lot that is found, or an empty one. -/
def lotGet (xs : List Lot) (k : ByteArray) : Lot := (xs.find? (idIs k)).getD ⟨⟨#[]⟩, ⟨#[]⟩, 0, 0⟩
def lotHas (xs : List Lot) (k : ByteArray) : Bool := xs.any (idIs k)
theorem find_at {α : Type} {P : α → Bool} {xs : List α} {k : Nat} (hk : k < xs.length) (hp : P xs[k] = true) (hno : ∀ j (hj : j < xs.length), j < k → P xs[j] = false) : xs.find? P = some xs[k] := by
  induction xs generalizing k with
  | nil => cases hk
  | cons x xs ih =>
    cases k with
    | zero => simp only [List.getElem_cons_zero] at hp ⊢; rw [List.find?_cons, hp]
    | succ k =>
      have h0 := hno 0 (by simp) (by omega)
      simp only [List.getElem_cons_zero] at h0
      rw [List.find?_cons, h0]
      exact ih (by simpa using hk) hp (fun j hj h => by have := hno (j + 1) (by simpa using hj) (by omega); simpa using this)
theorem find_not {α : Type} {P : α → Bool} {xs : List α} (hno : ∀ j (hj : j < xs.length), P xs[j] = false) : xs.find? P = none := by
  rw [List.find?_eq_none]
  intro x hx
  obtain ⟨j, hj, rfl⟩ := List.getElem_of_mem hx
  simp [hno j hj]
theorem lotHas_get {xs : List Lot} {k : ByteArray} : lotHas xs k = (xs.find? (idIs k)).isSome := by
  unfold lotHas
  rw [Bool.eq_iff_iff, List.any_eq_true, List.find?_isSome]
theorem lotIx_neg {xs : List Lot} {k : ByteArray} : lotIx xs k < 0 ↔ lotHas xs k = false := by
  have := any_findA (idIs k) xs
  unfold lotIx lotHas
  rw [this]
  simp
theorem lotIx_at {xs : List Lot} {k : ByteArray} (h : lotHas xs k = true) : ∃ (j : Nat) (hj : j < xs.length), lotIx xs k = j ∧ xs[j] = lotGet xs k := by
  rw [lotHas_get] at h
  have hex : ∃ j, ∃ hj : j < xs.length, idIs k xs[j] = true := by
    obtain ⟨x, hx, hp⟩ := List.find?_isSome.mp h
    obtain ⟨j, hj, rfl⟩ := List.getElem_of_mem hx
    exact ⟨j, hj, hp⟩
  have hmin : ∀ n, (∃ j, ∃ hj : j < xs.length, j ≤ n ∧ idIs k xs[j] = true) → ∃ j, ∃ hj : j < xs.length, idIs k xs[j] = true ∧ ∀ i (hi : i < xs.length), i < j → idIs k xs[i] = false := by
    intro n
    induction n with
    | zero =>
      rintro ⟨j, hj, h0, hp⟩
      exact ⟨j, hj, hp, fun i _ hi => by omega⟩
    | succ n ih =>
      rintro ⟨j, hj, h0, hp⟩
      by_cases hb : ∃ j, ∃ hj : j < xs.length, j ≤ n ∧ idIs k xs[j] = true
      · exact ih hb
      · refine ⟨j, hj, hp, fun i hi hij => ?_⟩
        cases hq : idIs k xs[i] with
        | false => rfl
        | true => exact absurd ⟨i, hi, by omega, hq⟩ hb
  obtain ⟨j, hj, hp⟩ := hex
  obtain ⟨j, hj, hp, hno⟩ := hmin j ⟨j, hj, Nat.le_refl _, hp⟩
  refine ⟨j, hj, findA_at hj hp (fun i hi => hno i (by omega) hi), ?_⟩
  unfold lotGet
  rw [find_at hj hp hno]
  rfl
def vLot (x : Lot) : Value := .agg #[.string x.id, .string x.prod, .int .i64 x.exp, .int .i64 x.many]
end Go.Proofs.Ytoiclngamaadgaa
