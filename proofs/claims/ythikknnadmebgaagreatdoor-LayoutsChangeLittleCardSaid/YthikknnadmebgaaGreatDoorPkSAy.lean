/- What is wrong with a coil: package stock. -/
import Derived.Test.YthikknnadmebgaaGreatDoorPkSAx
import Derived.Test.YthikknnadmebgaaGreatDoorPkSAh
import Derived.Test.YthikknnadmebgaaGreatDoorPkSAl
import Derived.Test.YthikknnadmebgaaGreatDoorPkSAa
import Derived.WalkLawsBesides
namespace Go.Proofs.YthikknnadmebgaaGreatDoor
open Go.RowKit
attribute [local go_sem ↓] Go.wp_at_zero Go.wp_at_succ

def pcMany (ps : List Piece) (i : Nat) : Int := (ps.getD i ⟨⟨#[]⟩, 0⟩).many
def pcLot (ps : List Piece) (i : Nat) : ByteArray := (ps.getD i ⟨⟨#[]⟩, 0⟩).lot
def pcSum (ps : List Piece) : Int := (ps.map Piece.many).sum
structure PcOk (ps : List Piece) (i : Nat) : Prop where
  key : keyB (pcLot ps i) = true
  lo : 1 ≤ pcMany ps i
  hi : pcMany ps i ≤ 1000
  ne : 0 < i → (pcLot ps i).toList ≠ (pcLot ps (i - 1)).toList
structure CoilOk (c : Coil) : Prop where
  key : keyB c.prod = true
  m0 : 0 ≤ c.most
  m1 : c.most ≤ 1000
  len : c.ps.length ≤ 1000
  all : ∀ i, i < c.ps.length → PcOk c.ps i
  sum : pcSum c.ps ≤ c.most
/-- Sizes that every coil of the stream has. -/
structure CoilSm (c : Coil) : Prop where
  prod : c.prod.size ≤ 1000
  len : c.ps.length ≤ 1000
  all : ∀ x ∈ c.ps, x.lot.size ≤ 1000 ∧ -100000 ≤ x.many ∧ x.many ≤ 100000
theorem pc_cells {w : World} {a : Option Addr} {ps : List Piece} (h : CellsAt w a (flat encPc ps)) (k : Nat) (hk : k < ps.length) :
    ∃ b off, a = some ⟨b, off, none⟩ ∧ w.cell? ⟨b, off + k * 2, none⟩ = some (.string (pcLot ps k)) ∧ w.cell? ⟨b, off + k * 2 + 1, none⟩ = some (.int .i64 (pcMany ps k)) := by
  obtain ⟨b, off, rfl, hcs⟩ := flat_cells encPc_len (by decide) h (by omega)
  have e : ps.getD k ⟨⟨#[]⟩, 0⟩ = ps[k] := getD_eq ps k _ hk
  refine ⟨b, off, rfl, ?_, ?_⟩
  · unfold pcLot; rw [e]; exact hcs k hk 0 _ rfl
  · unfold pcMany; rw [e]; exact hcs k hk 1 _ rfl
theorem pc_mem {P : Piece → Prop} {ps : List Piece} (h : ∀ x ∈ ps, P x) (k : Nat) (hk : k < ps.length) : P ⟨pcLot ps k, pcMany ps k⟩ := by
  have e : ps.getD k ⟨⟨#[]⟩, 0⟩ = ps[k] := getD_eq ps k _ hk
  unfold pcLot pcMany
  rw [e]
  exact h _ (List.getElem_mem hk)
theorem pcMany_get (ps : List Piece) (k : Nat) (hk : k < ps.length) : (ps.map Piece.many).getD k 0 = pcMany ps k := by
  unfold pcMany
  rw [List.getD_eq_getElem?_getD, List.getD_eq_getElem?_getD, List.getElem?_map, List.getElem?_eq_getElem hk]
  rfl
theorem pc_bd {ps : List Piece} (h : ∀ x ∈ ps, x.lot.size ≤ 1000 ∧ -100000 ≤ x.many ∧ x.many ≤ 100000) : ∀ y ∈ ps.map Piece.many, (-100000 : Int) ≤ y ∧ y ≤ 100000 := by
  intro y hy
  obtain ⟨x, hx, rfl⟩ := List.mem_map.1 hy
  exact (h x hx).2
def CoilChk (c : Coil) (w : World) (e : Ending) (w' : World) : Prop := ∃ r : Int, e = .returned (.int .i64 r) ∧ (r = 0 ↔ CoilOk c) ∧ w.grownBy w' none
theorem coil_no {c : Coil} {w w' : World} (r : Int) (hr : r ≠ 0) (h : ¬ CoilOk c) (g : w.grownBy w' none) : CoilChk c w (.returned (.int .i64 r)) w' := ⟨r, rfl, ⟨fun e => absurd e hr, fun e => absurd e h⟩, g⟩
end Go.Proofs.YthikknnadmebgaaGreatDoor

/-! What is wrong with a coil: the reference. -/
namespace Go.Proofs.YthikknnadmebgaaGreatDoor
open Go.RowKit
attribute [local go_sem ↓] Go.wp_at_zero Go.wp_at_succ

end Go.Proofs.YthikknnadmebgaaGreatDoor

/-! Lots that are right pass; where a lot is; what a store of one lot counts. -/
namespace Go.Proofs.YthikknnadmebgaaGreatDoor
open Go.RowKit
attribute [local go_sem ↓] Go.wp_at_zero Go.wp_at_succ

def leS (a b : ByteArray) : Bool := Op.bytesLess a.toList b.toList || a.toList == b.toList
structure LotOk (x : Lot) : Prop where
  id : keyB x.id = true
  ids : x.id.size ≤ 1000
  prod : keyB x.prod = true
  prods : x.prod.size ≤ 1000
  e0 : 0 ≤ x.exp
  e1 : x.exp ≤ 4000
  m0 : 0 ≤ x.many
  m1 : x.many ≤ 100000
structure LotsOk (xs : List Lot) : Prop where
  len : xs.length ≤ 500
  all : ∀ x ∈ xs, LotOk x
  up : ∀ i (h0 : 0 < i) (h : i < xs.length), leS xs[i].id (xs[i - 1]'(by omega)).id = false
theorem dayL_any (n : Int) (w : World) : Calls Tryz.prog 86 #[.int .i64 n] w fun e w' => e = .returned (.bool (!(decide (n < 0) || decide (4000 < n)))) ∧ w = w' := by
  go_enter Tryz.func86, Tryz.ntmps86
  go_wp2_with (fail)
  refine (out_any n 0 4000 w).mono ?_
  rintro e w2 ⟨rfl, rfl⟩
  obtain ⟨b, hb⟩ : ∃ b, b = (decide (n < 0) || decide (4000 < n)) := ⟨_, rfl⟩
  rw [← hb]
  have HB := Lib.hid hb
  clear hb
  go_wp2_with (fail)
  go_ret
  exact ⟨ret_bool (by rw [HB.out]), rfl⟩
theorem lot_cells {w : World} {a : Option Addr} {xs : List Lot} (h : CellsAt w a (flat encLot xs)) (k : Nat) (hk : k < xs.length) :
    ∃ b off, a = some ⟨b, off, none⟩ ∧ w.cell? ⟨b, off + k * 4, none⟩ = some (.string xs[k].id) ∧ w.cell? ⟨b, off + k * 4 + 1, none⟩ = some (.string xs[k].prod) ∧ w.cell? ⟨b, off + k * 4 + 2, none⟩ = some (.int .i64 xs[k].exp) ∧ w.cell? ⟨b, off + k * 4 + 3, none⟩ = some (.int .i64 xs[k].many) := by
  obtain ⟨b, off, rfl, hcs⟩ := flat_cells encLot_len (by decide) h (by omega)
  exact ⟨b, off, rfl, hcs k hk 0 _ rfl, hcs k hk 1 _ rfl, hcs k hk 2 _ rfl, hcs k hk 3 _ rfl⟩
end Go.Proofs.YthikknnadmebgaaGreatDoor

/-! Package slices at elements coilrack/api.Lot: with a function value. Written by mkfind.py. -/
namespace Go.Proofs.YthikknnadmebgaaGreatDoor
open Go.RowKit

end Go.Proofs.YthikknnadmebgaaGreatDoor

/-! Where a lot is: in stock, and in the reference. -/
namespace Go.Proofs.YthikknnadmebgaaGreatDoor
open Go.RowKit

def idIs (k : ByteArray) (x : Lot) : Bool := x.id.toList == k.toList
def lotIx (xs : List Lot) (k : ByteArray) : Int := findA (idIs k) xs
/-- The lot that is found, or an empty one. -/
def lotGet (xs : List Lot) (k : ByteArray) : Lot := (xs.find? (idIs k)).getD ⟨⟨#[]⟩, ⟨#[]⟩, 0, 0⟩
def lotHas (xs : List Lot) (k : ByteArray) : Bool := xs.any (idIs k)
theorem find_at {α : Type} {P : α → Bool} {xs : List α} {k : Nat} (hk : k < xs.length) (hp : P xs[k] = true) (hno : ∀ j (hj : j < xs.length), j < k → P xs[j] = false) : xs.find? P = some xs[k] := by
  induction xs generalizing k with
  | nil => cases hk
  | cons x xs ih =>
    cases k with
    | zero => simp only [List.getElem_cons_zero] at hp ⊢; rw [List.find?_cons, hp]
    | succ k =>
      have h0 := hno 0 (by simp) (by omega)
      simp only [List.getElem_cons_zero] at h0
      rw [List.find?_cons, h0]
      exact ih (by simpa using hk) hp (fun j hj h => by have := hno (j + 1) (by simpa using hj) (by omega); simpa using this)
theorem find_not {α : Type} {P : α → Bool} {xs : List α} (hno : ∀ j (hj : j < xs.length), P xs[j] = false) : xs.find? P = none := by
  rw [List.find?_eq_none]
  intro x hx
  obtain ⟨j, hj, rfl⟩ := List.getElem_of_mem hx
  simp [hno j hj]
theorem lotHas_get {xs : List Lot} {k : ByteArray} : lotHas xs k = (xs.find? (idIs k)).isSome := by
  unfold lotHas
  rw [Bool.eq_iff_iff, List.any_eq_true, List.find?_isSome]
theorem lotIx_neg {xs : List Lot} {k : ByteArray} : lotIx xs k < 0 ↔ lotHas xs k = false := by
  have := any_findA (idIs k) xs
  unfold lotIx lotHas
  rw [this]
  simp
theorem lotIx_at {xs : List Lot} {k : ByteArray} (h : lotHas xs k = true) : ∃ (j : Nat) (hj : j < xs.length), lotIx xs k = j ∧ xs[j] = lotGet xs k := by
  rw [lotHas_get] at h
  have hex : ∃ j, ∃ hj : j < xs.length, idIs k xs[j] = true := by
    obtain ⟨x, hx, hp⟩ := List.find?_isSome.mp h
    obtain ⟨j, hj, rfl⟩ := List.getElem_of_mem hx
    exact ⟨j, hj, hp⟩
  have hmin : ∀ n, (∃ j, ∃ hj : j < xs.length, j ≤ n ∧ idIs k xs[j] = true) → ∃ j, ∃ hj : j < xs.length, idIs k xs[j] = true ∧ ∀ i (hi : i < xs.length), i < j → idIs k xs[i] = false := by
    intro n
    induction n with
    | zero =>
      rintro ⟨j, hj, h0, hp⟩
      exact ⟨j, hj, hp, fun i _ hi => by omega⟩
    | succ n ih =>
      rintro ⟨j, hj, h0, hp⟩
      by_cases hb : ∃ j, ∃ hj : j < xs.length, j ≤ n ∧ idIs k xs[j] = true
      · exact ih hb
      · refine ⟨j, hj, hp, fun i hi hij => ?_⟩
        cases hq : idIs k xs[i] with
        | false => rfl
        | true => exact absurd ⟨i, hi, by omega, hq⟩ hb
  obtain ⟨j, hj, hp⟩ := hex
  obtain ⟨j, hj, hp, hno⟩ := hmin j ⟨j, hj, Nat.le_refl _, hp⟩
  refine ⟨j, hj, findA_at hj hp (fun i hi => hno i (by omega) hi), ?_⟩
  unfold lotGet
  rw [find_at hj hp hno]
  rfl
def vLot (x : Lot) : Value := .agg #[.string x.id, .string x.prod, .int .i64 x.exp, .int .i64 x.many]
end Go.Proofs.YthikknnadmebgaaGreatDoor
