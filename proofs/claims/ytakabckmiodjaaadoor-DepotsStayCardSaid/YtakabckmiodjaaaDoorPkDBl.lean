/- What is wrong with pieces for a coil: the reference. -/
import Derived.Test.YtakabckmiodjaaaDoorPkDBg
import Derived.Deep.DrawnRows
import Derived.IntWalk
import Derived.Deep.QuietTactic
import Derived.BigQuiet
import Derived.Deep.RegionLaw
import Derived.Deep.CutRange
namespace Go.Proofs.YtakabckmiodjaaaDoor
open Go.RowKit
attribute [local go_sem ↓] Go.wp_at_zero Go.wp_at_succ

set_option maxRecDepth 100000 in
theorem or2_any (a b : Int) (g c : Nat) (w : World) (h0 : w.cell? ⟨g, 0, none⟩ = some (.int .i64 a)) (h1 : w.cell? ⟨g, 1, none⟩ = some (.int .i64 b)) :
    Calls Tryd.prog 49 #[.slice (some ⟨g, 0, none⟩) 2 c] w fun e w' => e = .returned (.int .i64 (if a = 0 then b else a)) ∧ w = w' := by
  go_enter Tryd.func49, Tryd.ntmps49
  go_wp2_with (fail)
  go_loop [8] (fun i => (i = .int .i64 0 ∨ (i = .int .i64 1 ∧ a = 0) ∨ (i = .int .i64 2 ∧ a = 0 ∧ b = 0))) (fun i => 2 - (intOf i).toNat)
  case atStart => exact .inl rfl
  case round =>
    rcases hrel with rfl | ⟨rfl, rfl⟩ | ⟨rfl, rfl, rfl⟩
    · by_cases ha : a = 0
      · subst ha
        go_wp2_with (fail)
        go_round
        case rel => exact .inr (.inl (by simp))
        case measure => simp [intOf]
      · have ha2 : (a != 0) = true := by simpa using ha
        go_wp2_with (fail)
        go_ret
        exact ⟨rfl, rfl⟩
    · by_cases hb : b = 0
      · subst hb
        go_wp2_with (fail)
        go_round
        case rel => exact .inr (.inr (by simp))
        case measure => simp [intOf]
      · have hb2 : (b != 0) = true := by simpa using hb
        go_wp2_with (fail)
        go_ret
        exact ⟨rfl, rfl⟩
    · go_wp2_with (fail)
      go_ret
      exact ⟨rfl, rfl⟩
theorem or2_zero (b : Int) (g c : Nat) (w : World) (h0 : w.cell? ⟨g, 0, none⟩ = some (.int .i64 0)) (h1 : w.cell? ⟨g, 1, none⟩ = some (.int .i64 b)) :
    Calls Tryd.prog 49 #[.slice (some ⟨g, 0, none⟩) 2 c] w fun e w' => e = .returned (.int .i64 b) ∧ w = w' := by
  simpa using or2_any 0 b g c w h0 h1
theorem unitsL_len (ps : List Piece) (h : ∀ i, i < ps.length → 0 ≤ pcMany ps i) : ((unitsL ps).length : Int) = pcSum ps := by
  have h2 : ∀ x ∈ ps, 0 ≤ x.many := by
    intro x hx
    obtain ⟨i, hi, rfl⟩ := List.getElem_of_mem hx
    have := h i hi
    unfold pcMany at this
    rwa [getD_eq ps i _ hi] at this
  clear h
  induction ps with
  | nil => rfl
  | cons x ps ih =>
    have := ih (fun y hy => h2 y (by simp [hy]))
    have hx := h2 x (by simp)
    unfold unitsL pcSum at *
    simp only [List.flatMap_cons, List.length_append, List.length_replicate, List.map_cons, List.sum_cons]
    omega
/-- A piece fits: its lot is known, of the coil's product, and it has a right number. -/
structure PcFit (P : ByteArray) (xs : List Lot) (k : ByteArray) (m : Int) : Prop where
  has : lotHas xs k = true
  prod : ((lotGet xs k).prod.toList == P.toList) = true
  lo : 1 ≤ m
  hi : m ≤ 1000
structure PushOk (c : Coil) (xs : List Lot) (p : List Piece) : Prop where
  coil : CoilOk c
  fit : ∀ i, i < p.length → PcFit c.prod xs (pcLot p i) (pcMany p i)
  sum : pcSum c.ps + pcSum p ≤ c.most
def PushChk (c : Coil) (xs : List Lot) (p : List Piece) (w : World) (e : Ending) (w' : World) : Prop := ∃ r : Int, e = .returned (.int .i64 r) ∧ (r = 0 ↔ PushOk c xs p) ∧ w.grownBy w' none
theorem push_no {c : Coil} {xs : List Lot} {p : List Piece} {w w' : World} (r : Int) (hr : r ≠ 0) (h : ¬ PushOk c xs p) (g : w.grownBy w' none) : PushChk c xs p w (.returned (.int .i64 r)) w' := ⟨r, rfl, ⟨fun e => absurd e hr, fun e => absurd e h⟩, g⟩
structure PcsSm (ps : List Piece) : Prop where
  len : ps.length ≤ 1000
  all : ∀ x ∈ ps, x.lot.size ≤ 1000 ∧ -100000 ≤ x.many ∧ x.many ≤ 100000
end Go.Proofs.YtakabckmiodjaaaDoor
