/- What is wrong with a coil: package stock. -/
import Derived.Test.YtoiclngamaadgaaCoil
import Derived.Test.YtoiclngamaadgaaKey
import Derived.Test.YtoiclngamaadgaaSum
import Derived.Test.YtoiclngamaadgaaGrew
namespace Go.Proofs.Ytoiclngamaadgaa
open Go.RowKit
attribute [local go_sem ↓] Go.wp_at_zero Go.wp_at_succ

def pcMany (ps : List Piece) (i : Nat) : Int := (ps.getD i ⟨⟨#[]⟩, 0⟩).many
def pcLot (ps : List Piece) (i : Nat) : ByteArray := (ps.getD i ⟨⟨#[]⟩, 0⟩).lot
def pcSum (ps : List Piece) : Int := (ps.map Piece.many).sum
structure PcOk (ps : List Piece) (i : Nat) : Prop where
  key : keyB (pcLot ps i) = true
  lo : 1 ≤ pcMany ps i
  hi : pcMany ps i ≤ 1000
  ne : 0 < i → (pcLot ps i).toList ≠ (pcLot ps (i - 1)).toList
structure CoilOk (c : Coil) : Prop where
  key : keyB c.prod = true
  m0 : 0 ≤ c.most
  m1 : c.most ≤ 1000
  len : c.ps.length ≤ 1000
  all : ∀ i, i < c.ps.length → PcOk c.ps i
  sum : pcSum c.ps ≤ c.most
/-- Sizes that every coil of the stream has. -/
structure CoilSm (c : Coil) : Prop where
  prod : c.prod.size ≤ 1000
  len : c.ps.length ≤ 1000
  all : ∀ x ∈ c.ps, x.lot.size ≤ 1000 ∧ -100000 ≤ x.many ∧ x.many ≤ 100000
theorem pc_cells {w : World} {a : Option Addr} {ps : List Piece} (h : CellsAt w a (flat encPc ps)) (k : Nat) (hk : k < ps.length) :
    ∃ b off, a = some ⟨b, off, none⟩ ∧ w.cell? ⟨b, off + k * 2, none⟩ = some (.string (pcLot ps k)) ∧ w.cell? ⟨b, off + k * 2 + 1, none⟩ = some (.int .i64 (pcMany ps k)) := by
  obtain ⟨b, off, rfl, hcs⟩ := flat_cells encPc_len (by decide) h (by omega)
  have e : ps.getD k ⟨⟨#[]⟩, 0⟩ = ps[k] := getD_eq ps k _ hk
  refine ⟨b, off, rfl, ?_, ?_⟩
  · unfold pcLot; rw [e]; exact hcs k hk 0 _ rfl
  · unfold pcMany; rw [e]; exact hcs k hk 1 _ rfl
theorem pc_mem {P : Piece → Prop} {ps : List Piece} (h : ∀ x ∈ ps, P x) (k : Nat) (hk : k < ps.length) : P ⟨pcLot ps k, pcMany ps k⟩ := by
  have e : ps.getD k ⟨⟨#[]⟩, 0⟩ = ps[k] := getD_eq ps k _ hk
  unfold pcLot pcMany
  rw [e]
  exact h _ (List.getElem_mem hk)
theorem pcMany_get (ps : List Piece) (k : Nat) (hk : k < ps.length) : (ps.map Piece.many).getD k 0 = pcMany ps k := by
  unfold pcMany
  rw [List.getD_eq_getElem?_getD, List.getD_eq_getElem?_getD, List.getElem?_map, List.getElem?_eq_getElem hk]
  rfl
theorem pc_bd {ps : List Piece} (h : ∀ x ∈ ps, x.lot.size ≤ 1000 ∧ -100000 ≤ x.many ∧ x.many ≤ 100000) : ∀ y ∈ ps.map Piece.many, (-100000 : Int) ≤ y ∧ y ≤ 100000 := by
  intro y hy
  obtain ⟨x, hx, rfl⟩ := List.mem_map.1 hy
  exact (h x hx).2
def CoilChk (c : Coil) (w : World) (e : Ending) (w' : World) : Prop := ∃ r : Int, e = .returned (.int .i64 r) ∧ (r = 0 ↔ CoilOk c) ∧ w.grownBy w' none
theorem coil_no {c : Coil} {w w' : World} (r : Int) (hr : r ≠ 0) (h : ¬ CoilOk c) (g : w.grownBy w' none) : CoilChk c w (.returned (.int .i64 r)) w' := ⟨r, rfl, ⟨fun e => absurd e hr, fun e => absurd e h⟩, g⟩
end Go.Proofs.Ytoiclngamaadgaa
