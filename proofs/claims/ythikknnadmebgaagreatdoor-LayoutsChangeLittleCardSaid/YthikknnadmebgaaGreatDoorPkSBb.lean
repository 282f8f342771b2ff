/- Partners with weights, as the stream makes them: few, with short keys and bounded weights. -/
import Derived.Test.YthikknnadmebgaaGreatDoorPkSAu
import Derived.Test.YthikknnadmebgaaGreatDoorPkSAb
import Derived.Test.YthikknnadmebgaaGreatDoorPkSAv
import Derived.Test.YthikknnadmebgaaGreatDoorPkSBa
import Derived.Test.YthikknnadmebgaaGreatDoorPkSAq
import Derived.Deep.RegionLaw
import Derived.Deep.DeepCutAuto
import Derived.Deep.DrawnRows
import Derived.Deep.CutBlock
import Derived.Deep.RegionHeld3
import Derived.Test.YthikknnadmebgaaGreatDoorPkSAc
namespace Go.Proofs.YthikknnadmebgaaGreatDoor
open Go.RowKit
variable {lw : Nat}

def encNm (x : Nm) : List Value := [.string x.key, .int .i64 x.many]
theorem encNm_len (x : Nm) : (encNm x).length = 2 := rfl
theorem eNm : ElemT Tryz.prog 37 42 (.agg #[.string ⟨#[]⟩, .int .i64 0]) 2 24 := ⟨by kernel_rfl, by kernel_rfl, by decide, by decide, by decide⟩
def NmSm (x : Nm) : Prop := x.key.size ≤ 2 ∧ -1 ≤ x.many ∧ x.many ≤ 1000001
abbrev pkeys : Array Value := #[.string ⟨#[112, 97]⟩, .string ⟨#[112, 98]⟩, .string ⟨#[112, 99]⟩, .string ⟨#[112, 100]⟩]
/-- What stands while the partners are made. -/
structure PartW (wr w : World) (p lw : Nat) (l : List Int) (q g : Nat) (cur : Array Value) (v : Value) (N : List Nm) : Prop where
  own : wr.ownsRow (w.heap.size + 1) 42 2 v N.length (flat encNm N)
  blk : wr.heap[w.heap.size]? = some (.cells pkeys 9 (0, 0))
  ord : wr.heap[g]? = some (.cells cur 3 (0, 0))
  str : StreamAt wr p lw l q
  all : ∀ x ∈ N, NmSm x
  gr : w.grownBy wr (some p)
  pB : p < w.heap.size
  gB : w.heap.size < g
theorem PartW.keep0 {wr w1 w : World} {p lw : Nat} {l : List Int} {q g : Nat} {cur : Array Value} {v : Value} {N : List Nm} (h : PartW wr w p lw l q g cur v N) (gg : wr.grownBy w1 none) : PartW w1 w p lw l q g cur v N :=
  ⟨own_keep0 h.own gg, (gg.block _ (lt_of_block h.blk) (by simp)).trans h.blk, (gg.block _ (lt_of_block h.ord) (by simp)).trans h.ord, h.str.keep0 gg, h.all, gr_trans h.gr (gr_weak gg _), h.pB, h.gB⟩
theorem PartW.draw {wr w1 w : World} {p lw : Nat} {l : List Int} {q q2 g : Nat} {cur : Array Value} {v : Value} {N : List Nm} (h : PartW wr w p lw l q g cur v N) (gg : wr.grownBy w1 (some p)) (hs : StreamAt w1 p lw l q2) : PartW w1 w p lw l q2 g cur v N :=
  ⟨own_keepS h.own gg (by have := h.pB; omega), (gg.block _ (lt_of_block h.blk) (fun e => by have := h.pB; cases e; omega)).trans h.blk, (gg.block _ (lt_of_block h.ord) (fun e => by have := h.pB; have := h.gB; cases e; omega)).trans h.ord, hs, h.all, gr_trans h.gr gg, h.pB, h.gB⟩
theorem PartW.app {wr w1 w : World} {p lw : Nat} {l : List Int} {q g : Nat} {cur : Array Value} {v v1 : Value} {N : List Nm} {x : Nm} (h : PartW wr w p lw l q g cur v N) (hx : NmSm x) (o : w1.ownsRow (w.heap.size + 1) 42 2 v1 (N.length + 1) (flat encNm N ++ encNm x)) (gg : wr.grownBy w1 v.ownBlock) (hl : ∀ b, v.ownBlock = some b → w.heap.size + 1 ≤ b) : PartW w1 w p lw l q g cur v1 (N ++ [x]) := by
  refine ⟨?_, (gg.block _ (lt_of_block h.blk) (fun e => own_ne h.own h.blk (by decide) e.symm)).trans h.blk, (gg.block _ (lt_of_block h.ord) (fun e => own_ne h.own h.ord (by decide) e.symm)).trans h.ord, h.str.keep gg (fun b e => by have := hl b e; have := h.pB; omega), fun y hy => ?_, gr_grown h.gr gg (fun b e => by have := hl b e; omega), h.pB, h.gB⟩
  · rw [List.length_append, flat_append, flat_one]; exact o
  · rcases List.mem_append.1 hy with hy | hy
    · exact h.all y hy
    · have : y = x := by simpa using hy
      rw [this]; exact hx
def PartPost (l : List Int) (lw k p : Nat) (w : World) (e : Ending) (w' : World) : Prop :=
  ∃ v N, e = .returned v ∧ w'.ownsRow w.heap.size 42 2 v N.length (flat encNm N) ∧ N.length ≤ 5 ∧ (∀ x ∈ N, NmSm x) ∧ (∃ q, q ≤ k + 100 ∧ StreamAt w' p lw l q) ∧ w.grownBy w' (some p)
theorem ord_cells {L : List Int} {cur : Array Value} (ht : cur.toList.take (4 * 1) = ints L) (hL : IsOrder 4 L) : ∀ i, i < 4 → ∃ x : Nat, x < 4 ∧ cur[i]? = some (.int .i64 x) := by
  intro i hi
  have hlen := hL.len
  have e1 : (cur.toList.take (4 * 1))[i]? = (ints L)[i]? := by rw [ht]
  rw [List.getElem?_take_of_lt (by omega)] at e1
  have hm := (hL.mem L[i]).1 (List.getElem_mem _)
  refine ⟨L[i].toNat, by omega, ?_⟩
  rw [← Array.getElem?_toList, e1]
  simp only [ints, List.getElem?_map, List.getElem?_eq_getElem (show i < L.length by omega), Option.map_some]
  rw [Int.toNat_of_nonneg hm.1]
end Go.Proofs.YthikknnadmebgaaGreatDoor

/-! A row of structs that a stream's function makes, with a row of strings beside it: what stands on each way. -/
namespace Go.Proofs.YthikknnadmebgaaGreatDoor
open Go.RowKit

structure MkW {α : Type} (enc : α → List Value) (t m : Nat) (P : α → Prop) (keys : Array Value) (wr w : World) (p lw : Nat) (l : List Int) (q : Nat) (v : Value) (N : List α) : Prop where
  own : wr.ownsRow (w.heap.size + 1) t m v N.length (flat enc N)
  blk : wr.heap[w.heap.size]? = some (.cells keys 9 (0, 0))
  str : StreamAt wr p lw l q
  all : ∀ x ∈ N, P x
  gr : w.grownBy wr (some p)
  pB : p < w.heap.size
section
variable {α : Type} {enc : α → List Value} {t m : Nat} {P : α → Prop} {keys : Array Value} {wr w1 w : World} {p lw : Nat} {l : List Int} {q q2 : Nat} {v v1 : Value} {N : List α} {x : α}
theorem MkW.draw (h : MkW enc t m P keys wr w p lw l q v N) (gg : wr.grownBy w1 (some p)) (hs : StreamAt w1 p lw l q2) : MkW enc t m P keys w1 w p lw l q2 v N :=
  ⟨own_keepS h.own gg (by have := h.pB; omega), (gg.block _ (lt_of_block h.blk) (fun e => by have := h.pB; cases e; omega)).trans h.blk, hs, h.all, gr_trans h.gr gg, h.pB⟩
theorem MkW.app (h : MkW enc t m P keys wr w p lw l q v N) (ht : t ≠ 9) (hx : P x) (o : w1.ownsRow (w.heap.size + 1) t m v1 (N.length + 1) (flat enc N ++ enc x)) (gg : wr.grownBy w1 v.ownBlock) (hl : ∀ b, v.ownBlock = some b → w.heap.size + 1 ≤ b) : MkW enc t m P keys w1 w p lw l q v1 (N ++ [x]) := by
  refine ⟨?_, (gg.block _ (lt_of_block h.blk) (fun e => own_ne h.own h.blk ht e.symm)).trans h.blk, h.str.keep gg (fun b e => by have := hl b e; have := h.pB; omega), fun y hy => ?_, gr_grown h.gr gg (fun b e => by have := hl b e; omega), h.pB⟩
  · rw [List.length_append, flat_append, flat_one]; exact o
  · rcases List.mem_append.1 hy with hy | hy
    · exact h.all y hy
    · have : y = x := by simpa using hy
      rw [this]; exact hx
end
/-- A ware. -/
structure Wr where
  key : ByteArray
  price : Int
  group : ByteArray
def encWr (x : Wr) : List Value := [.string x.key, .int .i64 x.price, .string x.group]
theorem encWr_len (x : Wr) : (encWr x).length = 3 := rfl
def WrSm (x : Wr) : Prop := x.key.size ≤ 5 ∧ (-1 ≤ x.price ∧ x.price ≤ 100001) ∧ x.group.size ≤ 5
/-- A deal. -/
structure De where
  key : ByteArray
  group : ByteArray
  many : Int
  free : Int
def encDe (x : De) : List Value := [.string x.key, .string x.group, .int .i64 x.many, .int .i64 x.free]
theorem encDe_len (x : De) : (encDe x).length = 4 := rfl
def DeSm (x : De) : Prop := x.key.size ≤ 5 ∧ x.group.size ≤ 5 ∧ (0 ≤ x.many ∧ x.many ≤ 21) ∧ (0 ≤ x.free ∧ x.free ≤ 21)
/-- An item of a basket. -/
def BkSm (x : Nm) : Prop := x.key.size ≤ 5 ∧ 0 ≤ x.many ∧ (x.many ≤ 7 ∨ x.many = 101)
theorem wr_cells {w : World} {a : Option Addr} {L : List Wr} (h : CellsAt w a (flat encWr L)) (k : Nat) (hk : k < L.length) : ∃ b off, a = some ⟨b, off, none⟩ ∧ w.cell? ⟨b, off + k * 3, none⟩ = some (.string L[k].key) ∧ w.cell? ⟨b, off + k * 3 + 1, none⟩ = some (.int .i64 L[k].price) ∧ w.cell? ⟨b, off + k * 3 + 2, none⟩ = some (.string L[k].group) := by
  obtain ⟨b, off, e, hcs⟩ := flat_cells (enc := encWr) (m := 3) (fun _ => rfl) (by decide) h (by omega)
  exact ⟨b, off, e, hcs k hk 0 _ rfl, hcs k hk 1 _ rfl, hcs k hk 2 _ rfl⟩
theorem de_cells {w : World} {a : Option Addr} {L : List De} (h : CellsAt w a (flat encDe L)) (k : Nat) (hk : k < L.length) : ∃ b off, a = some ⟨b, off, none⟩ ∧ w.cell? ⟨b, off + k * 4, none⟩ = some (.string L[k].key) ∧ w.cell? ⟨b, off + k * 4 + 1, none⟩ = some (.string L[k].group) ∧ w.cell? ⟨b, off + k * 4 + 2, none⟩ = some (.int .i64 L[k].many) ∧ w.cell? ⟨b, off + k * 4 + 3, none⟩ = some (.int .i64 L[k].free) := by
  obtain ⟨b, off, e, hcs⟩ := flat_cells (enc := encDe) (m := 4) (fun _ => rfl) (by decide) h (by omega)
  exact ⟨b, off, e, hcs k hk 0 _ rfl, hcs k hk 1 _ rfl, hcs k hk 2 _ rfl, hcs k hk 3 _ rfl⟩
theorem bk_cells {w : World} {a : Option Addr} {L : List Nm} (h : CellsAt w a (flat encNm L)) (k : Nat) (hk : k < L.length) : ∃ b off, a = some ⟨b, off, none⟩ ∧ w.cell? ⟨b, off + k * 2, none⟩ = some (.string L[k].key) ∧ w.cell? ⟨b, off + k * 2 + 1, none⟩ = some (.int .i64 L[k].many) := by
  obtain ⟨b, off, e, hcs⟩ := flat_cells (enc := encNm) (m := 2) (fun _ => rfl) (by decide) h (by omega)
  exact ⟨b, off, e, hcs k hk 0 _ rfl, hcs k hk 1 _ rfl⟩
theorem five_get {α : Type} (a b c d e : α) (i : Nat) (h : i < 5) : ∃ x, #[a, b, c, d, e][i]? = some x ∧ (x = a ∨ x = b ∨ x = c ∨ x = d ∨ x = e) := by
  have : i = 0 ∨ i = 1 ∨ i = 2 ∨ i = 3 ∨ i = 4 := by omega
  rcases this with rfl | rfl | rfl | rfl | rfl <;> simp
end Go.Proofs.YthikknnadmebgaaGreatDoor
