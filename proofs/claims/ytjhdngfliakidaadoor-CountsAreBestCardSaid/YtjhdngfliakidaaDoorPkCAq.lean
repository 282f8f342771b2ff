/- Partners with weights, as the stream makes them: few, with short keys and bounded weights. -/
import Derived.Test.YtjhdngfliakidaaDoorPkCAe
import Derived.Test.YtjhdngfliakidaaDoorPkCAb
import Derived.Test.YtjhdngfliakidaaDoorPkCAf
import Derived.Test.YtjhdngfliakidaaDoorPkCAp
import Derived.Test.YtjhdngfliakidaaDoorPkCAi
import Derived.Deep.RegionLaw
import Derived.Deep.DeepCutAuto
import Derived.Deep.DrawnRows
import Derived.Deep.CutBlock
import Derived.Deep.RegionHeld3
import Derived.Test.YtjhdngfliakidaaDoorPkCAd
namespace Go.Proofs.YtjhdngfliakidaaDoor
open Go.RowKit
variable {lw : Nat}

def encNm (x : Nm) : List Value := [.string x.key, .int .i64 x.many]
theorem encNm_len (x : Nm) : (encNm x).length = 2 := rfl
theorem eNm : ElemT Tryd.prog 30 43 (.agg #[.string ⟨#[]⟩, .int .i64 0]) 2 24 := ⟨by kernel_rfl, by kernel_rfl, by decide, by decide, by decide⟩
def NmSm (x : Nm) : Prop := x.key.size ≤ 2 ∧ -1 ≤ x.many ∧ x.many ≤ 1000001
abbrev pkeys : Array Value := #[.string ⟨#[112, 97]⟩, .string ⟨#[112, 98]⟩, .string ⟨#[112, 99]⟩, .string ⟨#[112, 100]⟩]
/-- What stands while the partners are made. -/
structure PartW (wr w : World) (p lw : Nat) (l : List Int) (q g : Nat) (cur : Array Value) (v : Value) (N : List Nm) : Prop where
  own : wr.ownsRow (w.heap.size + 1) 43 2 v N.length (flat encNm N)
  blk : wr.heap[w.heap.size]? = some (.cells pkeys 9 (0, 0))
  ord : wr.heap[g]? = some (.cells cur 3 (0, 0))
  str : StreamAt wr p lw l q
  all : ∀ x ∈ N, NmSm x
  gr : w.grownBy wr (some p)
  pB : p < w.heap.size
  gB : w.heap.size < g
theorem PartW.keep0 {wr w1 w : World} {p lw : Nat} {l : List Int} {q g : Nat} {cur : Array Value} {v : Value} {N : List Nm} (h : PartW wr w p lw l q g cur v N) (gg : wr.grownBy w1 none) : PartW w1 w p lw l q g cur v N :=
  ⟨own_keep0 h.own gg, (gg.block _ (lt_of_block h.blk) (by simp)).trans h.blk, (gg.block _ (lt_of_block h.ord) (by simp)).trans h.ord, h.str.keep0 gg, h.all, gr_trans h.gr (gr_weak gg _), h.pB, h.gB⟩
theorem PartW.draw {wr w1 w : World} {p lw : Nat} {l : List Int} {q q2 g : Nat} {cur : Array Value} {v : Value} {N : List Nm} (h : PartW wr w p lw l q g cur v N) (gg : wr.grownBy w1 (some p)) (hs : StreamAt w1 p lw l q2) : PartW w1 w p lw l q2 g cur v N :=
  ⟨own_keepS h.own gg (by have := h.pB; omega), (gg.block _ (lt_of_block h.blk) (fun e => by have := h.pB; cases e; omega)).trans h.blk, (gg.block _ (lt_of_block h.ord) (fun e => by have := h.pB; have := h.gB; cases e; omega)).trans h.ord, hs, h.all, gr_trans h.gr gg, h.pB, h.gB⟩
theorem PartW.app {wr w1 w : World} {p lw : Nat} {l : List Int} {q g : Nat} {cur : Array Value} {v v1 : Value} {N : List Nm} {x : Nm} (h : PartW wr w p lw l q g cur v N) (hx : NmSm x) (o : w1.ownsRow (w.heap.size + 1) 43 2 v1 (N.length + 1) (flat encNm N ++ encNm x)) (gg : wr.grownBy w1 v.ownBlock) (hl : ∀ b, v.ownBlock = some b → w.heap.size + 1 ≤ b) : PartW w1 w p lw l q g cur v1 (N ++ [x]) := by
  refine ⟨?_, (gg.block _ (lt_of_block h.blk) (fun e => own_ne h.own h.blk (by decide) e.symm)).trans h.blk, (gg.block _ (lt_of_block h.ord) (fun e => own_ne h.own h.ord (by decide) e.symm)).trans h.ord, h.str.keep gg (fun b e => by have := hl b e; have := h.pB; omega), fun y hy => ?_, gr_grown h.gr gg (fun b e => by have := hl b e; omega), h.pB, h.gB⟩
  · rw [List.length_append, flat_append, flat_one]; exact o
  · rcases List.mem_append.1 hy with hy | hy
    · exact h.all y hy
    · have : y = x := by simpa using hy
      rw [this]; exact hx
def PartPost (l : List Int) (lw k p : Nat) (w : World) (e : Ending) (w' : World) : Prop :=
  ∃ v N, e = .returned v ∧ w'.ownsRow w.heap.size 43 2 v N.length (flat encNm N) ∧ N.length ≤ 5 ∧ (∀ x ∈ N, NmSm x) ∧ (∃ q, q ≤ k + 100 ∧ StreamAt w' p lw l q) ∧ w.grownBy w' (some p)
theorem ord_cells {L : List Int} {cur : Array Value} (ht : cur.toList.take (4 * 1) = ints L) (hL : IsOrder 4 L) : ∀ i, i < 4 → ∃ x : Nat, x < 4 ∧ cur[i]? = some (.int .i64 x) := by
  intro i hi
  have hlen := hL.len
  have e1 : (cur.toList.take (4 * 1))[i]? = (ints L)[i]? := by rw [ht]
  rw [List.getElem?_take_of_lt (by omega)] at e1
  have hm := (hL.mem L[i]).1 (List.getElem_mem _)
  refine ⟨L[i].toNat, by omega, ?_⟩
  rw [← Array.getElem?_toList, e1]
  simp only [ints, List.getElem?_map, List.getElem?_eq_getElem (show i < L.length by omega), Option.map_some]
  rw [Int.toNat_of_nonneg hm.1]
set_option maxRecDepth 100000 in
set_option maxHeartbeats 4000000 in
theorem partners_any (l : List Int) (k : Nat) (p : Nat) (w : World) (hs : StreamAt w p lw l k) (hk : k < 800000000) :
    Calls Tryd.prog 7 #[.pointer (some ⟨p, 0, none⟩)] w (PartPost l lw k p w) := by
  have hlt := hs.lt
  have hB := heap_alloc_new w (.cells pkeys 9)
  have ga := gr_alloc (gr_refl w none) (.cells pkeys 9)
  have S1 := Lib.hid (hs.keep0 ga)
  have HB := Lib.hid hB
  have GA := Lib.hid ga
  clear hB ga hs
  go_enter Tryd.func7, Tryd.ntmps7
  go_wp2_with (fail)
  refine (order_any l k 4 p _ S1.out (by omega) (by decide)).mono ?_
  rintro e w1 ⟨ov, L, rfl, ho, hL, hs2, hg2⟩
  obtain ⟨g, cap, cur, rfl, hgb, hgo, hcap⟩ : ∃ g cap cur, ov = .slice (some ⟨g, 0, none⟩) 4 cap ∧ w.heap.size < g ∧ w1.heap[g]? = some (.cells cur 3 (0, 0)) ∧ cur.toList.take (4 * 1) = ints L := by
    rcases ho.2 with ⟨_, h0⟩ | ⟨g, cap, cur, h1, h2, h3, _, _, _, h4⟩
    · omega
    · simp at h2
      exact ⟨g, cap, cur, h1, by omega, h3, h4⟩
  have OC := Lib.hid (ord_cells hcap hL)
  have K0 : Hid (PartW w1 w p lw l (k + 3) g cur (.slice none 0 0) []) :=
    ⟨World.ownsRow_nil _ _ _ _, (hg2.block _ (lt_of_block HB.out) (fun e => by cases e; omega)).trans HB.out, hgo, hs2, (fun x hx => by cases hx), gr_trans (gr_weak GA.out _) hg2, hlt, hgb⟩
  clear hcap hL ho hs2 hg2 hgo HB GA S1
  go_wp2_with (fail)
  go_loopw [3, 11] (fun o i wr => ∃ (j q : Nat) (v : Value) (N : List Nm), j ≤ 4 ∧ i = .int .i64 j ∧ v = o ∧ N.length ≤ j ∧ q ≤ k + 3 + 2 * j ∧ PartW wr w p lw l q g cur v N) (fun _ i _ => 4 - (intOf i).toNat)
  case atStart => exact ⟨0, k + 3, _, [], by omega, rfl, rfl, Nat.le_refl _, Nat.le_refl _, K0.out⟩
  case round =>
    clear K0
    obtain ⟨j, q, v, N, hj, rfl, rfl, hN, hq, hW⟩ := hrel
    obtain ⟨wo, rfl⟩ : ∃ wo : World, wo = wr := ⟨_, rfl⟩
    by_cases hjl : j < 4
    · obtain ⟨x, hx, hcx⟩ := OC.out j hjl
      have d0 : wo.cell? ⟨g, j, none⟩ = some (.int .i64 (x : Int)) := blkC hW.ord j hcx
      have hjd : decide ((j : Int) < 4) = true := by simp; omega
      have HW := Lib.hid hW
      clear hW hcx
      go_wp2_with (fail)
      refine (flip_any l q 3 p wo HW.out.str (by omega) (by omega)).mono ?_
      rintro e w3 ⟨rfl, hs3, hg3⟩
      have HW3 := Lib.hid (HW.out.draw hg3 hs3)
      obtain ⟨b, hb⟩ : ∃ b, b = flipM l q 3 := ⟨_, rfl⟩
      rw [← hb]
      clear hb hs3 hg3 HW d0
      cases b with
      | true =>
        go_wp2_with (fail)
        go_roundw
        case rel => exact ⟨j + 1, q + 1, _, N, by omega, by go_num, rfl, by omega, by omega, HW3.out⟩
        case measure => simp [intOf]; omega
      | false =>
        obtain ⟨s, hs, hkx⟩ : ∃ s : ByteArray, s.size ≤ 2 ∧ pkeys[x]? = some (.string s) := by
          have : x = 0 ∨ x = 1 ∨ x = 2 ∨ x = 3 := by omega
          rcases this with rfl | rfl | rfl | rfl
          · exact ⟨_, by decide, rfl⟩
          · exact ⟨_, by decide, rfl⟩
          · exact ⟨_, by decide, rfl⟩
          · exact ⟨_, by decide, rfl⟩
        have HKX := Lib.hid hkx
        have c3 : w3.cell? ⟨w.heap.size, x, none⟩ = some (.string s) := blkC HW3.out.blk x hkx
        have hxd : decide ((x : Int) < 4) = true := by simp; omega
        have hx4 : (x : Int) < 4 := by omega
        have hpk := pickM_mem l (q + 1) [0, 1, 1, 2, 5] (by decide)
        simp only [List.mem_cons, List.not_mem_nil, or_false] at hpk
        obtain ⟨y, hy⟩ : ∃ y, y = pickM l (q + 1) [0, 1, 1, 2, 5] := ⟨_, rfl⟩
        rw [← hy] at hpk
        have HSM : Hid (NmSm ⟨s, y⟩) := ⟨hs, by simp only; omega, by simp only; omega⟩
        have hp3 := HW3.out.str.lt
        have hz3 : w.heap.size < w3.heap.size := lt_of_block HW3.out.blk
        have PK : Hid (∀ (wx : World) (g : Nat), StreamAt wx p lw l (q + 1) → g ≠ p → wx.cell? ⟨g, 0, none⟩ = some (.int .i64 0) → wx.cell? ⟨g, 1, none⟩ = some (.int .i64 1) → wx.cell? ⟨g, 2, none⟩ = some (.int .i64 1) → wx.cell? ⟨g, 3, none⟩ = some (.int .i64 2) → wx.cell? ⟨g, 4, none⟩ = some (.int .i64 5) → Calls Tryd.prog 37 #[.pointer (some ⟨p, 0, none⟩), .slice (some ⟨g, 0, none⟩) 5 5] wx fun e w' => e = .returned (.int .i64 y) ∧ StreamAt w' p lw l (q + 1 + 1) ∧ wx.grownBy w' (some p)) := by
          intro wx g h1 h2 h3 h4 h5 h6 h7
          rw [hy]
          exact pick_in l (q + 1) [0, 1, 1, 2, 5] p g wx h1 (by omega) (by decide) (by decide) h2 (fun i hi => by rcases (show i = 0 ∨ i = 1 ∨ i = 2 ∨ i = 3 ∨ i = 4 by simp at hi; omega) with rfl | rfl | rfl | rfl | rfl; (· exact h3); (· exact h4); (· exact h5); (· exact h6); exact h7)
        clear hkx hy hpk hs
        go_wp2_with (fail)
        go_region_law (first
          | (go_simp; go_at_call 37; (with_reducible refine (PK.out _ _ ?_ ?_ ?_ ?_ ?_ ?_ ?_).mono ?_); (· exact HW3.out.str.keep0 (by (repeat (first | exact gr_refl _ _ | apply gr_drew | (refine gr_alloc ?_ _))))); (· first | omega | (simp; omega)); (· go_simp); (· go_simp); (· go_simp); (· go_simp); (· go_simp); rintro e w9 ⟨rfl, hs9, hg9⟩; have HW9 := Lib.hid ((HW3.out.keep0 (show w3.grownBy _ none by (repeat (first | exact gr_refl _ _ | apply gr_drew | (refine gr_alloc ?_ _))))).draw hg9 hs9); have c9 : w9.cell? ⟨w.heap.size, x, none⟩ = some (.string s) := blkC HW9.out.blk x HKX.out; have hz9 : w.heap.size < w9.heap.size := lt_of_block HW9.out.blk)
          | (revert c9; intro c9; refine step_app1 eNm rfl _ _ rfl (w.heap.size + 1) _ N.length _ rfl w9 #[.string s, .int .i64 y] rfl HW9.out.own _ rfl rfl rfl rfl ?_ ?_ ?_; (· omega); (· omega); intro v11 w11 hown11 hg11 hlt11 hk11; have HW11 := Lib.hid (HW9.out.app (x := ⟨s, y⟩) HSM.out hown11 hg11 hlt11))
          | fail)
        all_goals (go_wp2_with (fail))
        all_goals (try go_simp)
        all_goals
          refine ⟨⟨j + 1, by omega, by omega, q + 1 + 1, N ++ [(⟨s, y⟩ : Nm)], by rw [List.length_append]; simp; omega, by omega, HW11.out⟩, by simp [intOf]; omega⟩
    · have HW := Lib.hid hW
      clear hW
      have hjd : decide ((j : Int) < 4) = false := by simp; omega
      go_wp2_with (fail)
      refine (flip_any l q 15 p wo HW.out.str (by omega) (by omega)).mono ?_
      rintro e w3 ⟨rfl, hs3, hg3⟩
      have HW3 := Lib.hid (HW.out.draw hg3 hs3)
      obtain ⟨b, hb⟩ : ∃ b, b = flipM l q 15 := ⟨_, rfl⟩
      rw [← hb]
      clear hb hs3 hg3 HW
      cases b with
      | false =>
        obtain ⟨va, vc, rfl, -, -, -, -⟩ := own_shape HW3.out.own
        go_wp2_with (fail)
        go_ret
        exact ⟨_, N, rfl, own_base HW3.out.own (by omega), by omega, HW3.out.all, ⟨_, by omega, HW3.out.str⟩, HW3.out.gr⟩
      | true =>
        go_wp2_with (fail)
        refine (one_any l (q + 1) [⟨#[]⟩, ⟨#[112, 97]⟩, ⟨#[122, 122]⟩] p w3 HW3.out.str (by omega) (by decide) (by decide)).mono ?_
        rintro e w4 ⟨rfl, hs4, hg4⟩
        have h1 := oneS_mem l (q + 1) [⟨#[]⟩, ⟨#[112, 97]⟩, ⟨#[122, 122]⟩] (by decide)
        have HW4 := Lib.hid (HW3.out.draw hg4 hs4)
        obtain ⟨s, hs⟩ : ∃ y, y = oneS l (q + 1) [⟨#[]⟩, ⟨#[112, 97]⟩, ⟨#[122, 122]⟩] := ⟨_, rfl⟩
        rw [← hs] at h1
        rw [← hs]
        have hs1 : s.size ≤ 2 := by
          simp only [List.mem_cons, List.not_mem_nil, or_false] at h1
          rcases h1 with rfl | rfl | rfl <;> decide
        clear hs hs4 hg4 h1 HW3
        go_wp2_with (fail)
        refine (pick_any l (q + 1 + 1) [-1, 1, 1000001] p w4 HW4.out.str (by omega) (by decide) (by decide)).mono ?_
        rintro e w6 ⟨rfl, hs6, hg6⟩
        have hpk := pickM_mem l (q + 1 + 1) [-1, 1, 1000001] (by decide)
        simp only [List.mem_cons, List.not_mem_nil, or_false] at hpk
        obtain ⟨y, hy⟩ : ∃ y, y = pickM l (q + 1 + 1) [-1, 1, 1000001] := ⟨_, rfl⟩
        rw [← hy] at hpk
        rw [← hy]
        have HW6 := Lib.hid (HW4.out.draw hg6 hs6)
        have HSM : Hid (NmSm ⟨s, y⟩) := ⟨hs1, by simp only; omega, by simp only; omega⟩
        have hz6 : w.heap.size < w6.heap.size := lt_of_block HW6.out.blk
        clear hy hs6 hg6 HW4 hpk
        go_wp2_with (at_builtin; refine wpList_app1F eNm rfl _ _ rfl (w.heap.size + 1) _ N.length (flat encNm N) rfl w6 #[.string s, .int .i64 y] rfl HW6.out.own _ rfl rfl rfl rfl (by omega) (by omega) ?_; intro v7 w7 o7 g7 hl7 _; have HW7 := Lib.hid (HW6.out.app (x := ⟨s, y⟩) HSM.out o7 g7 hl7); clear o7 g7 hl7)
        go_wp2_with (fail)
        go_ret
        exact ⟨_, N ++ [(⟨s, y⟩ : Nm)], rfl, own_base HW7.out.own (by omega), by rw [List.length_append]; simp; omega, HW7.out.all, ⟨_, by omega, HW7.out.str⟩, HW7.out.gr⟩
end Go.Proofs.YtjhdngfliakidaaDoor

/-! A row of structs that a stream's function makes, with a row of strings beside it: what stands on each way. -/
namespace Go.Proofs.YtjhdngfliakidaaDoor
open Go.RowKit

structure MkW {α : Type} (enc : α → List Value) (t m : Nat) (P : α → Prop) (keys : Array Value) (wr w : World) (p lw : Nat) (l : List Int) (q : Nat) (v : Value) (N : List α) : Prop where
  own : wr.ownsRow (w.heap.size + 1) t m v N.length (flat enc N)
  blk : wr.heap[w.heap.size]? = some (.cells keys 9 (0, 0))
  str : StreamAt wr p lw l q
  all : ∀ x ∈ N, P x
  gr : w.grownBy wr (some p)
  pB : p < w.heap.size
section
variable {α : Type} {enc : α → List Value} {t m : Nat} {P : α → Prop} {keys : Array Value} {wr w1 w : World} {p lw : Nat} {l : List Int} {q q2 : Nat} {v v1 : Value} {N : List α} {x : α}
theorem MkW.draw (h : MkW enc t m P keys wr w p lw l q v N) (gg : wr.grownBy w1 (some p)) (hs : StreamAt w1 p lw l q2) : MkW enc t m P keys w1 w p lw l q2 v N :=
  ⟨own_keepS h.own gg (by have := h.pB; omega), (gg.block _ (lt_of_block h.blk) (fun e => by have := h.pB; cases e; omega)).trans h.blk, hs, h.all, gr_trans h.gr gg, h.pB⟩
theorem MkW.app (h : MkW enc t m P keys wr w p lw l q v N) (ht : t ≠ 9) (hx : P x) (o : w1.ownsRow (w.heap.size + 1) t m v1 (N.length + 1) (flat enc N ++ enc x)) (gg : wr.grownBy w1 v.ownBlock) (hl : ∀ b, v.ownBlock = some b → w.heap.size + 1 ≤ b) : MkW enc t m P keys w1 w p lw l q v1 (N ++ [x]) := by
  refine ⟨?_, (gg.block _ (lt_of_block h.blk) (fun e => own_ne h.own h.blk ht e.symm)).trans h.blk, h.str.keep gg (fun b e => by have := hl b e; have := h.pB; omega), fun y hy => ?_, gr_grown h.gr gg (fun b e => by have := hl b e; omega), h.pB⟩
  · rw [List.length_append, flat_append, flat_one]; exact o
  · rcases List.mem_append.1 hy with hy | hy
    · exact h.all y hy
    · have : y = x := by simpa using hy
      rw [this]; exact hx
end
/-- A ware. -/
structure Wr where
  key : ByteArray
  price : Int
  group : ByteArray
def encWr (x : Wr) : List Value := [.string x.key, .int .i64 x.price, .string x.group]
theorem encWr_len (x : Wr) : (encWr x).length = 3 := rfl
def WrSm (x : Wr) : Prop := x.key.size ≤ 5 ∧ (-1 ≤ x.price ∧ x.price ≤ 100001) ∧ x.group.size ≤ 5
/-- A deal. -/
structure De where
  key : ByteArray
  group : ByteArray
  many : Int
  free : Int
def encDe (x : De) : List Value := [.string x.key, .string x.group, .int .i64 x.many, .int .i64 x.free]
theorem encDe_len (x : De) : (encDe x).length = 4 := rfl
def DeSm (x : De) : Prop := x.key.size ≤ 5 ∧ x.group.size ≤ 5 ∧ (0 ≤ x.many ∧ x.many ≤ 21) ∧ (0 ≤ x.free ∧ x.free ≤ 21)
/-- An item of a basket. -/
def BkSm (x : Nm) : Prop := x.key.size ≤ 5 ∧ 0 ≤ x.many ∧ (x.many ≤ 7 ∨ x.many = 101)
theorem wr_cells {w : World} {a : Option Addr} {L : List Wr} (h : CellsAt w a (flat encWr L)) (k : Nat) (hk : k < L.length) : ∃ b off, a = some ⟨b, off, none⟩ ∧ w.cell? ⟨b, off + k * 3, none⟩ = some (.string L[k].key) ∧ w.cell? ⟨b, off + k * 3 + 1, none⟩ = some (.int .i64 L[k].price) ∧ w.cell? ⟨b, off + k * 3 + 2, none⟩ = some (.string L[k].group) := by
  obtain ⟨b, off, e, hcs⟩ := flat_cells (enc := encWr) (m := 3) (fun _ => rfl) (by decide) h (by omega)
  exact ⟨b, off, e, hcs k hk 0 _ rfl, hcs k hk 1 _ rfl, hcs k hk 2 _ rfl⟩
theorem de_cells {w : World} {a : Option Addr} {L : List De} (h : CellsAt w a (flat encDe L)) (k : Nat) (hk : k < L.length) : ∃ b off, a = some ⟨b, off, none⟩ ∧ w.cell? ⟨b, off + k * 4, none⟩ = some (.string L[k].key) ∧ w.cell? ⟨b, off + k * 4 + 1, none⟩ = some (.string L[k].group) ∧ w.cell? ⟨b, off + k * 4 + 2, none⟩ = some (.int .i64 L[k].many) ∧ w.cell? ⟨b, off + k * 4 + 3, none⟩ = some (.int .i64 L[k].free) := by
  obtain ⟨b, off, e, hcs⟩ := flat_cells (enc := encDe) (m := 4) (fun _ => rfl) (by decide) h (by omega)
  exact ⟨b, off, e, hcs k hk 0 _ rfl, hcs k hk 1 _ rfl, hcs k hk 2 _ rfl, hcs k hk 3 _ rfl⟩
theorem bk_cells {w : World} {a : Option Addr} {L : List Nm} (h : CellsAt w a (flat encNm L)) (k : Nat) (hk : k < L.length) : ∃ b off, a = some ⟨b, off, none⟩ ∧ w.cell? ⟨b, off + k * 2, none⟩ = some (.string L[k].key) ∧ w.cell? ⟨b, off + k * 2 + 1, none⟩ = some (.int .i64 L[k].many) := by
  obtain ⟨b, off, e, hcs⟩ := flat_cells (enc := encNm) (m := 2) (fun _ => rfl) (by decide) h (by omega)
  exact ⟨b, off, e, hcs k hk 0 _ rfl, hcs k hk 1 _ rfl⟩
theorem five_get {α : Type} (a b c d e : α) (i : Nat) (h : i < 5) : ∃ x, #[a, b, c, d, e][i]? = some x ∧ (x = a ∨ x = b ∨ x = c ∨ x = d ∨ x = e) := by
  have : i = 0 ∨ i = 1 ∨ i = 2 ∨ i = 3 ∨ i = 4 := by omega
  rcases this with rfl | rfl | rfl | rfl | rfl <;> simp
end Go.Proofs.YtjhdngfliakidaaDoor
