/- Partners with weights, as the stream makes them: few, with short keys and bounded weights. -/
import Derived.Test.YtjhfglhoiplfmaaDoorPkDAe
import Derived.Test.YtjhfglhoiplfmaaDoorPkDAb
import Derived.Test.YtjhfglhoiplfmaaDoorPkDAf
import Derived.Test.YtjhfglhoiplfmaaDoorPkDAp
import Derived.Test.YtjhfglhoiplfmaaDoorPkDAi
import Derived.Deep.RegionLaw
import Derived.Deep.DeepCutAuto
import Derived.Deep.DrawnRows
import Derived.Deep.CutBlock
import Derived.Deep.RegionHeld3
import Derived.Test.YtjhfglhoiplfmaaDoorPkDAd
import Derived.Test.YtjhfglhoiplfmaaDoorPkDAa
import Derived.Test.YtjhfglhoiplfmaaDoorPkDAn
import Derived.WalkLawsBesides
namespace Go.Proofs.YtjhfglhoiplfmaaDoor
open Go.RowKit
variable {lw : Nat}

def encNm (x : Nm) : List Value := [.string x.key, .int .i64 x.many]
theorem encNm_len (x : Nm) : (encNm x).length = 2 := rfl
theorem eNm : ElemT Tryd.prog 28 42 (.agg #[.string ⟨#[]⟩, .int .i64 0]) 2 24 := ⟨by kernel_rfl, by kernel_rfl, by decide, by decide, by decide⟩
def NmSm (x : Nm) : Prop := x.key.size ≤ 2 ∧ -1 ≤ x.many ∧ x.many ≤ 1000001
abbrev pkeys : Array Value := #[.string ⟨#[112, 97]⟩, .string ⟨#[112, 98]⟩, .string ⟨#[112, 99]⟩, .string ⟨#[112, 100]⟩]
/-- What stands while the partners are made. -/
structure PartW (wr w : World) (p lw : Nat) (l : List Int) (q g : Nat) (cur : Array Value) (v : Value) (N : List Nm) : Prop where
  own : wr.ownsRow (w.heap.size + 1) 42 2 v N.length (flat encNm N)
  blk : wr.heap[w.heap.size]? = some (.cells pkeys 9 (0, 0))
  ord : wr.heap[g]? = some (.cells cur 3 (0, 0))
  str : StreamAt wr p lw l q
  all : ∀ x ∈ N, NmSm x
  gr : w.grownBy wr (some p)
  pB : p < w.heap.size
  gB : w.heap.size < g
theorem PartW.keep0 {wr w1 w : World} {p lw : Nat} {l : List Int} {q g : Nat} {cur : Array Value} {v : Value} {N : List Nm} (h : PartW wr w p lw l q g cur v N) (gg : wr.grownBy w1 none) : PartW w1 w p lw l q g cur v N :=
  ⟨own_keep0 h.own gg, (gg.block _ (lt_of_block h.blk) (by simp)).trans h.blk, (gg.block _ (lt_of_block h.ord) (by simp)).trans h.ord, h.str.keep0 gg, h.all, gr_trans h.gr (gr_weak gg _), h.pB, h.gB⟩
theorem PartW.draw {wr w1 w : World} {p lw : Nat} {l : List Int} {q q2 g : Nat} {cur : Array Value} {v : Value} {N : List Nm} (h : PartW wr w p lw l q g cur v N) (gg : wr.grownBy w1 (some p)) (hs : StreamAt w1 p lw l q2) : PartW w1 w p lw l q2 g cur v N :=
  ⟨own_keepS h.own gg (by have := h.pB; omega), (gg.block _ (lt_of_block h.blk) (fun e => by have := h.pB; cases e; omega)).trans h.blk, (gg.block _ (lt_of_block h.ord) (fun e => by have := h.pB; have := h.gB; cases e; omega)).trans h.ord, hs, h.all, gr_trans h.gr gg, h.pB, h.gB⟩
theorem PartW.app {wr w1 w : World} {p lw : Nat} {l : List Int} {q g : Nat} {cur : Array Value} {v v1 : Value} {N : List Nm} {x : Nm} (h : PartW wr w p lw l q g cur v N) (hx : NmSm x) (o : w1.ownsRow (w.heap.size + 1) 42 2 v1 (N.length + 1) (flat encNm N ++ encNm x)) (gg : wr.grownBy w1 v.ownBlock) (hl : ∀ b, v.ownBlock = some b → w.heap.size + 1 ≤ b) : PartW w1 w p lw l q g cur v1 (N ++ [x]) := by
  refine ⟨?_, (gg.block _ (lt_of_block h.blk) (fun e => own_ne h.own h.blk (by decide) e.symm)).trans h.blk, (gg.block _ (lt_of_block h.ord) (fun e => own_ne h.own h.ord (by decide) e.symm)).trans h.ord, h.str.keep gg (fun b e => by have := hl b e; have := h.pB; omega), fun y hy => ?_, gr_grown h.gr gg (fun b e => by have := hl b e; omega), h.pB, h.gB⟩
  · rw [List.length_append, flat_append, flat_one]; exact o
  · rcases List.mem_append.1 hy with hy | hy
    · exact h.all y hy
    · have : y = x := by simpa using hy
      rw [this]; exact hx
def PartPost (l : List Int) (lw k p : Nat) (w : World) (e : Ending) (w' : World) : Prop :=
  ∃ v N, e = .returned v ∧ w'.ownsRow w.heap.size 42 2 v N.length (flat encNm N) ∧ N.length ≤ 5 ∧ (∀ x ∈ N, NmSm x) ∧ (∃ q, q ≤ k + 100 ∧ StreamAt w' p lw l q) ∧ w.grownBy w' (some p)
theorem ord_cells {L : List Int} {cur : Array Value} (ht : cur.toList.take (4 * 1) = ints L) (hL : IsOrder 4 L) : ∀ i, i < 4 → ∃ x : Nat, x < 4 ∧ cur[i]? = some (.int .i64 x) := by
  intro i hi
  have hlen := hL.len
  have e1 : (cur.toList.take (4 * 1))[i]? = (ints L)[i]? := by rw [ht]
  rw [List.getElem?_take_of_lt (by omega)] at e1
  have hm := (hL.mem L[i]).1 (List.getElem_mem _)
  refine ⟨L[i].toNat, by omega, ?_⟩
  rw [← Array.getElem?_toList, e1]
  simp only [ints, List.getElem?_map, List.getElem?_eq_getElem (show i < L.length by omega), Option.map_some]
  rw [Int.toNat_of_nonneg hm.1]
set_option maxRecDepth 100000 in
set_option maxHeartbeats 4000000 in
theorem partners_any (l : List Int) (k : Nat) (p : Nat) (w : World) (hs : StreamAt w p lw l k) (hk : k < 800000000) :
    Calls Tryd.prog 27 #[.pointer (some ⟨p, 0, none⟩)] w (PartPost l lw k p w) := by
  have hlt := hs.lt
  have hB := heap_alloc_new w (.cells pkeys 9)
  have ga := gr_alloc (gr_refl w none) (.cells pkeys 9)
  have S1 := Lib.hid (hs.keep0 ga)
  have HB := Lib.hid hB
  have GA := Lib.hid ga
  clear hB ga hs
  go_enter Tryd.func27, Tryd.ntmps27
  go_wp2_with (fail)
  refine (order_any l k 4 p _ S1.out (by omega) (by decide)).mono ?_
  rintro e w1 ⟨ov, L, rfl, ho, hL, hs2, hg2⟩
  obtain ⟨g, cap, cur, rfl, hgb, hgo, hcap⟩ : ∃ g cap cur, ov = .slice (some ⟨g, 0, none⟩) 4 cap ∧ w.heap.size < g ∧ w1.heap[g]? = some (.cells cur 3 (0, 0)) ∧ cur.toList.take (4 * 1) = ints L := by
    rcases ho.2 with ⟨_, h0⟩ | ⟨g, cap, cur, h1, h2, h3, _, _, _, h4⟩
    · omega
    · simp at h2
      exact ⟨g, cap, cur, h1, by omega, h3, h4⟩
  have OC := Lib.hid (ord_cells hcap hL)
  have K0 : Hid (PartW w1 w p lw l (k + 3) g cur (.slice none 0 0) []) :=
    ⟨World.ownsRow_nil _ _ _ _, (hg2.block _ (lt_of_block HB.out) (fun e => by cases e; omega)).trans HB.out, hgo, hs2, (fun x hx => by cases hx), gr_trans (gr_weak GA.out _) hg2, hlt, hgb⟩
  clear hcap hL ho hs2 hg2 hgo HB GA S1
  go_wp2_with (fail)
  go_loopw [3, 11] (fun o i wr => ∃ (j q : Nat) (v : Value) (N : List Nm), j ≤ 4 ∧ i = .int .i64 j ∧ v = o ∧ N.length ≤ j ∧ q ≤ k + 3 + 2 * j ∧ PartW wr w p lw l q g cur v N) (fun _ i _ => 4 - (intOf i).toNat)
  case atStart => exact ⟨0, k + 3, _, [], by omega, rfl, rfl, Nat.le_refl _, Nat.le_refl _, K0.out⟩
  case round =>
    clear K0
    obtain ⟨j, q, v, N, hj, rfl, rfl, hN, hq, hW⟩ := hrel
    obtain ⟨wo, rfl⟩ : ∃ wo : World, wo = wr := ⟨_, rfl⟩
    by_cases hjl : j < 4
    · obtain ⟨x, hx, hcx⟩ := OC.out j hjl
      have d0 : wo.cell? ⟨g, j, none⟩ = some (.int .i64 (x : Int)) := blkC hW.ord j hcx
      have hjd : decide ((j : Int) < 4) = true := by simp; omega
      have HW := Lib.hid hW
      clear hW hcx
      go_wp2_with (fail)
      refine (flip_any l q 3 p wo HW.out.str (by omega) (by omega)).mono ?_
      rintro e w3 ⟨rfl, hs3, hg3⟩
      have HW3 := Lib.hid (HW.out.draw hg3 hs3)
      obtain ⟨b, hb⟩ : ∃ b, b = flipM l q 3 := ⟨_, rfl⟩
      rw [← hb]
      clear hb hs3 hg3 HW d0
      cases b with
      | true =>
        go_wp2_with (fail)
        go_roundw
        case rel => exact ⟨j + 1, q + 1, _, N, by omega, by go_num, rfl, by omega, by omega, HW3.out⟩
        case measure => simp [intOf]; omega
      | false =>
        obtain ⟨s, hs, hkx⟩ : ∃ s : ByteArray, s.size ≤ 2 ∧ pkeys[x]? = some (.string s) := by
          have : x = 0 ∨ x = 1 ∨ x = 2 ∨ x = 3 := by omega
          rcases this with rfl | rfl | rfl | rfl
          · exact ⟨_, by decide, rfl⟩
          · exact ⟨_, by decide, rfl⟩
          · exact ⟨_, by decide, rfl⟩
          · exact ⟨_, by decide, rfl⟩
        have HKX := Lib.hid hkx
        have c3 : w3.cell? ⟨w.heap.size, x, none⟩ = some (.string s) := blkC HW3.out.blk x hkx
        have hxd : decide ((x : Int) < 4) = true := by simp; omega
        have hx4 : (x : Int) < 4 := by omega
        have hpk := pickM_mem l (q + 1) [0, 1, 1, 2, 5] (by decide)
        simp only [List.mem_cons, List.not_mem_nil, or_false] at hpk
        obtain ⟨y, hy⟩ : ∃ y, y = pickM l (q + 1) [0, 1, 1, 2, 5] := ⟨_, rfl⟩
        rw [← hy] at hpk
        have HSM : Hid (NmSm ⟨s, y⟩) := ⟨hs, by simp only; omega, by simp only; omega⟩
        have hp3 := HW3.out.str.lt
        have hz3 : w.heap.size < w3.heap.size := lt_of_block HW3.out.blk
        have PK : Hid (∀ (wx : World) (g : Nat), StreamAt wx p lw l (q + 1) → g ≠ p → wx.cell? ⟨g, 0, none⟩ = some (.int .i64 0) → wx.cell? ⟨g, 1, none⟩ = some (.int .i64 1) → wx.cell? ⟨g, 2, none⟩ = some (.int .i64 1) → wx.cell? ⟨g, 3, none⟩ = some (.int .i64 2) → wx.cell? ⟨g, 4, none⟩ = some (.int .i64 5) → Calls Tryd.prog 45 #[.pointer (some ⟨p, 0, none⟩), .slice (some ⟨g, 0, none⟩) 5 5] wx fun e w' => e = .returned (.int .i64 y) ∧ StreamAt w' p lw l (q + 1 + 1) ∧ wx.grownBy w' (some p)) := by
          intro wx g h1 h2 h3 h4 h5 h6 h7
          rw [hy]
          exact pick_in l (q + 1) [0, 1, 1, 2, 5] p g wx h1 (by omega) (by decide) (by decide) h2 (fun i hi => by rcases (show i = 0 ∨ i = 1 ∨ i = 2 ∨ i = 3 ∨ i = 4 by simp at hi; omega) with rfl | rfl | rfl | rfl | rfl; (· exact h3); (· exact h4); (· exact h5); (· exact h6); exact h7)
        clear hkx hy hpk hs
        go_wp2_with (fail)
        go_region_law (first
          | (go_simp; go_at_call 45; (with_reducible refine (PK.out _ _ ?_ ?_ ?_ ?_ ?_ ?_ ?_).mono ?_); (· exact HW3.out.str.keep0 (by (repeat (first | exact gr_refl _ _ | apply gr_drew | (refine gr_alloc ?_ _))))); (· first | omega | (simp; omega)); (· go_simp); (· go_simp); (· go_simp); (· go_simp); (· go_simp); rintro e w9 ⟨rfl, hs9, hg9⟩; have HW9 := Lib.hid ((HW3.out.keep0 (show w3.grownBy _ none by (repeat (first | exact gr_refl _ _ | apply gr_drew | (refine gr_alloc ?_ _))))).draw hg9 hs9); have c9 : w9.cell? ⟨w.heap.size, x, none⟩ = some (.string s) := blkC HW9.out.blk x HKX.out; have hz9 : w.heap.size < w9.heap.size := lt_of_block HW9.out.blk)
          | (revert c9; intro c9; refine step_app1 eNm rfl _ _ rfl (w.heap.size + 1) _ N.length _ rfl w9 #[.string s, .int .i64 y] rfl HW9.out.own _ rfl rfl rfl rfl ?_ ?_ ?_; (· omega); (· omega); intro v11 w11 hown11 hg11 hlt11 hk11; have HW11 := Lib.hid (HW9.out.app (x := ⟨s, y⟩) HSM.out hown11 hg11 hlt11))
          | fail)
        all_goals (go_wp2_with (fail))
        all_goals (try go_simp)
        all_goals
          refine ⟨⟨j + 1, by omega, by omega, q + 1 + 1, N ++ [(⟨s, y⟩ : Nm)], by rw [List.length_append]; simp; omega, by omega, HW11.out⟩, by simp [intOf]; omega⟩
    · have HW := Lib.hid hW
      clear hW
      have hjd : decide ((j : Int) < 4) = false := by simp; omega
      go_wp2_with (fail)
      refine (flip_any l q 15 p wo HW.out.str (by omega) (by omega)).mono ?_
      rintro e w3 ⟨rfl, hs3, hg3⟩
      have HW3 := Lib.hid (HW.out.draw hg3 hs3)
      obtain ⟨b, hb⟩ : ∃ b, b = flipM l q 15 := ⟨_, rfl⟩
      rw [← hb]
      clear hb hs3 hg3 HW
      cases b with
      | false =>
        obtain ⟨va, vc, rfl, -, -, -, -⟩ := own_shape HW3.out.own
        go_wp2_with (fail)
        go_ret
        exact ⟨_, N, rfl, own_base HW3.out.own (by omega), by omega, HW3.out.all, ⟨_, by omega, HW3.out.str⟩, HW3.out.gr⟩
      | true =>
        go_wp2_with (fail)
        refine (one_any l (q + 1) [⟨#[]⟩, ⟨#[112, 97]⟩, ⟨#[122, 122]⟩] p w3 HW3.out.str (by omega) (by decide) (by decide)).mono ?_
        rintro e w4 ⟨rfl, hs4, hg4⟩
        have h1 := oneS_mem l (q + 1) [⟨#[]⟩, ⟨#[112, 97]⟩, ⟨#[122, 122]⟩] (by decide)
        have HW4 := Lib.hid (HW3.out.draw hg4 hs4)
        obtain ⟨s, hs⟩ : ∃ y, y = oneS l (q + 1) [⟨#[]⟩, ⟨#[112, 97]⟩, ⟨#[122, 122]⟩] := ⟨_, rfl⟩
        rw [← hs] at h1
        rw [← hs]
        have hs1 : s.size ≤ 2 := by
          simp only [List.mem_cons, List.not_mem_nil, or_false] at h1
          rcases h1 with rfl | rfl | rfl <;> decide
        clear hs hs4 hg4 h1 HW3
        go_wp2_with (fail)
        refine (pick_any l (q + 1 + 1) [-1, 1, 1000001] p w4 HW4.out.str (by omega) (by decide) (by decide)).mono ?_
        rintro e w6 ⟨rfl, hs6, hg6⟩
        have hpk := pickM_mem l (q + 1 + 1) [-1, 1, 1000001] (by decide)
        simp only [List.mem_cons, List.not_mem_nil, or_false] at hpk
        obtain ⟨y, hy⟩ : ∃ y, y = pickM l (q + 1 + 1) [-1, 1, 1000001] := ⟨_, rfl⟩
        rw [← hy] at hpk
        rw [← hy]
        have HW6 := Lib.hid (HW4.out.draw hg6 hs6)
        have HSM : Hid (NmSm ⟨s, y⟩) := ⟨hs1, by simp only; omega, by simp only; omega⟩
        have hz6 : w.heap.size < w6.heap.size := lt_of_block HW6.out.blk
        clear hy hs6 hg6 HW4 hpk
        go_wp2_with (at_builtin; refine wpList_app1F eNm rfl _ _ rfl (w.heap.size + 1) _ N.length (flat encNm N) rfl w6 #[.string s, .int .i64 y] rfl HW6.out.own _ rfl rfl rfl rfl (by omega) (by omega) ?_; intro v7 w7 o7 g7 hl7 _; have HW7 := Lib.hid (HW6.out.app (x := ⟨s, y⟩) HSM.out o7 g7 hl7); clear o7 g7 hl7)
        go_wp2_with (fail)
        go_ret
        exact ⟨_, N ++ [(⟨s, y⟩ : Nm)], rfl, own_base HW7.out.own (by omega), by rw [List.length_append]; simp; omega, HW7.out.all, ⟨_, by omega, HW7.out.str⟩, HW7.out.gr⟩
end Go.Proofs.YtjhfglhoiplfmaaDoor

/-! A row of structs that a stream's function makes, with a row of strings beside it: what stands on each way. -/
namespace Go.Proofs.YtjhfglhoiplfmaaDoor
open Go.RowKit

structure MkW {α : Type} (enc : α → List Value) (t m : Nat) (P : α → Prop) (keys : Array Value) (wr w : World) (p lw : Nat) (l : List Int) (q : Nat) (v : Value) (N : List α) : Prop where
  own : wr.ownsRow (w.heap.size + 1) t m v N.length (flat enc N)
  blk : wr.heap[w.heap.size]? = some (.cells keys 9 (0, 0))
  str : StreamAt wr p lw l q
  all : ∀ x ∈ N, P x
  gr : w.grownBy wr (some p)
  pB : p < w.heap.size
section
variable {α : Type} {enc : α → List Value} {t m : Nat} {P : α → Prop} {keys : Array Value} {wr w1 w : World} {p lw : Nat} {l : List Int} {q q2 : Nat} {v v1 : Value} {N : List α} {x : α}
theorem MkW.draw (h : MkW enc t m P keys wr w p lw l q v N) (gg : wr.grownBy w1 (some p)) (hs : StreamAt w1 p lw l q2) : MkW enc t m P keys w1 w p lw l q2 v N :=
  ⟨own_keepS h.own gg (by have := h.pB; omega), (gg.block _ (lt_of_block h.blk) (fun e => by have := h.pB; cases e; omega)).trans h.blk, hs, h.all, gr_trans h.gr gg, h.pB⟩
theorem MkW.app (h : MkW enc t m P keys wr w p lw l q v N) (ht : t ≠ 9) (hx : P x) (o : w1.ownsRow (w.heap.size + 1) t m v1 (N.length + 1) (flat enc N ++ enc x)) (gg : wr.grownBy w1 v.ownBlock) (hl : ∀ b, v.ownBlock = some b → w.heap.size + 1 ≤ b) : MkW enc t m P keys w1 w p lw l q v1 (N ++ [x]) := by
  refine ⟨?_, (gg.block _ (lt_of_block h.blk) (fun e => own_ne h.own h.blk ht e.symm)).trans h.blk, h.str.keep gg (fun b e => by have := hl b e; have := h.pB; omega), fun y hy => ?_, gr_grown h.gr gg (fun b e => by have := hl b e; omega), h.pB⟩
  · rw [List.length_append, flat_append, flat_one]; exact o
  · rcases List.mem_append.1 hy with hy | hy
    · exact h.all y hy
    · have : y = x := by simpa using hy
      rw [this]; exact hx
end
/-- A ware. -/
structure Wr where
  key : ByteArray
  price : Int
  group : ByteArray
def encWr (x : Wr) : List Value := [.string x.key, .int .i64 x.price, .string x.group]
theorem encWr_len (x : Wr) : (encWr x).length = 3 := rfl
theorem eWr : ElemT Tryd.prog 26 97 (.agg #[.string ⟨#[]⟩, .int .i64 0, .string ⟨#[]⟩]) 3 40 := ⟨by kernel_rfl, by kernel_rfl, by decide, by decide, by decide⟩
def WrSm (x : Wr) : Prop := x.key.size ≤ 5 ∧ (-1 ≤ x.price ∧ x.price ≤ 100001) ∧ x.group.size ≤ 5
/-- A deal. -/
structure De where
  key : ByteArray
  group : ByteArray
  many : Int
  free : Int
def encDe (x : De) : List Value := [.string x.key, .string x.group, .int .i64 x.many, .int .i64 x.free]
theorem encDe_len (x : De) : (encDe x).length = 4 := rfl
theorem eDe : ElemT Tryd.prog 30 40 (.agg #[.string ⟨#[]⟩, .string ⟨#[]⟩, .int .i64 0, .int .i64 0]) 4 48 := ⟨by kernel_rfl, by kernel_rfl, by decide, by decide, by decide⟩
def DeSm (x : De) : Prop := x.key.size ≤ 5 ∧ x.group.size ≤ 5 ∧ (0 ≤ x.many ∧ x.many ≤ 21) ∧ (0 ≤ x.free ∧ x.free ≤ 21)
/-- An item of a basket. -/
def BkSm (x : Nm) : Prop := x.key.size ≤ 5 ∧ 0 ≤ x.many ∧ (x.many ≤ 7 ∨ x.many = 101)
theorem wr_cells {w : World} {a : Option Addr} {L : List Wr} (h : CellsAt w a (flat encWr L)) (k : Nat) (hk : k < L.length) : ∃ b off, a = some ⟨b, off, none⟩ ∧ w.cell? ⟨b, off + k * 3, none⟩ = some (.string L[k].key) ∧ w.cell? ⟨b, off + k * 3 + 1, none⟩ = some (.int .i64 L[k].price) ∧ w.cell? ⟨b, off + k * 3 + 2, none⟩ = some (.string L[k].group) := by
  obtain ⟨b, off, e, hcs⟩ := flat_cells (enc := encWr) (m := 3) (fun _ => rfl) (by decide) h (by omega)
  exact ⟨b, off, e, hcs k hk 0 _ rfl, hcs k hk 1 _ rfl, hcs k hk 2 _ rfl⟩
theorem de_cells {w : World} {a : Option Addr} {L : List De} (h : CellsAt w a (flat encDe L)) (k : Nat) (hk : k < L.length) : ∃ b off, a = some ⟨b, off, none⟩ ∧ w.cell? ⟨b, off + k * 4, none⟩ = some (.string L[k].key) ∧ w.cell? ⟨b, off + k * 4 + 1, none⟩ = some (.string L[k].group) ∧ w.cell? ⟨b, off + k * 4 + 2, none⟩ = some (.int .i64 L[k].many) ∧ w.cell? ⟨b, off + k * 4 + 3, none⟩ = some (.int .i64 L[k].free) := by
  obtain ⟨b, off, e, hcs⟩ := flat_cells (enc := encDe) (m := 4) (fun _ => rfl) (by decide) h (by omega)
  exact ⟨b, off, e, hcs k hk 0 _ rfl, hcs k hk 1 _ rfl, hcs k hk 2 _ rfl, hcs k hk 3 _ rfl⟩
theorem bk_cells {w : World} {a : Option Addr} {L : List Nm} (h : CellsAt w a (flat encNm L)) (k : Nat) (hk : k < L.length) : ∃ b off, a = some ⟨b, off, none⟩ ∧ w.cell? ⟨b, off + k * 2, none⟩ = some (.string L[k].key) ∧ w.cell? ⟨b, off + k * 2 + 1, none⟩ = some (.int .i64 L[k].many) := by
  obtain ⟨b, off, e, hcs⟩ := flat_cells (enc := encNm) (m := 2) (fun _ => rfl) (by decide) h (by omega)
  exact ⟨b, off, e, hcs k hk 0 _ rfl, hcs k hk 1 _ rfl⟩
theorem five_get {α : Type} (a b c d e : α) (i : Nat) (h : i < 5) : ∃ x, #[a, b, c, d, e][i]? = some x ∧ (x = a ∨ x = b ∨ x = c ∨ x = d ∨ x = e) := by
  have : i = 0 ∨ i = 1 ∨ i = 2 ∨ i = 3 ∨ i = 4 := by omega
  rcases this with rfl | rfl | rfl | rfl | rfl <;> simp
end Go.Proofs.YtjhfglhoiplfmaaDoor

/-! Package slices at elements coilrack/api.Ware: with a function value. Written by mkfind.py. -/
namespace Go.Proofs.YtjhfglhoiplfmaaDoor
open Go.RowKit

set_option maxRecDepth 100000 in
set_option maxHeartbeats 1000000 in
theorem indexFunc_Wr (F : FuncId) (q0 : Nat) (P : Wr → Bool) (xs : List (Wr)) (a : Option Addr) (c : Nat) (w : World) (hc : CellsAt w a (flat encWr xs)) (hl : xs.length ≤ 137438953472)
    (hE : ∀ (args : Array Value) (w : World), (callFunc F args).run Tryd.prog w = .ok (.enter F args) w)
    (hF : ∀ x ∈ xs, ∀ w1, w.grownBy w1 none → Calls Tryd.prog F #[.agg #[.string x.key, .int .i64 x.price, .string x.group], .pointer (some ⟨q0, 0, none⟩)] w1 fun e w2 => e = .returned (.bool (P x)) ∧ w1.grownBy w2 none) :
    Calls Tryd.prog 103 #[.slice a xs.length c, Value.func (.func F) #[] #[.pointer (some ⟨q0, 0, none⟩)]] w fun e w' => e = .returned (.int .i64 (findA P xs)) ∧ w.grownBy w' none := by
  have HF := Lib.hid hF; clear hF
  go_enter Tryd.func103, Tryd.ntmps103
  go_wp2_with (fail)
  go_loopw [8] (fun i wr => ∃ k : Nat, k ≤ xs.length ∧ i = .int .i64 k ∧ (∀ j (hj : j < xs.length), j < k → P xs[j] = false) ∧ w.grownBy wr none) (fun i _ => xs.length - (intOf i).toNat)
  case atStart => exact ⟨0, Nat.zero_le _, rfl, fun j _ hj => absurd hj (Nat.not_lt_zero _), gr_refl _ _⟩
  case round =>
    obtain ⟨k, hk, rfl, hno, hgr⟩ := hrel
    obtain ⟨wo, rfl⟩ : ∃ wo : World, wo = wr := ⟨_, rfl⟩
    have HNO := Lib.hid hno; clear hno
    by_cases hlt : k < xs.length
    · obtain ⟨b, off, rfl, hcs⟩ := flat_cells (enc := encWr) (m := 3) (fun _ => rfl) (by decide) (hc.keep0 hgr) (by omega)
      have hmem : xs[k] ∈ xs := List.getElem_mem hlt
      obtain ⟨x, hx⟩ : ∃ x, x = xs[k] := ⟨_, rfl⟩
      have HX := Lib.hid hx
      have d0 : wo.cell? ⟨b, off + k * 3, none⟩ = some (.string x.key) := by have := hcs k hlt 0 _ rfl; simpa [← HX.out] using this
      have d1 : wo.cell? ⟨b, off + k * 3 + 1, none⟩ = some (.int .i64 x.price) := by have := hcs k hlt 1 _ rfl; simpa [← HX.out] using this
      have d2 : wo.cell? ⟨b, off + k * 3 + 2, none⟩ = some (.string x.group) := by have := hcs k hlt 2 _ rfl; simpa [← HX.out] using this
      rw [← hx] at hmem
      clear hx
      have HM := Lib.hid hmem; clear hmem hcs
      go_wp2_with (fail)
      refine (HF.out x HM.out wo hgr).mono ?_
      rintro e w1 ⟨rfl, hg1⟩
      cases hp : P x with
      | true =>
        have HP := Lib.hid hp; clear hp
        go_wp2_with (fail)
        go_ret
        refine ⟨ret_int (findA_at hlt (by rw [← HX.out]; exact HP.out) (fun j hj => HNO.out j (by omega) hj)).symm, gr_trans hgr hg1⟩
      | false =>
        have HP := Lib.hid hp; clear hp
        go_wp2_with (fail)
        go_roundw
        case rel =>
          refine ⟨k + 1, by omega, by go_num, fun j hjl hj => ?_, gr_trans hgr hg1⟩
          by_cases hjk : j = k
          · subst hjk; rw [← HX.out]; exact HP.out
          · exact HNO.out j hjl (by omega)
        case measure => simp [intOf]; omega
    · have hkl : k = xs.length := by omega
      have HK := Lib.hid hkl; clear hkl
      go_wp2_with (fail)
      go_ret
      exact ⟨ret_int (findA_none (fun j hj => HNO.out j hj (by rw [HK.out]; exact hj))).symm, hgr⟩

end Go.Proofs.YtjhfglhoiplfmaaDoor

/-! Package slices at elements coilrack/api.Deal: with a function value. Written by mkfind.py. -/
namespace Go.Proofs.YtjhfglhoiplfmaaDoor
open Go.RowKit

set_option maxRecDepth 100000 in
set_option maxHeartbeats 1000000 in
theorem indexFunc_De (F : FuncId) (q0 : Nat) (P : De → Bool) (xs : List (De)) (a : Option Addr) (c : Nat) (w : World) (hc : CellsAt w a (flat encDe xs)) (hl : xs.length ≤ 137438953472)
    (hE : ∀ (args : Array Value) (w : World), (callFunc F args).run Tryd.prog w = .ok (.enter F args) w)
    (hF : ∀ x ∈ xs, ∀ w1, w.grownBy w1 none → Calls Tryd.prog F #[.agg #[.string x.key, .string x.group, .int .i64 x.many, .int .i64 x.free], .pointer (some ⟨q0, 0, none⟩)] w1 fun e w2 => e = .returned (.bool (P x)) ∧ w1.grownBy w2 none) :
    Calls Tryd.prog 98 #[.slice a xs.length c, Value.func (.func F) #[] #[.pointer (some ⟨q0, 0, none⟩)]] w fun e w' => e = .returned (.int .i64 (findA P xs)) ∧ w.grownBy w' none := by
  have HF := Lib.hid hF; clear hF
  go_enter Tryd.func98, Tryd.ntmps98
  go_wp2_with (fail)
  go_loopw [8] (fun i wr => ∃ k : Nat, k ≤ xs.length ∧ i = .int .i64 k ∧ (∀ j (hj : j < xs.length), j < k → P xs[j] = false) ∧ w.grownBy wr none) (fun i _ => xs.length - (intOf i).toNat)
  case atStart => exact ⟨0, Nat.zero_le _, rfl, fun j _ hj => absurd hj (Nat.not_lt_zero _), gr_refl _ _⟩
  case round =>
    obtain ⟨k, hk, rfl, hno, hgr⟩ := hrel
    obtain ⟨wo, rfl⟩ : ∃ wo : World, wo = wr := ⟨_, rfl⟩
    have HNO := Lib.hid hno; clear hno
    by_cases hlt : k < xs.length
    · obtain ⟨b, off, rfl, hcs⟩ := flat_cells (enc := encDe) (m := 4) (fun _ => rfl) (by decide) (hc.keep0 hgr) (by omega)
      have hmem : xs[k] ∈ xs := List.getElem_mem hlt
      obtain ⟨x, hx⟩ : ∃ x, x = xs[k] := ⟨_, rfl⟩
      have HX := Lib.hid hx
      have d0 : wo.cell? ⟨b, off + k * 4, none⟩ = some (.string x.key) := by have := hcs k hlt 0 _ rfl; simpa [← HX.out] using this
      have d1 : wo.cell? ⟨b, off + k * 4 + 1, none⟩ = some (.string x.group) := by have := hcs k hlt 1 _ rfl; simpa [← HX.out] using this
      have d2 : wo.cell? ⟨b, off + k * 4 + 2, none⟩ = some (.int .i64 x.many) := by have := hcs k hlt 2 _ rfl; simpa [← HX.out] using this
      have d3 : wo.cell? ⟨b, off + k * 4 + 3, none⟩ = some (.int .i64 x.free) := by have := hcs k hlt 3 _ rfl; simpa [← HX.out] using this
      rw [← hx] at hmem
      clear hx
      have HM := Lib.hid hmem; clear hmem hcs
      go_wp2_with (fail)
      refine (HF.out x HM.out wo hgr).mono ?_
      rintro e w1 ⟨rfl, hg1⟩
      cases hp : P x with
      | true =>
        have HP := Lib.hid hp; clear hp
        go_wp2_with (fail)
        go_ret
        refine ⟨ret_int (findA_at hlt (by rw [← HX.out]; exact HP.out) (fun j hj => HNO.out j (by omega) hj)).symm, gr_trans hgr hg1⟩
      | false =>
        have HP := Lib.hid hp; clear hp
        go_wp2_with (fail)
        go_roundw
        case rel =>
          refine ⟨k + 1, by omega, by go_num, fun j hjl hj => ?_, gr_trans hgr hg1⟩
          by_cases hjk : j = k
          · subst hjk; rw [← HX.out]; exact HP.out
          · exact HNO.out j hjl (by omega)
        case measure => simp [intOf]; omega
    · have hkl : k = xs.length := by omega
      have HK := Lib.hid hkl; clear hkl
      go_wp2_with (fail)
      go_ret
      exact ⟨ret_int (findA_none (fun j hj => HNO.out j hj (by rw [HK.out]; exact hj))).symm, hgr⟩

theorem containsFunc_De (F : FuncId) (q0 : Nat) (P : De → Bool) (xs : List (De)) (a : Option Addr) (c : Nat) (w : World) (hc : CellsAt w a (flat encDe xs)) (hl : xs.length ≤ 137438953472)
    (hE : ∀ (args : Array Value) (w : World), (callFunc F args).run Tryd.prog w = .ok (.enter F args) w)
    (hF : ∀ x ∈ xs, ∀ w1, w.grownBy w1 none → Calls Tryd.prog F #[.agg #[.string x.key, .string x.group, .int .i64 x.many, .int .i64 x.free], .pointer (some ⟨q0, 0, none⟩)] w1 fun e w2 => e = .returned (.bool (P x)) ∧ w1.grownBy w2 none) :
    Calls Tryd.prog 50 #[.slice a xs.length c, Value.func (.func F) #[] #[.pointer (some ⟨q0, 0, none⟩)]] w fun e w' => e = .returned (.bool (xs.any P)) ∧ w.grownBy w' none := by
  have HA := Lib.hid (any_findA P xs)
  go_enter Tryd.func50, Tryd.ntmps50
  go_wp2_with (fail)
  refine (indexFunc_De F q0 P xs a c _ hc hl hE hF).mono ?_
  rintro e w1 ⟨rfl, hg1⟩
  go_wp2_with (fail)
  go_ret
  exact ⟨ret_bool (by rw [HA.out]), hg1⟩
end Go.Proofs.YtjhfglhoiplfmaaDoor

/-! What is wrong with wares: the document's answer, and the program's. -/
namespace Go.Proofs.YtjhfglhoiplfmaaDoor
open Go.RowKit
attribute [local go_sem ↓] Go.wp_at_zero Go.wp_at_succ

structure WrOk (x : Wr) : Prop where
  key : keyB x.key = true
  grp : keyB x.group = true
  p0 : 0 ≤ x.price
  p1 : x.price ≤ 100000
def WrAt (N : List Wr) (j : Nat) (hj : j < N.length) : Prop := WrOk N[j] ∧ ∀ (_ : 0 < j), leS N[j].key (N[j - 1]'(by omega)).key = false
def WrsOk (N : List Wr) : Prop := ∀ j (hj : j < N.length), WrAt N j hj
def WrPost (ok : Prop) (w : World) (e : Ending) (w' : World) : Prop := ∃ r : Int, e = .returned (.int .i64 r) ∧ (r = 0 → ok) ∧ w.grownBy w' none
set_option maxRecDepth 100000 in
set_option maxHeartbeats 1000000 in
theorem waresFault_any (N : List Wr) (a : Option Addr) (c : Nat) (w : World) (h : CellsAt w a (flat encWr N)) (hsm : ∀ x ∈ N, WrSm x) (hl : N.length ≤ 6) :
    Calls Tryd.prog 48 #[.slice a N.length c] w (WrPost (WrsOk N) w) := by
  have H := Lib.hid h
  have HSM := Lib.hid hsm
  clear h hsm
  go_enter Tryd.func48, Tryd.ntmps48
  go_wp2_with (fail)
  go_loopw [10] (fun i wr => ∃ k : Nat, k ≤ N.length ∧ i = .int .i64 k ∧ (∀ j (hj : j < N.length), j < k → WrAt N j hj) ∧ w.grownBy wr none) (fun i _ => N.length - (intOf i).toNat)
  case atStart => exact ⟨0, Nat.zero_le _, rfl, fun j _ h => absurd h (Nat.not_lt_zero _), gr_refl _ _⟩
  case round =>
    obtain ⟨k, hk, rfl, hok, hgr⟩ := hrel
    obtain ⟨wo, rfl⟩ : ∃ wo : World, wo = wr := ⟨_, rfl⟩
    by_cases hlt : k < N.length
    · obtain ⟨b, off, rfl, d0, d1, d2⟩ := wr_cells (H.out.keep0 hgr) k hlt
      obtain ⟨hs1, ⟨hs2, hs3⟩, hs4⟩ := HSM.out _ (List.getElem_mem hlt)
      have MK : Hid (keyB N[k].key = true → keyB N[k].group = true → (∀ (h : 0 < k), leS N[k].key (N[k - 1]'(by omega)).key = false) → 0 ≤ N[k].price → N[k].price ≤ 100000 → ∀ j (hj : j < N.length), j < k + 1 → WrAt N j hj) := fun h1 h2 h3 h4 h5 j hj hjk => by
        by_cases e : j = k
        · subst e; exact ⟨⟨h1, h2, h4, h5⟩, h3⟩
        · exact hok j hj (by omega)
      have PV : Hid (∀ (h : 0 < k), ∃ y, wo.cell? ⟨b, off + (k - 1) * 3, none⟩ = some (.string y) ∧ (N[k - 1]'(by omega)).key = y) := fun h => by
        obtain ⟨b', off', e', y0, -⟩ := wr_cells (H.out.keep0 hgr) (k - 1) (by omega)
        cases e'
        exact ⟨_, y0, rfl⟩
      obtain ⟨x, hx⟩ : ∃ x, x = N[k] := ⟨_, rfl⟩
      rw [← hx] at d0 d1 d2 hs1 hs2 hs3 hs4 MK
      obtain ⟨K, P, G⟩ := x
      simp only at d0 d1 d2 hs1 hs2 hs3 hs4 MK
      have HGR := Lib.hid hgr
      have hV := heap_alloc_new wo (.cells #[.string K, .int .i64 P, .string G] 97)
      have hg2 := gr_alloc (gr_refl wo none) (.cells #[.string K, .int .i64 P, .string G] 97)
      obtain ⟨w2, hw2⟩ : ∃ w2, w2 = wo.alloc (.cells #[.string K, .int .i64 P, .string G] 97) := ⟨_, rfl⟩
      rw [← hw2] at hV hg2
      obtain ⟨V, hVe⟩ : ∃ V, V = wo.heap.size := ⟨_, rfl⟩
      rw [← hVe] at hV
      have HV := Lib.hid hV
      have HG2 := Lib.hid hg2
      have HW2 := Lib.hid hw2
      have HVE := Lib.hid hVe
      clear hx hok hgr hV hg2 hw2 hVe
      go_wp2_with (fail)
      rw [← HW2.out, ← HVE.out]
      have v0 : w2.cell? ⟨V, 0, none⟩ = some (.string K) := blkC HV.out 0 rfl
      have v1 : w2.cell? ⟨V, 1, none⟩ = some (.int .i64 P) := blkC HV.out 1 rfl
      have v2 : w2.cell? ⟨V, 2, none⟩ = some (.string G) := blkC HV.out 2 rfl
      go_wp2_with (fail)
      refine (keyOf_any K w2 (by omega)).mono ?_
      rintro e w3 ⟨rfl, g3⟩
      have HV3 := Lib.hid ((g3.block _ (lt_of_block HV.out) (by simp)).trans HV.out)
      have HG3 := Lib.hid (gr_trans HG2.out g3)
      clear v0 v1 v2 g3 d0 d1 d2
      have v0 : w3.cell? ⟨V, 0, none⟩ = some (.string K) := blkC HV3.out 0 rfl
      have v1 : w3.cell? ⟨V, 1, none⟩ = some (.int .i64 P) := blkC HV3.out 1 rfl
      have v2 : w3.cell? ⟨V, 2, none⟩ = some (.string G) := blkC HV3.out 2 rfl
      cases hk1 : keyB K with
      | false =>
        go_wp2_with (fail)
        go_ret
        exact ⟨5, rfl, (fun e => by cases e), gr_trans HGR.out HG3.out⟩
      | true =>
        go_wp2_with (fail)
        refine (keyOf_any G w3 (by omega)).mono ?_
        rintro e w4 ⟨rfl, g4⟩
        have HV4 := Lib.hid ((g4.block _ (lt_of_block HV3.out) (by simp)).trans HV3.out)
        have HG4 := Lib.hid (gr_trans HG3.out g4)
        clear v0 v1 v2 g4 HV3
        have v0 : w4.cell? ⟨V, 0, none⟩ = some (.string K) := blkC HV4.out 0 rfl
        have v1 : w4.cell? ⟨V, 1, none⟩ = some (.int .i64 P) := blkC HV4.out 1 rfl
        cases hk2 : keyB G with
        | false =>
          go_wp2_with (fail)
          go_ret
          exact ⟨5, rfl, (fun e => by cases e), gr_trans HGR.out HG4.out⟩
        | true =>
          have MK2 : Hid ((∀ (h : 0 < k), leS K (N[k - 1]'(by omega)).key = false) → 0 ≤ P → P ≤ 100000 → ∀ j (hj : j < N.length), j < k + 1 → WrAt N j hj) := MK.out hk1 hk2
          clear hk1 hk2 MK
          go_upto_region 8 with (fail)
          go_cut [26] (fun s wx => ∃ b : Bool, s = .bool b ∧ (b = false → ∀ (h : 0 < k), leS K (N[k - 1]'(by omega)).key = false) ∧ ∃ nx, wx = w4.drewN nx)
          case first =>
            by_cases hk0 : 0 < k
            · obtain ⟨y, y0, hy⟩ := PV.out hk0
              have y0 := (gr_cell HG4.out (lt_of_cell y0)).trans y0
              have hint1 : (0 : Int) ≤ (k : Int) - 1 := by omega
              have hint2 : (k : Int) - 1 < (N.length : Int) := by omega
              have hint3 : (0 : Int) < (k : Int) := by omega
              have htn : ((k : Int) - 1).toNat = k - 1 := by omega
              have hwr : IntKind.i64.wrap ((k : Int) - 1) = (k : Int) - 1 := IntWalk.i64_in _ (by omega)
              obtain ⟨lb, hlb⟩ : ∃ lb, leS K y = lb := ⟨_, rfl⟩
              have hlb2 : (Op.bytesLess K.toList y.toList || K.toList == y.toList) = lb := hlb
              have UP : Hid (lb = false → ∀ (h : 0 < k), leS K (N[k - 1]'(by omega)).key = false) := fun e _ => by rw [hy, hlb, e]
              clear hlb hy PV
              go_quiet (fail)
              go_wp2_with (fail)
              go_meet
              exact ⟨lb, rfl, UP.out, _, rfl⟩
            · have hdf : decide (0 < k) = false := decide_eq_false (by omega)
              have hk00 : Hid (¬ 0 < k) := hk0
              clear hk0 PV
              go_quiet (fail)
              go_wp2_with (fail)
              go_meet
              exact ⟨false, rfl, (fun _ h => absurd h hk00.out), _, rfl⟩
          case rest =>
          obtain ⟨b, rfl, hb, nq, rfl⟩ := hcut
          have GQ := Lib.hid (gr_trans HGR.out (gr_drewN HG4.out nq))
          cases b with
          | true =>
            clear hb
            go_wp2_with (fail)
            go_ret
            exact ⟨7, rfl, (fun e => by cases e), GQ.out⟩
          | false =>
            have MK3 := Lib.hid (MK2.out (hb rfl))
            clear hb MK2
            by_cases h0 : P < 0
            · go_wp2_with (fail)
              go_ret
              exact ⟨1, rfl, (fun e => by cases e), GQ.out⟩
            · by_cases h1 : 100000 < P
              · go_wp2_with (fail)
                go_ret
                exact ⟨1, rfl, (fun e => by cases e), GQ.out⟩
              · have MK4 := Lib.hid (MK3.out (by omega) (by omega))
                clear MK3
                go_wp2_with (fail)
                go_roundw
                case rel => exact ⟨k + 1, by omega, by go_num, MK4.out, GQ.out⟩
                case measure => simp [intOf]; omega
    · obtain rfl : k = N.length := by omega
      have HOK : Hid (WrsOk N) := fun j hj => hok j hj hj
      clear hok
      go_wp2_with (fail)
      go_ret
      exact ⟨0, rfl, fun _ => HOK.out, hgr⟩
set_option maxRecDepth 100000 in
set_option maxHeartbeats 1000000 in
theorem waresCheck_ok (N : List Wr) (a : Option Addr) (c : Nat) (w : World) (h : CellsAt w a (flat encWr N)) (hsm : ∀ x ∈ N, WrSm x) (hl : N.length ≤ 6) (hok : WrsOk N) :
    Calls Tryd.prog 101 #[.slice a N.length c] w fun e w' => e = .returned (.int .i64 0) ∧ w.grownBy w' none := by
  have H := Lib.hid h
  have HSM := Lib.hid hsm
  have HOK := Lib.hid hok
  clear h hsm hok
  go_enter Tryd.func101, Tryd.ntmps101
  go_wp2_with (fail)
  go_loopw [10] (fun i wr => ∃ k : Nat, k ≤ N.length ∧ i = .int .i64 k ∧ w.grownBy wr none) (fun i _ => N.length - (intOf i).toNat)
  case atStart => exact ⟨0, Nat.zero_le _, rfl, gr_refl _ _⟩
  case round =>
    obtain ⟨k, hk, rfl, hgr⟩ := hrel
    obtain ⟨wo, rfl⟩ : ∃ wo : World, wo = wr := ⟨_, rfl⟩
    by_cases hlt : k < N.length
    · obtain ⟨b, off, rfl, d0, d1, d2⟩ := wr_cells (H.out.keep0 hgr) k hlt
      obtain ⟨hs1, ⟨hs2, hs3⟩, hs4⟩ := HSM.out _ (List.getElem_mem hlt)
      obtain ⟨⟨o1, o2, o3, o4⟩, o5⟩ := HOK.out k hlt
      have PV : Hid (∀ (h : 0 < k), ∃ y, wo.cell? ⟨b, off + (k - 1) * 3, none⟩ = some (.string y) ∧ leS N[k].key y = false) := fun h => by
        obtain ⟨b', off', e', y0, -⟩ := wr_cells (H.out.keep0 hgr) (k - 1) (by omega)
        cases e'
        exact ⟨_, y0, o5 h⟩
      obtain ⟨x, hx⟩ : ∃ x, x = N[k] := ⟨_, rfl⟩
      rw [← hx] at d0 d1 d2 hs1 hs2 hs3 hs4 o1 o2 o3 o4 PV
      obtain ⟨K, P, G⟩ := x
      simp only at d0 d1 d2 hs1 hs2 hs3 hs4 o1 o2 o3 o4 PV
      have HGR := Lib.hid hgr
      have O1 := Lib.hid o1
      have O2 := Lib.hid o2
      have hV := heap_alloc_new wo (.cells #[.string K, .int .i64 P, .string G] 97)
      have hg2 := gr_alloc (gr_refl wo none) (.cells #[.string K, .int .i64 P, .string G] 97)
      obtain ⟨w2, hw2⟩ : ∃ w2, w2 = wo.alloc (.cells #[.string K, .int .i64 P, .string G] 97) := ⟨_, rfl⟩
      rw [← hw2] at hV hg2
      obtain ⟨V, hVe⟩ : ∃ V, V = wo.heap.size := ⟨_, rfl⟩
      rw [← hVe] at hV
      have HV := Lib.hid hV
      have HG2 := Lib.hid hg2
      have HW2 := Lib.hid hw2
      have HVE := Lib.hid hVe
      clear hx hgr hV hg2 hw2 hVe o5 o1 o2
      go_wp2_with (fail)
      rw [← HW2.out, ← HVE.out]
      have v0 : w2.cell? ⟨V, 0, none⟩ = some (.string K) := blkC HV.out 0 rfl
      have v1 : w2.cell? ⟨V, 1, none⟩ = some (.int .i64 P) := blkC HV.out 1 rfl
      have v2 : w2.cell? ⟨V, 2, none⟩ = some (.string G) := blkC HV.out 2 rfl
      go_wp2_with (fail)
      refine (key_any K w2 (by omega)).mono ?_
      rintro e w3 ⟨rfl, rfl⟩
      rw [O1.out]
      go_wp2_with (fail)
      refine (key_any G w2 (by omega)).mono ?_
      rintro e w3 ⟨rfl, rfl⟩
      rw [O2.out]
      clear d0 d1 d2
      go_upto_region 8 with (fail)
      go_cut [26] (fun s wx => s = .bool false ∧ ∃ nx, wx = w2.drewN nx)
      case first =>
        by_cases hk0 : 0 < k
        · obtain ⟨y, y0, hy⟩ := PV.out hk0
          have y0 := (gr_cell HG2.out (lt_of_cell y0)).trans y0
          have hint1 : (0 : Int) ≤ (k : Int) - 1 := by omega
          have hint2 : (k : Int) - 1 < (N.length : Int) := by omega
          have hint3 : (0 : Int) < (k : Int) := by omega
          have htn : ((k : Int) - 1).toNat = k - 1 := by omega
          have hwr : IntKind.i64.wrap ((k : Int) - 1) = (k : Int) - 1 := IntWalk.i64_in _ (by omega)
          have hlb2 : (Op.bytesLess K.toList y.toList || K.toList == y.toList) = false := hy
          clear hy PV
          go_quiet (fail)
          go_wp2_with (fail)
          go_meet
          exact ⟨rfl, _, rfl⟩
        · have hdf : decide (0 < k) = false := decide_eq_false (by omega)
          clear hk0 PV
          go_quiet (fail)
          go_wp2_with (fail)
          go_meet
          exact ⟨rfl, _, rfl⟩
      case rest =>
      obtain ⟨rfl, nq, rfl⟩ := hcut
      have GQ := Lib.hid (gr_trans HGR.out (gr_drewN HG2.out nq))
      have dP : (decide (P < 0) || decide (100000 < P)) = false := by simp; omega
      go_wp2_with (fail)
      refine (out_any P 0 100000 _).mono ?_
      rintro e w5 ⟨rfl, rfl⟩
      rw [dP]
      go_wp2_with (fail)
      go_roundw
      case rel => exact ⟨k + 1, by omega, by go_num, GQ.out⟩
      case measure => simp [intOf]; omega
    · obtain rfl : k = N.length := by omega
      go_wp2_with (fail)
      go_ret
      exact ⟨rfl, hgr⟩
end Go.Proofs.YtjhfglhoiplfmaaDoor

/-! Where a ware is. -/
namespace Go.Proofs.YtjhfglhoiplfmaaDoor
open Go.RowKit
attribute [local go_sem ↓] Go.wp_at_zero Go.wp_at_succ

def wrIs (K : ByteArray) (x : Wr) : Bool := x.key.toList == K.toList
theorem ware1_fn : ∀ (args : Array Value) (w : World), (callFunc 104 args).run Tryd.prog w = .ok (.enter 104 args) w := fun _ _ => by kernel_rfl
theorem ware1_any (x : Wr) (K : ByteArray) (q0 : Nat) (w : World) (h : w.cell? ⟨q0, 0, none⟩ = some (.string K)) : Calls Tryd.prog 104 #[.agg #[.string x.key, .int .i64 x.price, .string x.group], .pointer (some ⟨q0, 0, none⟩)] w fun e w' => e = .returned (.bool (wrIs K x)) ∧ w.grownBy w' none := by
  have hqlt := lt_of_cell h
  go_enter Tryd.func104, Tryd.ntmps104
  go_wp2_with (fail)
  go_ret
  exact ⟨rfl, gr_alloc (gr_refl w none) _⟩
set_option maxRecDepth 100000 in
set_option maxHeartbeats 1000000 in
theorem ware_any (N : List Wr) (K : ByteArray) (a : Option Addr) (c : Nat) (w : World) (h : CellsAt w a (flat encWr N)) (hl : N.length ≤ 1000) :
    Calls Tryd.prog 57 #[.slice a N.length c, .string K] w fun e w' => e = .returned (.int .i64 (findA (wrIs K) N)) ∧ w.grownBy w' none := by
  have hA := heap_alloc_new w (.cells #[.string K] 9)
  have g1 := gr_alloc (gr_refl w none) (.cells #[.string K] 9)
  have FI := Lib.hid (indexFunc_Wr 104 w.heap.size (wrIs K) N a c _ (h.keep0 g1) (by omega) ware1_fn (fun x _ w1 g => ware1_any x K _ w1 ((gr_cell g (lt_of_block hA)).trans (blkC hA 0 rfl))))
  have HG := Lib.hid g1
  clear hA g1 h
  go_enter Tryd.func57, Tryd.ntmps57
  go_wp2_with (fail)
  refine FI.out.mono ?_
  rintro e w2 ⟨rfl, g2⟩
  have g2 := gr_trans HG.out g2
  go_wp2_with (fail)
  go_ret
  exact ⟨rfl, g2⟩
theorem set3_heapD {w : World} {g t : Nat} {a b c : Value} (h : w.heap[g]? = some (.cells #[a, b, c] t (0, 0))) (x y z : Value) : (((w.setCell ⟨g, 0, none⟩ x).setCell ⟨g, 1, none⟩ y).setCell ⟨g, 2, none⟩ z).heap[g]? = some (.cells #[x, y, z] t (0, 0)) := by
  have h1 := heap_setCell_same w g 0 _ t x h
  have h2 := heap_setCell_same _ g 1 _ t y h1
  exact heap_setCell_same _ g 2 _ t z h2
def WofPost (N : List Wr) (K : ByteArray) (w : World) (e : Ending) (w' : World) : Prop := ∃ (s g : ByteArray) (p : Int), e = .returned (.tuple #[.agg #[.string s, .int .i64 p, .string g], .bool (N.any (wrIs K))]) ∧ w.grownBy w' none
set_option maxRecDepth 100000 in
set_option maxHeartbeats 1000000 in
theorem wareOf_any (N : List Wr) (K : ByteArray) (a : Option Addr) (c : Nat) (w : World) (h : CellsAt w a (flat encWr N)) (hl : N.length ≤ 1000) :
    Calls Tryd.prog 52 #[.slice a N.length c, .string K] w (WofPost N K w) := by
  have H := Lib.hid h
  have hR := heap_alloc_new w (.cells #[.string ⟨#[]⟩, .int .i64 0, .string ⟨#[]⟩] 97)
  have g1 := gr_alloc (gr_refl w none) (.cells #[.string ⟨#[]⟩, .int .i64 0, .string ⟨#[]⟩] 97)
  obtain ⟨w1, hw1⟩ : ∃ w1, w1 = w.alloc (.cells #[.string ⟨#[]⟩, .int .i64 0, .string ⟨#[]⟩] 97) := ⟨_, rfl⟩
  rw [← hw1] at hR g1
  obtain ⟨R, hRe⟩ : ∃ R, R = w.heap.size := ⟨_, rfl⟩
  rw [← hRe] at hR
  have HW1 := Lib.hid hw1
  have HR := Lib.hid hR
  have HRE := Lib.hid hRe
  have HG1 := Lib.hid g1
  have hRw : w.heap.size ≤ R := by omega
  obtain ⟨dt, hd1⟩ := und_struct (P := Tryd.prog) (t := 97) (by kernel_rfl)
  clear h hw1 hR hRe g1
  go_enter Tryd.func52, Tryd.ntmps52
  go_upto_region 1 with (fail)
  rw [← HW1.out, ← HRE.out]
  go_wp2_with (fail)
  go_loopw [10] (fun i wr => ∃ k : Nat, k ≤ N.length ∧ i = .int .i64 k ∧ (∀ j (hj : j < N.length), j < k → wrIs K N[j] = false) ∧ wr.heap[R]? = some (.cells #[.string ⟨#[]⟩, .int .i64 0, .string ⟨#[]⟩] 97 (0, 0)) ∧ w.grownBy wr none) (fun i _ => N.length - (intOf i).toNat)
  case atStart => exact ⟨0, Nat.zero_le _, rfl, fun j _ h => absurd h (Nat.not_lt_zero _), HR.out, HG1.out⟩
  case round =>
    obtain ⟨k, hk, rfl, hno, hRR, hgr⟩ := hrel
    obtain ⟨wo, rfl⟩ : ∃ wo : World, wo = wr := ⟨_, rfl⟩
    by_cases hlt : k < N.length
    · obtain ⟨b, off, rfl, d0, d1, d2⟩ := wr_cells (H.out.keep0 hgr) k hlt
      have MK : Hid (wrIs K N[k] = false → ∀ j (hj : j < N.length), j < k + 1 → wrIs K N[j] = false) := fun h1 j hj hjk => by
        by_cases e : j = k
        · subst e; exact h1
        · exact hno j hj (by omega)
      have YES : Hid (wrIs K N[k] = true → N.any (wrIs K) = true) := fun h1 => List.any_eq_true.2 ⟨_, List.getElem_mem hlt, h1⟩
      obtain ⟨x, hx⟩ : ∃ x, x = N[k] := ⟨_, rfl⟩
      rw [← hx] at d0 d1 d2 MK YES
      obtain ⟨s, p, g⟩ := x
      simp only at d0 d1 d2 MK YES
      have hV := heap_alloc_new wo (.cells #[.string s, .int .i64 p, .string g] 97)
      have hg2 := gr_alloc (gr_refl wo none) (.cells #[.string s, .int .i64 p, .string g] 97)
      obtain ⟨w2, hw2⟩ : ∃ w2, w2 = wo.alloc (.cells #[.string s, .int .i64 p, .string g] 97) := ⟨_, rfl⟩
      rw [← hw2] at hV hg2
      obtain ⟨V, hVe⟩ : ∃ V, V = wo.heap.size := ⟨_, rfl⟩
      rw [← hVe] at hV
      have hR2 := (hg2.block _ (lt_of_block hRR) (by simp)).trans hRR
      have HG2 := Lib.hid (gr_trans hgr hg2)
      have HW2 := Lib.hid hw2
      have HVE := Lib.hid hVe
      have HR2 := Lib.hid hR2
      have hne : R ≠ V := by have := lt_of_block hRR; omega
      have HSET := Lib.hid (gr_new (gr_new (gr_new HG2.out (q := ⟨R, 0, none⟩) hRw (.string s)) (q := ⟨R, 0 + 1, none⟩) hRw (.int .i64 p)) (q := ⟨R, 0 + 1 + 1, none⟩) hRw (.string g))
      clear hx hno hgr hg2 hw2 hVe hRR
      go_upto_region 4 with (fail)
      rw [← HW2.out, ← HVE.out]
      have v0 : w2.cell? ⟨V, 0, none⟩ = some (.string s) := blkC hV 0 rfl
      have v1 : w2.cell? ⟨V, 1, none⟩ = some (.int .i64 p) := blkC hV 1 rfl
      have v2 : w2.cell? ⟨V, 2, none⟩ = some (.string g) := blkC hV 2 rfl
      have r0 : w2.cell? ⟨R, 0, none⟩ = some (.string ⟨#[]⟩) := blkC hR2 0 rfl
      have r1 : w2.cell? ⟨R, 1, none⟩ = some (.int .i64 0) := blkC hR2 1 rfl
      have r2 : w2.cell? ⟨R, 2, none⟩ = some (.string ⟨#[]⟩) := blkC hR2 2 rfl
      have f0 := blkF hR2 0
      have f1 := blkF hR2 1
      have f2 := blkF hR2 2
      cases hq : (s.toList == K.toList) with
      | true =>
        have HY := Lib.hid (YES.out hq)
        clear hV hR2 d0 d1 d2
        go_wp2_with (fail)
        refine bodyPost_ret (results_cell_slot (p := 4) (q := 5) (by kernel_rfl) _ _ R _ #[.string s, .int .i64 p, .string g] _ (.struct dt) _ rfl rfl (set3_heapD HR2.out _ _ _) hd1 rfl (by kernel_rfl)) rfl ⟨s, g, p, by rw [HY.out]; rfl, ?_⟩
        exact HSET.out
      | false =>
        have HM := Lib.hid (MK.out hq)
        clear hV hR2 d0 d1 d2
        go_wp2_with (fail)
        go_roundw
        case rel => exact ⟨k + 1, by omega, by go_num, HM.out, HR2.out, HG2.out⟩
        case measure => simp [intOf]; omega
    · obtain rfl : k = N.length := by omega
      have HNO : Hid (N.any (wrIs K) = false) := by
        show _ = _
        rw [List.any_eq_false]
        intro x hx
        obtain ⟨i, hi, rfl⟩ := List.getElem_of_mem hx
        rw [hno i hi hi]
        simp
      have r0 : wo.cell? ⟨R, 0, none⟩ = some (.string ⟨#[]⟩) := blkC hRR 0 rfl
      have r1 : wo.cell? ⟨R, 1, none⟩ = some (.int .i64 0) := blkC hRR 1 rfl
      have r2 : wo.cell? ⟨R, 2, none⟩ = some (.string ⟨#[]⟩) := blkC hRR 2 rfl
      have f0 := blkF hRR 0
      have f1 := blkF hRR 1
      have f2 := blkF hRR 2
      clear hno
      go_wp2_with (fail)
      refine bodyPost_ret (results_cell_slot (p := 4) (q := 5) (by kernel_rfl) _ _ R _ #[.string ⟨#[]⟩, .int .i64 0, .string ⟨#[]⟩] _ (.struct dt) _ rfl rfl (set3_heapD hRR _ _ _) hd1 rfl (by kernel_rfl)) rfl ⟨⟨#[]⟩, ⟨#[]⟩, 0, by rw [HNO.out]; rfl, ?_⟩
      exact gr_new (gr_new (gr_new hgr (q := ⟨R, 0, none⟩) hRw _) (q := ⟨R, 0 + 1, none⟩) hRw _) (q := ⟨R, 0 + 1 + 1, none⟩) hRw _
end Go.Proofs.YtjhfglhoiplfmaaDoor
