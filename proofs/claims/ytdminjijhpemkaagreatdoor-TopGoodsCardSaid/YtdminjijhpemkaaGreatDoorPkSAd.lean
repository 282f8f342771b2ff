/- Lots and pieces, as the stream makes them. -/
import Derived.Test.YtdminjijhpemkaaGreatDoorPkSAb
import Derived.Test.YtdminjijhpemkaaGreatDoorPkSAc
import Derived.Test.YtdminjijhpemkaaGreatDoorPkSAa
namespace Go.Proofs.YtdminjijhpemkaaGreatDoor
open Go.RowKit
variable {lw : Nat}

structure Lot where
  id : ByteArray
  prod : ByteArray
  exp : Int
  many : Int
def encLot (x : Lot) : List Value := [.string x.id, .string x.prod, .int .i64 x.exp, .int .i64 x.many]
theorem encLot_len (x : Lot) : (encLot x).length = 4 := rfl
theorem eLot : ElemT Tryz.prog 26 39 (.agg #[.string ⟨#[]⟩, .string ⟨#[]⟩, .int .i64 0, .int .i64 0]) 4 48 := ⟨by kernel_rfl, by kernel_rfl, by decide, by decide, by decide⟩
structure Piece where
  lot : ByteArray
  many : Int
def encPc (x : Piece) : List Value := [.string x.lot, .int .i64 x.many]
theorem encPc_len (x : Piece) : (encPc x).length = 2 := rfl
theorem ePc : ElemT Tryz.prog 40 53 (.agg #[.string ⟨#[]⟩, .int .i64 0]) 2 24 := ⟨by kernel_rfl, by kernel_rfl, by decide, by decide, by decide⟩
def lotKeys : List ByteArray := [⟨#[108, 97]⟩, ⟨#[108, 98]⟩, ⟨#[108, 99]⟩, ⟨#[108, 100]⟩, ⟨#[108, 101]⟩]
def lotProds : List ByteArray := [⟨#[99, 97, 110]⟩, ⟨#[99, 97, 110]⟩, ⟨#[98, 97, 114]⟩]
def lotAt (l : List Int) (j : Nat) (x : ByteArray) : Lot := ⟨x, oneS l j lotProds, pickM l (j + 1) [3, 5, 5, 7, 9, 20], pickM l (j + 1 + 1) [0, 1, 3, 5, 8]⟩
def lotsTo (l : List Int) (k : Nat) : Nat → List Lot × Nat
  | 0 => ([], k)
  | i + 1 => if flipM l (lotsTo l k i).2 4 then ((lotsTo l k i).1, (lotsTo l k i).2 + 1) else ((lotsTo l k i).1 ++ [lotAt l ((lotsTo l k i).2 + 1) (lotKeys.getD i ⟨#[]⟩)], (lotsTo l k i).2 + 1 + 1 + 1 + 1)
theorem lotsTo_bd (l : List Int) (k i : Nat) : (lotsTo l k i).1.length ≤ i ∧ (lotsTo l k i).2 ≤ k + 4 * i := by
  induction i with
  | zero => simp [lotsTo]
  | succ i ih =>
    simp only [lotsTo]
    split
    · simp only; omega
    · simp; omega
def lotsM (l : List Int) (k : Nat) : List Lot := (lotsTo l k 5).1
def lotsK (l : List Int) (k : Nat) : Nat := (lotsTo l k 5).2
def LotsPost (l : List Int) (k p lw : Nat) (w : World) (e : Ending) (w' : World) : Prop :=
  ∃ v, e = .returned v ∧ w'.ownsRow w.heap.size 39 4 v (lotsM l k).length (flat encLot (lotsM l k)) ∧ StreamAt w' p lw l (lotsK l k) ∧ w.grownBy w' (some p)
set_option maxRecDepth 100000 in
set_option maxHeartbeats 2000000 in
theorem lots_any (l : List Int) (k : Nat) (p : Nat) (w : World) (hs : StreamAt w p lw l k) (hk : k < 800000000) :
    Calls Tryz.prog 6 #[.pointer (some ⟨p, 0, none⟩)] w (LotsPost l k p lw w) := by
  have hlt := hs.lt
  have hB := heap_alloc_new w (.cells (strs lotKeys).toArray 9)
  have hg0 := gr_alloc (gr_refl w none) (.cells (strs lotKeys).toArray 9)
  obtain ⟨w0, hw0⟩ : ∃ w0, w0 = w.alloc (.cells (strs lotKeys).toArray 9) := ⟨_, rfl⟩
  have hz0 : w0.heap.size = w.heap.size + 1 := by rw [hw0]; simp
  rw [← hw0] at hB hg0
  have hs0 := hs.keep0 hg0
  obtain ⟨B, hBe⟩ : ∃ B, B = w.heap.size := ⟨_, rfl⟩
  rw [← hBe] at hB hz0 hlt
  have HB := Lib.hid hB
  have HBe := Lib.hid hBe
  have HW := Lib.hid (show w0 = w.alloc (.cells #[.string ⟨#[108, 97]⟩, .string ⟨#[108, 98]⟩, .string ⟨#[108, 99]⟩, .string ⟨#[108, 100]⟩, .string ⟨#[108, 101]⟩] 9) from hw0)
  have HG0 := Lib.hid hg0
  clear hs hw0 hB hBe hg0
  go_enter Tryz.func6, Tryz.ntmps6
  go_wp2_with (fail)
  rw [← HW.out, ← HBe.out]
  go_loopw [3, 8] (fun v c wr => ∃ i : Nat, i ≤ 5 ∧ c = .int .i64 i ∧ wr.ownsRow (B + 1) 39 4 v (lotsTo l k i).1.length (flat encLot (lotsTo l k i).1) ∧ StreamAt wr p lw l (lotsTo l k i).2 ∧ w0.grownBy wr (some p)) (fun _ c _ => 5 - (intOf c).toNat)
  case atStart => exact ⟨0, by omega, rfl, World.ownsRow_nil _ _ _ _, hs0, gr_refl _ _⟩
  case round =>
    clear hs0
    obtain ⟨i, hi, rfl, hown, hsr, hgr⟩ := hrel
    obtain ⟨wo, rfl⟩ : ∃ wo : World, wo = wr := ⟨_, rfl⟩
    by_cases hin : i < 5
    · have hbo := (hgr.block B (lt_of_block HB.out) (by simp; omega)).trans HB.out
      obtain ⟨x, hx⟩ : ∃ x, x = lotKeys.getD i ⟨#[]⟩ := ⟨_, rfl⟩
      have hcx : wo.cell? ⟨B, i, none⟩ = some (.string x) := blkC hbo i (by
        rw [hx]
        have : i = 0 ∨ i = 1 ∨ i = 2 ∨ i = 3 ∨ i = 4 := by omega
        rcases this with rfl | rfl | rfl | rfl | rfl <;> rfl)
      have hbd := lotsTo_bd l k i
      have HST : Hid (lotsTo l k (i + 1) = if flipM l (lotsTo l k i).2 4 then ((lotsTo l k i).1, (lotsTo l k i).2 + 1) else ((lotsTo l k i).1 ++ [lotAt l ((lotsTo l k i).2 + 1) x], (lotsTo l k i).2 + 1 + 1 + 1 + 1)) := by show _ = _; rw [hx]; rfl
      obtain ⟨s, hs⟩ : ∃ s, s = lotsTo l k i := ⟨_, rfl⟩
      rw [← hs] at hown hsr hbd HST
      obtain ⟨S, q⟩ := s
      simp only at hown hsr hbd HST
      have HOWN := Lib.hid hown
      have hzo := hgr.size
      have HGR := Lib.hid hgr
      clear hs hx hbo hown hgr
      go_wp2_with (fail)
      refine (flip_any l q 4 p wo hsr (by omega) (by omega)).mono ?_
      rintro e w2 ⟨rfl, hs2, hg2⟩
      have HO2 := Lib.hid (own_keepS HOWN.out hg2 (by omega))
      have HG2 := Lib.hid (gr_trans HGR.out hg2)
      have hz2 := hg2.size
      clear hg2 hsr
      cases hf : flipM l q 4 with
      | true =>
        have HF := Lib.hid hf; clear hf
        go_wp2_with (fail)
        go_roundw
        case rel =>
          refine ⟨i + 1, by omega, by go_num, ?_, ?_, HG2.out⟩
          · rw [HST.out, HF.out]; exact HO2.out
          · rw [HST.out, HF.out]; exact hs2
        case measure => simp [intOf]; omega
      | false =>
        have HF := Lib.hid hf; clear hf
        go_wp2_with (fail)
        refine (one_any l (q + 1) lotProds p w2 hs2 (by omega) (by decide) (by decide)).mono ?_
        rintro e w3 ⟨rfl, hs3, hg3⟩
        have HO3 := Lib.hid (own_keepS HO2.out hg3 (by omega))
        have HG3 := Lib.hid (gr_trans HG2.out hg3)
        have hz3 := hg3.size
        clear hg3 hs2
        go_wp2_with (fail)
        refine (pick_any l (q + 1 + 1) [3, 5, 5, 7, 9, 20] p w3 hs3 (by omega) (by decide) (by decide)).mono ?_
        rintro e w4 ⟨rfl, hs4, hg4⟩
        have HO4 := Lib.hid (own_keepS HO3.out hg4 (by omega))
        have HG4 := Lib.hid (gr_trans HG3.out hg4)
        have hz4 := hg4.size
        clear hg4 hs3
        go_wp2_with (fail)
        refine (pick_any l (q + 1 + 1 + 1) [0, 1, 3, 5, 8] p w4 hs4 (by omega) (by decide) (by decide)).mono ?_
        rintro e w5 ⟨rfl, hs5, hg5⟩
        have HO5 := Lib.hid (own_keepS HO4.out hg5 (by omega))
        have HG5 := Lib.hid (gr_trans HG4.out hg5)
        have hz5 := hg5.size
        clear hg5 hs4
        have HY : Hid (lotAt l (q + 1) x = ⟨x, oneS l (q + 1) lotProds, pickM l (q + 1 + 1) [3, 5, 5, 7, 9, 20], pickM l (q + 1 + 1 + 1) [0, 1, 3, 5, 8]⟩) := rfl
        obtain ⟨y1, hy1⟩ : ∃ y, y = oneS l (q + 1) lotProds := ⟨_, rfl⟩
        obtain ⟨y2, hy2⟩ : ∃ y, y = pickM l (q + 1 + 1) [3, 5, 5, 7, 9, 20] := ⟨_, rfl⟩
        obtain ⟨y3, hy3⟩ : ∃ y, y = pickM l (q + 1 + 1 + 1) [0, 1, 3, 5, 8] := ⟨_, rfl⟩
        rw [← hy1, ← hy2, ← hy3] at HY
        rw [← hy1, ← hy2, ← hy3]
        clear hy1 hy2 hy3
        go_wp2_with (at_builtin; refine wpList_app1F eLot rfl _ _ rfl (B + 1) _ S.length (flat encLot S) rfl w5 #[.string x, .string y1, .int .i64 y2, .int .i64 y3] rfl HO5.out _ rfl rfl rfl rfl (by omega) (by omega) ?_; intro v6 w6 ho6 g6 hlt6 hf6)
        have HO6 := Lib.hid ho6
        have hs6 := hs5.keep g6 (fun q hq => by have := hlt6 q hq; omega)
        have HG6 := Lib.hid (gr_grown HG5.out g6 (fun q hq => by have := hlt6 q hq; omega))
        clear ho6 g6 hlt6 hf6 hs5
        go_roundw
        case rel =>
          refine ⟨i + 1, by omega, by go_num, ?_, ?_, HG6.out⟩
          · rw [HST.out, HF.out]
            simp only [Bool.false_eq_true, if_false]
            rw [HY.out, List.length_append, flat_append, flat_one]
            exact HO6.out
          · rw [HST.out, HF.out]; exact hs6
        case measure => simp [intOf]; omega
    · obtain rfl : i = 5 := by omega
      obtain ⟨va, vc, rfl, -, -, -, -⟩ := own_shape hown
      have HOWN := Lib.hid hown
      have HGR := Lib.hid hgr
      clear hown hgr
      go_wp2_with (fail)
      go_ret
      have e := HBe.out
      exact ⟨_, rfl, own_base HOWN.out (by omega), hsr, gr_trans (gr_weak HG0.out _) HGR.out⟩
end Go.Proofs.YtdminjijhpemkaaGreatDoor

/-! Package slices at elements coilrack/api.Piece: stable sorting of few. Written by mksort2.py. -/
namespace Go.Proofs.YtdminjijhpemkaaGreatDoor
open Go.RowKit

theorem own_of_heap2 {w w1 : World} {base e size n : Nat} {v : Value} {xs : List Value} (h : w.ownsRow base e size v n xs) (e1 : w1.heap = w.heap) : w1.ownsRow base e size v n xs := by
  rcases h.2 with h2 | ⟨g, cap, cur, hv, hb, hg, r⟩
  · exact ⟨h.1, .inl h2⟩
  · exact ⟨h.1, .inr ⟨g, cap, cur, hv, hb, by rw [e1]; exact hg, r⟩⟩
/-- A comparison of elements of a list, in worlds that differ from w at one block at most. -/
def CmpPc (F : FuncId) (q : Nat) (cm : Piece → Piece → Int) (L : List Piece) (r : Option Nat) (w : World) : Prop :=
  ∀ (x y : Piece) (w1 : World), x ∈ L → y ∈ L → w.grownBy w1 r → Calls Tryz.prog F #[.agg #[.string (x.lot), .int .i64 (x.many)], .agg #[.string (y.lot), .int .i64 (y.many)], .pointer (some ⟨q, 0, none⟩)] w1 fun e w2 => e = .returned (.int .i64 (cm x y)) ∧ w1.grownBy w2 none
def SortPcPost (cm : Piece → Piece → Int) (L : List Piece) (v : Value) (n base : Nat) (w : World) (e : Ending) (w' : World) : Prop := ∃ O, e = .returned (.tuple #[]) ∧ w'.ownsRow base 53 2 v n (flat encPc O) ∧ O.Perm L ∧ Srt cm ⟨⟨#[]⟩, 0⟩ O n ∧ w.grownBy w' v.ownBlock
set_option maxRecDepth 100000 in
set_option maxHeartbeats 4000000 in
theorem insertionPc_any (F : FuncId) (q n : Nat) (cm : Piece → Piece → Int) (v : Value) (base : Nat) (L : List Piece) (w : World) (hown : w.ownsRow base 53 2 v n (flat encPc L)) (hL : L.length = n) (hn : n ≤ 1000)
    (hE : ∀ (args : Array Value) (w : World), (callFunc F args).run Tryz.prog w = .ok (.enter F args) w) (hc : CmpOk cm) (hF : CmpPc F q cm L v.ownBlock w) :
    Calls Tryz.prog 145 #[v, .int .i64 0, .int .i64 n, .func (.func F) #[] #[.pointer (some ⟨q, 0, none⟩)]] w (SortPcPost cm L v n base w) := by
  have HF := Lib.hid hF
  have HC := Lib.hid hc
  have HL := Lib.hid hL
  obtain ⟨va, vc, rfl, _, _, _, _⟩ := own_shape hown
  clear hF hc hL
  go_enter Tryz.func145, Tryz.ntmps145
  go_wp2_with (fail)
  go_loopw [8] (fun i wr => ∃ (k : Nat) (O' : List Piece), 1 ≤ k ∧ (k ≤ n ∨ n = 0) ∧ i = .int .i64 k ∧ wr.ownsRow base 53 2 (.slice va n vc) n (flat encPc O') ∧ O'.Perm L ∧ Srt cm ⟨⟨#[]⟩, 0⟩ O' k ∧ w.grownBy wr (Value.slice va n vc).ownBlock) (fun i _ => n - (intOf i).toNat)
  case atStart => exact ⟨1, L, by omega, by omega, rfl, hown, List.Perm.refl _, srt_one, gr_refl _ _⟩
  case round =>
    obtain ⟨k, O', hk, hkn1, rfl, hown', hO', hs, hgr⟩ := hrel
    obtain ⟨wo, rfl⟩ : ∃ wo : World, wo = wr := ⟨_, rfl⟩
    have HO' := Lib.hid hO'
    have HS := Lib.hid hs
    clear hO' hs
    by_cases hkn : k < n
    · obtain ⟨g, gc, hge, hgb, _, _, _⟩ := own_some hown' (by omega)
      cases hge
      go_wp2_with (fail)
      go_loopw [9] (fun i wr => ∃ (j : Nat) (O2 : List Piece), j ≤ k ∧ i = .int .i64 j ∧ wr.ownsRow base 53 2 (.slice (some ⟨g, 0, none⟩) n vc) n (flat encPc O2) ∧ O2.Perm L ∧ SrtBut cm ⟨⟨#[]⟩, 0⟩ O2 k j ∧ w.grownBy wr (some g)) (fun i _ => (intOf i).toNat)
      case atStart => exact ⟨k, O', by omega, rfl, hown', HO'.out, srt_start HS.out, hgr⟩
      case round =>
        clear hgr
        obtain ⟨j, O2, hj, rfl, hown2, hO2, hb2, hgr2⟩ := hrel
        obtain ⟨wi, rfl⟩ : ∃ wi : World, wi = wr := ⟨_, rfl⟩
        have hlen := hO2.length_eq.trans HL.out
        by_cases hj0 : 0 < j
        · have hd0 : decide (0 < j) = true := decide_eq_true hj0
          obtain ⟨i, hi⟩ : ∃ i, i = j - 1 := ⟨_, rfl⟩
          have hij : i + 1 = j := by omega
          subst hij
          have hjl : i + 1 < O2.length := by omega
          have hil : i < O2.length := by omega
          have a0 := own_cellE (enc := encPc) (m := 2) (fun _ => rfl) hown2 (i + 1) hjl 0 (by decide) _ rfl hlen
          have a1 := own_cellE (enc := encPc) (m := 2) (fun _ => rfl) hown2 (i + 1) hjl 1 (by decide) _ rfl hlen
          have b0 := own_cellE (enc := encPc) (m := 2) (fun _ => rfl) hown2 i hil 0 (by decide) _ rfl hlen
          have b1 := own_cellE (enc := encPc) (m := 2) (fun _ => rfl) hown2 i hil 1 (by decide) _ rfl hlen
          have hmx : O2[i + 1] ∈ L := hO2.mem_iff.1 (List.getElem_mem _)
          have hmy : O2[i] ∈ L := hO2.mem_iff.1 (List.getElem_mem _)
          have ex : O2.getD (i + 1) ⟨⟨#[]⟩, 0⟩ = O2[i + 1] := getD_eq O2 _ _ hjl
          have ey : O2.getD i ⟨⟨#[]⟩, 0⟩ = O2[i] := getD_eq O2 _ _ hil
          have SW : Hid (cm O2[i + 1] O2[i] < 0 → SrtBut cm ⟨⟨#[]⟩, 0⟩ (swapAt ⟨⟨#[]⟩, 0⟩ O2 i) k i) := fun h => srt_swap HC.out hjl (by omega) hb2 (by rw [ex, ey]; exact h)
          have ST : Hid (¬ cm O2[i + 1] O2[i] < 0 → Srt cm ⟨⟨#[]⟩, 0⟩ O2 (k + 1)) := fun h => srt_stop HC.out hb2 (by rw [ex, ey]; exact h)
          have PM : Hid ((swapAt ⟨⟨#[]⟩, 0⟩ O2 i).Perm L) := (swapAt_perm i hjl).trans hO2
          have WR : Hid (∀ W : World, W.ownsRow base 53 2 (.slice (some ⟨g, 0, none⟩) n vc) n (flat encPc O2) → ((((W.setCell ⟨g, (i + 1) * 2, none⟩ (.string (O2[i].lot))).setCell ⟨g, (i + 1) * 2 + 1, none⟩ (.int .i64 (O2[i].many))).setCell ⟨g, i * 2, none⟩ (.string (O2[i + 1].lot))).setCell ⟨g, i * 2 + 1, none⟩ (.int .i64 (O2[i + 1].many))).ownsRow base 53 2 (.slice (some ⟨g, 0, none⟩) n vc) n (flat encPc (swapAt ⟨⟨#[]⟩, 0⟩ O2 i))) := fun W hW => by
            have h4 := ((((hW.stored ((i + 1) * 2) (.string (O2[i].lot))).1).stored ((i + 1) * 2 + 1) (.int .i64 (O2[i].many))).1.stored (i * 2) (.string (O2[i + 1].lot))).1.stored (i * 2 + 1) (.int .i64 (O2[i + 1].many))
            have h5 := h4.1
            rw [flat_set2 (enc := encPc) (fun _ => rfl) O2 (i + 1) hjl _ _ O2[i] rfl, flat_set2 (enc := encPc) (fun _ => rfl) (O2.set (i + 1) O2[i]) i (by simp; omega) _ _ O2[i + 1] rfl] at h5
            unfold swapAt
            rw [ex, ey]
            exact h5
          have CC : Hid (∀ W, wi.grownBy W none → Calls Tryz.prog F #[.agg #[.string (O2[i + 1].lot), .int .i64 (O2[i + 1].many)], .agg #[.string (O2[i].lot), .int .i64 (O2[i].many)], .pointer (some ⟨q, 0, none⟩)] W fun e w2 => e = .returned (.int .i64 (cm O2[i + 1] O2[i])) ∧ W.grownBy w2 none) := fun W hW => HF.out _ _ W hmx hmy (gr_trans hgr2 (gr_weak hW _))
          obtain ⟨x, hx⟩ : ∃ x, x = O2[i + 1] := ⟨_, rfl⟩
          obtain ⟨y, hy⟩ : ∃ y, y = O2[i] := ⟨_, rfl⟩
          rw [← hx, ← hy] at SW ST CC WR
          rw [← hx] at a0 a1
          rw [← hy] at b0 b1
          obtain ⟨x0, x1⟩ := x
          obtain ⟨y0, y1⟩ := y
          simp only at CC WR
          obtain ⟨c, hcv⟩ : ∃ c, c = cm ⟨x0, x1⟩ ⟨y0, y1⟩ := ⟨_, rfl⟩
          rw [← hcv] at SW ST CC
          obtain ⟨a0, fa0, -⟩ := a0
          obtain ⟨a1, fa1, -⟩ := a1
          obtain ⟨b0, fb0, -⟩ := b0
          obtain ⟨b1, fb1, -⟩ := b1
          have a0 : wi.cell? ⟨g, (i + 1) * 2, none⟩ = some (.string (x0)) := a0
          have a1 : wi.cell? ⟨g, (i + 1) * 2 + 1, none⟩ = some (.int .i64 (x1)) := a1
          have b0 : wi.cell? ⟨g, i * 2, none⟩ = some (.string (y0)) := b0
          have b1 : wi.cell? ⟨g, i * 2 + 1, none⟩ = some (.int .i64 (y1)) := b1
          have ga0 := grew_cell a0
          have ga1 := grew_cell a1
          have gb0 := grew_cell b0
          have gb1 := grew_cell b1
          have FA0 := Lib.hid fa0
          have FA1 := Lib.hid fa1
          have FB0 := Lib.hid fb0
          have FB1 := Lib.hid fb1
          have HOW := Lib.hid hown2
          have HGR2 := Lib.hid hgr2
          have hgl := lt_of_cell a0
          have HPM2 := Lib.hid hO2
          have hi1 : ((i : Int) + 1 - 1) = i := by omega
          have hwi : IntKind.i64.wrap (((i : Int) + 1) - 1) = i := by rw [hi1]; exact IntWalk.i64_in _ (by omega)
          have hq0 : (0 : Int) ≤ (i : Int) := by omega
          have hq1 : (i : Int) < (n : Int) := by omega
          have hq2 : (0 : Int) ≤ (i : Int) + 1 := by omega
          have hq3 : (i : Int) + 1 < (n : Int) := by omega
          have hq4 : ((i : Int) + 1).toNat = i + 1 := by omega
          have hq5 : decide ((0 : Int) < (i : Int) + 1) = true := decide_eq_true (by omega)
          clear hown2 hgr2 hO2 hb2 hmx hmy ex ey hx hy hcv fa0 fa1 fb0 fb1 hlen hi hown' hi1
          by_cases hc0 : c < 0
          · have hdc : decide (c < 0) = true := decide_eq_true hc0
            go_wp2_with (fail)
            refine wp_region_grew (by kernel_rfl) (by kernel_rfl) ?_
            repeat (go_big_quiet_step (first | (exact Calls.grew_of (fun W h => CC.out W h))))
            refine wpQuiet_nil ?_
            rintro wq ⟨nn, rfl⟩
            have gq := nn.gr
            have A0 := ga0 nn
            have A1 := ga1 nn
            have B0 := gb0 nn
            have B1 := gb1 nn
            have F0 := (gr_free gq hgl (o := (i + 1) * 2)).trans FA0.out
            have F1 := (gr_free gq hgl (o := (i + 1) * 2 + 1)).trans FA1.out
            have F2 := (gr_free gq hgl (o := i * 2)).trans FB0.out
            have F3 := (gr_free gq hgl (o := i * 2 + 1)).trans FB1.out
            have HW := Lib.hid (WR.out _ (own_keep0 HOW.out gq))
            have HGQ := Lib.hid (gr_trans HGR2.out (gr_weak gq _))
            obtain ⟨wn, hwn⟩ : ∃ wn, wn = nn.w := ⟨_, rfl⟩
            rw [← hwn] at A0 A1 B0 B1 F0 F1 F2 F3 HW HGQ
            rw [← hwn]
            clear gq hwn ga0 ga1 gb0 gb1 a0 a1 b0 b1 hwi hq2 hq3 hq4 hq5
            go_wp2_with (fail)
            go_region
            all_goals (go_wp2_with (fail))
            all_goals go_roundw
            all_goals first | (simp [intOf]; done) | skip
            all_goals
              refine ⟨i, _, by omega, by go_num, own_of_heap2 HW.out rfl, PM.out, SW.out hc0, ?_⟩
              first
                | exact gr_drew (gr_set (gr_set (gr_set (gr_set HGQ.out rfl _) rfl _) rfl _) rfl _)
                | exact gr_set (gr_set (gr_set (gr_set (gr_drew HGQ.out) rfl _) rfl _) rfl _) rfl _
          · have hdc : decide (c < 0) = false := decide_eq_false hc0
            go_wp2_with (fail)
            refine wp_region_grew (by kernel_rfl) (by kernel_rfl) ?_
            repeat (go_big_quiet_step (first | (exact Calls.grew_of (fun W h => CC.out W h))))
            refine wpQuiet_nil ?_
            rintro wq ⟨nn, rfl⟩
            have HGQ := Lib.hid (gr_trans HGR2.out (gr_weak nn.gr _))
            have HW := Lib.hid (own_keep0 HOW.out nn.gr)
            clear ga0 ga1 gb0 gb1 a0 a1 b0 b1
            go_wp2_with (fail)
            go_roundw
            case rel => exact ⟨k + 1, O2, by omega, by omega, by go_num, HW.out, HPM2.out, ST.out hc0, HGQ.out⟩
            case measure => simp [intOf]; omega
        · have hd0 : decide (0 < j) = false := decide_eq_false hj0
          obtain rfl : j = 0 := by omega
          have HOWN2 := Lib.hid hown2
          have HGR2 := Lib.hid hgr2
          have HPM2 := Lib.hid hO2
          have HZ := Lib.hid (srt_zero hb2)
          have hq5 : decide ((0 : Int) < 0) = false := by decide
          clear hown2 hgr2 hO2 hb2 hlen
          go_wp2_with (fail)
          go_quiet (fail)
          go_wp2_with (fail)
          go_roundw
          case rel => exact ⟨k + 1, O2, by omega, by omega, by go_num, own_keep0 HOWN2.out (gr_drewN (gr_refl _ _) _), HPM2.out, HZ.out, gr_drewN HGR2.out _⟩
          case measure => simp [intOf]; omega
    · have HW := Lib.hid hown'
      clear hown'
      go_wp2_with (fail)
      go_end0
      have hS : Srt cm ⟨⟨#[]⟩, 0⟩ O' n := fun p q h1 h2 => HS.out p q h1 (by omega)
      exact ⟨O', rfl, HW.out, HO'.out, hS, hgr⟩
set_option maxRecDepth 100000 in
theorem stablePc_any (F : FuncId) (q n : Nat) (cm : Piece → Piece → Int) (v : Value) (base : Nat) (L : List Piece) (w : World) (hown : w.ownsRow base 53 2 v n (flat encPc L)) (hL : L.length = n) (hn : n < 20)
    (hE : ∀ (args : Array Value) (w : World), (callFunc F args).run Tryz.prog w = .ok (.enter F args) w) (hc : CmpOk cm) (hF : CmpPc F q cm L v.ownBlock w) :
    Calls Tryz.prog 102 #[v, .int .i64 n, .func (.func F) #[] #[.pointer (some ⟨q, 0, none⟩)]] w (SortPcPost cm L v n base w) := by
  have IS := Lib.hid (insertionPc_any F q n cm v base L w hown hL (by omega) hE hc hF)
  obtain ⟨va, vc, rfl, _, _, _, _⟩ := own_shape hown
  clear hF hE hown hL hc
  have h20 : ¬ 20 ≤ (n : Int) := by omega
  go_enter Tryz.func102, Tryz.ntmps102
  go_wp2_with (fail)
  go_loop [7, 8] (fun a b => a = .int .i64 0 ∧ b = .int .i64 20) (fun _ _ => 0)
  case atStart => exact ⟨rfl, rfl⟩
  case round =>
    obtain ⟨rfl, rfl⟩ := hrel
    go_wp2_with (fail)
    refine IS.out.mono ?_
    rintro e w2 ⟨O2, rfl, h1, h2, h3, h4⟩
    have H1 := Lib.hid h1
    have H2 := Lib.hid h2
    have H3 := Lib.hid h3
    have hn20 : ¬ 20 < (n : Int) := by omega
    clear h1 h2 h3
    go_wp2_with (fail)
    go_loop [6] (fun a => a = .int .i64 20) (fun _ => 0)
    case atStart => exact rfl
    case round =>
      obtain rfl := hrel
      go_wp2_with (fail)
      go_end0
      exact ⟨O2, rfl, H1.out, H2.out, H3.out, h4⟩
theorem sortPc_any (F : FuncId) (q n : Nat) (cm : Piece → Piece → Int) (v : Value) (base : Nat) (L : List Piece) (w : World) (hown : w.ownsRow base 53 2 v n (flat encPc L)) (hL : L.length = n) (hn : n < 20)
    (hE : ∀ (args : Array Value) (w : World), (callFunc F args).run Tryz.prog w = .ok (.enter F args) w) (hc : CmpOk cm) (hF : CmpPc F q cm L v.ownBlock w) :
    Calls Tryz.prog 48 #[v, .func (.func F) #[] #[.pointer (some ⟨q, 0, none⟩)]] w (SortPcPost cm L v n base w) := by
  have IS := Lib.hid (stablePc_any F q n cm v base L w hown hL hn hE hc hF)
  obtain ⟨va, vc, rfl, _, _, _, _⟩ := own_shape hown
  clear hF hE hown hL hc
  go_enter Tryz.func48, Tryz.ntmps48
  go_wp2_with (fail)
  refine IS.out.mono ?_
  rintro e w2 ⟨O2, rfl, h1, h2, h3, h4⟩
  have H1 := Lib.hid h1
  have H2 := Lib.hid h2
  have H3 := Lib.hid h3
  clear h1 h2 h3
  go_wp2_with (fail)
  go_end0
  exact ⟨O2, rfl, H1.out, H2.out, H3.out, h4⟩
end Go.Proofs.YtdminjijhpemkaaGreatDoor

/-! Pieces, as the stream makes them. -/
namespace Go.Proofs.YtdminjijhpemkaaGreatDoor
open Go.RowKit
variable {lw : Nat}

def pcKeys : List ByteArray := [⟨#[108, 97]⟩, ⟨#[108, 98]⟩, ⟨#[108, 99]⟩, ⟨#[108, 100]⟩]
def pcOdd : List ByteArray := [⟨#[]⟩, ⟨#[122, 122]⟩, ⟨#[108, 97]⟩]
def pcsTo (l : List Int) (k : Nat) : Nat → List Piece
  | 0 => []
  | i + 1 => pcsTo l k i ++ [⟨oneS l (k + 2 * i) pcKeys, pickM l (k + 2 * i + 1) [1, 1, 2, 4]⟩]
theorem pcsTo_len (l : List Int) (k i : Nat) : (pcsTo l k i).length = i := by
  induction i with
  | zero => rfl
  | succ i ih => simp [pcsTo, ih]
def pcsN (l : List Int) (k : Nat) : Nat := (nxt l k 4).toNat
def pcsJ (l : List Int) (k : Nat) : Nat := k + 1 + 2 * pcsN l k
def pcsM (l : List Int) (k : Nat) : List Piece := if flipM l (pcsJ l k) 15 then pcsTo l (k + 1) (pcsN l k) ++ [⟨oneS l (pcsJ l k + 1) pcOdd, pickM l (pcsJ l k + 1 + 1) [0, -1, 1000, 1001]⟩] else pcsTo l (k + 1) (pcsN l k)
def pcsK (l : List Int) (k : Nat) : Nat := if flipM l (pcsJ l k) 15 then pcsJ l k + 1 + 1 + 1 else pcsJ l k + 1
def PcsPost (l : List Int) (k p lw : Nat) (w : World) (e : Ending) (w' : World) : Prop :=
  ∃ v, e = .returned v ∧ w'.ownsRow w.heap.size 53 2 v (pcsM l k).length (flat encPc (pcsM l k)) ∧ StreamAt w' p lw l (pcsK l k) ∧ w.grownBy w' (some p)
theorem pcsN_le (l : List Int) (k : Nat) : pcsN l k ≤ 3 ∧ ((pcsN l k : Nat) : Int) = nxt l k 4 := by
  have := nxt_range l k 4 (by decide)
  unfold pcsN
  omega
theorem pcsM_len (l : List Int) (k : Nat) : (pcsM l k).length ≤ 4 := by
  have := (pcsN_le l k).1
  unfold pcsM
  split
  · rw [List.length_append, pcsTo_len]; simp; omega
  · rw [pcsTo_len]; omega
theorem pcsK_le (l : List Int) (k : Nat) : pcsK l k ≤ k + 10 := by
  have := (pcsN_le l k).1
  unfold pcsK pcsJ
  split <;> omega
end Go.Proofs.YtdminjijhpemkaaGreatDoor

/-! Needs, as the stream makes them: few, with short names and bounded counts. -/
namespace Go.Proofs.YtdminjijhpemkaaGreatDoor
open Go.RowKit
variable {lw : Nat}

structure Need where
  place : ByteArray
  prod : ByteArray
  many : Int
def encNeed (x : Need) : List Value := [.string x.place, .string x.prod, .int .i64 x.many]
theorem encNeed_len (x : Need) : (encNeed x).length = 3 := rfl
theorem eNeed : ElemT Tryz.prog 28 32 (.agg #[.string ⟨#[]⟩, .string ⟨#[]⟩, .int .i64 0]) 3 40 := ⟨by kernel_rfl, by kernel_rfl, by decide, by decide, by decide⟩
def NeedSm (x : Need) : Prop := x.place.size ≤ 3 ∧ x.prod.size ≤ 3 ∧ -1 ≤ x.many ∧ x.many ≤ 100001
structure NeedsSm (N : List Need) : Prop where
  len : N.length ≤ 7
  all : ∀ x ∈ N, NeedSm x
/-- What stands while the needs are made. -/
structure NeedsW (wr w : World) (p lw : Nat) (l : List Int) (q B : Nat) (v : Value) (N : List Need) : Prop where
  own : wr.ownsRow (B + 1) 32 3 v N.length (flat encNeed N)
  blk : wr.heap[B]? = some (.cells #[.string ⟨#[120]⟩, .string ⟨#[121]⟩, .string ⟨#[122]⟩] 9 (0, 0))
  str : StreamAt wr p lw l q
  all : ∀ x ∈ N, NeedSm x
  gr : w.grownBy wr (some p)
  pB : p < B
theorem NeedsW.keep0 {wr w1 w : World} {p lw : Nat} {l : List Int} {q B : Nat} {v : Value} {N : List Need} (h : NeedsW wr w p lw l q B v N) (g : wr.grownBy w1 none) : NeedsW w1 w p lw l q B v N :=
  ⟨own_keep0 h.own g, (g.block B (lt_of_block h.blk) (by simp)).trans h.blk, h.str.keep0 g, h.all, gr_trans h.gr (gr_weak g _), h.pB⟩
theorem NeedsW.draw {wr w1 w : World} {p lw : Nat} {l : List Int} {q q2 B : Nat} {v : Value} {N : List Need} (h : NeedsW wr w p lw l q B v N) (g : wr.grownBy w1 (some p)) (hs : StreamAt w1 p lw l q2) : NeedsW w1 w p lw l q2 B v N :=
  ⟨own_keepS h.own g (by have := h.pB; omega), (g.block B (lt_of_block h.blk) (fun e => by have := h.pB; cases e; omega)).trans h.blk, hs, h.all, gr_trans h.gr g, h.pB⟩
theorem NeedsW.app {wr w1 w : World} {p lw : Nat} {l : List Int} {q B : Nat} {v v1 : Value} {N : List Need} {x : Need} (h : NeedsW wr w p lw l q B v N) (hx : NeedSm x) (hw : w.heap.size ≤ B + 1) (o : w1.ownsRow (B + 1) 32 3 v1 (N.length + 1) (flat encNeed N ++ encNeed x)) (g : wr.grownBy w1 v.ownBlock) (hl : ∀ b, v.ownBlock = some b → B + 1 ≤ b) : NeedsW w1 w p lw l q B v1 (N ++ [x]) := by
  refine ⟨?_, (g.block B (lt_of_block h.blk) (fun e => own_ne h.own h.blk (by decide) e.symm)).trans h.blk, h.str.keep g (fun b e => by have := hl b e; have := h.pB; omega), fun y hy => ?_, gr_grown h.gr g (fun b e => by have := hl b e; omega), h.pB⟩
  · rw [List.length_append, flat_append, flat_one]; exact o
  · rcases List.mem_append.1 hy with hy | hy
    · exact h.all y hy
    · have : y = x := by simpa using hy
      rw [this]; exact hx
def NeedsPost (p : Nat) (w : World) (e : Ending) (w' : World) : Prop :=
  ∃ v N, e = .returned v ∧ w'.ownsRow w.heap.size 32 3 v N.length (flat encNeed N) ∧ NeedsSm N ∧ w.grownBy w' (some p)
end Go.Proofs.YtdminjijhpemkaaGreatDoor

/-! Package slices at ints: stable sorting of few, by a comparison with captures. Written by mksort1.py. -/
namespace Go.Proofs.YtdminjijhpemkaaGreatDoor
open Go.RowKit

theorem own_of_heapc1 {w w1 : World} {base e size n : Nat} {v : Value} {xs : List Value} (h : w.ownsRow base e size v n xs) (e1 : w1.heap = w.heap) : w1.ownsRow base e size v n xs := by
  rcases h.2 with h2 | ⟨g, cap, cur, hv, hb, hg, r⟩
  · exact ⟨h.1, .inl h2⟩
  · exact ⟨h.1, .inr ⟨g, cap, cur, hv, hb, by rw [e1]; exact hg, r⟩⟩
theorem own_cellc1 {w : World} {base e n g cap i : Nat} {O : List Int} (h : w.ownsRow base e 1 (.slice (some ⟨g, 0, none⟩) n cap) n (ints O)) (hi : i < O.length) : w.cell? ⟨g, i, none⟩ = some (.int .i64 O[i]) ∧ w.frozen? ⟨g, i, none⟩ = false := by
  have hl : O.length = n := by have := h.1; simpa [ints] using this
  have h1 := own_int h i (by omega)
  rw [getD_eq O i 0 hi] at h1
  exact ⟨h1.1, h1.2.1⟩
/-- Of two that are equal, the less one is first. -/
def StbC1 (cm : Int → Int → Int) (O : List Int) (n : Nat) : Prop := ∀ p q, p < q → q < n → ¬ cm (O.getD q 0) (O.getD p 0) < 0 → ¬ cm (O.getD p 0) (O.getD q 0) < 0 → O.getD p 0 < O.getD q 0
theorem stbC1_swap {cm : Int → Int → Int} {O : List Int} {n i : Nat} (h : StbC1 cm O n) (hn : O.length = n) (hi : i + 1 < n) (hc : cm (O.getD (i + 1) 0) (O.getD i 0) < 0) : StbC1 cm (swapAt 0 O i) n := by
  intro p q h1 h2
  rw [swapAt_get i (by omega) p, swapAt_get i (by omega) q]
  by_cases a : p = i
  · subst a
    rw [if_pos rfl]
    by_cases b : q = p + 1
    · subst b
      rw [if_neg (by omega), if_pos rfl]
      intro h3 h4
      exact absurd hc h4
    · rw [if_neg (by omega), if_neg b]
      exact h (p + 1) q (by omega) h2
  · rw [if_neg a]
    by_cases b : p = i + 1
    · subst b
      rw [if_pos rfl, if_neg (by omega), if_neg (by omega)]
      exact h i q (by omega) h2
    · rw [if_neg b]
      by_cases c : q = i
      · subst c
        rw [if_pos rfl]
        exact h p (q + 1) (by omega) (by omega)
      · rw [if_neg c]
        by_cases d : q = i + 1
        · subst d
          rw [if_pos rfl]
          exact h p i (by omega) (by omega)
        · rw [if_neg d]
          exact h p q h1 h2
/-- A comparison of elements of a list, in worlds that differ from w at one block at most. -/
def CmpC1 (F : FuncId) (q0 : Nat) (cm : Int → Int → Int) (L : List Int) (r : Option Nat) (w : World) : Prop :=
  ∀ (x y : Int) (w1 : World), x ∈ L → y ∈ L → w.grownBy w1 r → Calls Tryz.prog F #[.int .i64 x, .int .i64 y, .pointer (some ⟨q0, 0, none⟩)] w1 fun e w2 => e = .returned (.int .i64 (cm x y)) ∧ w1.grownBy w2 none
def SortC1Post (cm : Int → Int → Int) (L : List Int) (v : Value) (n base : Nat) (w : World) (e : Ending) (w' : World) : Prop := ∃ O, e = .returned (.tuple #[]) ∧ w'.ownsRow base 3 1 v n (ints O) ∧ O.Perm L ∧ Srt cm 0 O n ∧ (StbC1 cm L n → StbC1 cm O n) ∧ w.grownBy w' v.ownBlock
set_option maxRecDepth 100000 in
set_option maxHeartbeats 4000000 in
theorem insertionC1_any (F : FuncId) (q0 n : Nat) (cm : Int → Int → Int) (v : Value) (base : Nat) (L : List Int) (w : World) (hown : w.ownsRow base 3 1 v n (ints L)) (hL : L.length = n) (hn : n ≤ 1000)
    (hE : ∀ (args : Array Value) (w : World), (callFunc F args).run Tryz.prog w = .ok (.enter F args) w) (hc : CmpOk cm) (hF : CmpC1 F q0 cm L v.ownBlock w) :
    Calls Tryz.prog 183 #[v, .int .i64 0, .int .i64 n, .func (.func F) #[] #[.pointer (some ⟨q0, 0, none⟩)]] w (SortC1Post cm L v n base w) := by
  have HF := Lib.hid hF
  have HC := Lib.hid hc
  have HL := Lib.hid hL
  obtain ⟨va, vc, rfl, _, _, _, _⟩ := own_shape hown
  clear hF hc hL
  go_enter Tryz.func183, Tryz.ntmps183
  go_wp2_with (fail)
  go_loopw [8] (fun i wr => ∃ (k : Nat) (O' : List Int), 1 ≤ k ∧ (k ≤ n ∨ n = 0) ∧ i = .int .i64 k ∧ wr.ownsRow base 3 1 (.slice va n vc) n (ints O') ∧ O'.Perm L ∧ Srt cm 0 O' k ∧ (StbC1 cm L n → StbC1 cm O' n) ∧ w.grownBy wr (Value.slice va n vc).ownBlock) (fun i _ => n - (intOf i).toNat)
  case atStart => exact ⟨1, L, by omega, by omega, rfl, hown, List.Perm.refl _, srt_one, id, gr_refl _ _⟩
  case round =>
    obtain ⟨k, O', hk, hkn1, rfl, hown', hO', hs, hst, hgr⟩ := hrel
    have HST := Lib.hid hst
    clear hst
    obtain ⟨wo, rfl⟩ : ∃ wo : World, wo = wr := ⟨_, rfl⟩
    have HO' := Lib.hid hO'
    have HS := Lib.hid hs
    clear hO' hs
    by_cases hkn : k < n
    · obtain ⟨g, gc, hge, hgb, _, _, _⟩ := own_some hown' (by omega)
      cases hge
      go_wp2_with (fail)
      go_loopw [9] (fun i wr => ∃ (j : Nat) (O2 : List Int), j ≤ k ∧ i = .int .i64 j ∧ wr.ownsRow base 3 1 (.slice (some ⟨g, 0, none⟩) n vc) n (ints O2) ∧ O2.Perm L ∧ SrtBut cm 0 O2 k j ∧ (StbC1 cm L n → StbC1 cm O2 n) ∧ w.grownBy wr (some g)) (fun i _ => (intOf i).toNat)
      case atStart => exact ⟨k, O', by omega, rfl, hown', HO'.out, srt_start HS.out, HST.out, hgr⟩
      case round =>
        clear hgr
        obtain ⟨j, O2, hj, rfl, hown2, hO2, hb2, hst2, hgr2⟩ := hrel
        have HST2 := Lib.hid hst2
        clear hst2
        obtain ⟨wi, rfl⟩ : ∃ wi : World, wi = wr := ⟨_, rfl⟩
        have hlen := hO2.length_eq.trans HL.out
        by_cases hj0 : 0 < j
        · have hd0 : decide (0 < j) = true := decide_eq_true hj0
          obtain ⟨i, hi⟩ : ∃ i, i = j - 1 := ⟨_, rfl⟩
          have hij : i + 1 = j := by omega
          subst hij
          have hjl : i + 1 < O2.length := by omega
          have hil : i < O2.length := by omega
          obtain ⟨a0, fa0⟩ := own_cellc1 hown2 hjl
          obtain ⟨b0, fb0⟩ := own_cellc1 hown2 hil
          have hmx : O2[i + 1] ∈ L := hO2.mem_iff.1 (List.getElem_mem _)
          have hmy : O2[i] ∈ L := hO2.mem_iff.1 (List.getElem_mem _)
          have ex : O2.getD (i + 1) 0 = O2[i + 1] := getD_eq O2 _ _ hjl
          have ey : O2.getD i 0 = O2[i] := getD_eq O2 _ _ hil
          have SW : Hid (cm O2[i + 1] O2[i] < 0 → SrtBut cm 0 (swapAt 0 O2 i) k i) := fun h => srt_swap HC.out hjl (by omega) hb2 (by rw [ex, ey]; exact h)
          have ST : Hid (¬ cm O2[i + 1] O2[i] < 0 → Srt cm 0 O2 (k + 1)) := fun h => srt_stop HC.out hb2 (by rw [ex, ey]; exact h)
          have SB : Hid (cm O2[i + 1] O2[i] < 0 → StbC1 cm L n → StbC1 cm (swapAt 0 O2 i) n) := fun h h1 => stbC1_swap (HST2.out h1) hlen (by omega) (by rw [ex, ey]; exact h)
          have PM : Hid ((swapAt 0 O2 i).Perm L) := (swapAt_perm i hjl).trans hO2
          have WR : Hid (∀ W : World, W.ownsRow base 3 1 (.slice (some ⟨g, 0, none⟩) n vc) n (ints O2) → ((W.setCell ⟨g, i + 1, none⟩ (.int .i64 (O2[i]))).setCell ⟨g, i, none⟩ (.int .i64 (O2[i + 1]))).ownsRow base 3 1 (.slice (some ⟨g, 0, none⟩) n vc) n (ints (swapAt 0 O2 i))) := fun W hW => by
            have h5 := (own_int ((own_int hW (i + 1) (by omega)).2.2 (O2[i])) i (by omega)).2.2 (O2[i + 1])
            unfold swapAt
            rw [ex, ey]
            exact h5
          have CC : Hid (∀ W, wi.grownBy W none → Calls Tryz.prog F #[.int .i64 (O2[i + 1]), .int .i64 (O2[i]), .pointer (some ⟨q0, 0, none⟩)] W fun e w2 => e = .returned (.int .i64 (cm O2[i + 1] O2[i])) ∧ W.grownBy w2 none) := fun W hW => HF.out _ _ W hmx hmy (gr_trans hgr2 (gr_weak hW _))
          obtain ⟨x, hx⟩ : ∃ x, x = O2[i + 1] := ⟨_, rfl⟩
          obtain ⟨y, hy⟩ : ∃ y, y = O2[i] := ⟨_, rfl⟩
          rw [← hx, ← hy] at SW ST SB CC WR
          rw [← hx] at a0
          rw [← hy] at b0
          obtain ⟨c, hcv⟩ : ∃ c, c = cm x y := ⟨_, rfl⟩
          rw [← hcv] at SW ST SB CC
          have ga0 := grew_cell a0
          have gb0 := grew_cell b0
          have FA0 := Lib.hid fa0
          have FB0 := Lib.hid fb0
          have HOW := Lib.hid hown2
          have HGR2 := Lib.hid hgr2
          have hgl := lt_of_cell a0
          have HPM2 := Lib.hid hO2
          have hi1 : ((i : Int) + 1 - 1) = i := by omega
          have hwi : IntKind.i64.wrap (((i : Int) + 1) - 1) = i := by rw [hi1]; exact IntWalk.i64_in _ (by omega)
          have hq0 : (0 : Int) ≤ (i : Int) := by omega
          have hq1 : (i : Int) < (n : Int) := by omega
          have hq2 : (0 : Int) ≤ (i : Int) + 1 := by omega
          have hq3 : (i : Int) + 1 < (n : Int) := by omega
          have hq4 : ((i : Int) + 1).toNat = i + 1 := by omega
          have hq5 : decide ((0 : Int) < (i : Int) + 1) = true := decide_eq_true (by omega)
          clear hown2 hgr2 hO2 hb2 hmx hmy ex ey hx hy hcv fa0 fb0 hlen hi hown' hi1
          by_cases hc0 : c < 0
          · have hdc : decide (c < 0) = true := decide_eq_true hc0
            go_wp2_with (fail)
            refine wp_region_grew (by kernel_rfl) (by kernel_rfl) ?_
            repeat (go_big_quiet_step (first | (exact Calls.grew_of (fun W h => CC.out W h))))
            refine wpQuiet_nil ?_
            rintro wq ⟨nn, rfl⟩
            have gq := nn.gr
            have A0 := ga0 nn
            have B0 := gb0 nn
            have F0 := (gr_free gq hgl (o := i + 1)).trans FA0.out
            have F2 := (gr_free gq hgl (o := i)).trans FB0.out
            have HW := Lib.hid (WR.out _ (own_keep0 HOW.out gq))
            have HGQ := Lib.hid (gr_trans HGR2.out (gr_weak gq _))
            obtain ⟨wn, hwn⟩ : ∃ wn, wn = nn.w := ⟨_, rfl⟩
            rw [← hwn] at A0 B0 F0 F2 HW HGQ
            rw [← hwn]
            clear gq hwn ga0 gb0 a0 b0 hwi hq2 hq3 hq4 hq5
            go_wp2_with (fail)
            go_region
            all_goals (go_wp2_with (fail))
            all_goals go_roundw
            all_goals first | (simp [intOf]; done) | skip
            all_goals
              refine ⟨i, _, by omega, by go_num, own_of_heapc1 HW.out rfl, PM.out, SW.out hc0, SB.out hc0, ?_⟩
              first
                | exact gr_drew (gr_set (gr_set HGQ.out rfl _) rfl _)
                | exact gr_set (gr_set (gr_drew HGQ.out) rfl _) rfl _
          · have hdc : decide (c < 0) = false := decide_eq_false hc0
            go_wp2_with (fail)
            refine wp_region_grew (by kernel_rfl) (by kernel_rfl) ?_
            repeat (go_big_quiet_step (first | (exact Calls.grew_of (fun W h => CC.out W h))))
            refine wpQuiet_nil ?_
            rintro wq ⟨nn, rfl⟩
            have HGQ := Lib.hid (gr_trans HGR2.out (gr_weak nn.gr _))
            have HW := Lib.hid (own_keep0 HOW.out nn.gr)
            clear ga0 gb0 a0 b0
            go_wp2_with (fail)
            go_roundw
            case rel => exact ⟨k + 1, O2, by omega, by omega, by go_num, HW.out, HPM2.out, ST.out hc0, HST2.out, HGQ.out⟩
            case measure => simp [intOf]; omega
        · have hd0 : decide (0 < j) = false := decide_eq_false hj0
          obtain rfl : j = 0 := by omega
          have HOWN2 := Lib.hid hown2
          have HGR2 := Lib.hid hgr2
          have HPM2 := Lib.hid hO2
          have HZ := Lib.hid (srt_zero hb2)
          have hq5 : decide ((0 : Int) < 0) = false := by decide
          clear hown2 hgr2 hO2 hb2 hlen
          go_wp2_with (fail)
          go_quiet (fail)
          go_wp2_with (fail)
          go_roundw
          case rel => exact ⟨k + 1, O2, by omega, by omega, by go_num, own_keep0 HOWN2.out (gr_drewN (gr_refl _ _) _), HPM2.out, HZ.out, HST2.out, gr_drewN HGR2.out _⟩
          case measure => simp [intOf]; omega
    · have HW := Lib.hid hown'
      clear hown'
      go_wp2_with (fail)
      go_end0
      have hS : Srt cm 0 O' n := fun p q h1 h2 => HS.out p q h1 (by omega)
      exact ⟨O', rfl, HW.out, HO'.out, hS, HST.out, hgr⟩
set_option maxRecDepth 100000 in
theorem stableC1_any (F : FuncId) (q0 n : Nat) (cm : Int → Int → Int) (v : Value) (base : Nat) (L : List Int) (w : World) (hown : w.ownsRow base 3 1 v n (ints L)) (hL : L.length = n) (hn : n < 20)
    (hE : ∀ (args : Array Value) (w : World), (callFunc F args).run Tryz.prog w = .ok (.enter F args) w) (hc : CmpOk cm) (hF : CmpC1 F q0 cm L v.ownBlock w) :
    Calls Tryz.prog 143 #[v, .int .i64 n, .func (.func F) #[] #[.pointer (some ⟨q0, 0, none⟩)]] w (SortC1Post cm L v n base w) := by
  have IS := Lib.hid (insertionC1_any F q0 n cm v base L w hown hL (by omega) hE hc hF)
  obtain ⟨va, vc, rfl, _, _, _, _⟩ := own_shape hown
  clear hF hE hown hL hc
  have h20 : ¬ 20 ≤ (n : Int) := by omega
  go_enter Tryz.func143, Tryz.ntmps143
  go_wp2_with (fail)
  go_loop [7, 8] (fun a b => a = .int .i64 0 ∧ b = .int .i64 20) (fun _ _ => 0)
  case atStart => exact ⟨rfl, rfl⟩
  case round =>
    obtain ⟨rfl, rfl⟩ := hrel
    go_wp2_with (fail)
    refine IS.out.mono ?_
    rintro e w2 ⟨O2, rfl, h1, h2, h3, h5, h4⟩
    have H1 := Lib.hid h1
    have H2 := Lib.hid h2
    have H3 := Lib.hid h3
    have H5 := Lib.hid h5
    have hn20 : ¬ 20 < (n : Int) := by omega
    clear h1 h2 h3 h5
    go_wp2_with (fail)
    go_loop [6] (fun a => a = .int .i64 20) (fun _ => 0)
    case atStart => exact rfl
    case round =>
      obtain rfl := hrel
      go_wp2_with (fail)
      go_end0
      exact ⟨O2, rfl, H1.out, H2.out, H3.out, H5.out, h4⟩
theorem sortC1_any (F : FuncId) (q0 n : Nat) (cm : Int → Int → Int) (v : Value) (base : Nat) (L : List Int) (w : World) (hown : w.ownsRow base 3 1 v n (ints L)) (hL : L.length = n) (hn : n < 20)
    (hE : ∀ (args : Array Value) (w : World), (callFunc F args).run Tryz.prog w = .ok (.enter F args) w) (hc : CmpOk cm) (hF : CmpC1 F q0 cm L v.ownBlock w) :
    Calls Tryz.prog 97 #[v, .func (.func F) #[] #[.pointer (some ⟨q0, 0, none⟩)]] w (SortC1Post cm L v n base w) := by
  have IS := Lib.hid (stableC1_any F q0 n cm v base L w hown hL hn hE hc hF)
  obtain ⟨va, vc, rfl, _, _, _, _⟩ := own_shape hown
  clear hF hE hown hL hc
  go_enter Tryz.func97, Tryz.ntmps97
  go_wp2_with (fail)
  refine IS.out.mono ?_
  rintro e w2 ⟨O2, rfl, h1, h2, h3, h5, h4⟩
  have H1 := Lib.hid h1
  have H2 := Lib.hid h2
  have H3 := Lib.hid h3
  have H5 := Lib.hid h5
  clear h1 h2 h3 h5
  go_wp2_with (fail)
  go_end0
  exact ⟨O2, rfl, H1.out, H2.out, H3.out, H5.out, h4⟩

/-! Package slices at ints: stable sorting of few, by a comparison with captures. Written by mksort1.py. -/

theorem own_of_heapc3 {w w1 : World} {base e size n : Nat} {v : Value} {xs : List Value} (h : w.ownsRow base e size v n xs) (e1 : w1.heap = w.heap) : w1.ownsRow base e size v n xs := by
  rcases h.2 with h2 | ⟨g, cap, cur, hv, hb, hg, r⟩
  · exact ⟨h.1, .inl h2⟩
  · exact ⟨h.1, .inr ⟨g, cap, cur, hv, hb, by rw [e1]; exact hg, r⟩⟩
theorem own_cellc3 {w : World} {base e n g cap i : Nat} {O : List Int} (h : w.ownsRow base e 1 (.slice (some ⟨g, 0, none⟩) n cap) n (ints O)) (hi : i < O.length) : w.cell? ⟨g, i, none⟩ = some (.int .i64 O[i]) ∧ w.frozen? ⟨g, i, none⟩ = false := by
  have hl : O.length = n := by have := h.1; simpa [ints] using this
  have h1 := own_int h i (by omega)
  rw [getD_eq O i 0 hi] at h1
  exact ⟨h1.1, h1.2.1⟩
/-- Of two that are equal, the less one is first. -/
def StbC3 (cm : Int → Int → Int) (O : List Int) (n : Nat) : Prop := ∀ p q, p < q → q < n → ¬ cm (O.getD q 0) (O.getD p 0) < 0 → ¬ cm (O.getD p 0) (O.getD q 0) < 0 → O.getD p 0 < O.getD q 0
theorem stbC3_swap {cm : Int → Int → Int} {O : List Int} {n i : Nat} (h : StbC3 cm O n) (hn : O.length = n) (hi : i + 1 < n) (hc : cm (O.getD (i + 1) 0) (O.getD i 0) < 0) : StbC3 cm (swapAt 0 O i) n := by
  intro p q h1 h2
  rw [swapAt_get i (by omega) p, swapAt_get i (by omega) q]
  by_cases a : p = i
  · subst a
    rw [if_pos rfl]
    by_cases b : q = p + 1
    · subst b
      rw [if_neg (by omega), if_pos rfl]
      intro h3 h4
      exact absurd hc h4
    · rw [if_neg (by omega), if_neg b]
      exact h (p + 1) q (by omega) h2
  · rw [if_neg a]
    by_cases b : p = i + 1
    · subst b
      rw [if_pos rfl, if_neg (by omega), if_neg (by omega)]
      exact h i q (by omega) h2
    · rw [if_neg b]
      by_cases c : q = i
      · subst c
        rw [if_pos rfl]
        exact h p (q + 1) (by omega) (by omega)
      · rw [if_neg c]
        by_cases d : q = i + 1
        · subst d
          rw [if_pos rfl]
          exact h p i (by omega) (by omega)
        · rw [if_neg d]
          exact h p q h1 h2
/-- A comparison of elements of a list, in worlds that differ from w at one block at most. -/
def CmpC3 (F : FuncId) (q0 q1 q2 : Nat) (cm : Int → Int → Int) (L : List Int) (r : Option Nat) (w : World) : Prop :=
  ∀ (x y : Int) (w1 : World), x ∈ L → y ∈ L → w.grownBy w1 r → Calls Tryz.prog F #[.int .i64 x, .int .i64 y, .pointer (some ⟨q0, 0, none⟩), .pointer (some ⟨q1, 0, none⟩), .pointer (some ⟨q2, 0, none⟩)] w1 fun e w2 => e = .returned (.int .i64 (cm x y)) ∧ w1.grownBy w2 none
def SortC3Post (cm : Int → Int → Int) (L : List Int) (v : Value) (n base : Nat) (w : World) (e : Ending) (w' : World) : Prop := ∃ O, e = .returned (.tuple #[]) ∧ w'.ownsRow base 3 1 v n (ints O) ∧ O.Perm L ∧ Srt cm 0 O n ∧ (StbC3 cm L n → StbC3 cm O n) ∧ w.grownBy w' v.ownBlock
set_option maxRecDepth 100000 in
set_option maxHeartbeats 4000000 in
theorem insertionC3_any (F : FuncId) (q0 q1 q2 n : Nat) (cm : Int → Int → Int) (v : Value) (base : Nat) (L : List Int) (w : World) (hown : w.ownsRow base 3 1 v n (ints L)) (hL : L.length = n) (hn : n ≤ 1000)
    (hE : ∀ (args : Array Value) (w : World), (callFunc F args).run Tryz.prog w = .ok (.enter F args) w) (hc : CmpOk cm) (hF : CmpC3 F q0 q1 q2 cm L v.ownBlock w) :
    Calls Tryz.prog 183 #[v, .int .i64 0, .int .i64 n, .func (.func F) #[] #[.pointer (some ⟨q0, 0, none⟩), .pointer (some ⟨q1, 0, none⟩), .pointer (some ⟨q2, 0, none⟩)]] w (SortC3Post cm L v n base w) := by
  have HF := Lib.hid hF
  have HC := Lib.hid hc
  have HL := Lib.hid hL
  obtain ⟨va, vc, rfl, _, _, _, _⟩ := own_shape hown
  clear hF hc hL
  go_enter Tryz.func183, Tryz.ntmps183
  go_wp2_with (fail)
  go_loopw [8] (fun i wr => ∃ (k : Nat) (O' : List Int), 1 ≤ k ∧ (k ≤ n ∨ n = 0) ∧ i = .int .i64 k ∧ wr.ownsRow base 3 1 (.slice va n vc) n (ints O') ∧ O'.Perm L ∧ Srt cm 0 O' k ∧ (StbC3 cm L n → StbC3 cm O' n) ∧ w.grownBy wr (Value.slice va n vc).ownBlock) (fun i _ => n - (intOf i).toNat)
  case atStart => exact ⟨1, L, by omega, by omega, rfl, hown, List.Perm.refl _, srt_one, id, gr_refl _ _⟩
  case round =>
    obtain ⟨k, O', hk, hkn1, rfl, hown', hO', hs, hst, hgr⟩ := hrel
    have HST := Lib.hid hst
    clear hst
    obtain ⟨wo, rfl⟩ : ∃ wo : World, wo = wr := ⟨_, rfl⟩
    have HO' := Lib.hid hO'
    have HS := Lib.hid hs
    clear hO' hs
    by_cases hkn : k < n
    · obtain ⟨g, gc, hge, hgb, _, _, _⟩ := own_some hown' (by omega)
      cases hge
      go_wp2_with (fail)
      go_loopw [9] (fun i wr => ∃ (j : Nat) (O2 : List Int), j ≤ k ∧ i = .int .i64 j ∧ wr.ownsRow base 3 1 (.slice (some ⟨g, 0, none⟩) n vc) n (ints O2) ∧ O2.Perm L ∧ SrtBut cm 0 O2 k j ∧ (StbC3 cm L n → StbC3 cm O2 n) ∧ w.grownBy wr (some g)) (fun i _ => (intOf i).toNat)
      case atStart => exact ⟨k, O', by omega, rfl, hown', HO'.out, srt_start HS.out, HST.out, hgr⟩
      case round =>
        clear hgr
        obtain ⟨j, O2, hj, rfl, hown2, hO2, hb2, hst2, hgr2⟩ := hrel
        have HST2 := Lib.hid hst2
        clear hst2
        obtain ⟨wi, rfl⟩ : ∃ wi : World, wi = wr := ⟨_, rfl⟩
        have hlen := hO2.length_eq.trans HL.out
        by_cases hj0 : 0 < j
        · have hd0 : decide (0 < j) = true := decide_eq_true hj0
          obtain ⟨i, hi⟩ : ∃ i, i = j - 1 := ⟨_, rfl⟩
          have hij : i + 1 = j := by omega
          subst hij
          have hjl : i + 1 < O2.length := by omega
          have hil : i < O2.length := by omega
          obtain ⟨a0, fa0⟩ := own_cellc3 hown2 hjl
          obtain ⟨b0, fb0⟩ := own_cellc3 hown2 hil
          have hmx : O2[i + 1] ∈ L := hO2.mem_iff.1 (List.getElem_mem _)
          have hmy : O2[i] ∈ L := hO2.mem_iff.1 (List.getElem_mem _)
          have ex : O2.getD (i + 1) 0 = O2[i + 1] := getD_eq O2 _ _ hjl
          have ey : O2.getD i 0 = O2[i] := getD_eq O2 _ _ hil
          have SW : Hid (cm O2[i + 1] O2[i] < 0 → SrtBut cm 0 (swapAt 0 O2 i) k i) := fun h => srt_swap HC.out hjl (by omega) hb2 (by rw [ex, ey]; exact h)
          have ST : Hid (¬ cm O2[i + 1] O2[i] < 0 → Srt cm 0 O2 (k + 1)) := fun h => srt_stop HC.out hb2 (by rw [ex, ey]; exact h)
          have SB : Hid (cm O2[i + 1] O2[i] < 0 → StbC3 cm L n → StbC3 cm (swapAt 0 O2 i) n) := fun h h1 => stbC3_swap (HST2.out h1) hlen (by omega) (by rw [ex, ey]; exact h)
          have PM : Hid ((swapAt 0 O2 i).Perm L) := (swapAt_perm i hjl).trans hO2
          have WR : Hid (∀ W : World, W.ownsRow base 3 1 (.slice (some ⟨g, 0, none⟩) n vc) n (ints O2) → ((W.setCell ⟨g, i + 1, none⟩ (.int .i64 (O2[i]))).setCell ⟨g, i, none⟩ (.int .i64 (O2[i + 1]))).ownsRow base 3 1 (.slice (some ⟨g, 0, none⟩) n vc) n (ints (swapAt 0 O2 i))) := fun W hW => by
            have h5 := (own_int ((own_int hW (i + 1) (by omega)).2.2 (O2[i])) i (by omega)).2.2 (O2[i + 1])
            unfold swapAt
            rw [ex, ey]
            exact h5
          have CC : Hid (∀ W, wi.grownBy W none → Calls Tryz.prog F #[.int .i64 (O2[i + 1]), .int .i64 (O2[i]), .pointer (some ⟨q0, 0, none⟩), .pointer (some ⟨q1, 0, none⟩), .pointer (some ⟨q2, 0, none⟩)] W fun e w2 => e = .returned (.int .i64 (cm O2[i + 1] O2[i])) ∧ W.grownBy w2 none) := fun W hW => HF.out _ _ W hmx hmy (gr_trans hgr2 (gr_weak hW _))
          obtain ⟨x, hx⟩ : ∃ x, x = O2[i + 1] := ⟨_, rfl⟩
          obtain ⟨y, hy⟩ : ∃ y, y = O2[i] := ⟨_, rfl⟩
          rw [← hx, ← hy] at SW ST SB CC WR
          rw [← hx] at a0
          rw [← hy] at b0
          obtain ⟨c, hcv⟩ : ∃ c, c = cm x y := ⟨_, rfl⟩
          rw [← hcv] at SW ST SB CC
          have ga0 := grew_cell a0
          have gb0 := grew_cell b0
          have FA0 := Lib.hid fa0
          have FB0 := Lib.hid fb0
          have HOW := Lib.hid hown2
          have HGR2 := Lib.hid hgr2
          have hgl := lt_of_cell a0
          have HPM2 := Lib.hid hO2
          have hi1 : ((i : Int) + 1 - 1) = i := by omega
          have hwi : IntKind.i64.wrap (((i : Int) + 1) - 1) = i := by rw [hi1]; exact IntWalk.i64_in _ (by omega)
          have hq0 : (0 : Int) ≤ (i : Int) := by omega
          have hq1 : (i : Int) < (n : Int) := by omega
          have hq2 : (0 : Int) ≤ (i : Int) + 1 := by omega
          have hq3 : (i : Int) + 1 < (n : Int) := by omega
          have hq4 : ((i : Int) + 1).toNat = i + 1 := by omega
          have hq5 : decide ((0 : Int) < (i : Int) + 1) = true := decide_eq_true (by omega)
          clear hown2 hgr2 hO2 hb2 hmx hmy ex ey hx hy hcv fa0 fb0 hlen hi hown' hi1
          by_cases hc0 : c < 0
          · have hdc : decide (c < 0) = true := decide_eq_true hc0
            go_wp2_with (fail)
            refine wp_region_grew (by kernel_rfl) (by kernel_rfl) ?_
            repeat (go_big_quiet_step (first | (exact Calls.grew_of (fun W h => CC.out W h))))
            refine wpQuiet_nil ?_
            rintro wq ⟨nn, rfl⟩
            have gq := nn.gr
            have A0 := ga0 nn
            have B0 := gb0 nn
            have F0 := (gr_free gq hgl (o := i + 1)).trans FA0.out
            have F2 := (gr_free gq hgl (o := i)).trans FB0.out
            have HW := Lib.hid (WR.out _ (own_keep0 HOW.out gq))
            have HGQ := Lib.hid (gr_trans HGR2.out (gr_weak gq _))
            obtain ⟨wn, hwn⟩ : ∃ wn, wn = nn.w := ⟨_, rfl⟩
            rw [← hwn] at A0 B0 F0 F2 HW HGQ
            rw [← hwn]
            clear gq hwn ga0 gb0 a0 b0 hwi hq2 hq3 hq4 hq5
            go_wp2_with (fail)
            go_region
            all_goals (go_wp2_with (fail))
            all_goals go_roundw
            all_goals first | (simp [intOf]; done) | skip
            all_goals
              refine ⟨i, _, by omega, by go_num, own_of_heapc3 HW.out rfl, PM.out, SW.out hc0, SB.out hc0, ?_⟩
              first
                | exact gr_drew (gr_set (gr_set HGQ.out rfl _) rfl _)
                | exact gr_set (gr_set (gr_drew HGQ.out) rfl _) rfl _
          · have hdc : decide (c < 0) = false := decide_eq_false hc0
            go_wp2_with (fail)
            refine wp_region_grew (by kernel_rfl) (by kernel_rfl) ?_
            repeat (go_big_quiet_step (first | (exact Calls.grew_of (fun W h => CC.out W h))))
            refine wpQuiet_nil ?_
            rintro wq ⟨nn, rfl⟩
            have HGQ := Lib.hid (gr_trans HGR2.out (gr_weak nn.gr _))
            have HW := Lib.hid (own_keep0 HOW.out nn.gr)
            clear ga0 gb0 a0 b0
            go_wp2_with (fail)
            go_roundw
            case rel => exact ⟨k + 1, O2, by omega, by omega, by go_num, HW.out, HPM2.out, ST.out hc0, HST2.out, HGQ.out⟩
            case measure => simp [intOf]; omega
        · have hd0 : decide (0 < j) = false := decide_eq_false hj0
          obtain rfl : j = 0 := by omega
          have HOWN2 := Lib.hid hown2
          have HGR2 := Lib.hid hgr2
          have HPM2 := Lib.hid hO2
          have HZ := Lib.hid (srt_zero hb2)
          have hq5 : decide ((0 : Int) < 0) = false := by decide
          clear hown2 hgr2 hO2 hb2 hlen
          go_wp2_with (fail)
          go_quiet (fail)
          go_wp2_with (fail)
          go_roundw
          case rel => exact ⟨k + 1, O2, by omega, by omega, by go_num, own_keep0 HOWN2.out (gr_drewN (gr_refl _ _) _), HPM2.out, HZ.out, HST2.out, gr_drewN HGR2.out _⟩
          case measure => simp [intOf]; omega
    · have HW := Lib.hid hown'
      clear hown'
      go_wp2_with (fail)
      go_end0
      have hS : Srt cm 0 O' n := fun p q h1 h2 => HS.out p q h1 (by omega)
      exact ⟨O', rfl, HW.out, HO'.out, hS, HST.out, hgr⟩
set_option maxRecDepth 100000 in
theorem stableC3_any (F : FuncId) (q0 q1 q2 n : Nat) (cm : Int → Int → Int) (v : Value) (base : Nat) (L : List Int) (w : World) (hown : w.ownsRow base 3 1 v n (ints L)) (hL : L.length = n) (hn : n < 20)
    (hE : ∀ (args : Array Value) (w : World), (callFunc F args).run Tryz.prog w = .ok (.enter F args) w) (hc : CmpOk cm) (hF : CmpC3 F q0 q1 q2 cm L v.ownBlock w) :
    Calls Tryz.prog 143 #[v, .int .i64 n, .func (.func F) #[] #[.pointer (some ⟨q0, 0, none⟩), .pointer (some ⟨q1, 0, none⟩), .pointer (some ⟨q2, 0, none⟩)]] w (SortC3Post cm L v n base w) := by
  have IS := Lib.hid (insertionC3_any F q0 q1 q2 n cm v base L w hown hL (by omega) hE hc hF)
  obtain ⟨va, vc, rfl, _, _, _, _⟩ := own_shape hown
  clear hF hE hown hL hc
  have h20 : ¬ 20 ≤ (n : Int) := by omega
  go_enter Tryz.func143, Tryz.ntmps143
  go_wp2_with (fail)
  go_loop [7, 8] (fun a b => a = .int .i64 0 ∧ b = .int .i64 20) (fun _ _ => 0)
  case atStart => exact ⟨rfl, rfl⟩
  case round =>
    obtain ⟨rfl, rfl⟩ := hrel
    go_wp2_with (fail)
    refine IS.out.mono ?_
    rintro e w2 ⟨O2, rfl, h1, h2, h3, h5, h4⟩
    have H1 := Lib.hid h1
    have H2 := Lib.hid h2
    have H3 := Lib.hid h3
    have H5 := Lib.hid h5
    have hn20 : ¬ 20 < (n : Int) := by omega
    clear h1 h2 h3 h5
    go_wp2_with (fail)
    go_loop [6] (fun a => a = .int .i64 20) (fun _ => 0)
    case atStart => exact rfl
    case round =>
      obtain rfl := hrel
      go_wp2_with (fail)
      go_end0
      exact ⟨O2, rfl, H1.out, H2.out, H3.out, H5.out, h4⟩
theorem sortC3_any (F : FuncId) (q0 q1 q2 n : Nat) (cm : Int → Int → Int) (v : Value) (base : Nat) (L : List Int) (w : World) (hown : w.ownsRow base 3 1 v n (ints L)) (hL : L.length = n) (hn : n < 20)
    (hE : ∀ (args : Array Value) (w : World), (callFunc F args).run Tryz.prog w = .ok (.enter F args) w) (hc : CmpOk cm) (hF : CmpC3 F q0 q1 q2 cm L v.ownBlock w) :
    Calls Tryz.prog 97 #[v, .func (.func F) #[] #[.pointer (some ⟨q0, 0, none⟩), .pointer (some ⟨q1, 0, none⟩), .pointer (some ⟨q2, 0, none⟩)]] w (SortC3Post cm L v n base w) := by
  have IS := Lib.hid (stableC3_any F q0 q1 q2 n cm v base L w hown hL hn hE hc hF)
  obtain ⟨va, vc, rfl, _, _, _, _⟩ := own_shape hown
  clear hF hE hown hL hc
  go_enter Tryz.func97, Tryz.ntmps97
  go_wp2_with (fail)
  refine IS.out.mono ?_
  rintro e w2 ⟨O2, rfl, h1, h2, h3, h5, h4⟩
  have H1 := Lib.hid h1
  have H2 := Lib.hid h2
  have H3 := Lib.hid h3
  have H5 := Lib.hid h5
  clear h1 h2 h3 h5
  go_wp2_with (fail)
  go_end0
  exact ⟨O2, rfl, H1.out, H2.out, H3.out, H5.out, h4⟩
end Go.Proofs.YtdminjijhpemkaaGreatDoor

/-! That the package rounds. -/
namespace Go.Proofs.YtdminjijhpemkaaGreatDoor
open Go.RowKit

set_option maxRecDepth 100000 in
theorem isSpot_any (x y : Int) (w : World) (h1 : -10000 ≤ x) (h2 : x ≤ 10000) (h3 : -10000 ≤ y) (h4 : y ≤ 10000) :
    Calls Tryz.prog 114 #[.agg #[.int .i64 x, .int .i64 y]] w fun e w' => e = .returned (.bool true) ∧ w.grownBy w' none := by
  have hx : (decide (x < -10000) || decide (10000 < x)) = false := by simp; omega
  have hy : (decide (y < -10000) || decide (10000 < y)) = false := by simp; omega
  have HX := Lib.hid hx
  have HY := Lib.hid hy
  clear hx hy
  have hg1 := gr_alloc (gr_refl w none) (.cells #[.int .i64 x, .int .i64 y] 136)
  go_enter Tryz.func114, Tryz.ntmps114
  go_wp2_with (fail)
  refine (out_any x (-10000) 10000 _).mono ?_
  rintro e w1 ⟨rfl, rfl⟩
  rw [HX.out]
  go_wp2_with (fail)
  refine (out_any y (-10000) 10000 _).mono ?_
  rintro e w1 ⟨rfl, rfl⟩
  rw [HY.out]
  go_wp2_with (fail)
  go_ret
  exact ⟨rfl, hg1⟩
end Go.Proofs.YtdminjijhpemkaaGreatDoor

/-! Rows of structs that hold rows: owned, with what each element's cells mean. -/
namespace Go.Proofs.YtdminjijhpemkaaGreatDoor
open Go.RowKit

structure OwnNest {α : Type} (R : World → α → List Value → Prop) (w : World) (base e m : Nat) (v : Value) (xs : List α) : Prop where
  ex : ∃ cs : List (List Value), cs.length = xs.length ∧ (∀ c ∈ cs, c.length = m) ∧ w.ownsRow base e m v xs.length (flat id cs) ∧ ∀ (i : Nat) (x : α) (c : List Value), xs[i]? = some x → cs[i]? = some c → R w x c
variable {α : Type} {R : World → α → List Value → Prop}
theorem OwnNest.nil (w : World) (base e m : Nat) : OwnNest R w base e m (.slice none 0 0) [] :=
  ⟨[], rfl, fun _ h => (by simp at h), World.ownsRow_nil _ _ _ _, fun i x c h => by simp at h⟩
/-- What keeps the row and each element keeps the whole. -/
theorem OwnNest.keepW {w w1 : World} {base e m : Nat} {v : Value} {xs : List α} (h : OwnNest R w base e m v xs) {r : Option Nat} (g : w.grownBy w1 r) (hv : v.ownBlock = none ∨ v.ownBlock ≠ r) (hR : ∀ x c, R w x c → R w1 x c) : OwnNest R w1 base e m v xs := by
  obtain ⟨cs, h1, h2, h3, h4⟩ := h.ex
  exact ⟨cs, h1, h2, own_keep h3 g hv, fun i x c hx hc => hR x c (h4 i x c hx hc)⟩
theorem OwnNest.keep0 {w w1 : World} {base e m : Nat} {v : Value} {xs : List α} (h : OwnNest R w base e m v xs) (g : w.grownBy w1 none) (hR : ∀ x c, R w x c → R w1 x c) : OwnNest R w1 base e m v xs := by
  obtain ⟨cs, h1, h2, h3, h4⟩ := h.ex
  exact ⟨cs, h1, h2, own_keep0 h3 g, fun i x c hx hc => hR x c (h4 i x c hx hc)⟩
theorem OwnNest.keepS {w w1 : World} {base e m p : Nat} {v : Value} {xs : List α} (h : OwnNest R w base e m v xs) (g : w.grownBy w1 (some p)) (hp : p < base) (hR : ∀ x c, R w x c → R w1 x c) : OwnNest R w1 base e m v xs := by
  obtain ⟨cs, h1, h2, h3, h4⟩ := h.ex
  exact ⟨cs, h1, h2, own_keepS h3 g hp, fun i x c hx hc => hR x c (h4 i x c hx hc)⟩
theorem OwnNest.base {w : World} {base base' e m : Nat} {v : Value} {xs : List α} (h : OwnNest R w base e m v xs) (hb : base' ≤ base) {R' : World → α → List Value → Prop} (hR : ∀ x c, R w x c → R' w x c) : OwnNest R' w base' e m v xs := by
  obtain ⟨cs, h1, h2, h3, h4⟩ := h.ex
  exact ⟨cs, h1, h2, own_base h3 hb, fun i x c hx hc => hR x c (h4 i x c hx hc)⟩
/-- The cells of the row, for an append: what it owns, and what a longer one of its kind is. -/
theorem OwnNest.push {w : World} {base e m : Nat} {v : Value} {xs : List α} (h : OwnNest R w base e m v xs) :
    ∃ cs : List (List Value), w.ownsRow base e m v xs.length (flat id cs) ∧ (∀ (w1 : World) (v1 : Value) (x : α) (c : List Value), w1.ownsRow base e m v1 (xs.length + 1) (flat id cs ++ c) → c.length = m → (∀ y d, R w y d → R w1 y d) → R w1 x c → OwnNest R w1 base e m v1 (xs ++ [x])) := by
  obtain ⟨cs, h1, h2, h3, h4⟩ := h.ex
  refine ⟨cs, h3, fun w1 v1 x c ho hl hk hx => ⟨cs ++ [c], by simp [h1], ?_, ?_, ?_⟩⟩
  · intro d hd
    rcases List.mem_append.1 hd with hd | hd
    · exact h2 d hd
    · simp only [List.mem_cons, List.not_mem_nil, or_false] at hd
      rw [hd]; exact hl
  · rw [flat_append, flat_one]
    simpa using ho
  · intro i y d hy hd
    by_cases hi : i < xs.length
    · rw [List.getElem?_append_left hi] at hy
      rw [List.getElem?_append_left (by omega)] at hd
      exact hk y d (h4 i y d hy hd)
    · have e1 : i = xs.length := by
        have := (List.getElem?_eq_some_iff.1 hy).1
        simp at this; omega
      subst e1
      rw [List.getElem?_append_right (by omega), Nat.sub_self] at hy
      rw [List.getElem?_append_right (by omega), h1, Nat.sub_self] at hd
      simp only [List.getElem?_cons_zero, Option.some.injEq] at hy hd
      rw [← hy, ← hd]; exact hx
theorem flat_id_get (m : Nat) (cs : List (List Value)) (hm : ∀ c ∈ cs, c.length = m) (i : Nat) (c : List Value) (hc : cs[i]? = some c) (j : Nat) (u : Value) (hu : c[j]? = some u) : (flat id cs)[i * m + j]? = some u := by
  induction cs generalizing i with
  | nil => simp at hc
  | cons a l ih =>
    have ha : a.length = m := hm a (by simp)
    have hf : flat id (a :: l) = a ++ flat id l := by simp [flat]
    rw [hf]
    cases i with
    | zero =>
      simp only [List.getElem?_cons_zero, Option.some.injEq] at hc
      subst hc
      have := (List.getElem?_eq_some_iff.1 hu).1
      rw [Nat.zero_mul, Nat.zero_add, List.getElem?_append_left this]
      exact hu
    | succ i =>
      simp only [List.getElem?_cons_succ] at hc
      have h1 := ih (fun d hd => hm d (by simp [hd])) i hc
      rw [List.getElem?_append_right (by rw [ha, Nat.add_mul]; omega), ha, Nat.add_mul, Nat.one_mul, show i * m + m + j - m = i * m + j by omega]
      exact h1
/-- The same, for reading only. -/
structure NestAt (R : World → α → List Value → Prop) (w : World) (m : Nat) (a : Option Addr) (xs : List α) : Prop where
  ex : ∀ (i : Nat) (x : α), xs[i]? = some x → ∃ b off c, a = some ⟨b, off, none⟩ ∧ c.length = m ∧ R w x c ∧ ∀ j u, c[j]? = some u → w.cell? ⟨b, off + i * m + j, none⟩ = some u
theorem OwnNest.shape {w : World} {base e m : Nat} {v : Value} {xs : List α} (h : OwnNest R w base e m v xs) :
    ∃ a cap, v = .slice a xs.length cap ∧ xs.length ≤ cap ∧ cap ≤ maxLen ∧ NestAt R w m a xs ∧ (∀ b off, a = some ⟨b, off, none⟩ → base ≤ b ∧ b < w.heap.size ∧ v.ownBlock = some b) := by
  obtain ⟨cs, h1, h2, h3, h4⟩ := h.ex
  obtain ⟨a, cap, rfl, hn, hm, hc, hb⟩ := own_shape h3
  refine ⟨a, cap, rfl, hn, hm, ⟨fun i x hx => ?_⟩, hb⟩
  have hi := (List.getElem?_eq_some_iff.1 hx).1
  have hci : cs[i]? = some (cs[i]'(by omega)) := List.getElem?_eq_getElem (by omega)
  have hlen := h2 _ (List.mem_of_getElem? hci)
  have hR := h4 i x _ hx hci
  by_cases hm0 : m = 0
  · -- no cell: the address is there all the same, for the row is not empty
    have hne := own_some h3 (by omega)
    obtain ⟨g, cap', he, _⟩ := hne
    injection he with he _ _
    exact ⟨g, 0, _, he, hlen, hR, fun j u hu => by
      have := (List.getElem?_eq_some_iff.1 hu).1
      omega⟩
  · obtain ⟨b, off, he, hcell⟩ := hc _ _ (flat_id_get m cs h2 i _ hci 0 _ (List.getElem?_eq_getElem (by omega)))
    refine ⟨b, off, _, he, hlen, hR, fun j u hu => ?_⟩
    obtain ⟨b', off', he', hcell'⟩ := hc _ _ (flat_id_get m cs h2 i _ hci j u hu)
    rw [he] at he'
    cases he'
    rw [Nat.add_assoc]
    exact hcell'
theorem NestAt.keepW {w w1 : World} {m : Nat} {a : Option Addr} {xs : List α} (h : NestAt R w m a xs) {r : Option Nat} (g : w.grownBy w1 r) (hr : ∀ b off, a = some ⟨b, off, none⟩ → some b ≠ r) (hR : ∀ x c, R w x c → R w1 x c) : NestAt R w1 m a xs := by
  refine ⟨fun i x hx => ?_⟩
  obtain ⟨b, off, c, rfl, hl, hc, hu⟩ := h.ex i x hx
  refine ⟨b, off, c, rfl, hl, hR x c hc, fun j u hj => ?_⟩
  have := hu j u hj
  exact (World.cell?_of_block (w := w) (g.block b (lt_of_cell this) (hr b off rfl))).trans this
theorem NestAt.keep0 {w w1 : World} {m : Nat} {a : Option Addr} {xs : List α} (h : NestAt R w m a xs) (g : w.grownBy w1 none) (hR : ∀ x c, R w x c → R w1 x c) : NestAt R w1 m a xs :=
  h.keepW g (fun _ _ _ => by simp) hR
theorem NestAt.at {w : World} {m : Nat} {a : Option Addr} {xs : List α} (h : NestAt R w m a xs) (i : Nat) (hi : i < xs.length) : ∃ b off c, a = some ⟨b, off, none⟩ ∧ c.length = m ∧ R w xs[i] c ∧ ∀ j u, c[j]? = some u → w.cell? ⟨b, off + i * m + j, none⟩ = some u :=
  h.ex i _ (List.getElem?_eq_getElem hi)

/-! The same, where the elements' own rows lie apart. -/
def SepAll (cs : List (List Value)) : Prop := ∀ (i k : Nat) (c d : List Value) (u v : Value) (q : Nat), i ≠ k → cs[i]? = some c → cs[k]? = some d → u ∈ c → v ∈ d → u.ownBlock = some q → v.ownBlock ≠ some q
structure NestS (R : World → α → List Value → Prop) (w : World) (base e m : Nat) (v : Value) (xs : List α) : Prop where
  ex : ∃ cs : List (List Value), cs.length = xs.length ∧ (∀ c ∈ cs, c.length = m) ∧ w.ownsRow base e m v xs.length (flat id cs) ∧ (∀ (i : Nat) (x : α) (c : List Value), xs[i]? = some x → cs[i]? = some c → R w x c) ∧ SepAll cs
theorem NestS.own {w : World} {base e m : Nat} {v : Value} {xs : List α} (h : NestS R w base e m v xs) : OwnNest R w base e m v xs := by
  obtain ⟨cs, h1, h2, h3, h4, _⟩ := h.ex
  exact ⟨cs, h1, h2, h3, h4⟩
theorem NestS.nil (w : World) (base e m : Nat) : NestS R w base e m (.slice none 0 0) [] :=
  ⟨[], rfl, fun _ h => (by simp at h), World.ownsRow_nil _ _ _ _, fun i x c h => by simp at h, fun i k c d u v q _ h => by simp at h⟩
theorem NestS.keep0 {w w1 : World} {base e m : Nat} {v : Value} {xs : List α} (h : NestS R w base e m v xs) (g : w.grownBy w1 none) (hR : ∀ x c, R w x c → R w1 x c) : NestS R w1 base e m v xs := by
  obtain ⟨cs, h1, h2, h3, h4, h5⟩ := h.ex
  exact ⟨cs, h1, h2, own_keep0 h3 g, fun i x c hx hc => hR x c (h4 i x c hx hc), h5⟩
theorem NestS.keepS {w w1 : World} {base e m p : Nat} {v : Value} {xs : List α} (h : NestS R w base e m v xs) (g : w.grownBy w1 (some p)) (hp : p < base) (hR : ∀ x c, R w x c → R w1 x c) : NestS R w1 base e m v xs := by
  obtain ⟨cs, h1, h2, h3, h4, h5⟩ := h.ex
  exact ⟨cs, h1, h2, own_keepS h3 g hp, fun i x c hx hc => hR x c (h4 i x c hx hc), h5⟩
/-- For an append: N parts what the old elements hold from what the new one holds. -/
theorem NestS.push {w : World} {base e m : Nat} {v : Value} {xs : List α} (h : NestS R w base e m v xs) :
    ∃ cs : List (List Value), w.ownsRow base e m v xs.length (flat id cs) ∧ (∀ (N : Nat) (w1 : World) (v1 : Value) (x : α) (c : List Value), w1.ownsRow base e m v1 (xs.length + 1) (flat id cs ++ c) → c.length = m → (∀ y d, R w y d → R w1 y d) → (∀ y d, R w y d → ∀ u ∈ d, ∀ q, u.ownBlock = some q → q < N) → (∀ u ∈ c, ∀ q, u.ownBlock = some q → N ≤ q) → R w1 x c → NestS R w1 base e m v1 (xs ++ [x])) := by
  obtain ⟨cs, h1, h2, h3, h4, h5⟩ := h.ex
  obtain ⟨cs', h3', hp⟩ := OwnNest.push (R := R) (w := w) (base := base) (e := e) (m := m) (v := v) (xs := xs) ⟨cs, h1, h2, h3, h4⟩
  clear cs' h3' hp
  refine ⟨cs, h3, fun N w1 v1 x c ho hl hk hlt hge hx => ⟨cs ++ [c], by simp [h1], ?_, ?_, ?_, ?_⟩⟩
  · intro d hd
    rcases List.mem_append.1 hd with hd | hd
    · exact h2 d hd
    · simp only [List.mem_cons, List.not_mem_nil, or_false] at hd
      rw [hd]; exact hl
  · rw [flat_append, flat_one]
    simpa using ho
  · intro i y d hy hd
    by_cases hi : i < xs.length
    · rw [List.getElem?_append_left hi] at hy
      rw [List.getElem?_append_left (by omega)] at hd
      exact hk y d (h4 i y d hy hd)
    · have e1 : i = xs.length := by
        have := (List.getElem?_eq_some_iff.1 hy).1
        simp at this; omega
      subst e1
      rw [List.getElem?_append_right (by omega), Nat.sub_self] at hy
      rw [List.getElem?_append_right (by omega), h1, Nat.sub_self] at hd
      simp only [List.getElem?_cons_zero, Option.some.injEq] at hy hd
      rw [← hy, ← hd]; exact hx
  · have old : ∀ (i : Nat) (d : List Value), (cs ++ [c])[i]? = some d → (i < cs.length ∧ cs[i]? = some d) ∨ (i = cs.length ∧ d = c) := by
      intro i d hd
      by_cases hi : i < cs.length
      · rw [List.getElem?_append_left hi] at hd; exact .inl ⟨hi, hd⟩
      · have := (List.getElem?_eq_some_iff.1 hd).1
        simp at this
        have e1 : i = cs.length := by omega
        subst e1
        rw [List.getElem?_append_right (by omega), Nat.sub_self] at hd
        simp only [List.getElem?_cons_zero, Option.some.injEq] at hd
        exact .inr ⟨rfl, hd.symm⟩
    have oldR : ∀ (i : Nat) (d : List Value), cs[i]? = some d → i < cs.length → ∀ u ∈ d, ∀ q, u.ownBlock = some q → q < N := by
      intro i d hd hi
      exact hlt _ d (h4 i _ d (List.getElem?_eq_getElem (by omega)) hd)
    intro i k a b u v' q hik ha hb hu hv hq hq2
    rcases old i a ha with ⟨hi, ha'⟩ | ⟨hi, e1⟩
    · rcases old k b hb with ⟨hk', hb'⟩ | ⟨hk', e2⟩
      · exact h5 i k a b u v' q hik ha' hb' hu hv hq hq2
      · have h6 := oldR i a ha' hi u hu q hq
        have h7 := hge v' (e2 ▸ hv) q hq2
        omega
    · rcases old k b hb with ⟨hk', hb'⟩ | ⟨hk', e2⟩
      · have h6 := oldR k b hb' hk' v' hv q hq2
        have h7 := hge u (e1 ▸ hu) q hq
        omega
      · omega
end Go.Proofs.YtdminjijhpemkaaGreatDoor
