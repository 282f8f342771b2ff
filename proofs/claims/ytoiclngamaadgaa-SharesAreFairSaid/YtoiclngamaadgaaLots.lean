/- Lots and pieces, as the stream makes them. -/
import Derived.Test.YtoiclngamaadgaaStepApp
import Derived.Test.YtoiclngamaadgaaStrElem
import Derived.Test.YtoiclngamaadgaaFlat
import Derived.Test.YtoiclngamaadgaaMake
namespace Go.Proofs.Ytoiclngamaadgaa
open Go.RowKit
variable {lw : Nat}

structure Lot where
  id : ByteArray
  prod : ByteArray
  exp : Int
  many : Int
def encLot (x : Lot) : List Value := [.string x.id, .string x.prod, .int .i64 x.exp, .int .i64 x.many]
theorem encLot_len (x : Lot) : (encLot x).length = 4 := rfl
theorem eLot : ElemT Try.prog 78 81 (.agg #[.string ⟨#[]⟩, .string ⟨#[]⟩, .int .i64 0, .int .i64 0]) 4 48 := ⟨by kernel_rfl, by kernel_rfl, by decide, by decide, by decide⟩
structure Piece where
  lot : ByteArray
  many : Int
def encPc (x : Piece) : List Value := [.string x.lot, .int .i64 x.many]
theorem encPc_len (x : Piece) : (encPc x).length = 2 := rfl
theorem ePc : ElemT Try.prog 84 147 (.agg #[.string ⟨#[]⟩, .int .i64 0]) 2 24 := ⟨by kernel_rfl, by kernel_rfl, by decide, by decide, by decide⟩
def lotKeys : List ByteArray := [⟨#[108, 97]⟩, ⟨#[108, 98]⟩, ⟨#[108, 99]⟩, ⟨#[108, 100]⟩, ⟨#[108, 101]⟩]
def lotProds : List ByteArray := [⟨#[99, 97, 110]⟩, ⟨#[99, 97, 110]⟩, ⟨#[98, 97, 114]⟩]
def lotAt (l : List Int) (j : Nat) (x : ByteArray) : Lot := ⟨x, oneS l j lotProds, pickM l (j + 1) [3, 5, 5, 7, 9, 20], pickM l (j + 1 + 1) [0, 1, 3, 5, 8]⟩
def lotsTo (l : List Int) (k : Nat) : Nat → List Lot × Nat
  | 0 => ([], k)
  | i + 1 => if flipM l (lotsTo l k i).2 4 then ((lotsTo l k i).1, (lotsTo l k i).2 + 1) else ((lotsTo l k i).1 ++ [lotAt l ((lotsTo l k i).2 + 1) (lotKeys.getD i ⟨#[]⟩)], (lotsTo l k i).2 + 1 + 1 + 1 + 1)
theorem lotsTo_bd (l : List Int) (k i : Nat) : (lotsTo l k i).1.length ≤ i ∧ (lotsTo l k i).2 ≤ k + 4 * i := by
  induction i with
  | zero => simp [lotsTo]
  | succ i ih =>
    simp only [lotsTo]
    split
    · simp only; omega
    · simp; omega
def lotsM (l : List Int) (k : Nat) : List Lot := (lotsTo l k 5).1
def lotsK (l : List Int) (k : Nat) : Nat := (lotsTo l k 5).2
def LotsPost (l : List Int) (k p lw : Nat) (w : World) (e : Ending) (w' : World) : Prop :=
  ∃ v, e = .returned v ∧ w'.ownsRow w.heap.size 81 4 v (lotsM l k).length (flat encLot (lotsM l k)) ∧ StreamAt w' p lw l (lotsK l k) ∧ w.grownBy w' (some p)
set_option maxRecDepth 100000 in
set_option maxHeartbeats 2000000 in
theorem lots_any (l : List Int) (k : Nat) (p : Nat) (w : World) (hs : StreamAt w p lw l k) (hk : k < 800000000) :
    Calls Try.prog 37 #[.pointer (some ⟨p, 0, none⟩)] w (LotsPost l k p lw w) := by
  have hlt := hs.lt
  have hB := heap_alloc_new w (.cells (strs lotKeys).toArray 9)
  have hg0 := gr_alloc (gr_refl w none) (.cells (strs lotKeys).toArray 9)
  obtain ⟨w0, hw0⟩ : ∃ w0, w0 = w.alloc (.cells (strs lotKeys).toArray 9) := ⟨_, rfl⟩
  have hz0 : w0.heap.size = w.heap.size + 1 := by rw [hw0]; simp
  rw [← hw0] at hB hg0
  have hs0 := hs.keep0 hg0
  obtain ⟨B, hBe⟩ : ∃ B, B = w.heap.size := ⟨_, rfl⟩
  rw [← hBe] at hB hz0 hlt
  have HB := Lib.hid hB
  have HBe := Lib.hid hBe
  have HW := Lib.hid (show w0 = w.alloc (.cells #[.string ⟨#[108, 97]⟩, .string ⟨#[108, 98]⟩, .string ⟨#[108, 99]⟩, .string ⟨#[108, 100]⟩, .string ⟨#[108, 101]⟩] 9) from hw0)
  have HG0 := Lib.hid hg0
  clear hs hw0 hB hBe hg0
  go_enter Try.func37, Try.ntmps37
  go_wp2_with (fail)
  rw [← HW.out, ← HBe.out]
  go_loopw [3, 8] (fun v c wr => ∃ i : Nat, i ≤ 5 ∧ c = .int .i64 i ∧ wr.ownsRow (B + 1) 81 4 v (lotsTo l k i).1.length (flat encLot (lotsTo l k i).1) ∧ StreamAt wr p lw l (lotsTo l k i).2 ∧ w0.grownBy wr (some p)) (fun _ c _ => 5 - (intOf c).toNat)
  case atStart => exact ⟨0, by omega, rfl, World.ownsRow_nil _ _ _ _, hs0, gr_refl _ _⟩
  case round =>
    clear hs0
    obtain ⟨i, hi, rfl, hown, hsr, hgr⟩ := hrel
    obtain ⟨wo, rfl⟩ : ∃ wo : World, wo = wr := ⟨_, rfl⟩
    by_cases hin : i < 5
    · have hbo := (hgr.block B (lt_of_block HB.out) (by simp; omega)).trans HB.out
      obtain ⟨x, hx⟩ : ∃ x, x = lotKeys.getD i ⟨#[]⟩ := ⟨_, rfl⟩
      have hcx : wo.cell? ⟨B, i, none⟩ = some (.string x) := blkC hbo i (by
        rw [hx]
        have : i = 0 ∨ i = 1 ∨ i = 2 ∨ i = 3 ∨ i = 4 := by omega
        rcases this with rfl | rfl | rfl | rfl | rfl <;> rfl)
      have hbd := lotsTo_bd l k i
      have HST : Hid (lotsTo l k (i + 1) = if flipM l (lotsTo l k i).2 4 then ((lotsTo l k i).1, (lotsTo l k i).2 + 1) else ((lotsTo l k i).1 ++ [lotAt l ((lotsTo l k i).2 + 1) x], (lotsTo l k i).2 + 1 + 1 + 1 + 1)) := by show _ = _; rw [hx]; rfl
      obtain ⟨s, hs⟩ : ∃ s, s = lotsTo l k i := ⟨_, rfl⟩
      rw [← hs] at hown hsr hbd HST
      obtain ⟨S, q⟩ := s
      simp only at hown hsr hbd HST
      have HOWN := Lib.hid hown
      have hzo := hgr.size
      have HGR := Lib.hid hgr
      clear hs hx hbo hown hgr
      go_wp2_with (fail)
      refine (flip_any l q 4 p wo hsr (by omega) (by omega)).mono ?_
      rintro e w2 ⟨rfl, hs2, hg2⟩
      have HO2 := Lib.hid (own_keepS HOWN.out hg2 (by omega))
      have HG2 := Lib.hid (gr_trans HGR.out hg2)
      have hz2 := hg2.size
      clear hg2 hsr
      cases hf : flipM l q 4 with
      | true =>
        have HF := Lib.hid hf; clear hf
        go_wp2_with (fail)
        go_roundw
        case rel =>
          refine ⟨i + 1, by omega, by go_num, ?_, ?_, HG2.out⟩
          · rw [HST.out, HF.out]; exact HO2.out
          · rw [HST.out, HF.out]; exact hs2
        case measure => simp [intOf]; omega
      | false =>
        have HF := Lib.hid hf; clear hf
        go_wp2_with (fail)
        refine (one_any l (q + 1) lotProds p w2 hs2 (by omega) (by decide) (by decide)).mono ?_
        rintro e w3 ⟨rfl, hs3, hg3⟩
        have HO3 := Lib.hid (own_keepS HO2.out hg3 (by omega))
        have HG3 := Lib.hid (gr_trans HG2.out hg3)
        have hz3 := hg3.size
        clear hg3 hs2
        go_wp2_with (fail)
        refine (pick_any l (q + 1 + 1) [3, 5, 5, 7, 9, 20] p w3 hs3 (by omega) (by decide) (by decide)).mono ?_
        rintro e w4 ⟨rfl, hs4, hg4⟩
        have HO4 := Lib.hid (own_keepS HO3.out hg4 (by omega))
        have HG4 := Lib.hid (gr_trans HG3.out hg4)
        have hz4 := hg4.size
        clear hg4 hs3
        go_wp2_with (fail)
        refine (pick_any l (q + 1 + 1 + 1) [0, 1, 3, 5, 8] p w4 hs4 (by omega) (by decide) (by decide)).mono ?_
        rintro e w5 ⟨rfl, hs5, hg5⟩
        have HO5 := Lib.hid (own_keepS HO4.out hg5 (by omega))
        have HG5 := Lib.hid (gr_trans HG4.out hg5)
        have hz5 := hg5.size
        clear hg5 hs4
        have HY : Hid (lotAt l (q + 1) x = ⟨x, oneS l (q + 1) lotProds, pickM l (q + 1 + 1) [3, 5, 5, 7, 9, 20], pickM l (q + 1 + 1 + 1) [0, 1, 3, 5, 8]⟩) := rfl
        obtain ⟨y1, hy1⟩ : ∃ y, y = oneS l (q + 1) lotProds := ⟨_, rfl⟩
        obtain ⟨y2, hy2⟩ : ∃ y, y = pickM l (q + 1 + 1) [3, 5, 5, 7, 9, 20] := ⟨_, rfl⟩
        obtain ⟨y3, hy3⟩ : ∃ y, y = pickM l (q + 1 + 1 + 1) [0, 1, 3, 5, 8] := ⟨_, rfl⟩
        rw [← hy1, ← hy2, ← hy3] at HY
        rw [← hy1, ← hy2, ← hy3]
        clear hy1 hy2 hy3
        go_wp2_with (at_builtin; refine wpList_app1F eLot rfl _ _ rfl (B + 1) _ S.length (flat encLot S) rfl w5 #[.string x, .string y1, .int .i64 y2, .int .i64 y3] rfl HO5.out _ rfl rfl rfl rfl (by omega) (by omega) ?_; intro v6 w6 ho6 g6 hlt6 hf6)
        have HO6 := Lib.hid ho6
        have hs6 := hs5.keep g6 (fun q hq => by have := hlt6 q hq; omega)
        have HG6 := Lib.hid (gr_grown HG5.out g6 (fun q hq => by have := hlt6 q hq; omega))
        clear ho6 g6 hlt6 hf6 hs5
        go_roundw
        case rel =>
          refine ⟨i + 1, by omega, by go_num, ?_, ?_, HG6.out⟩
          · rw [HST.out, HF.out]
            simp only [Bool.false_eq_true, if_false]
            rw [HY.out, List.length_append, flat_append, flat_one]
            exact HO6.out
          · rw [HST.out, HF.out]; exact hs6
        case measure => simp [intOf]; omega
    · obtain rfl : i = 5 := by omega
      obtain ⟨va, vc, rfl, -, -, -, -⟩ := own_shape hown
      have HOWN := Lib.hid hown
      have HGR := Lib.hid hgr
      clear hown hgr
      go_wp2_with (fail)
      go_ret
      have e := HBe.out
      exact ⟨_, rfl, own_base HOWN.out (by omega), hsr, gr_trans (gr_weak HG0.out _) HGR.out⟩
end Go.Proofs.Ytoiclngamaadgaa
