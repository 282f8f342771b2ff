/- The document's faults of racks, layouts and arranging. -/
import Derived.Test.YthikknnadmebgaaGreatDoorPkSAs
import Derived.Test.YthikknnadmebgaaGreatDoorPkSBg
import Derived.Test.YthikknnadmebgaaGreatDoorPkSBi
import Derived.Test.YthikknnadmebgaaGreatDoorPkSBh
namespace Go.Proofs.YthikknnadmebgaaGreatDoor
open Go.RowKit
attribute [local go_sem ↓] Go.wp_at_zero Go.wp_at_succ

set_option maxRecDepth 100000 in
theorem refRack_any (R C : Nat) (w : World) (h1 : 1 ≤ R) (h2 : R ≤ 6) (h3 : 1 ≤ C) (h4 : C ≤ 6) :
    Calls Tryz.prog 60 #[.agg #[.int .i64 R, .int .i64 C]] w fun e w' => e = .returned (.int .i64 0) ∧ w.grownBy w' none := by
  have hB := heap_alloc_new w (.cells #[.int .i64 R, .int .i64 C] 54)
  have ga := gr_alloc (gr_refl w none) (.cells #[.int .i64 R, .int .i64 C] 54)
  obtain ⟨w1, hw1⟩ : ∃ w1, w1 = w.alloc (.cells #[.int .i64 R, .int .i64 C] 54) := ⟨_, rfl⟩
  rw [← hw1] at hB ga
  obtain ⟨X, hX⟩ : ∃ X, X = w.heap.size := ⟨_, rfl⟩
  rw [← hX] at hB
  have p0 : w1.cell? ⟨X, 0, none⟩ = some (.int .i64 (R : Int)) := blkC hB 0 rfl
  have p1 : w1.cell? ⟨X, 1, none⟩ = some (.int .i64 (C : Int)) := blkC hB 1 rfl
  have HW := Lib.hid hw1
  have HX := Lib.hid hX
  have HG := Lib.hid ga
  have d1 : decide ((R : Int) < 1) = false := by simp; omega
  have d2 : decide (10 < (R : Int)) = false := by simp; omega
  have d3 : decide ((C : Int) < 1) = false := by simp; omega
  have d4 : decide (10 < (C : Int)) = false := by simp; omega
  have hRC : R * C ≤ 36 := Nat.mul_le_mul h2 h4
  have hRCc : ((R * C : Nat) : Int) = (R : Int) * C := Int.natCast_mul R C
  have hw : IntKind.i64.wrap ((R : Int) * C) = (R : Int) * C := IntWalk.i64_in _ (by omega)
  have dm : decide ((60 : Int) < (R : Int) * C) = false := decide_eq_false (by omega)
  clear hB hw1 hX ga hRCc hRC
  go_enter Tryz.func60, Tryz.ntmps60
  go_upto_region 1 with (fail)
  rw [← HW.out, ← HX.out]
  go_wp2_with (fail)
  go_ret
  exact ⟨rfl, HG.out⟩
set_option maxRecDepth 100000 in
set_option maxHeartbeats 1000000 in
theorem refLayout_any (R C : Nat) (os : List Offer) (xs : List ByteArray) (h1 : 1 ≤ R) (h2 : R ≤ 6) (h3 : 1 ≤ C) (h4 : C ≤ 6) (hok : OffersOk os) (hxl : xs.length ≤ 1000) (a xa : Option Addr) (vs : List OV) (c xc : Nat) (w : World) (ho : OffsAt w a vs os) (hx : CellsAt w xa (strs xs)) :
    Calls Tryz.prog 24 #[.agg #[.int .i64 R, .int .i64 C], .slice a os.length c, .slice xa xs.length xc] w fun e w' => (∃ r : Int, e = .returned (.int .i64 r) ∧ (r = 0 → LayOk R C os xs)) ∧ w.grownBy w' none := by
  have hB := heap_alloc_new w (.cells #[.int .i64 R, .int .i64 C] 54)
  have ga := gr_alloc (gr_refl w none) (.cells #[.int .i64 R, .int .i64 C] 54)
  obtain ⟨w1, hw1⟩ : ∃ w1, w1 = w.alloc (.cells #[.int .i64 R, .int .i64 C] 54) := ⟨_, rfl⟩
  rw [← hw1] at hB ga
  obtain ⟨X, hX⟩ : ∃ X, X = w.heap.size := ⟨_, rfl⟩
  rw [← hX] at hB
  have p0 : w1.cell? ⟨X, 0, none⟩ = some (.int .i64 (R : Int)) := blkC hB 0 rfl
  have p1 : w1.cell? ⟨X, 1, none⟩ = some (.int .i64 (C : Int)) := blkC hB 1 rfl
  have HBk := Lib.hid hB
  have HW := Lib.hid hw1
  have HX := Lib.hid hX
  have HG := Lib.hid ga
  have HOK := Lib.hid hok
  have HO := Lib.hid ho
  have HXS := Lib.hid hx
  have hol := hok.len
  have hRC : R * C ≤ 36 := Nat.mul_le_mul h2 h4
  have hRCc : ((R * C : Nat) : Int) = (R : Int) * C := Int.natCast_mul R C
  have hw : IntKind.i64.wrap ((R : Int) * C) = (R : Int) * C := IntWalk.i64_in _ (by omega)
  clear hB hw1 hX ga hok ho hx
  go_enter Tryz.func24, Tryz.ntmps24
  go_upto_region 1 with (fail)
  rw [← HW.out, ← HX.out]
  go_wp2_with (fail)
  refine (refRack_any R C w1 h1 h2 h3 h4).mono ?_
  rintro e w2 ⟨rfl, g2⟩
  have HG2 := Lib.hid (gr_trans HG.out g2)
  have hB2 := Lib.hid ((g2.block X (lt_of_block HBk.out) (by simp)).trans HBk.out)
  clear g2 p0 p1
  go_wp2_with (fail)
  refine (refOffers_ok os a vs c w2 (HO.out.keep0 HG2.out) HOK.out).mono ?_
  rintro e w3 ⟨rfl, g3⟩
  have HG3 := Lib.hid (gr_trans HG2.out g3)
  have hB3 := (g3.block X (lt_of_block hB2.out) (by simp)).trans hB2.out
  have p0 : w3.cell? ⟨X, 0, none⟩ = some (.int .i64 (R : Int)) := blkC hB3 0 rfl
  have p1 : w3.cell? ⟨X, 1, none⟩ = some (.int .i64 (C : Int)) := blkC hB3 1 rfl
  clear g3 hB3
  by_cases hlen : xs.length = R * C
  · have dl : ((xs.length : Int) == (R : Int) * C) = true := by rw [beq_iff_eq]; omega
    have HL := Lib.hid hlen
    clear hlen hRCc hRC
    go_wp2_with (fail)
    refine (refStrange_any xs os a xa vs c xc w3 (HO.out.keep0 HG3.out) (by omega) (HXS.out.keep0 HG3.out) (by omega)).mono ?_
    rintro e w4 ⟨rfl, g4⟩
    have HG4 := Lib.hid (gr_trans HG3.out g4)
    clear g4 p0 p1
    cases hst : xs.any (strangeB os) with
    | true =>
      clear hst
      go_wp2_with (fail)
      go_ret
      exact ⟨⟨8, rfl, fun e => by cases e⟩, HG4.out⟩
    | false =>
      have HOKL : Hid (LayOk R C os xs) := ⟨HOK.out, h1, h2, h3, h4, HL.out, hst⟩
      clear hst
      go_wp2_with (fail)
      go_ret
      exact ⟨⟨0, rfl, fun _ => HOKL.out⟩, HG4.out⟩
  · have dl : ((xs.length : Int) == (R : Int) * C) = false := by rw [beq_eq_false_iff_ne]; omega
    clear hlen hRCc hRC
    go_wp2_with (fail)
    go_ret
    exact ⟨⟨3, rfl, fun e => by cases e⟩, HG3.out⟩
/-- What ArrangeFault finds no fault in. -/
structure NoArrF (os : List Offer) (xs : List ByteArray) (cs : List Int) : Prop where
  lf : listF os xs = 0
  co : CountsOk os cs
  tot : cs.sum ≤ (xs.length : Int)
set_option maxRecDepth 100000 in
set_option maxHeartbeats 1000000 in
theorem refArrange_any (os : List Offer) (xs : List ByteArray) (cs : List Int) (a xa ca : Option Addr) (vs : List OV) (c xc cc : Nat) (w : World) (h : OffsAt w a vs os) (hol : os.length ≤ 30) (hx : CellsAt w xa (strs xs)) (hl : xs.length ≤ 1000) (hc : CellsAt w ca (ints cs)) (hcl : cs.length ≤ 40) (hb : ∀ x ∈ cs, -1 ≤ x ∧ x ≤ 11) :
    Calls Tryz.prog 25 #[.slice a os.length c, .slice xa xs.length xc, .slice ca cs.length cc] w fun e w' => (∃ r : Int, e = .returned (.int .i64 r) ∧ (r = 0 → NoArrF os xs cs)) ∧ w.grownBy w' none := by
  have HC := Lib.hid hc
  have HB := Lib.hid hb
  have H := Lib.hid h
  have HX := Lib.hid hx
  clear h hx hc hb
  go_enter Tryz.func25, Tryz.ntmps25
  go_wp2_with (fail)
  refine (listFault_any os xs a xa vs c xc w H.out hol HX.out hl).mono ?_
  rintro e w1 ⟨rfl, g1⟩
  obtain ⟨r, hr⟩ : ∃ r, r = listF os xs := ⟨_, rfl⟩
  rw [← hr]
  have HR := Lib.hid hr
  have HG1 := Lib.hid g1
  clear hr g1
  by_cases hr0 : r = 0
  · subst hr0
    go_wp2_with (fail)
    refine (refCountsFault_any os cs a ca vs c cc w1 (H.out.keep0 HG1.out) (HC.out.keep0 HG1.out) HB.out hol hcl).mono ?_
    rintro e w2 ⟨⟨r2, rfl, hr2⟩, rfl⟩
    by_cases hr0 : r2 = 0
    · have HCO := Lib.hid (hr2 hr0)
      subst hr0
      clear hr2
      have SM := Lib.hid (refSum_any cs ca cc w1 (HC.out.keep0 HG1.out) (by omega) (fun x hx => by have := HB.out x hx; omega))
      obtain ⟨S, hS⟩ : ∃ S, S = cs.sum := ⟨_, rfl⟩
      rw [← hS] at SM
      have HS := Lib.hid hS
      clear hS
      go_wp2_with (fail)
      refine SM.out.mono ?_
      rintro e w2 ⟨rfl, g2⟩
      have HG2 := Lib.hid (gr_trans HG1.out g2)
      clear SM g2
      by_cases ht : (xs.length : Int) < S
      · go_wp2_with (fail)
        go_ret
        exact ⟨⟨12, rfl, fun e => by cases e⟩, HG2.out⟩
      · have HN : Hid (NoArrF os xs cs) := ⟨HR.out.symm, HCO.out, by rw [← HS.out]; omega⟩
        go_wp2_with (fail)
        go_ret
        exact ⟨⟨0, rfl, fun _ => HN.out⟩, HG2.out⟩
    · have b1 : (r2 != 0) = true := by simpa using hr0
      have b2 : (r2 == 0) = false := by simpa using hr0
      have HN := Lib.hid hr0
      clear hr0 hr2
      go_wp2_with (fail)
      go_ret
      exact ⟨⟨r2, rfl, fun e => absurd e HN.out⟩, HG1.out⟩
  · have b1 : (r != 0) = true := by simpa using hr0
    have b2 : (r == 0) = false := by simpa using hr0
    have HN := Lib.hid hr0
    clear hr0
    go_wp2_with (fail)
    go_ret
    exact ⟨⟨r, rfl, fun e => absurd e HN.out⟩, HG1.out⟩
end Go.Proofs.YthikknnadmebgaaGreatDoor
