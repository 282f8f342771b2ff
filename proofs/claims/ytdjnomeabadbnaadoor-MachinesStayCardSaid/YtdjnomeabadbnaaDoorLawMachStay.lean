/- The walk of MachinesStay. -/
import Derived.Test.YtdjnomeabadbnaaDoorStayRows
import Derived.Test.YtdjnomeabadbnaaDoorSettle
import Derived.Test.YtdjnomeabadbnaaDoorMachLawC
namespace Go.Proofs.YtdjnomeabadbnaaDoor
open Go.RowKit
attribute [local go_sem ↓] Go.wp_at_zero Go.wp_at_succ

set_option maxRecDepth 100000 in
set_option maxHeartbeats 8000000 in
theorem machinesStay_any (l : List Int) (a : Option Addr) (cap : Nat) (w : World) (hc : CellsAt w a (ints l)) (hl : l.length ≤ 9223372036854775807) :
    Calls Tryd.prog 3 #[.slice a l.length cap] w fun e w' => e = .returned (.bool true) ∧ w.grownBy w' none := by
  have hg0 := gr_alloc (gr_alloc (gr_refl w none) (.cells #[.slice a l.length cap, .int .i64 0] 25)) (.cells #[.slice a l.length cap, .int .i64 0] 25)
  have sa0 := (StreamAt.made cap hc hl).keep0 (gr_alloc (gr_refl _ _) (.cells #[.slice a l.length cap, .int .i64 0] 25))
  have sb0 := StreamAt.madeLow cap (gr_alloc (gr_refl w none) (.cells #[.slice a l.length cap, .int .i64 0] 25)) hc hl
  rw [show (w.alloc (.cells #[.slice a l.length cap, .int .i64 0] 25)).heap.size = w.heap.size + 1 by simp] at sb0
  obtain ⟨w0, hw0⟩ : ∃ w0, w0 = (w.alloc (.cells #[.slice a l.length cap, .int .i64 0] 25)).alloc (.cells #[.slice a l.length cap, .int .i64 0] 25) := ⟨_, rfl⟩
  have hz0 : w0.heap.size = w.heap.size + 2 := by rw [hw0]; simp
  rw [← hw0] at sa0 sb0 hg0
  obtain ⟨hT, hK, hS, hkeys⟩ := cfgM_small l 0
  have CA := fun (p' : Nat) (w' : World) (h : StreamAt w' p' w.heap.size l 0) => config_any l 0 p' w' h (by omega)
  obtain ⟨c, hce⟩ : ∃ c, c = (cfgM l 0).1 := ⟨_, rfl⟩
  rw [← hce] at CA hT hK hS hkeys
  have HC := Lib.hid CA
  have HKEYS := Lib.hid hkeys
  clear CA hkeys hce hc hl
  have F7 : ∀ (x0 x1 x2 x3 x4 x5 x6 x7 : Value) (w : World), (Instr.field 46 (.agg #[x0, x1, x2, x3, x4, x5, x6, x7]) 7).run Tryd.prog w = .ok x7 w := fun _ _ _ _ _ _ _ _ _ => by kernel_rfl
  go_enter Tryd.func3, Tryd.ntmps3
  go_wp2_with (fail)
  rw [← hw0]
  have HW0 := Lib.hid hw0; clear hw0
  refine (HC.out _ w0 sa0).mono ?_
  rintro e w1 ⟨tv, kv, sv, rfl, hv1, _, g1⟩
  have z1 := g1.size
  have sb1 := sb0.keepNe g1 (fun q e => by cases e; omega)
  clear sa0 sb0
  obtain ⟨ta, tc, rfl, _, _, _, _⟩ := own_shape hv1.tub
  obtain ⟨sa, sc, rfl, _, _, _, _⟩ := own_shape hv1.slo
  obtain ⟨kb, ko, kc, rfl, _⟩ := hv1.tak.cells
  have RT := RowO.of_own hv1.tub (S := fun k => w0.heap.size ≤ k ∧ k < w1.heap.size) (fun q a b => ⟨a, b⟩)
  have RS := RowO.of_own hv1.slo (S := fun k => w0.heap.size ≤ k ∧ k < w1.heap.size) (fun q a b => ⟨a, b⟩)
  have RK := RowO.of_takes hv1.tak (S := fun k => w0.heap.size ≤ k ∧ k < w1.heap.size) (fun q a b => ⟨a, b⟩)
  have RR : Hid (RowO w1 ta c.tubes.length 3 (fun k => w0.heap.size ≤ k ∧ k < w1.heap.size) ∧ RowO w1 sa c.slots.length 5 (fun k => w0.heap.size ≤ k ∧ k < w1.heap.size) ∧ RowO w1 (some ⟨kb, ko, none⟩) c.takes.length 1 (fun k => w0.heap.size ≤ k ∧ k < w1.heap.size)) := ⟨RT, RS, RK⟩
  clear RT RS RK
  go_wp2_with (fail)
  refine (HC.out _ w1 sb1).mono ?_
  rintro e w2 ⟨tv2, kv2, sv2, rfl, hv2, _, g2⟩
  have z2 := g2.size
  have hblk := sb1.blk
  obtain ⟨_, _, hbb, _⟩ := hblk
  have hv1 := hv1.keepB hbb (by decide) (by decide) (by decide) g2
  clear hbb sb1
  obtain ⟨tb, td, rfl, _, _, _, _⟩ := own_shape hv2.tub
  obtain ⟨s2, sd, rfl, _, _, _, _⟩ := own_shape hv2.slo
  obtain ⟨lb, lo, ld, rfl, _⟩ := hv2.tak.cells
  have hgr2 : w.grownBy w2 none := gr_grown (gr_grown hg0 g1 (fun q e => by cases e; exact Nat.le_refl _)) g2 (fun q e => by cases e; omega)
  have HV1 := Lib.hid hv1; have HV2 := Lib.hid hv2
  have hpp : ∀ q, some (w.heap.size + 1) = some q → ¬ (w0.heap.size ≤ q ∧ q < w1.heap.size) := by intro q e; cases e; omega
  have RR :  Hid (RowO w2 ta c.tubes.length 3 (fun k => w0.heap.size ≤ k ∧ k < w1.heap.size) ∧ RowO w2 sa c.slots.length 5 (fun k => w0.heap.size ≤ k ∧ k < w1.heap.size) ∧ RowO w2 (some ⟨kb, ko, none⟩) c.takes.length 1 (fun k => w0.heap.size ≤ k ∧ k < w1.heap.size)) := ⟨RR.out.1.keepS g2 hpp, RR.out.2.1.keepS g2 hpp, RR.out.2.2.keepS g2 hpp⟩
  clear hpp
  clear hv1 hv2 g1 g2
  go_wp2_with (fail)
  have p1 := heap_alloc_new w2 (.cells #[.slice ta c.tubes.length tc, .slice (some ⟨kb, ko, none⟩) c.takes.length kc, .slice sa c.slots.length sc, .int .i64 c.high] 29)
  have p2 := heap_alloc_new (w2.alloc (.cells #[.slice ta c.tubes.length tc, .slice (some ⟨kb, ko, none⟩) c.takes.length kc, .slice sa c.slots.length sc, .int .i64 c.high] 29)) (.cells #[.slice tb c.tubes.length td, .slice (some ⟨lb, lo, none⟩) c.takes.length ld, .slice s2 c.slots.length sd, .int .i64 c.high] 29)
  have q1 := gr_alloc (gr_refl w2 none) (.cells #[.slice ta c.tubes.length tc, .slice (some ⟨kb, ko, none⟩) c.takes.length kc, .slice sa c.slots.length sc, .int .i64 c.high] 29)
  have q2 := gr_alloc (gr_refl (w2.alloc (.cells #[.slice ta c.tubes.length tc, .slice (some ⟨kb, ko, none⟩) c.takes.length kc, .slice sa c.slots.length sc, .int .i64 c.high] 29)) none) (.cells #[.slice tb c.tubes.length td, .slice (some ⟨lb, lo, none⟩) c.takes.length ld, .slice s2 c.slots.length sd, .int .i64 c.high] 29)
  rw [show (w2.alloc (.cells #[.slice ta c.tubes.length tc, .slice (some ⟨kb, ko, none⟩) c.takes.length kc, .slice sa c.slots.length sc, .int .i64 c.high] 29)).heap.size = w2.heap.size + 1 by simp] at p2
  have p1 := (q2.block _ (lt_of_block p1) (by simp)).trans p1
  have q12 := gr_trans q1 q2
  obtain ⟨w3, hw3⟩ : ∃ w3, w3 = (w2.alloc (.cells #[.slice ta c.tubes.length tc, .slice (some ⟨kb, ko, none⟩) c.takes.length kc, .slice sa c.slots.length sc, .int .i64 c.high] 29)).alloc (.cells #[.slice tb c.tubes.length td, .slice (some ⟨lb, lo, none⟩) c.takes.length ld, .slice s2 c.slots.length sd, .int .i64 c.high] 29) := ⟨_, rfl⟩
  rw [← hw3] at p1 p2 q12
  rw [← hw3]
  obtain ⟨C, hC⟩ : ∃ C, C = w2.heap.size := ⟨_, rfl⟩
  obtain ⟨D, hD⟩ : ∃ D, D = w2.heap.size + 1 := ⟨_, rfl⟩
  rw [← hC] at p1
  rw [← hD] at p2
  rw [← hD, ← hC]
  have HC3 := Lib.hid p1; have HD3 := Lib.hid p2
  have HCe := Lib.hid hC; have HDe := Lib.hid hD
  have hCl := lt_of_block p1
  have hDl := lt_of_block p2
  have hgr3 := gr_trans hgr2 q12
  have HV1 := Lib.hid (HV1.out.keep0 q12); have HV2 := Lib.hid (HV2.out.keep0 q12)
  have RR :  Hid (RowO w3 ta c.tubes.length 3 (fun k => w0.heap.size ≤ k ∧ k < w1.heap.size) ∧ RowO w3 sa c.slots.length 5 (fun k => w0.heap.size ≤ k ∧ k < w1.heap.size) ∧ RowO w3 (some ⟨kb, ko, none⟩) c.takes.length 1 (fun k => w0.heap.size ≤ k ∧ k < w1.heap.size)) := ⟨RR.out.1.keep0 q12, RR.out.2.1.keep0 q12, RR.out.2.2.keep0 q12⟩
  clear p1 p2 q1 q2 hw3 hC hD q12 hgr2
  have CT : Hid (CellsAt w3 ta (tubes c.tubes)) := by obtain ⟨_, _, he, _, _, h, _⟩ := own_shape HV1.out.tub; cases he; exact h
  have CS : Hid (CellsAt w3 sa (flat encSlot c.slots)) := by obtain ⟨_, _, he, _, _, h, _⟩ := own_shape HV1.out.slo; cases he; exact h
  have CK : Hid (CellsAt w3 (some ⟨kb, ko, none⟩) (ints c.takes)) := by obtain ⟨_, _, _, he, h⟩ := HV1.out.tak.cells; cases he; exact h
  have NT := Lib.hid (own_nil HV1.out.tub); have NS := Lib.hid (own_nil HV1.out.slo)
  refine (configFault_any c ta (some ⟨kb, ko, none⟩) sa tc kc sc w3 CT.out CK.out CS.out (by omega) (by omega) (by omega) HKEYS.out).mono ?_
  rintro e w4 ⟨r, rfl, hr, g4⟩
  have hgr4 := gr_trans hgr3 g4
  have hC4 := (g4.block C hCl (by simp)).trans HC3.out
  by_cases hr0 : r = 0
  · subst hr0
    have OK := Lib.hid (hr rfl)
    clear hr
    obtain ⟨d0, d1, d2, d3⟩ := blk4 hC4
    go_wp2_with (fail)
    refine (new_ok c ta (some ⟨kb, ko, none⟩) sa tc kc sc w4 (CT.out.keep0 g4) (CK.out.keep0 g4) (CS.out.keep0 g4) NT.out (fun e => by cases e) NS.out OK.out HKEYS.out).mono ?_
    rintro e w5 ⟨M, rfl, hM, hma, g5⟩
    have g45 := gr_trans g4 g5
    have hC5 := (g5.block C (lt_of_block hC4) (by simp)).trans hC4
    clear d0 d1 d2 d3 hC4
    obtain ⟨d0, d1, d2, d3⟩ := blk4 hC5
    have HMA := Lib.hid hma
    clear hma
    have htl := OK.out.tub.len
    go_wp2_with (fail)
    have RM : ∀ w' : World, (Instr.makeSlice 22 (.int .i64 (c.tubes.length : Int)) (.int .i64 (c.tubes.length : Int))).run Tryd.prog w' = .ok (.slice (some ⟨w'.heap.size, 0, none⟩) c.tubes.length c.tubes.length) (w'.alloc (.cells (madeCells #[Value.int .i64 0] c.tubes.length) 3)) := fun w' =>
      run_make_row' 22 3 (.int .i64 0) 8 eInt.und eInt.info rfl .i64 .i64 c.tubes.length (by omega) (by omega) w'
    have hmc : (madeCells #[Value.int .i64 0] c.tubes.length).toList = ints (List.replicate c.tubes.length 0) := by rw [toList_madeCells_one]; simp [ints]
    have ST : Hid (∀ W, w5.grownBy W none → Calls Tryd.prog 13 #[.slice ta c.tubes.length tc, .slice (some ⟨W.heap.size, 0, none⟩) c.tubes.length c.tubes.length] (W.alloc (.cells (madeCells #[Value.int .i64 0] c.tubes.length) 3)) fun e w' => ∃ va vc, e = .returned (.tuple #[.slice va c.tubes.length vc, .int .i64 (restT c.tubes (List.replicate c.tubes.length 0)), .int .i64 0]) ∧ w'.ownsRow w5.heap.size 41 3 (.slice va c.tubes.length vc) c.tubes.length (tubes (settledT c.tubes (List.replicate c.tubes.length 0))) ∧ W.grownBy w' none) := by
      show ∀ W, _ → _
      intro W hW
      have ga := gr_alloc (gr_refl W none) (.cells (madeCells #[Value.int .i64 0] c.tubes.length) 3)
      have hx : CellsAt (W.alloc (.cells (madeCells #[Value.int .i64 0] c.tubes.length) 3)) (some ⟨W.heap.size, 0, none⟩) (ints (List.replicate c.tubes.length 0)) := by
        rw [← hmc]
        exact CellsAt.new W _ 3
      have hst := settle_ok c.tubes (List.replicate c.tubes.length 0) ta tc (some ⟨W.heap.size, 0, none⟩) c.tubes.length _ (CT.out.keep0 (gr_trans (gr_trans g45 hW) ga)) NT.out hx OK.out.tub ⟨by simp, fun x hx => by
        obtain ⟨_, rfl⟩ := List.mem_replicate.1 hx
        omega⟩
      rw [List.length_replicate] at hst
      refine hst.mono ?_
      rintro e w' ⟨v, rfl, ho, hg⟩
      obtain ⟨va, vc, rfl, _⟩ := own_shape ho
      exact ⟨va, vc, rfl, own_base ho (Nat.le_trans hW.size (by simp)), gr_trans ga hg⟩
    have hgd := gr_drew (gr_refl w5 none)
    have ST2 : Hid (Calls Tryd.prog 13 #[.slice ta c.tubes.length tc, .slice (some ⟨w5.heap.size, 0, none⟩) c.tubes.length c.tubes.length] (w5.alloc (.cells (madeCells #[Value.int .i64 0] c.tubes.length) 3)).drew fun e w' => ∃ va vc, e = .returned (.tuple #[.slice va c.tubes.length vc, .int .i64 (restT c.tubes (List.replicate c.tubes.length 0)), .int .i64 0]) ∧ w'.ownsRow w5.heap.size 41 3 (.slice va c.tubes.length vc) c.tubes.length (tubes (settledT c.tubes (List.replicate c.tubes.length 0))) ∧ w5.grownBy w' none) := by
      refine (ST.out w5.drew hgd).mono ?_
      rintro e w' ⟨va, vc, rfl, ho, hg⟩
      exact ⟨va, vc, rfl, ho, gr_trans hgd hg⟩
    clear ST
    have d0a : (w5.alloc (.cells (madeCells #[Value.int .i64 0] c.tubes.length) 3)).drew.cell? ⟨C, 0, none⟩ = some (.slice ta c.tubes.length tc) := (gr_cell (gr_drew (gr_alloc (gr_refl w5 none) (.cells (madeCells #[Value.int .i64 0] c.tubes.length) 3))) (lt_of_cell d0)).trans d0
    go_upto_region 8 with (fail)
    go_cut [9, 10, 11] from 40 to 51 (fun v9 v10 v11 wx => ∃ va vc rt, v9 = .slice va c.tubes.length vc ∧ v10 = .int .i64 rt ∧ v11 = .int .i64 0 ∧ wx.ownsRow w5.heap.size 41 3 (.slice va c.tubes.length vc) c.tubes.length (tubes (settledT c.tubes (List.replicate c.tubes.length 0))) ∧ w5.grownBy wx none)
    case first =>
      --DEV sorry
      go_region_law (first
        | (go_simp; go_at_call 13; (with_reducible refine (ST2.out).mono ?_); rintro e w6 ⟨va, vc, rfl, ho6, g6⟩)
        | fail)
      all_goals (go_wp2_with (fail); go_meet; exact ⟨va, vc, _, rfl, rfl, rfl, ho6, g6⟩)
    case rest =>
    obtain ⟨va, vc, rt, rfl, rfl, rfl, ho6, g6⟩ := hcut
    obtain ⟨w6, rfl⟩ : ∃ w6 : World, w6 = wc := ⟨_, rfl⟩
    have g46 := gr_trans g45 g6
    have hC6 := (g6.block C (lt_of_block hC5) (by simp)).trans hC5
    have hD5 := (g45.block D hDl (by simp)).trans HD3.out
    have hD6 := (g6.block D (lt_of_block hD5) (by simp)).trans hD5
    have hC5l := lt_of_block hC5
    have hD5l := lt_of_block hD5
    have HC5 := Lib.hid hC5; have HD5 := Lib.hid hD5; have HO6 := Lib.hid ho6
    clear d0 d1 d2 d3 d0a hC5 hD5 ho6 ST2
    obtain ⟨d0, d1, d2, d3⟩ := blk4 hC6
    obtain ⟨f0, f1, f2, f3⟩ := blk4 hD6
    have DT : Hid (CellsAt w3 tb (tubes c.tubes)) := by obtain ⟨_, _, he, _, _, h, _⟩ := own_shape HV2.out.tub; cases he; exact h
    clear hC6 hD6
    go_wp2_with (fail)
    refine (equal_tubes c.tubes ta tb tc td w6 (CT.out.keep0 g46) (DT.out.keep0 g46) (by omega)).mono ?_
    rintro e w7 ⟨rfl, g7⟩
    clear d0 d1 d2 d3 f0 f1 f2 f3
    have z6 := g6.size
    have z4 := g4.size
    have z5 := g5.size
    have hCe := HCe.out
    have hDe := HDe.out
    have hz1l : w1.heap.size ≤ C := by rw [hCe]; exact z2
    have hz4 : w1.heap.size ≤ w4.heap.size := by have : w3.heap.size ≤ w4.heap.size := z4; omega
    obtain ⟨S, hSe⟩ : ∃ S : Nat → Prop, S = fun k => (w0.heap.size ≤ k ∧ k < w1.heap.size) ∨ w5.heap.size ≤ k := ⟨_, rfl⟩
    have hSr : ∀ k, (w0.heap.size ≤ k ∧ k < w1.heap.size) → S k := fun k h => by rw [hSe]; exact .inl h
    have hSn : ∀ k, w5.heap.size ≤ k → S k := fun k h => by rw [hSe]; exact .inr h
    have hSx : ∀ k, w1.heap.size ≤ k → k < w5.heap.size → ¬ S k := fun k h1 h2 h => by rw [hSe] at h; rcases h with h | h <;> omega
    have hSw : ∀ k, S k → w.heap.size ≤ k := fun k h => by rw [hSe] at h; rcases h with h | h <;> omega
    have g35 := g45
    have g37 := gr_trans g46 g7
    have hL : StayR w5 w7 S va ta sa (some ⟨kb, ko, none⟩) c.tubes.length c.slots.length c.takes.length :=
      ⟨grS.none (gr_trans g6 g7), RowO.of_own (own_keep0 HO6.out g7) (fun q h1 _ => hSn q h1), (RR.out.1.keep0 g37).weak hSr, (RR.out.2.1.keep0 g37).weak hSr, (RR.out.2.2.keep0 g37).weak hSr⟩
    have HSn := Lib.hid hSn; have HSx := Lib.hid hSx; have HSw := Lib.hid hSw
    have HCn := Lib.hid (hSx C hz1l hC5l)
    have HDn := Lib.hid (hSx D (by omega) hD5l)
    clear hSr hSn hSx hSw hSe hCe hDe RR
    have CB : Hid (∀ wj : World, StayR w5 wj S va ta sa (some ⟨kb, ko, none⟩) c.tubes.length c.slots.length c.takes.length → wj.cell? ⟨C, 0, none⟩ = some (.slice ta c.tubes.length tc) ∧ wj.cell? ⟨C, 1, none⟩ = some (.slice (some ⟨kb, ko, none⟩) c.takes.length kc) ∧ wj.cell? ⟨C, 2, none⟩ = some (.slice sa c.slots.length sc)) := by
      show ∀ wj : World, _ → _
      intro wj h
      obtain ⟨d0, d1, d2, _⟩ := blk4 ((h.gr.block C hC5l HCn.out).trans HC5.out)
      exact ⟨d0, d1, d2⟩
    go_wp2_with (fail)
    go_loopw [63] (fun ix wr => ∃ j : Nat, j ≤ c.tubes.length ∧ ix = .int .i64 j ∧ StayR w5 wr S va ta sa (some ⟨kb, ko, none⟩) c.tubes.length c.slots.length c.takes.length) (fun ix _ => c.tubes.length - (intOf ix).toNat)
    case atStart => exact ⟨0, Nat.zero_le _, rfl, hL⟩
    clear hL
    obtain ⟨j, hj, rfl, hL⟩ := hrel
    obtain ⟨wj, rfl⟩ : ∃ wj : World, wj = wr := ⟨_, rfl⟩
    by_cases hjl : j < c.tubes.length
    · obtain ⟨q, off, u, rfl, hSq, hc, hf⟩ := hL.x.cell j hjl 1 (by decide)
      go_wp2_with (fail)
      go_roundw
      case rel => exact ⟨j + 1, by omega, by go_num, hL.set hSq _ _⟩
      case measure => simp [intOf]; omega
    obtain rfl : j = c.tubes.length := by omega
    obtain ⟨d0, d1, d2⟩ := CB.out wj hL
    go_wp2_with (fail)
    clear d0 d1 d2
    go_loopw [74] (fun ix wr => ∃ j : Nat, j ≤ c.tubes.length ∧ ix = .int .i64 j ∧ StayR w5 wr S va ta sa (some ⟨kb, ko, none⟩) c.tubes.length c.slots.length c.takes.length) (fun ix _ => c.tubes.length - (intOf ix).toNat)
    case atStart => exact ⟨0, Nat.zero_le _, rfl, hL⟩
    clear hL
    obtain ⟨j, hj, rfl, hL⟩ := hrel
    obtain ⟨wk, rfl⟩ : ∃ wk : World, wk = wr := ⟨_, rfl⟩
    obtain ⟨d0, d1, d2⟩ := CB.out wk hL
    by_cases hjl : j < c.tubes.length
    · obtain ⟨q, off, u, rfl, hSq, hc, hf⟩ := hL.t.cell j hjl 1 (by decide)
      clear d1 d2
      go_wp2_with (fail)
      go_roundw
      case rel => exact ⟨j + 1, by omega, by go_num, hL.set hSq _ _⟩
      case measure => simp [intOf]; omega
    obtain rfl : j = c.tubes.length := by omega
    go_wp2_with (fail)
    clear d0 d1 d2
    go_loopw [86] (fun ix wr => ∃ j : Nat, j ≤ c.slots.length ∧ ix = .int .i64 j ∧ StayR w5 wr S va ta sa (some ⟨kb, ko, none⟩) c.tubes.length c.slots.length c.takes.length) (fun ix _ => c.slots.length - (intOf ix).toNat)
    case atStart => exact ⟨0, Nat.zero_le _, rfl, hL⟩
    clear hL
    obtain ⟨j, hj, rfl, hL⟩ := hrel
    obtain ⟨wl, rfl⟩ : ∃ wl : World, wl = wr := ⟨_, rfl⟩
    obtain ⟨d0, d1, d2⟩ := CB.out wl hL
    by_cases hjl : j < c.slots.length
    · obtain ⟨q, off, u, rfl, hSq, hc, hf⟩ := hL.s.cell j hjl 2 (by decide)
      clear d1 d0
      go_wp2_with (fail)
      go_roundw
      case rel => exact ⟨j + 1, by omega, by go_num, hL.set hSq _ _⟩
      case measure => simp [intOf]; omega
    obtain rfl : j = c.slots.length := by omega
    go_wp2_with (fail)
    clear d0 d1 d2
    go_loopw [98] (fun ix wr => ∃ j : Nat, j ≤ c.takes.length ∧ ix = .int .i64 j ∧ StayR w5 wr S va ta sa (some ⟨kb, ko, none⟩) c.tubes.length c.slots.length c.takes.length) (fun ix _ => c.takes.length - (intOf ix).toNat)
    case atStart => exact ⟨0, Nat.zero_le _, rfl, hL⟩
    clear hL
    obtain ⟨j, hj, rfl, hL⟩ := hrel
    obtain ⟨wn, rfl⟩ : ∃ wn : World, wn = wr := ⟨_, rfl⟩
    obtain ⟨d0, d1, d2⟩ := CB.out wn hL
    by_cases hjl : j < c.takes.length
    · obtain ⟨q, off, u, he, hSq, hc, hf⟩ := hL.k.cell j hjl 0 (by decide)
      cases he
      simp only [Nat.mul_one, Nat.add_zero] at hc hf
      clear d0 d2
      go_wp2_with (fail)
      go_roundw
      case rel => exact ⟨j + 1, by omega, by go_num, hL.set hSq _ _⟩
      case measure => simp [intOf]; omega
    obtain rfl : j = c.takes.length := by omega
    clear d0 d1 d2
    obtain ⟨mt, mk, ms, mj, me, md, hMV⟩ := HMA.out.v hM
    have hMVn := hMV.keepR hL.gr (fun q h1 h2 => HSx.out q (by omega) h2)
    have HMV := Lib.hid hMV
    go_wp2_with (fail)
    refine (audit_any (machNew c c.slots.length) w4.heap.size M mt mk ms mj me md wn hMVn (by show c.tubes.length ≤ 1000; omega) (by show (List.map _ _).length ≤ 1000; simp; omega)).mono ?_
    rintro e wo ⟨asv, atv, rfl, ho1, ho2, go⟩
    have ho2 : wo.ownsRow wn.heap.size 41 3 atv c.tubes.length (tubes c.tubes) := ho2
    obtain ⟨ya, yc, rfl, _, _, _, _⟩ := own_shape ho2
    have hzn := hL.gr.size
    have hY := RowO.of_own ho2 (S := S) (fun q h1 _ => HSn.out q (by omega))
    have hGo := hL.gr.next go (fun _ e => by cases e)
    clear ho1 ho2 hMV hMVn hL
    go_wp2_with (fail)
    go_loopw [111] (fun ix wr => ∃ j : Nat, j ≤ c.tubes.length ∧ ix = .int .i64 j ∧ grS w5 wr S ∧ RowO wr ya c.tubes.length 3 S) (fun ix _ => c.tubes.length - (intOf ix).toNat)
    case atStart => exact ⟨0, Nat.zero_le _, rfl, hGo, hY⟩
    clear hGo hY
    obtain ⟨j, hj, rfl, hG, hY⟩ := hrel
    obtain ⟨wp, rfl⟩ : ∃ wp : World, wp = wr := ⟨_, rfl⟩
    by_cases hjl : j < c.tubes.length
    · obtain ⟨q, off, u, rfl, hSq, hc, hf⟩ := hY.cell j hjl 1 (by decide)
      go_wp2_with (fail)
      go_roundw
      case rel => exact ⟨j + 1, by omega, by go_num, hG.set hSq _ _, hY.set _ _ _⟩
      case measure => simp [intOf]; omega
    obtain rfl : j = c.tubes.length := by omega
    clear hY
    have hDp := (hG.block D hD5l HDn.out).trans HD5.out
    obtain ⟨f0, f1, f2, f3⟩ := blk4 hDp
    have g3p : grS w3 wp S := (grS.none g35 : grS w3 w5 S).trans hG
    have z35 := g35.size
    have hr3 : ∀ q, w1.heap.size ≤ q → q < w3.heap.size → ¬ S q := fun q h1 h2 => HSx.out q h1 (by omega)
    have ot := g3p.ownR HV2.out.tub hr3
    have os := g3p.ownR HV2.out.slo hr3
    have hnT := own_nil ot
    have hnS := own_nil os
    have okk := HV2.out.tak.keepR g3p hr3
    have ct : CellsAt wp tb (tubes c.tubes) := by obtain ⟨_, _, he, _, _, h, _⟩ := own_shape ot; cases he; exact h
    have cs : CellsAt wp s2 (flat encSlot c.slots) := by obtain ⟨_, _, he, _, _, h, _⟩ := own_shape os; cases he; exact h
    have ck : CellsAt wp (some ⟨lb, lo, none⟩) (ints c.takes) := by obtain ⟨_, _, _, he, h⟩ := okk.cells; cases he; exact h
    have hMp := HMV.out.keepR hG (fun q h1 h2 => HSx.out q (by omega) h2)
    have hzp := hG.size
    have hgr5 := gr_trans hgr4 g5
    have hgrp := gr_ofSet hgr5 hG HSw.out
    have HMP := Lib.hid hMp
    have HN := Lib.hid (And.intro hnT hnS)
    have HC3 := Lib.hid (And.intro ct (And.intro ck cs))
    clear hDp g3p hr3 ot os hnT hnS okk ct cs ck hMp
    go_wp2_with (fail)
    refine (refNew_any c tb (some ⟨lb, lo, none⟩) s2 td ld sd wp HC3.out.1 HC3.out.2.1 HC3.out.2.2 HN.out.1 (fun e => by cases e) HN.out.2 (by omega) (by omega) (by omega)).mono ?_
    rintro e wq ⟨Y, yt, yk, ys, b1, b2, rfl, hYl, hRV, gq⟩
    have HRV := Lib.hid hRV
    clear hRV f0 f1 f2 f3
    go_wp2_with (fail)
    refine (vends_any _).mono ?_
    rintro e wr1 ⟨rfl, g1⟩
    have hM1 := (HMP.out.keep0 gq).keep0 g1
    have hR1 := HRV.out.keep0 g1
    have hgr1 := gr_trans (gr_trans hgrp gq) g1
    have HM1 := Lib.hid hM1; have HR1 := Lib.hid hR1
    clear hM1 hR1
    go_wp2_with (fail)
    refine (insert_one c c.slots.length w4.heap.size M mt mk ms mj me md wr1 HM1.out (by omega)).mono ?_
    rintro e ws ⟨rfl, ev', hM2, gs⟩
    have hR2 := HR1.out.keepM gs (fun q h1 _ h2 => by have := MachW.hi HMV.out h2; omega) (fun q h1 _ => MachW.cells HM1.out h1)
    have hgr2 := gr_ofSet hgr1 gs (fun q hq => by have := MachW.lo HM1.out hq; have := hgr4.size; omega)
    have HM2 := Lib.hid hM2; have HR2 := Lib.hid hR2
    clear hM2 hR2 gs
    have hbb : (insR c == insR c) = true := by simp
    go_wp2_with (fail)
    refine (refInsert_one c wp.heap.size Y yt yk ys b1 b2 ws HR2.out (by omega)).mono ?_
    rintro e wt ⟨rfl, ev2, hR3, gt⟩
    have hM3 := HM2.out.keepT gt HR2.out.blk
    have hzs := hgr2.size
    have hzw := hgrp.size
    have hgr3 := gr_ofSet hgr2 gt (fun q hq => by rcases hq with rfl | hq <;> omega)
    have HM3 := Lib.hid hM3; have HR3 := Lib.hid hR3
    clear hM3 hR3 gt
    go_wp2_with (fail)
    refine (audit_one c w4.heap.size M mt mk ms mj ev' md wt HM3.out (by omega) (by omega)).mono ?_
    rintro e wu ⟨v1, rfl, hA1, gu⟩
    have HA1 := Lib.hid hA1
    clear hA1
    go_wp2_with (fail)
    have hes := insE_small c
    have HES := Lib.hid hes.2
    have hes1 := hes.1
    clear hes
    refine (refAudit_any c (insE c) wp.heap.size Y yt yk ys ev2 b1 b2 wu (HR3.out.keep0 gu) (by omega) (by omega) (by omega) HES.out).mono ?_
    rintro e wv ⟨v2, rfl, hA2, gv⟩
    have HA2 := Lib.hid hA2
    clear hA2
    go_wp2_with (fail)
    have hA1v : AuditIs wv v1 (c.slots.map fun s => ⟨s.key, 0, 0⟩) c.tubes 0 0 0 0 0 (insE c).sum := by
      obtain ⟨sa, sc, ta, tc, he, h1, h2⟩ := HA1.out.ex
      exact ⟨sa, sc, ta, tc, he, h1.keep0 gv, h2.keep0 gv⟩
    refine (sameAudit_any v1 v2 (c.slots.map fun s => ⟨s.key, 0, 0⟩) c.tubes 0 0 0 0 0 (insE c).sum wv hA1v HA2.out (by simp; omega) (by omega)).mono ?_
    rintro e wx ⟨rfl, gx⟩
    clear hA1v
    go_wp2_with (fail)
    go_ret
    exact ⟨rfl, gr_trans (gr_trans (gr_trans hgr3 gu) gv) gx⟩
  · go_wp2_with (fail)
    refine (vends_any _).mono ?_
    rintro e w5 ⟨rfl, g5⟩
    go_wp2_with (fail)
    go_ret
    exact ⟨rfl, gr_trans hgr4 g5⟩
end Go.Proofs.YtdjnomeabadbnaaDoor
