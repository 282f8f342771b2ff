/- The walk of CoilsKeepOrder. -/
import Derived.Test.YtdjnomeabadbnaaDoorKeepPure
import Derived.Test.YtdjnomeabadbnaaDoorStockEnd
import Derived.Test.YtdjnomeabadbnaaDoorEqualStr
import Derived.Deep.RegionHeld3
import Derived.Deep.RegionLaw
import Derived.Deep.DeepCutAuto
import Derived.Deep.DeepFit
namespace Go.Proofs.YtdjnomeabadbnaaDoor
open Go.RowKit
attribute [local go_sem ↓] Go.wp_at_zero Go.wp_at_succ

set_option maxRecDepth 100000 in
set_option maxHeartbeats 8000000 in
theorem coilsKeepOrder_any (l : List Int) (a : Option Addr) (cap : Nat) (w : World) (hc : CellsAt w a (ints l)) (hl : l.length ≤ 9223372036854775807) :
    Calls Tryd.prog 6 #[.slice a l.length cap] w fun e w' => e = .returned (.bool true) ∧ w.grownBy w' none := by
  have hg0 := gr_alloc (gr_refl w none) (.cells #[.slice a l.length cap, .int .i64 0] 25)
  have s0 := StreamAt.made cap hc hl
  obtain ⟨w0, hw0⟩ : ∃ w0, w0 = w.alloc (.cells #[.slice a l.length cap, .int .i64 0] 25) := ⟨_, rfl⟩
  have hz0 : w0.heap.size = w.heap.size + 1 := by rw [hw0]; simp
  rw [← hw0] at s0 hg0
  have CA := coil_any l 0 w.heap.size w0 s0 (by omega)
  unfold CoilPost at CA
  have hCS := coilM_sm l 0
  have hk1 := coilM_k l 0
  have hCM := coilM_most l 0
  have hCN := coilM_len l 0
  obtain ⟨k1, hk1e⟩ : ∃ k1, k1 = (coilM l 0).2 := ⟨_, rfl⟩
  obtain ⟨C, hC⟩ : ∃ C, C = (coilM l 0).1 := ⟨_, rfl⟩
  rw [← hk1e, ← hC] at CA
  rw [← hk1e] at hk1
  rw [← hC] at hCS hCM hCN
  have hLO := lotsM_ok l k1
  have hk2 : lotsK l k1 ≤ k1 + 20 := by have := (lotsTo_bd l k1 5).2; unfold lotsK; omega
  have LA := fun (w' : World) (h : StreamAt w' w.heap.size w.heap.size l k1) => lots_any l k1 w.heap.size w' h (by omega)
  unfold LotsPost at LA
  obtain ⟨k2, hk2e⟩ : ∃ k2, k2 = lotsK l k1 := ⟨_, rfl⟩
  obtain ⟨X, hX⟩ : ∃ X, X = lotsM l k1 := ⟨_, rfl⟩
  rw [← hk2e, ← hX] at LA
  rw [← hk2e] at hk2
  rw [← hX] at hLO
  have PA := fun (w' : World) (h : StreamAt w' w.heap.size w.heap.size l k2) => pieces_any l k2 w.heap.size w' h (by omega)
  unfold PcsPost at PA
  have hPS := pcsM_sm l k2
  have hPL : (pcsM l k2).length ≤ 4 ∧ pcsK l k2 ≤ k2 + 10 := ⟨pcsM_len l k2, pcsK_le l k2⟩
  obtain ⟨Q, hQ⟩ : ∃ Q, Q = pcsM l k2 := ⟨_, rfl⟩
  obtain ⟨k3, hk3⟩ : ∃ k3, k3 = pcsK l k2 := ⟨_, rfl⟩
  rw [← hQ, ← hk3] at PA hPL
  rw [← hQ] at hPS
  have HCA := Lib.hid CA
  have HLA := Lib.hid LA
  have HPA := Lib.hid PA
  have HLO := Lib.hid hLO
  have HCS := Lib.hid hCS
  have HPS := Lib.hid hPS
  have HCM := Lib.hid hCM
  have hXl := hLO.len
  clear LA CA PA hLO hCS hPS hk1e hX hk2e hC hQ hk3 hc hl hCM
  go_enter Tryd.func6, Tryd.ntmps6
  go_wp2_with (fail)
  rw [← hw0]
  have HW0 := Lib.hid hw0; clear hw0
  refine HCA.out.mono ?_
  rintro e w1 ⟨v1, rfl, o1, st1, g1⟩
  have z1 := g1.size
  obtain ⟨ca, cc, rfl, -, -, -, -⟩ := own_shape o1
  clear HCA s0
  go_wp2_with (fail)
  refine (HLA.out w1 st1).mono ?_
  rintro e w2 ⟨v2, rfl, o2, st2, g2⟩
  have z2 := g2.size
  replace o1 := own_keepS o1 g2 (by omega)
  obtain ⟨xa, xc, rfl, -, -, -, -⟩ := own_shape o2
  clear HLA st1
  go_wp2_with (fail)
  refine (HPA.out w2 st2).mono ?_
  rintro e w3 ⟨v3, rfl, o3, st3, g3⟩
  have z3 := g3.size
  replace o1 := own_keepS o1 g3 (by omega)
  replace o2 := own_keepS o2 g3 (by omega)
  obtain ⟨pa, pc, rfl, -, -, -, -⟩ := own_shape o3
  have hg3 : w.grownBy w3 none := gr_grown (gr_refl w none) (gr_trans (gr_weak hg0 (some w.heap.size)) (gr_trans g1 (gr_trans g2 g3))) (fun k e => by cases e; exact Nat.le_refl _)
  have xn := own_nil o2
  have cn := own_nil o1
  have pn := own_nil o3
  obtain ⟨_, _, e1, -, -, cC, bC⟩ := own_shape o1
  cases e1
  obtain ⟨_, _, e1, -, -, cX, bX⟩ := own_shape o2
  cases e1
  obtain ⟨_, _, e1, -, -, cP, bP⟩ := own_shape o3
  cases e1
  obtain ⟨p, hp⟩ : ∃ p, p = w.heap.size := ⟨_, rfl⟩
  rw [← hp] at st3 hz0
  have NC : Hid (∀ b off, ca = some ⟨b, off, none⟩ → some b ≠ some p) := fun b off e e2 => by have := (bC b off e).1; cases e2; omega
  have NX : Hid (∀ b off, xa = some ⟨b, off, none⟩ → some b ≠ some p) := fun b off e e2 => by have := (bX b off e).1; cases e2; omega
  have NP : Hid (∀ b off, pa = some ⟨b, off, none⟩ → some b ≠ some p) := fun b off e e2 => by have := (bP b off e).1; cases e2; omega
  have HCN := Lib.hid cn
  have HXN := Lib.hid xn
  have HPN := Lib.hid pn
  have hpw3 : p < w3.heap.size := by omega
  have ga := gr_alloc (gr_alloc (gr_refl w3 none) (.cells #[.string C.prod, .int .i64 C.most, .slice ca C.ps.length cc] 83)) (.cells #[.slice xa X.length xc] 85)
  have hB := heap_2 w3 (.cells #[.string C.prod, .int .i64 C.most, .slice ca C.ps.length cc] 83) (.cells #[.slice xa X.length xc] 85)
  obtain ⟨w4, hw4⟩ : ∃ w4, w4 = (w3.alloc (.cells #[.string C.prod, .int .i64 C.most, .slice ca C.ps.length cc] 83)).alloc (.cells #[.slice xa X.length xc] 85) := ⟨_, rfl⟩
  have hz4 : w4.heap.size = w3.heap.size + 2 := by rw [hw4]; simp
  rw [← hw4] at ga hB
  obtain ⟨hB4, hB5⟩ := hB
  have HC4 := Lib.hid (cC.keep0 ga)
  have HX4 := Lib.hid (cX.keep0 ga)
  have HP4 := Lib.hid (cP.keep0 ga)
  have HS4 := Lib.hid (st3.keep0 ga)
  have HG4 := Lib.hid (gr_trans hg3 ga)
  have HB4 := Lib.hid hB4
  have HB5 := Lib.hid hB5
  have HW4 := Lib.hid hw4
  have HPE := Lib.hid hp
  have CF : Hid (∀ W, w4.grownBy W none → Calls Tryd.prog 40 #[.agg #[.string C.prod, .int .i64 C.most, .slice ca C.ps.length cc]] W (CoilChk C W)) := fun W g => coilFault_any C ca cc W (HC4.out.keep0 g) HCS.out
  have PF : Hid (∀ W, w4.grownBy W none → Calls Tryd.prog 41 #[.agg #[.string C.prod, .int .i64 C.most, .slice ca C.ps.length cc], .slice xa X.length xc, .slice pa Q.length pc] W (PushChk C X Q W)) := fun W g => pushFaultR_any C ca cc X xa xc Q pa pc W (HC4.out.keep0 g) HCS.out (HX4.out.keep0 g) HLO.out (HP4.out.keep0 g) HPS.out
  have PU := Lib.hid (fun (W : World) (g : w4.grownBy W none) (ho : PushOk C X Q) => push_any C ca cc X xa xc Q pa pc W (HC4.out.keep0 g) (fun e => (HCN.out e).2) HCS.out (HX4.out.keep0 g) HLO.out (HP4.out.keep0 g) (fun e => (HPN.out e).2) HPS.out ho)
  have KC : Hid (∀ W, w4.grownBy W none → Calls Tryd.prog 44 #[.slice ca C.ps.length cc] W fun e w' => ∃ v, e = .returned v ∧ w'.ownsRow W.heap.size 94 2 v C.ps.length (flat encPc C.ps) ∧ W.grownBy w' none) :=
    fun W g => clonePc_any ca C.ps.length cc (flat encPc C.ps) W (flat_length encPc_len _) (HC4.out.keep0 g) HCN.out (flat_ones encPc_one _) (by have := HCS.out.len; omega)
  have hBl : w3.heap.size + 1 < w4.heap.size := by omega
  clear hw4 hp hg3 ga hB4 hB5 cC cX cP bC bX bP cn xn pn st3 o1 o2 o3 HPA st2 g1 g2 g3 hg0 z1 z2 z3 hz0 HW0 hz4
  go_wp2_with (fail)
  rw [← HW4.out, ← HPE.out]
  refine (CF.out w4 (gr_refl _ _)).mono ?_
  rintro e w5 ⟨r1, rfl, hr1, g5⟩
  have HG5 := Lib.hid g5
  have HR1 := Lib.hid hr1
  have HB5b := Lib.hid ((g5.block _ (lt_of_block HB5.out) (by simp)).trans HB5.out)
  have HB4b := Lib.hid ((g5.block _ (lt_of_block HB4.out) (by simp)).trans HB4.out)
  have c0 := blkC HB4b.out 0 rfl
  have c1 : w5.cell? ⟨w3.heap.size, 1, none⟩ = some (.int .i64 C.most) := blkC HB4b.out 1 rfl
  have c2 : w5.cell? ⟨w3.heap.size, 2, none⟩ = some (.slice ca C.ps.length cc) := blkC HB4b.out 2 rfl
  have d0 := blkC HB5b.out 0 rfl
  clear g5 hr1 CF HB4 HB5
  by_cases hr0 : r1 = 0
  · subst hr0
    clear HR1
    go_wp2_with (fail)
    refine (PF.out w5 HG5.out).mono ?_
    rintro e w6 ⟨r2, rfl, hr2, g6⟩
    have HG6 := Lib.hid (gr_trans HG5.out g6)
    have HR2 := Lib.hid hr2
    have HB5c := Lib.hid ((g6.block _ (lt_of_block HB5b.out) (by simp)).trans HB5b.out)
    have HB4c := Lib.hid ((g6.block _ (lt_of_block HB4b.out) (by simp)).trans HB4b.out)
    clear c0 c1 c2 d0 HB4b HB5b g6 hr2 PF HG5
    have c0 := blkC HB4c.out 0 rfl
    have c1 : w6.cell? ⟨w3.heap.size, 1, none⟩ = some (.int .i64 C.most) := blkC HB4c.out 1 rfl
    have c2 : w6.cell? ⟨w3.heap.size, 2, none⟩ = some (.slice ca C.ps.length cc) := blkC HB4c.out 2 rfl
    have d0 := blkC HB5c.out 0 rfl
    by_cases hr02 : r2 = 0
    · subst hr02
      have OK2 : Hid (PushOk C X Q) := HR2.out.1 rfl
      have PU2 := Lib.hid (PU.out w6 HG6.out OK2.out)
      clear HR2 PU
      go_wp2_with (fail)
      refine PU2.out.mono ?_
      rintro e w7 ⟨v7, rfl, o7, g7⟩
      have HPC := Lib.hid (coilOk_push HLO.out OK2.out)
      obtain ⟨J, hJ⟩ : ∃ J, J = joinL (C.ps ++ Q) := ⟨_, rfl⟩
      rw [← hJ] at o7 HPC
      obtain ⟨ja, jc, rfl, -, -, -, -⟩ := own_shape o7
      have hJl := HPC.out.1.len
      simp only at hJl
      have HG7 := Lib.hid (gr_trans HG6.out g7)
      have HB5d := Lib.hid ((g7.block _ (lt_of_block HB5c.out) (by simp)).trans HB5c.out)
      have HB4d := Lib.hid ((g7.block _ (lt_of_block HB4c.out) (by simp)).trans HB4c.out)
      have hz67 := g7.size
      have R7 := Lib.hid (own_row o7)
      clear c0 c1 c2 d0 HB4c HB5c g7 PU2 hJ o7
      have c0 := blkC HB4d.out 0 rfl
      have c1 : w7.cell? ⟨w3.heap.size, 1, none⟩ = some (.int .i64 C.most) := blkC HB4d.out 1 rfl
      have c2 : w7.cell? ⟨w3.heap.size, 2, none⟩ = some (.slice ca C.ps.length cc) := blkC HB4d.out 2 rfl
      have d0 := blkC HB5d.out 0 rfl
      go_upto_region 8 with (fail)
      have hT7 := heap_alloc_new w7 (.cells #[.string C.prod, .int .i64 C.most, .slice ja J.length jc] 83)
      have g8 := gr_alloc (gr_refl w7 none) (.cells #[.string C.prod, .int .i64 C.most, .slice ja J.length jc] 83)
      obtain ⟨w8, hw8⟩ : ∃ w8, w8 = w7.alloc (.cells #[.string C.prod, .int .i64 C.most, .slice ja J.length jc] 83) := ⟨_, rfl⟩
      have HZ8 : Hid (w8.heap.size = w7.heap.size + 1) := by show _ = _; rw [hw8]; simp
      rw [← hw8] at hT7 g8
      rw [← hw8]
      have HG8 := Lib.hid (gr_trans HG7.out g8)
      have R8 := Lib.hid (R7.out.keep0 g8)
      have HB5e := Lib.hid ((g8.block _ (lt_of_block HB5d.out) (by simp)).trans HB5d.out)
      have HB4e := Lib.hid ((g8.block _ (lt_of_block HB4d.out) (by simp)).trans HB4d.out)
      have HT7 := Lib.hid hT7
      have hCl := HCS.out.len
      have hQl := HPS.out.len
      clear c0 c1 c2 d0 HB4d HB5d hT7 g8 hw8 R7
      obtain ⟨WL, hWL⟩ : ∃ WL, WL = C.ps ++ Q := ⟨_, rfl⟩
      have HWL := Lib.hid hWL
      have HCV : Hid (∀ (w : World) (b : Nat) (v : Value), w.ownsRow b 94 2 v (C.ps.length + Q.length) (flat encPc C.ps ++ flat encPc Q) → w.ownsRow b 94 2 v WL.length (flat encPc WL)) := fun w b v h => by rw [hWL, flat_append, List.length_append]; exact h
      clear hWL
      go_cut [9, 10] (fun s9 s10 wx => ∃ (T : Nat) (v : Value), s9 = v ∧ s10 = .pointer (some ⟨T, 0, none⟩) ∧ w8.heap.size ≤ T ∧ wx.heap[T]? = some (.cells #[.string C.prod, .int .i64 C.most, .slice ja J.length jc] 83 (0, 0)) ∧ wx.ownsRow w8.heap.size 94 2 v WL.length (flat encPc WL) ∧ w8.grownBy wx none)
      case first =>
        have hgd := gr_drew (gr_refl w8 none)
        have KC2 : Hid (∀ W, w8.grownBy W none → Calls Tryd.prog 44 #[.slice ca C.ps.length cc] W fun e w' => ∃ v, e = .returned v ∧ w'.ownsRow w8.heap.size 94 2 v C.ps.length (flat encPc C.ps) ∧ W.grownBy w' none) := fun W g => (KC.out W (gr_trans HG8.out g)).mono fun e w' ⟨v, h1, h2, h3⟩ => ⟨v, h1, own_base h2 g.size, h3⟩
        have c2 : w8.cell? ⟨w3.heap.size, 2, none⟩ = some (.slice ca C.ps.length cc) := blkC HB4e.out 2 rfl
        have HPX := Lib.hid (HP4.out.keep0 HG8.out)
        have t0 := blkC HT7.out 0 rfl
        have t1 : w8.cell? ⟨w7.heap.size, 1, none⟩ = some (.int .i64 C.most) := blkC HT7.out 1 rfl
        have t2 : w8.cell? ⟨w7.heap.size, 2, none⟩ = some (.slice ja J.length jc) := blkC HT7.out 2 rfl
        have hl7 := lt_of_cell t0
        have hl3 := lt_of_cell c2
        go_region_law (first
          | (go_simp; go_at_call 44; (with_reducible refine (KC2.out _ ?_).mono ?_); (· first | exact hgd | exact gr_alloc hgd _); rintro e w9 ⟨v9, rfl, o9, g9⟩; (first | (have hT9 := (g9.block w8.heap.size (by simp) (by simp)).trans (heap_alloc_new w8.drew _); have gg9 := gr_trans (gr_alloc hgd _) g9) | have gg9 := gr_trans hgd g9); have h79 := (gg9.block _ (lt_of_block HT7.out) (by simp)).trans HT7.out; have t0 := blkC h79 0 rfl; have t1 : w9.cell? ⟨w7.heap.size, 1, none⟩ = some (.int .i64 C.most) := blkC h79 1 rfl; have t2 : w9.cell? ⟨w7.heap.size, 2, none⟩ = some (.slice ja J.length jc) := blkC h79 2 rfl; have hl9 := lt_of_block h79)
          | (refine step_appN ePc rfl _ _ rfl w8.heap.size v9 C.ps.length (flat encPc C.ps) rfl ?_ pa Q.length pc (flat encPc Q) rfl (flat_length encPc_len _) ?_ ?_ (flat_ones encPc_one _) ?_ ?_ ?_; (· first | exact o9 | exact own_keep0 o9 (gr_alloc (gr_refl _ _) _)); (· first | exact HPX.out.keep0 gg9 | exact HPX.out.keep0 (gr_alloc gg9 _)); (· exact fun e => (HPN.out e).2); (· omega); (· first | exact gg9.size | exact (gr_alloc gg9 _).size); intro v10 w10 o10 g10 hlt10 hk10; (first | (have hT10 := held_own o9 hT9 g10 (by decide)) | (have hT10 := made_own o9 g10 (by decide)) | skip); (first | have gg10 : w8.grownBy w10 none := gr_grown gg9 g10 (fun k hk => (o9.lt k hk).1) | have gg10 : w8.grownBy w10 none := gr_grown (gr_alloc gg9 _) g10 (fun k hk => (o9.lt k hk).1)); have h710 := (gg10.block _ (lt_of_block HT7.out) (by simp)).trans HT7.out; have t0 := blkC h710 0 rfl; have t1 : w10.cell? ⟨w7.heap.size, 1, none⟩ = some (.int .i64 C.most) := blkC h710 1 rfl; have t2 : w10.cell? ⟨w7.heap.size, 2, none⟩ = some (.slice ja J.length jc) := blkC h710 2 rfl; have hl10 := lt_of_block h710; try (have f0 := blkF hT10 0; have f1 := blkF hT10 1; have f2 := blkF hT10 2; have x0 := blkC hT10 0 rfl; have x1 := blkC hT10 1 rfl; have x2 := blkC hT10 2 rfl))
          | fail)
        all_goals (go_wp2_with (fail))
        all_goals go_meet
        all_goals first
          | exact ⟨_, v10, rfl, rfl, Nat.le_refl _, set3R_heap hT10 _ _ _, HCV.out _ _ _ (own_keep o10 (set3R_gr _ _ _ _ _) (.inr (own_ne o10 hT10 (by decide)))), gr_grown gg10 (set3R_gr _ _ _ _ _) (fun k hk => by cases hk; exact Nat.le_refl _)⟩
          | exact ⟨_, v10, rfl, rfl, gg9.size, set3R_heap hT10 _ _ _, HCV.out _ _ _ (own_keep o10 (set3R_gr _ _ _ _ _) (.inr (own_ne o10 hT10 (by decide)))), gr_grown gg10 (set3R_gr _ _ _ _ _) (fun k hk => by cases hk; exact gg9.size)⟩
          | exact ⟨_, v10, rfl, rfl, gg10.size, heap_alloc_new _ _, HCV.out _ _ _ (own_keep0 o10 (gr_alloc (gr_refl _ _) _)), gr_alloc gg10 _⟩
      case rest =>
      obtain ⟨T, v9, rfl, rfl, hT, hbT, ho9, g9⟩ := hcut
      obtain ⟨w9, rfl⟩ : ∃ w9 : World, w9 = wc := ⟨_, rfl⟩
      obtain ⟨wa, wcap, rfl, -, -, cW, bW⟩ := own_shape ho9
      have hWT := own_ne ho9 hbT (by decide)
      have hJs : pcSum J ≤ 30 := by have := HPC.out.1.sum; have := HCM.out OK2.out.coil; simp only at *; omega
      have hpw8 : p < w8.heap.size := by have := HG8.out.size; omega
      have hpw6 : p < w6.heap.size := by have := HG6.out.size; omega
      have hWf : PcsFine WL := by
        rw [HWL.out]
        refine pcsFine_of (fun x hx => ⟨(push_los OK2.out x hx).1, ?_⟩) ?_
        · rcases List.mem_append.1 hx with hx | hx
          · exact (HCS.out.all x hx).1
          · exact (HPS.out.all x hx).1
        · rw [← HPC.out.2.1]; omega
      have K0 : KeepInv w9 w8 p p l k3 T w9.heap.size C.prod C.most wa WL 0 J [] (.slice ja J.length jc) (.slice none 0 0) w6.heap.size w7.heap.size :=
        { bt := hbT, row := R8.out.keep0 g9, tlo := .inr (by have := HZ8.out; omega), hiw := by have := HZ8.out; have := g9.size; omega, plo := hpw6, pw := hpw8, pt := by omega, tb := hT, bb := g9.size, bg := Nat.le_refl _, got := World.ownsRow_nil _ _ _ _, sep := fun b hb => by simp [Value.ownBlock] at hb, want := cW
          wsep := fun b off e => by
            obtain ⟨h1, h2, h3⟩ := bW b off e
            exact ⟨h2, fun e2 => hWT (by rw [h3, e2]), by omega⟩
          str := (HS4.out.keep0 HG8.out).keep0 g9, gr := gr_weak g9 _, units := by rw [HPC.out.2.2, ← HWL.out]; rfl, ok := HPC.out.1, sum := by omega, glen := Nat.le_refl _ }
      have HK0 := Lib.hid K0
      have HWF := Lib.hid hWf
      have HC8 := Lib.hid (HC4.out.keep0 HG8.out)
      have HX8 := Lib.hid (HX4.out.keep0 HG8.out)
      have HP8 := Lib.hid (HP4.out.keep0 HG8.out)
      have HZP := Lib.hid hpw8
      have HZB : Hid (w3.heap.size + 1 < w8.heap.size) := Nat.lt_of_lt_of_le hBl HG8.out.size
      have HG := Lib.hid (gr_trans HG4.out HG8.out)
      have HSZ : Hid (C.most ≤ 1000 ∧ 0 ≤ C.most) := ⟨OK2.out.coil.m1, OK2.out.coil.m0⟩
      clear hbT ho9 g9 cW bW hWT hJs K0 hWf hpw8 hpw6 R8 HCV HZ8 HT7 KC
      go_wp2_with (fail)
      go_loopw [11, 57] (fun g i wr => ∃ (k : Nat) (R G : List Piece) (rv gv : Value) (lo hi : Nat), k ≤ 40 ∧ i = .int .i64 k ∧ gv = g ∧ KeepInv wr w8 p p l (k3 + k) T w9.heap.size C.prod C.most wa WL k R G rv gv lo hi) (fun _ i _ => 40 - (intOf i).toNat)
      case atStart => exact ⟨0, J, [], _, _, _, _, by omega, rfl, rfl, HK0.out⟩
      case round =>
        clear HK0
        obtain ⟨k, R, G, rv, gv, lo, hi, hk, rfl, rfl, hK⟩ := hrel
        obtain ⟨wo, rfl⟩ : ∃ wo : World, wo = wr := ⟨_, rfl⟩
        obtain ⟨hsm, hs0⟩ := hK.sm
        have hsum := hK.sum
        have hlt : k < 40 := by omega
        obtain ⟨ra, rc, rfl, -, -, hrn, cR, -⟩ := hK.row.shape
        have RM := Lib.hid (room_any ⟨C.prod, C.most, R⟩ ra rc wo cR hsm hK.ok hs0)
        have SE := Lib.hid (fun (W : World) (g : wo.grownBy W none) (n : Int) (h0 : 0 ≤ n) (h1 : n ≤ 1000) (h2 : n ≤ pcSum R) => sell_any ⟨C.prod, C.most, R⟩ ra rc W (cR.keep0 g) (fun e => (hrn e).2) hsm hK.ok n h0 h1 h2)
        simp only at RM SE
        obtain ⟨hm1, hm0⟩ := HSZ.out
        have c0 := blkC hK.bt 0 rfl
        have c1 : wo.cell? ⟨T, 1, none⟩ = some (.int .i64 C.most) := blkC hK.bt 1 rfl
        have c2 : wo.cell? ⟨T, 2, none⟩ = some (.slice ra R.length rc) := blkC hK.bt 2 rfl
        have hRm : pcSum R ≤ C.most := hK.ok.sum
        have HK := Lib.hid hK
        obtain ⟨S, hS⟩ : ∃ S, S = pcSum R := ⟨_, rfl⟩
        rw [← hS] at hRm hs0 hsum RM
        have HS := Lib.hid hS
        clear hS hK hsm cR hrn
        go_wp2_with (fail)
        refine RM.out.mono ?_
        rintro e w10 ⟨rfl, g10⟩
        have K1 := Lib.hid (HK.out.keep0 g10)
        have G10 := Lib.hid g10
        clear RM c0 c1 c2 g10 HK
        go_upto_region 15 with (fail)
        go_cut [14] from 58 to 88 (fun s wx => ∃ n : Int, s = .int .i64 n ∧ 0 ≤ n ∧ n ≤ 3 ∧ n ≤ S ∧ (n = 0 → S = 0) ∧ wo.grownBy wx (some p) ∧ KeepInv wx w8 p p l (k3 + k + 1) T w9.heap.size C.prod C.most wa WL k R G (.slice ra R.length rc) gv lo hi)
        case first =>
          have hgd := gr_drew (gr_refl w10 none)
          have hnx := nxt_range l (k3 + k) (3 - 1 + 1) (by decide)
          have RG := Lib.hid (range_any l (k3 + k) 1 3 p w10.drew (K1.out.str.keep0 hgd) (by omega) (by decide) (by decide) (by decide))
          obtain ⟨r, hr⟩ : ∃ r, r = 1 + nxt l (k3 + k) (3 - 1 + 1) := ⟨_, rfl⟩
          rw [← hr] at RG
          have hr1 : 1 ≤ r := by omega
          have hr3 : r ≤ 3 := by omega
          clear hr hnx
          have hwr : IntKind.i64.wrap (C.most - (C.most - S)) = S := by rw [show C.most - (C.most - S) = S by omega]; exact IntWalk.i64_in _ (by omega)
          have c1 : w10.cell? ⟨T, 1, none⟩ = some (.int .i64 C.most) := blkC K1.out.bt 1 rfl
          go_region_law (first
            | (go_simp; go_at_call 46; (with_reducible refine RG.out.mono ?_); rintro e w11 ⟨rfl, s11, g11⟩; have K2 := Lib.hid ((K1.out.keep0 hgd).draw g11 s11); have c1 : w11.cell? ⟨T, 1, none⟩ = some (.int .i64 C.most) := blkC K2.out.bt 1 rfl)
            | fail)
          all_goals first
            | go_meet
            | (go_wp2_with (fail); go_meet)
            | (go_simp; go_meet)
          all_goals exact ⟨_, rfl, by omega, by omega, by omega, by omega, gr_trans (gr_weak (gr_trans G10.out hgd) _) g11, K2.out⟩
        case rest =>
        obtain ⟨n, rfl, hn0, hn3, hnS, hnz, hgx, hK2⟩ := hcut
        obtain ⟨w11, rfl⟩ : ∃ w11 : World, w11 = wc := ⟨_, rfl⟩
        have K2 := Lib.hid hK2
        clear hK2 K1 G10 hgx
        have b0 := blkC K2.out.bt 0 rfl
        have b1 : w11.cell? ⟨T, 1, none⟩ = some (.int .i64 C.most) := blkC K2.out.bt 1 rfl
        have b2 : w11.cell? ⟨T, 2, none⟩ = some (.slice ra R.length rc) := blkC K2.out.bt 2 rfl
        obtain ⟨_, _, e1, -, -, hrn, cR, -⟩ := K2.out.row.shape
        cases e1
        by_cases hn : n = 0
        · subst hn
          have hS0 : pcSum R = 0 := by rw [← HS.out]; exact hnz rfl
          have hRe := sum_zero_nil (fun x hx => (K2.out.ok.los x hx).1) hS0
          subst hRe
          have hUG : unitsL WL = unitsL G := by rw [K2.out.units]; exact List.append_nil _
          obtain ⟨ga, gc, rfl, -, -, cG, -⟩ := own_shape K2.out.got
          have hgl := K2.out.glen
          have FW : Hid (∀ W, w11.grownBy W none → Calls Tryd.prog 49 #[.slice wa WL.length wcap] W fun e w' => ∃ v, e = .returned v ∧ w'.ownsRow W.heap.size 9 1 v (unitsL WL).length (strs (unitsL WL)) ∧ W.grownBy w' none) := fun W g => keepFlat_any WL wa wcap W (K2.out.want.keep0 g) (by have := HWF.out.len; omega) (by have := HWF.out.ulen; omega)
          have FG : Hid (∀ W, w11.grownBy W none → Calls Tryd.prog 49 #[.slice ga G.length gc] W fun e w' => ∃ v, e = .returned v ∧ w'.ownsRow W.heap.size 9 1 v (unitsL WL).length (strs (unitsL WL)) ∧ W.grownBy w' none) := fun W g => by
            rw [hUG]; exact keepFlat_any G ga gc W (cG.keep0 g) (by omega) (by rw [← hUG]; have := HWF.out.ulen; omega)
          have KU : Hid (∀ W, w11.grownBy W none → Calls Tryd.prog 52 #[.slice wa WL.length wcap] W fun e w' => e = .returned (.map (some W.heap.size)) ∧ MapIs w' W.heap.size WL.length (cntU (unitsL WL)) ∧ W.grownBy w' none) := fun W g => keepUnits_any WL wa wcap W (K2.out.want.keep0 g) (by have := HWF.out.len; omega) HWF.out.all (by have := HWF.out.ulen; omega)
          have hUl := HWF.out.ulen
          have hGR := K2.out.gr
          have HC11 := Lib.hid (HC8.out.keep hGR NC.out)
          have HX11 := Lib.hid (HX8.out.keep hGR NX.out)
          have HP11 := Lib.hid (HP8.out.keep hGR NP.out)
          have hB4 := (hGR.block _ (lt_of_block HB4e.out) (by intro e; cases e; omega)).trans HB4e.out
          have hB5 := (hGR.block _ (lt_of_block HB5e.out) (by intro e; cases e; omega)).trans HB5e.out
          have HB411 := Lib.hid hB4
          have HB511 := Lib.hid hB5
          have HG11 : Hid (w.grownBy w11 none) := gr_grown HG.out hGR (fun k hk => by cases hk; rw [HPE.out]; exact Nat.le_refl _)
          have b2 : w11.cell? ⟨T, 2, none⟩ = some (.slice ra 0 rc) := b2
          obtain ⟨U, hU⟩ : ∃ U, U = unitsL WL := ⟨_, rfl⟩
          rw [← hU] at FW FG KU hUl
          have HU := Lib.hid hU
          clear hS0 hUG cG hgl hGR hB4 hB5 hU cR hrn SE K2 hnz hnS hn0 hn3
          go_wp2_with (fail)
          refine (FW.out w11 (gr_refl _ _)).mono ?_
          rintro e w12 ⟨v12, rfl, o12, g12⟩
          obtain ⟨fa, fc, rfl, -, -, cF, -⟩ := own_shape o12
          have HF := Lib.hid cF
          have G12 := Lib.hid g12
          clear cF o12 g12 b0 b1 b2 FW
          go_wp2_with (fail)
          refine (FG.out w12 G12.out).mono ?_
          rintro e w13 ⟨v13, rfl, o13, g13⟩
          obtain ⟨ea, ec, rfl, -, -, cE, -⟩ := own_shape o13
          have EQ := Lib.hid (equal_str U fa ea fc ec w13 (HF.out.keep0 g13) cE (by omega))
          have G13 := Lib.hid (gr_trans G12.out g13)
          clear cE o13 g13 FG G12 HF
          go_wp2_with (fail)
          refine EQ.out.mono ?_
          rintro e w14 ⟨rfl, g14⟩
          have G14 := Lib.hid (gr_trans G13.out g14)
          have hB4 := (G14.out.block _ (lt_of_block HB411.out) (by simp)).trans HB411.out
          have hB5 := (G14.out.block _ (lt_of_block HB511.out) (by simp)).trans HB511.out
          have HB4x := Lib.hid hB4
          have HB5x := Lib.hid hB5
          have c0 := blkC hB4 0 rfl
          have c1 : w14.cell? ⟨w3.heap.size, 1, none⟩ = some (.int .i64 C.most) := blkC hB4 1 rfl
          have c2 : w14.cell? ⟨w3.heap.size, 2, none⟩ = some (.slice ca C.ps.length cc) := blkC hB4 2 rfl
          have d0 := blkC hB5 0 rfl
          clear EQ G13 g14 hB4 hB5
          have HC14 := Lib.hid (HC11.out.keep0 G14.out)
          have HX14 := Lib.hid (HX11.out.keep0 G14.out)
          have HP14 := Lib.hid (HP11.out.keep0 G14.out)
          have KN := Lib.hid (fun (W : World) (g : w14.grownBy W none) => known_any C ca cc X xa xc W (HC14.out.keep0 g) (by omega) (HX14.out.keep0 g) (by omega))
          cases hkn : knownB X C.ps with
          | false =>
            have RO := Lib.hid (rotate_no C ca cc X xa xc Q pa pc w14 HC14.out HCS.out HX14.out HLO.out HP14.out HPS.out OK2.out hkn)
            rw [hkn] at KN
            simp only [if_neg Bool.false_ne_true] at KN
            clear hkn
            go_wp2_with (fail)
            refine RO.out.mono ?_
            rintro e w15 ⟨rfl, g15⟩
            have G15 := Lib.hid g15
            have hB4 := (g15.block _ (lt_of_block HB4x.out) (by simp)).trans HB4x.out
            have hB5 := (g15.block _ (lt_of_block HB5x.out) (by simp)).trans HB5x.out
            clear c0 c1 c2 d0 g15 RO
            have c0 := blkC hB4 0 rfl
            have c1 : w15.cell? ⟨w3.heap.size, 1, none⟩ = some (.int .i64 C.most) := blkC hB4 1 rfl
            have c2 : w15.cell? ⟨w3.heap.size, 2, none⟩ = some (.slice ca C.ps.length cc) := blkC hB4 2 rfl
            have d0 := blkC hB5 0 rfl
            have hl4 := lt_of_block hB4
            have hl5 := lt_of_block hB5
            clear hB4 hB5
            go_wp2_with (fail)
            refine (KN.out _ (gr_alloc G15.out _)).mono ?_
            rintro e w16 ⟨rfl, g16⟩
            have G16 := Lib.hid (gr_trans (gr_alloc G15.out _) g16)
            clear c0 c1 c2 d0 g16
            go_wp2_with (fail)
            refine (stocks_any w16).mono ?_
            rintro e w17 ⟨rfl, g17⟩
            go_wp2_with (fail)
            go_ret
            exact ⟨rfl, gr_trans (gr_trans (gr_trans HG11.out G14.out) G16.out) g17⟩
          | true =>
            have RO := rotate_any C ca cc X xa xc Q pa pc w14 HC14.out (fun e => (HCN.out e).2) HCS.out HX14.out HLO.out HP14.out (fun e => (HPN.out e).2) HPS.out OK2.out (by rw [List.length_append]; omega) hkn
            unfold RotPost at RO
            have RO := Lib.hid RO
            rw [hkn] at KN
            simp only [if_pos] at KN
            clear hkn
            go_wp2_with (fail)
            refine RO.out.mono ?_
            rintro e w15 ⟨v, O, rfl, o15, hperm, hsrt, g15⟩
            rw [← HWL.out] at hperm hsrt
            have HRF := rot_fine hperm hsrt (fun x hx => ⟨(HWF.out.all x hx).1, (HWF.out.all x hx).2.2⟩) (by rw [HWL.out]; have := HPC.out.2.1; have := HPC.out.1.sum; have := OK2.out.coil.m1; simp only at *; omega)
            rw [← HU.out] at HRF
            obtain ⟨J2, hJ2⟩ : ∃ J2, J2 = joinL O := ⟨_, rfl⟩
            rw [← hJ2] at o15 HRF
            obtain ⟨za, zc, rfl, -, -, cZ, -⟩ := own_shape o15
            have HRF := Lib.hid HRF
            have hJ2l := HRF.out.1.len
            have HZ := Lib.hid cZ
            have hB4 := (g15.block _ (lt_of_block HB4x.out) (by simp)).trans HB4x.out
            have hB5 := (g15.block _ (lt_of_block HB5x.out) (by simp)).trans HB5x.out
            have HB5y := Lib.hid hB5
            have G15 := Lib.hid g15
            clear c0 c1 c2 d0 g15 RO cZ o15 hperm hsrt hJ2
            have c0 := blkC hB4 0 rfl
            have c1 : w15.cell? ⟨w3.heap.size, 1, none⟩ = some (.int .i64 C.most) := blkC hB4 1 rfl
            have c2 : w15.cell? ⟨w3.heap.size, 2, none⟩ = some (.slice ca C.ps.length cc) := blkC hB4 2 rfl
            have d0 := blkC hB5 0 rfl
            have hl4 := lt_of_block hB4
            have hl5 := lt_of_block hB5
            clear hB4 hB5
            go_wp2_with (fail)
            have hT18 := heap_alloc_new w15 (.cells #[.string C.prod, .int .i64 C.most, .slice za J2.length zc] 83)
            have ga := gr_alloc (gr_refl w15 none) (.cells #[.string C.prod, .int .i64 C.most, .slice za J2.length zc] 83)
            refine (KN.out _ (gr_trans G15.out ga)).mono ?_
            rintro e w17 ⟨rfl, g17⟩
            have hT17 := (g17.block _ (lt_of_block hT18) (by simp)).trans hT18
            have hB517 := (g17.block _ (lt_of_block ((ga.block _ (lt_of_block HB5y.out) (by simp)).trans HB5y.out)) (by simp)).trans ((ga.block _ (lt_of_block HB5y.out) (by simp)).trans HB5y.out)
            have HT17 := Lib.hid hT17
            have HB517 := Lib.hid hB517
            have HZ17 := Lib.hid ((HZ.out.keep0 ga).keep0 g17)
            have G17 := Lib.hid (gr_trans (gr_trans G15.out ga) g17)
            have KZ : Hid (∀ W, w17.grownBy W none → Calls Tryd.prog 52 #[.slice za J2.length zc] W fun e w' => e = .returned (.map (some W.heap.size)) ∧ MapIs w' W.heap.size J2.length (cntU U) ∧ W.grownBy w' none) := fun W g => by
              rw [← HRF.out.2.1]; exact keepUnits_any J2 za zc W (HZ17.out.keep0 g) (by omega) HRF.out.1.all (by have := HRF.out.1.ulen; omega)
            obtain ⟨T18, hT18e⟩ : ∃ T18, T18 = w15.heap.size := ⟨_, rfl⟩
            rw [← hT18e] at HT17
            rw [← hT18e]
            have e2 : w17.cell? ⟨T18, 2, none⟩ = some (.slice za J2.length zc) := blkC HT17.out 2 rfl
            clear c0 c1 c2 d0 g17 hT18 ga hT17 hB517 G15 HB5y HZ hT18e hl4 hl5
            go_wp2_with (fail)
            refine (KZ.out w17 (gr_refl _ _)).mono ?_
            rintro e w18 ⟨rfl, m18, g18⟩
            have G18 := Lib.hid g18
            obtain ⟨b1, hb1⟩ : ∃ b, b = w17.heap.size := ⟨_, rfl⟩
            rw [← hb1] at m18
            rw [← hb1]
            obtain ⟨k1, hk1, hln⟩ := m18.len
            have HK1 := Lib.hid hk1
            clear hb1 m18 g18 e2 hk1
            go_wp2_with (fail)
            refine (KU.out w18 (gr_trans (gr_trans G14.out G17.out) G18.out)).mono ?_
            rintro e w19 ⟨rfl, m19, g19⟩
            have G19 := Lib.hid (gr_trans G18.out g19)
            obtain ⟨b2, hb2⟩ : ∃ b, b = w18.heap.size := ⟨_, rfl⟩
            rw [← hb2] at m19
            rw [← hb2]
            clear hln
            obtain ⟨k2, hk2, hln⟩ := m19.len
            obtain rfl := HK1.out.one hk2
            clear hb2 m19 g19 G18 HK1 hk2
            go_wp2_with (fail)
            refine (KU.out w19 (gr_trans (gr_trans G14.out G17.out) G19.out)).mono ?_
            rintro e w20 ⟨rfl, m20, g20⟩
            have M20 := Lib.hid m20
            have G20 := Lib.hid (gr_trans G19.out g20)
            clear m20 g20 G19 hln
            obtain ⟨b3, hb3⟩ : ∃ b, b = w19.heap.size := ⟨_, rfl⟩
            rw [← hb3] at M20
            rw [← hb3]
            clear hb3
            obtain ⟨f, hf⟩ : ∃ f, f = cntU U := ⟨_, rfl⟩
            rw [← hf] at M20 KZ
            have HKB : Hid (∀ s x, f s = some x → s.size ≤ 1000000) := fun s x h => by
              rw [hf] at h
              exact cntU_key HWF.out (by rw [← HU.out]; exact h)
            clear hf KU
            go_wp2_with (first | (at_range; refine wpList_rangeSI rfl _ rfl b3 WL.length f rfl M20.out ?_; intro w21 left cnt hr hleft g21 hz21))
            go_frame
            have HR21 := Lib.hid hr
            have G21 := Lib.hid (gr_trans G20.out g21)
            have hz20 := G20.out.size
            clear hr hleft g21 hz21 G20
            obtain ⟨ib, hib⟩ : ∃ b, b = w20.heap.size := ⟨_, rfl⟩
            rw [← hib] at HR21
            rw [← hib]
            have hibl : w17.heap.size ≤ ib := by rw [hib]; exact hz20
            clear hib hz20
            go_loopw [20] (fun _ wr => ∃ left cnt, RangeIs wr b3 ib WL.length f left cnt ∧ w17.grownBy wr none) (fun _ wr => wr.rangeLeft b3 ib)
            case atStart => exact ⟨_, _, HR21.out, G21.out⟩
            case round =>
              clear HR21 G21
              obtain ⟨left, cnt, hr, hgr⟩ := hrel
              obtain ⟨wo, rfl⟩ : ∃ wo : World, wo = wr := ⟨_, rfl⟩
              go_wp2_with (first | (at_next; refine wpList_nextSI rfl _ rfl b3 ib WL.length f left cnt rfl hr ?_ ?_))
              · intro _
                have HGo := Lib.hid hgr
                have hTo := (hgr.block _ (lt_of_block HT17.out) (by simp)).trans HT17.out
                have HTo := Lib.hid hTo
                clear hgr hr hTo KZ
                go_wp2_with (fail)
                refine (stocks_any wo).mono ?_
                rintro e w22 ⟨rfl, g22⟩
                have G22 := Lib.hid (gr_trans HGo.out g22)
                have hT22 := (g22.block _ (lt_of_block HTo.out) (by simp)).trans HTo.out
                have hB522 := (G22.out.block _ (lt_of_block HB517.out) (by simp)).trans HB517.out
                have HB522 := Lib.hid hB522
                have e2 : w22.cell? ⟨T18, 2, none⟩ = some (.slice za J2.length zc) := blkC hT22 2 rfl
                have HX22 := Lib.hid (HX14.out.keep0 (gr_trans G17.out G22.out))
                have IS := Lib.hid (isSortedPc_any 54 (w3.heap.size + 1) (fun x y => (lotGet X x.lot).exp - (lotGet X y.lot).exp) J2 za zc w22 (HZ17.out.keep0 G22.out) (by omega) keepCmp_fn (fun x y W g => keepCmp_any x y X xa xc (w3.heap.size + 1) W (blkC ((g.block _ (lt_of_block HB522.out) (by simp)).trans HB522.out) 0 rfl) (HX22.out.keep0 g) (by omega) (fun k => lotGet_exp HLO.out k)) (fun i hi => by have := HRF.out.2.2 i hi; omega))
                clear g22 hT22 hB522
                go_wp2_with (fail)
                refine IS.out.mono ?_
                rintro e w23 ⟨rfl, g23⟩
                go_wp2_with (fail)
                go_ret
                exact ⟨rfl, gr_trans (gr_trans (gr_trans (gr_trans HG11.out G14.out) G17.out) G22.out) g23⟩
              · intro s x w22 cnt' hfs hl hr22 hlt g22 hz22 hen
                have HR22 := Lib.hid hr22
                have HG22 := Lib.hid (gr_grown hgr g22 (fun k hk => by cases hk; exact hibl))
                have hT22 := (HG22.out.block _ (lt_of_block HT17.out) (by simp)).trans HT17.out
                have e2 : w22.cell? ⟨T18, 2, none⟩ = some (.slice za J2.length zc) := blkC hT22 2 rfl
                have hks := HKB.out s x hfs
                have HFS := Lib.hid hfs
                have HLT := Lib.hid hlt
                have HRo := Lib.hid hr
                clear hfs hl hlt g22 hz22 hT22 hr hgr hr22
                go_wp2_with (fail)
                refine (KZ.out w22 HG22.out).mono ?_
                rintro e w23 ⟨rfl, m23, g23⟩
                have M23 := Lib.hid m23
                have HR23 := Lib.hid (HR22.out.keep0 g23)
                have HG23 := Lib.hid (gr_trans HG22.out g23)
                clear m23 g23 e2 HR22 HG22
                obtain ⟨b4, hb4⟩ : ∃ b, b = w22.heap.size := ⟨_, rfl⟩
                rw [← hb4] at M23
                rw [← hb4]
                clear hb4
                go_wp2_with (first | (at_lookup; refine wpList_getSI rfl _ _ rfl b4 J2.length f rfl M23.out s rfl hks ?_; rw [show (f s).getD 0 = x by rw [HFS.out]; rfl]))
                go_roundw
                case rel => exact ⟨_, _, HR23.out, HG23.out⟩
                case measure => rw [HR23.out.left, HRo.out.left]; exact HLT.out
        · have hn1 : 1 ≤ n := by omega
          have hsm2 := K2.out.sm.1
          have hok2 := K2.out.ok
          have hnR : n ≤ pcSum R := by rw [← HS.out]; exact hnS
          have SE2 := Lib.hid (sell_any ⟨C.prod, C.most, R⟩ ra rc w11 cR (fun e => (hrn e).2) hsm2 hok2 n hn0 (by omega) hnR)
          have hol := sellL_len R n hn0 (fun x hx => (hok2.los x hx).1)
          simp only at SE2
          obtain ⟨R2, hR2⟩ : ∃ R2, R2 = (sellL R n).2 := ⟨_, rfl⟩
          obtain ⟨O2, hO2⟩ : ∃ O2, O2 = (sellL R n).1 := ⟨_, rfl⟩
          rw [← hR2, ← hO2] at SE2
          rw [← hO2] at hol
          have HR2 := Lib.hid hR2
          have HO2 := Lib.hid hO2
          have HNR := Lib.hid hnR
          have hgl := K2.out.glen
          have hO3 : O2.length ≤ 3 := by omega
          have hG3 : G.length ≤ 120 := by omega
          clear hR2 hO2 hsm2 hok2 cR hrn hol SE hnR
          go_wp2_with (fail)
          refine SE2.out.mono ?_
          rintro e w12 ⟨v, u, rfl, r12, o12, g12⟩
          obtain ⟨sa, sc, rfl, -, -, -, -, -⟩ := r12.shape
          obtain ⟨ua, uc, rfl, -, -, -, -⟩ := own_shape o12
          have hun := own_nil o12
          obtain ⟨_, _, e1, -, -, cU, -⟩ := own_shape o12
          cases e1
          have R12 := Lib.hid r12
          have G12 := Lib.hid g12
          have HUN := Lib.hid hun
          clear SE2 r12 g12 b0 b1 b2 hun
          go_upto_region 20 with (fail)
          have hT15 := heap_alloc_new w12 (.cells #[.string C.prod, .int .i64 C.most, .slice sa R2.length sc] 83)
          have ga := gr_alloc (gr_refl w12 none) (.cells #[.string C.prod, .int .i64 C.most, .slice sa R2.length sc] 83)
          obtain ⟨w13, hw13⟩ : ∃ w13, w13 = w12.alloc (.cells #[.string C.prod, .int .i64 C.most, .slice sa R2.length sc] 83) := ⟨_, rfl⟩
          rw [← hw13] at hT15 ga
          have HZ13 : Hid (w12.heap.size ≤ w13.heap.size) := ga.size
          rw [← hw13]
          have gd := gr_drew ga
          have gotd := own_keep0 (K2.out.keep0 (gr_trans G12.out gd)).got (gr_refl _ _)
          have btd := (K2.out.keep0 (gr_trans G12.out gd)).bt
          have t15d : w13.drew.heap[w12.heap.size]? = some (.cells #[.string C.prod, .int .i64 C.most, .slice sa R2.length sc] 83 (0, 0)) := hT15
          have HCU := Lib.hid (cU.keep0 gd)
          have hbg : w9.heap.size ≤ w13.drew.heap.size := Nat.le_trans K2.out.bg (Nat.le_trans G12.out.size gd.size)
          have GD := Lib.hid gd
          have q0 := blkC t15d 0 rfl
          have q1 : w13.drew.cell? ⟨w12.heap.size, 1, none⟩ = some (.int .i64 C.most) := blkC t15d 1 rfl
          have q2 : w13.drew.cell? ⟨w12.heap.size, 2, none⟩ = some (.slice sa R2.length sc) := blkC t15d 2 rfl
          clear hw13 ga gd cU o12 hT15
          go_region_law (first
            | (refine step_appN ePc rfl _ _ rfl w9.heap.size gv G.length (flat encPc G) rfl gotd ua O2.length uc (flat encPc O2) rfl (flat_length encPc_len _) HCU.out ?_ (flat_ones encPc_one _) ?_ hbg ?_; (· exact fun e => (HUN.out e).2); (· omega); intro v14 w14 o14 g14 hl14 hf14; have bt14 := held_own gotd btd g14 (by decide); have t14 := held_own gotd t15d g14 (by decide); have q0 := blkC t14 0 rfl; have q1 : w14.cell? ⟨w12.heap.size, 1, none⟩ = some (.int .i64 C.most) := blkC t14 1 rfl; have q2 : w14.cell? ⟨w12.heap.size, 2, none⟩ = some (.slice sa R2.length sc) := blkC t14 2 rfl; have x0 := blkC bt14 0 rfl; have x1 : w14.cell? ⟨T, 1, none⟩ = some (.int .i64 C.most) := blkC bt14 1 rfl; have x2 : w14.cell? ⟨T, 2, none⟩ = some (.slice ra R.length rc) := blkC bt14 2 rfl; have f0 := blkF bt14 0; have f1 := blkF bt14 1; have f2 := blkF bt14 2)
            | fail)
          all_goals (go_wp2_with (fail))
          all_goals go_roundw
          all_goals first | (simp [intOf]; omega; done) | skip
          all_goals
            exact ⟨k + 1, R2, G ++ O2, .slice sa R2.length sc, v14, w11.heap.size, w12.heap.size, by omega, by go_num, rfl, K2.out.step hn1 hn3 HNR.out HO2.out HR2.out G12.out R12.out (gr_trans (gr_weak GD.out _) g14) (Nat.le_trans HZ13.out (g14.size)) o14 (fun k hk => (hf14 k hk).imp id (fun h => Nat.le_trans HZ13.out h))⟩
    · have hr1b : (r2 == 0) = false := by simpa using hr02
      clear HR2
      go_wp2_with (fail)
      refine (stocks_any w6).mono ?_
      rintro e w7 ⟨rfl, g7⟩
      go_wp2_with (fail)
      go_ret
      exact ⟨rfl, gr_trans (gr_trans HG4.out HG6.out) g7⟩
  · have hr1b : (r1 == 0) = false := by simpa using hr0
    clear HR1
    go_wp2_with (fail)
    refine (stocks_any w5).mono ?_
    rintro e w7 ⟨rfl, g7⟩
    go_wp2_with (fail)
    go_ret
    exact ⟨rfl, gr_trans (gr_trans HG4.out HG5.out) g7⟩
end Go.Proofs.YtdjnomeabadbnaaDoor
