/- Machine.Press. -/
import Derived.Test.YtdjnomeabadbnaaDoorMachTaken
import Derived.Test.YtdjnomeabadbnaaDoorPaid
namespace Go.Proofs.YtdjnomeabadbnaaDoor
open Go.RowKit
attribute [local go_sem ↓] Go.wp_at_zero Go.wp_at_succ

set_option maxRecDepth 100000 in
set_option maxHeartbeats 4000000 in
theorem press_any (m : Mach) (x : ByteArray) (N : Int) (base M : Nat) (tv kv sv jv ev dv : Value) (w : World) (h : MachV w base M m tv kv sv jv ev dv) (ok : MOk m N) (hN0 : 0 ≤ N) (hN : N ≤ 1000) :
    Calls Tryd.prog 31 #[.pointer (some ⟨M, 0, none⟩), .string x] w (PressPost m base M tv kv sv jv ev dv w) := by
  have htl := ok.tub.len
  have hsl := ok.s60
  have HJL := Lib.hid ok.jam
  have HDL := Lib.hid ok.sol
  have hch := ok.credh
  have hhh := ok.high
  have hc0 : 0 ≤ m.credit := by
    rw [ok.cred]
    have := sum_bound_all m.esc 0 20000 (by decide) (by decide) ok.esc
    omega
  obtain ⟨dt, hd1⟩ := und_struct (P := Tryd.prog) (t := 71) (by kernel_rfl)
  have OK := Lib.hid ok
  have H := Lib.hid h
  clear h ok
  go_enter Tryd.func31, Tryd.ntmps31
  go_wp2_with (fail)
  obtain ⟨R, hR⟩ : ∃ R, R = w.heap.size := ⟨_, rfl⟩
  have hR1 := heap_alloc_new w (.cells #[.string ⟨#[]⟩, .int .i64 0, .slice none 0 0] 71)
  have hg1 := gr_alloc (gr_refl w none) (.cells #[.string ⟨#[]⟩, .int .i64 0, .slice none 0 0] 71)
  obtain ⟨w1, hw1⟩ : ∃ w1, w1 = w.alloc (.cells #[.string ⟨#[]⟩, .int .i64 0, .slice none 0 0] 71) := ⟨_, rfl⟩
  rw [← hw1] at hR1 hg1
  rw [← hw1]
  rw [← hR] at hR1
  rw [← hR]
  have HR := Lib.hid hR
  have HR1 := Lib.hid hR1
  clear hw1 hR hR1
  refine (slot_any m x base M tv kv sv jv ev dv w1 (H.out.keep0 hg1) (by omega)).mono ?_
  rintro e w2 ⟨rfl, hg2⟩
  have hR2 := (hg2.block R (lt_of_block HR1.out) (by simp)).trans HR1.out
  have HR2 := Lib.hid hR2
  have hgr2 := gr_trans hg1 hg2
  have H2 := Lib.hid (H.out.keep0 hgr2)
  have hlR := lt_of_block hR2
  clear hR2
  rcases findA_or (fun t : Slot => t.key.toList == x.toList) m.slots with hk | ⟨k, hk, hf, _⟩
  · rw [hk]
    clear hk
    have r0 := blkC HR2.out 0 rfl
    have r1 := blkC HR2.out 1 rfl
    have r2 := blkC HR2.out 2 rfl
    have z0 := blkF HR2.out 0
    have z1 := blkF HR2.out 1
    have z2 := blkF HR2.out 2
    go_wp2_with (fail)
    refine bodyPost_ret (results_cell_slot (p := 4) (q := 5) (by kernel_rfl) _ _ R _ #[.string ⟨#[]⟩, .int .i64 0, .slice none 0 0] _ (.struct dt) _ rfl rfl (set3R_heap HR2.out _ _ _) hd1 rfl (by kernel_rfl)) rfl (.inl ⟨_, _, rfl, ⟨_, _, _, _, _, rfl⟩, by decide, ?_⟩)
    exact gr_grown hgr2 (set3R_gr _ _ _ _ _) (fun g e => by cases e; exact Nat.le_of_eq HR.out.symm)
  · rw [hf]
    clear hf
    have hsk := OK.out.slo k hk
    obtain ⟨p0, p1, n0, n1⟩ := hsk
    obtain ⟨gs, caps, rfl, hgsb, hgsl, hgsc, _⟩ := own_some H2.out.s (by omega)
    have hkj : k < m.jam.length := by have := HJL.out; omega
    obtain ⟨gj, capj, rfl, hgjb, hgjl, hgjc, _⟩ := own_some H2.out.j (by omega)
    have HRS : Hid (R ≠ gs) := by
      show _
      intro e
      have := own_ne H2.out.s HR2.out (by decide)
      exact this (by rw [e]; rfl)
    obtain ⟨q1, _, _⟩ := own_cellE encSlot_len H2.out.s k hk 1 (by decide) (.string (slotAt m.slots k).prod) (by rw [slotAt_get hk]; rfl) rfl
    obtain ⟨q2, _, _⟩ := own_cellE encSlot_len H2.out.s k hk 2 (by decide) (.int .i64 (slotAt m.slots k).price) (by rw [slotAt_get hk]; rfl) rfl
    obtain ⟨q4, _, _⟩ := own_cellE encSlot_len H2.out.s k hk 4 (by decide) (.int .i64 (slotAt m.slots k).count) (by rw [slotAt_get hk]; rfl) rfl
    have j0 : w2.cell? ⟨gj, k, none⟩ = some (.bool (m.jam.getD k false)) := by
      rw [H2.out.j.cellAt k (by omega)]
      simp [bools, List.getD_eq_getElem?_getD, List.getElem?_eq_getElem (show k < m.jam.length by omega)]
    obtain ⟨c2, _⟩ := mb2 H2.out.blk
    obtain ⟨c4, _⟩ := mb4 H2.out.blk
    obtain ⟨c12, _⟩ := mb12 H2.out.blk
    obtain ⟨s, hs⟩ : ∃ s, s = slotAt m.slots k := ⟨_, rfl⟩
    rw [← hs] at q1 q2 q4 p0 p1 n0 n1
    have HSE := Lib.hid hs
    clear hs
    obtain ⟨jb, hjb⟩ : ∃ b, b = m.jam.getD k false := ⟨_, rfl⟩
    rw [← hjb] at j0
    clear hjb
    cases jb with
    | true =>
      have r0 := blkC HR2.out 0 rfl
      have r1 := blkC HR2.out 1 rfl
      have r2 := blkC HR2.out 2 rfl
      have z0 := blkF HR2.out 0
      have z1 := blkF HR2.out 1
      have z2 := blkF HR2.out 2
      go_wp2_with (fail)
      refine bodyPost_ret (results_cell_slot (p := 4) (q := 5) (by kernel_rfl) _ _ R _ #[.string ⟨#[]⟩, .int .i64 0, .slice none 0 0] _ (.struct dt) _ rfl rfl (set3R_heap HR2.out _ _ _) hd1 rfl (by kernel_rfl)) rfl (.inl ⟨_, _, rfl, ⟨_, _, _, _, _, rfl⟩, by decide, ?_⟩)
      exact gr_grown hgr2 (set3R_gr _ _ _ _ _) (fun g e => by cases e; exact Nat.le_of_eq HR.out.symm)
    | false =>
      by_cases hcz : s.count = 0
      · rw [hcz] at q4
        have r0 := blkC HR2.out 0 rfl
        have r1 := blkC HR2.out 1 rfl
        have r2 := blkC HR2.out 2 rfl
        have z0 := blkF HR2.out 0
        have z1 := blkF HR2.out 1
        have z2 := blkF HR2.out 2
        go_wp2_with (fail)
        refine bodyPost_ret (results_cell_slot (p := 4) (q := 5) (by kernel_rfl) _ _ R _ #[.string ⟨#[]⟩, .int .i64 0, .slice none 0 0] _ (.struct dt) _ rfl rfl (set3R_heap HR2.out _ _ _) hd1 rfl (by kernel_rfl)) rfl (.inl ⟨_, _, rfl, ⟨_, _, _, _, _, rfl⟩, by decide, ?_⟩)
        exact gr_grown hgr2 (set3R_gr _ _ _ _ _) (fun g e => by cases e; exact Nat.le_of_eq HR.out.symm)
      · by_cases hpr : m.credit < s.price
        · have hR3 : ∀ n, (w2.drewN n).heap[R]? = _ := fun _ => HR2.out
          go_wp2_with (fail)
          go_quiet (fail)
          have HR3 := Lib.hid (hR3 nq)
          clear hR3
          have r0 := blkC HR3.out 0 rfl
          have r1 := blkC HR3.out 1 rfl
          have r2 := blkC HR3.out 2 rfl
          have z0 := blkF HR3.out 0
          have z1 := blkF HR3.out 1
          have z2 := blkF HR3.out 2
          go_wp2_with (fail)
          refine bodyPost_ret (results_cell_slot (p := 4) (q := 5) (by kernel_rfl) _ _ R _ #[.string ⟨#[]⟩, .int .i64 0, .slice none 0 0] _ (.struct dt) _ rfl rfl (set3R_heap HR3.out _ _ _) hd1 rfl (by kernel_rfl)) rfl (.inl ⟨_, _, rfl, ⟨_, _, _, _, _, rfl⟩, by decide, ?_⟩)
          exact gr_grown (gr_drewN hgr2 _) (set3R_gr _ _ _ _ _) (fun g e => by cases e; exact Nat.le_of_eq HR.out.symm)
        · go_wp2_with (fail)
          go_quiet (fail)
          go_wp2_with (fail)
          have g3 := gr_drewN (gr_refl w2 none) nq
          obtain ⟨w3, hw3⟩ : ∃ w3, w3 = w2.drewN nq := ⟨_, rfl⟩
          rw [← hw3] at g3
          rw [← hw3]
          clear hw3
          have H3 := Lib.hid (H2.out.keep0 g3)
          refine (taken_any m base M tv kv _ _ ev dv w3 H3.out OK.out.tub OK.out.esc (by have := OK.out.elen; omega)).mono ?_
          rintro e w4 ⟨v8, add, rest, rfl, hadd, hr0, hsum, hown8, hg4⟩
          have hrb := restT_bound m.tubes add OK.out.tub hadd
          have hsl8 := settled_len m.tubes add hadd.1
          have hso8 := settled_ok m.tubes add OK.out.tub hadd
          have hrr : rest ≤ 20000 := by
            have h1 : 0 ≤ worthM m.tubes add := by
              exact worthM_nonneg OK.out.tub hadd
            have := OK.out.cred
            omega
          have g34 := gr_trans g3 hg4
          have hgr4 := gr_trans hgr2 g34
          have H4 := Lib.hid (H3.out.keep0 hg4)
          have HO8 := Lib.hid (own_base hown8 (Nat.le_trans hgr2.size g3.size))
          have HADD := Lib.hid hadd; have HSUM := Lib.hid hsum; have HSO := Lib.hid hso8; have HSL := Lib.hid hsl8
          clear hadd hsum hown8 hso8 hsl8 c2 c4 c12 j0 q1 q2 q4
          obtain ⟨RT, hRT⟩ : ∃ z, z = rest + restT m.tubes add := ⟨_, rfl⟩
          rw [← hRT]
          have hrt0 : 0 ≤ RT := by omega
          have hrt1 : RT ≤ 100000020000 := by omega
          have HRT := Lib.hid hRT
          clear hRT hrb
          obtain ⟨c12, _⟩ := mb12 H4.out.blk
          obtain ⟨q2, _, _⟩ := own_cellE encSlot_len H4.out.s k hk 2 (by decide) (.int .i64 (slotAt m.slots k).price) (by rw [slotAt_get hk]; rfl) rfl
          rw [← HSE.out] at q2
          obtain ⟨a8, c8, rfl, _, _, hc8, _⟩ := own_shape HO8.out
          have HC8 := Lib.hid hc8
          clear hc8
          obtain ⟨A, hA⟩ : ∃ A : Nat, m.credit - s.price = A := ⟨(m.credit - s.price).toNat, by omega⟩
          have HA := Lib.hid hA
          clear hA
          go_wp2_with (fail)
          go_quiet (fail)
          go_wp2_with (fail)
          rw [HA.out]
          have g5 := gr_drewN (gr_refl w4 none) nq
          obtain ⟨w5, hw5⟩ : ∃ w5, w5 = w4.drewN nq := ⟨_, rfl⟩
          rw [← hw5] at g5
          rw [← hw5]
          clear hw5
          have hpaid := paid_any (settledT m.tubes add) A a8 c8 w5 (HC8.out.keep0 g5) HSO.out (by have := HA.out; omega)
          rw [HSL.out] at hpaid
          refine hpaid.mono ?_
          clear hpaid
          rintro e w6 ⟨RW, _, hg6, hcase⟩
          have g56 := gr_trans g5 hg6
          have H6 := Lib.hid (H4.out.keep0 g56)
          have HO6 := Lib.hid (own_keep0 HO8.out g56)
          have hgr6 := gr_trans hgr4 g56
          have HR6 := Lib.hid (((gr_trans g34 g56).block R hlR (by simp)).trans HR2.out)
          rcases hcase with ⟨_, rfl⟩ | ⟨_, v11, f, rfl, hown11, hfb, hfw, _⟩
          · 
            have r0 := blkC HR6.out 0 rfl
            have r1 := blkC HR6.out 1 rfl
            have r2 := blkC HR6.out 2 rfl
            have z0 := blkF HR6.out 0
            have z1 := blkF HR6.out 1
            have z2 := blkF HR6.out 2
            go_wp2_with (fail)
            refine bodyPost_ret (results_cell_slot (p := 4) (q := 5) (by kernel_rfl) _ _ R _ #[.string ⟨#[]⟩, .int .i64 0, .slice none 0 0] _ (.struct dt) _ rfl rfl (set3R_heap HR6.out _ _ _) hd1 rfl (by kernel_rfl)) rfl (.inl ⟨_, _, rfl, ⟨_, _, _, _, _, rfl⟩, by decide, ?_⟩)
            exact gr_grown hgr6 (set3R_gr _ _ _ _ _) (fun g e => by cases e; exact Nat.le_of_eq HR.out.symm)
          · rw [HSL.out] at hown11 hfb
            have hfl := own_len hown11
            obtain ⟨a11, c11, rfl, _, _, hc11, _⟩ := own_shape hown11
            have H11 := Lib.hid hown11
            have HC11 := Lib.hid hc11
            have HFB := Lib.hid hfb; have HFW := Lib.hid hfw
            have HFL := Lib.hid hfl
            clear hown11 hc11 hfb hfw q2 c12
            have hlR6 := lt_of_block HR6.out
            go_wp2_with (fail)
            go_loopw [79] (fun c wr => ∃ i : Nat, i ≤ m.tubes.length ∧ c = .int .i64 i ∧ wr.ownsRow w.heap.size 41 3 (.slice a8 m.tubes.length c8) m.tubes.length (tubes (lessTo (settledT m.tubes add) f i)) ∧ w6.grownBy wr (Value.slice a8 m.tubes.length c8).ownBlock)
              (fun c _ => m.tubes.length - (intOf c).toNat)
            case atStart => exact ⟨0, Nat.zero_le _, rfl, HO6.out, gr_refl _ _⟩
            case round =>
              obtain ⟨i, hi, rfl, hown, hgr⟩ := hrel
              obtain ⟨wo, rfl⟩ : ∃ wo : World, wo = wr := ⟨_, rfl⟩
              by_cases hlt : i < m.tubes.length
              · have hll := lessTo_len (settledT m.tubes add) f i
                rw [HSL.out] at hll
                obtain ⟨g8, cap8, he8, hg8b, _, _, _⟩ := own_some hown (by omega)
                cases he8
                have hat := lessTo_at (settledT m.tubes add) f i i (Nat.le_refl _) (by rw [HSL.out]; omega)
                obtain ⟨e1, f1, st1⟩ := own_cellE encTube_len hown i (by rw [hll]; exact hlt) 1 (by decide) (.int .i64 (tubeAt (lessTo (settledT m.tubes add) f i) i).count) (by rw [tubeAt_get (by rw [hll]; exact hlt)]; rfl) hll
                have st2 := st1 (.int .i64 ((tubeAt (lessTo (settledT m.tubes add) f i) i).count - f.getD i 0)) ⟨(tubeAt (lessTo (settledT m.tubes add) f i) i).value, (tubeAt (lessTo (settledT m.tubes add) f i) i).count + - f.getD i 0, (tubeAt (lessTo (settledT m.tubes add) f i) i).most⟩ (by rw [← tubeAt_get (by rw [hll]; exact hlt)]; rfl)
                have hst : (wo.setCell ⟨g8, i * 3 + 1, none⟩ (.int .i64 ((tubeAt (lessTo (settledT m.tubes add) f i) i).count - f.getD i 0))).ownsRow w.heap.size 41 3 (.slice (some ⟨g8, 0, none⟩) m.tubes.length c8) m.tubes.length (tubes (lessTo (settledT m.tubes add) f (i + 1))) := st2
                have hb11 : CellsAt wo a11 (ints f) := own_cells0 (own_keepU H11.out HO6.out (by decide) hgr)
                obtain ⟨b11, o11, rfl, d0⟩ := hb11 i _ (ints_get f i (by rw [HFL.out]; exact hlt))
                have hfi := HFB.out i hlt
                have hb8 := HSO.out.ok i (by rw [HSL.out]; exact hlt)
                have t1 := hb8.c0
                have t2 := hb8.c1
                have t3 := hb8.m1
                rw [hat] at e1 hst
                obtain ⟨y, hy⟩ : ∃ y, y = f.getD i 0 := ⟨_, rfl⟩
                obtain ⟨z, hz⟩ : ∃ z, z = (tubeAt (settledT m.tubes add) i).count := ⟨_, rfl⟩
                rw [← hy] at d0 hfi hst
                rw [← hz] at e1 hst t1 t2 hfi
                have HST := Lib.hid hst
                clear hst st1 st2 hat hb8 hy hz hb11
                go_wp2_with (fail)
                go_roundw
                case rel => exact ⟨i + 1, by omega, by go_num, HST.out, gr_set (q := ⟨g8, i * 3 + 1, none⟩) hgr rfl _⟩
                case measure => simp [intOf]; omega
              · obtain rfl : i = m.tubes.length := by omega
                have hgro := gr_grown hgr6 hgr (fun z hz => own_ge HO8.out hz)
                have HGO := Lib.hid hgro
                have hO := H.out.keep0 hgro
                have hRo := (hgr.block R hlR6 (fun e => own_ne HO6.out HR6.out (by decide) e.symm)).trans HR6.out
                have HRO := Lib.hid hRo
                have HOW := Lib.hid hown
                have HO := Lib.hid hO
                clear hgro hRo hown hgr
                have hM := hO.blk
                clear hO
                obtain ⟨c0, z0⟩ := mb0 hM
                obtain ⟨c5, z5⟩ := mb5 hM
                obtain ⟨c6, z6⟩ := mb6 hM
                obtain ⟨c7, z7⟩ := mb7 hM
                obtain ⟨c8', z8⟩ := mb8 hM
                obtain ⟨c11', z11⟩ := mb11 hM
                obtain ⟨c12, z12⟩ := mb12 hM
                clear hM
                have hinn := OK.out.inn
                have hout := OK.out.out
                have hbox := OK.out.box
                go_wp2_with (fail)
                have hll := lessTo_len (settledT m.tubes add) f m.tubes.length
                rw [HSL.out] at hll
                have hrow : wo.ownsRow base 41 3 (.slice a8 m.tubes.length c8) (lessTo (settledT m.tubes add) f m.tubes.length).length (tubes (lessTo (settledT m.tubes add) f m.tubes.length)) := by
                  rw [hll]
                  exact own_base HOW.out (Nat.le_trans HO.out.low (Nat.le_of_lt (lt_of_block H.out.blk)))
                have h19 := HO.out.newTubes hrow
                have s20 := heap_setCell_same _ M 11 _ _ (.int .i64 (m.box + RT)) h19.blk
                have gs20 := gr_set (q := ⟨M, 11, none⟩) (gr_refl (wo.setCell ⟨M, 0, none⟩ (.slice a8 m.tubes.length c8)) (some M)) rfl (.int .i64 (m.box + RT))
                have h20 := h19.own gs20 s20
                have g20 := gr_trans (gr_set (q := ⟨M, 0, none⟩) (gr_refl wo (some M)) rfl (.slice a8 m.tubes.length c8)) gs20
                obtain ⟨w20, hw20⟩ : ∃ w20, w20 = (wo.setCell ⟨M, 0, none⟩ (.slice a8 m.tubes.length c8)).setCell ⟨M, 11, none⟩ (.int .i64 (m.box + RT)) := ⟨_, rfl⟩
                rw [← hw20] at h20 g20
                rw [← hw20]
                have H20 := Lib.hid h20
                have G20 := Lib.hid g20
                clear hw20 h20 g20 h19 s20 gs20 hrow c0 z0 c5 z5 c6 z6 c7 z7 c8' z8 c11' z11 c12 z12
                have hM := H20.out.blk
                obtain ⟨c7, z7⟩ := mb7 hM
                obtain ⟨c12, z12⟩ := mb12 hM
                clear hM
                have hwr : IntKind.i64.wrap (m.inn + m.credit) = m.inn + m.credit := IntWalk.i64_in _ ⟨by omega, by omega⟩
                have HWR := Lib.hid hwr
                clear hwr
                go_upto_region 21 with (fail)
                go_cut [118] from 108 to 122 (fun _ wx => wx = (w20.setCell ⟨M, 7, none⟩ (.int .i64 (m.inn + m.credit))).drew)
                case first =>
                  go_region_law (fail)
                  all_goals (try (rw [HWR.out]))
                  all_goals (go_wp2_with (fail); go_meet; exact rfl)
                case rest =>
                obtain ⟨⟩ := hcut
                have s21 := heap_setCell_same w20 M 7 _ _ (.int .i64 (m.inn + m.credit)) H20.out.blk
                have gs21 := gr_set (q := ⟨M, 7, none⟩) (gr_refl w20 (some M)) rfl (.int .i64 (m.inn + m.credit))
                have gd21 := gr_drew (gr_refl (w20.setCell ⟨M, 7, none⟩ (.int .i64 (m.inn + m.credit))) none)
                have h21 := (H20.out.own gs21 s21).keep0 gd21
                have g21 := gr_trans gs21 (gr_weak gd21 (some M))
                obtain ⟨w21, hw21⟩ : ∃ w21, w21 = (w20.setCell ⟨M, 7, none⟩ (.int .i64 (m.inn + m.credit))).drew := ⟨_, rfl⟩
                rw [← hw21] at h21 g21
                rw [← hw21]
                have H21 := Lib.hid h21
                have G21 := Lib.hid (gr_trans G20.out g21)
                clear hw21 s21 gs21 gd21 h21 g21 c7 z7 c12 z12
                have hM := H21.out.blk
                obtain ⟨c8', z8⟩ := mb8 hM
                obtain ⟨c12, z12⟩ := mb12 hM
                obtain ⟨c5, z5⟩ := mb5 hM
                clear hM
                have hAb : (A : Int) ≤ 20000 := by have := HA.out; omega
                go_upto_region 24 with (fail)
                have s22 := heap_setCell_same w21 M 8 _ _ (.int .i64 (m.out + A)) H21.out.blk
                have gs22 := gr_set (q := ⟨M, 8, none⟩) (gr_refl w21 (some M)) rfl (.int .i64 (m.out + A))
                have h22 := H21.out.own gs22 s22
                have s23 := heap_setCell_same _ M 12 _ _ (.int .i64 0) h22.blk
                have gs23 := gr_set (q := ⟨M, 12, none⟩) (gr_refl (w21.setCell ⟨M, 8, none⟩ (.int .i64 (m.out + A))) (some M)) rfl (.int .i64 0)
                have h23 := (h22.own gs23 s23).noEsc
                have gs23' := gr_set (q := ⟨M, 5, none⟩) (gr_trans gs22 gs23) rfl (.slice none 0 0)
                obtain ⟨w23, hw23⟩ : ∃ w23, w23 = ((w21.setCell ⟨M, 8, none⟩ (.int .i64 (m.out + A))).setCell ⟨M, 12, none⟩ (.int .i64 0)).setCell ⟨M, 5, none⟩ (.slice none 0 0) := ⟨_, rfl⟩
                rw [← hw23] at h23 gs23'
                rw [← hw23]
                obtain ⟨m23, hm23⟩ : ∃ m23 : Mach, m23 = ⟨lessTo (settledT m.tubes add) f m.tubes.length, m.takes, m.slots, m.high, m.jam, [], m.sold, m.inn + m.credit, m.out + A, m.filled, m.collected, m.box + RT, 0⟩ := ⟨_, rfl⟩
                have h23' : MachV w23 base M m23 (.slice a8 m.tubes.length c8) kv (.slice (some ⟨gs, 0, none⟩) m.slots.length caps) (.slice (some ⟨gj, 0, none⟩) m.jam.length capj) (.slice none 0 0) dv := by
                  rw [hm23]
                  exact h23
                have hm1 : m23.sold = m.sold := by rw [hm23]
                have hm2 : m23.slots = m.slots := by rw [hm23]
                have HM23 := Lib.hid hm23
                clear h23 hm23
                have h23 := h23'
                have H23 := Lib.hid h23
                clear h23'
                have G23 := Lib.hid (gr_trans G21.out gs23')
                clear hw23 s22 gs22 h22 s23 gs23 h23 gs23' c8' z8 c12 z12 c5 z5
                have hkd : k < m.sold.length := by have := HDL.out; omega
                have hsv := OK.out.sval _ (List.getElem_mem hkd)
                rw [← tallyAt_get hkd] at hsv
                obtain ⟨y0, y1, y2, y3⟩ := hsv
                have d23 : w23.ownsRow base 79 3 dv m.sold.length (flat encTally m.sold) := by have := H23.out.d; rw [hm1] at this; exact this
                obtain ⟨gd, capd, rfl, _, _, hgdc, _⟩ := own_some d23 (by omega)
                obtain ⟨c6, _⟩ := mb6 H23.out.blk
                obtain ⟨e1, f1, st1⟩ := own_cellE encTally_len d23 k hkd 1 (by decide) (.int .i64 (tallyAt m.sold k).many) (by rw [tallyAt_get hkd]; rfl) rfl
                have st2 := st1 (.int .i64 ((tallyAt m.sold k).many + 1)) ⟨(tallyAt m.sold k).key, (tallyAt m.sold k).many + 1, (tallyAt m.sold k).value⟩ (by rw [← tallyAt_get hkd]; rfl)
                have gs24 := gr_set (q := ⟨gd, k * 3 + 1, none⟩) (gr_refl w23 (some gd)) rfl (.int .i64 ((tallyAt m.sold k).many + 1))
                have h24 := H23.out.solded (m.sold.set k ⟨(tallyAt m.sold k).key, (tallyAt m.sold k).many + 1, (tallyAt m.sold k).value⟩) (by simp) gs24 st2
                clear d23
                obtain ⟨d, hd⟩ : ∃ d, d = tallyAt m.sold k := ⟨_, rfl⟩
                rw [← hd] at e1 y0 y1 y2 y3 h24 gs24
                have HD := Lib.hid hd
                have H24 := Lib.hid h24
                have GS24 := Lib.hid gs24
                rw [← hd] at st2
                clear hd h24 gs24 st1
                go_upto_region 25 with (fail)
                obtain ⟨w24, hw24⟩ : ∃ w24, w24 = w23.setCell ⟨gd, k * 3 + 1, none⟩ (.int .i64 (d.many + 1)) := ⟨_, rfl⟩
                rw [← hw24] at H24 GS24 st2
                rw [← hw24]
                clear hw24 e1 f1 c6
                obtain ⟨S1, hS1⟩ : ∃ S1, S1 = m.sold.set k ⟨d.key, d.many + 1, d.value⟩ := ⟨_, rfl⟩
                rw [← hS1] at st2 H24
                have hS1l : S1.length = m.sold.length := by rw [hS1]; simp
                have hS1k : k < S1.length := by omega
                have hS1g : S1[k] = ⟨d.key, d.many + 1, d.value⟩ := by simp [hS1]
                obtain ⟨c6, _⟩ := mb6 H24.out.blk
                obtain ⟨e2, f2, st3⟩ := own_cellE encTally_len st2 k hS1k 2 (by decide) (.int .i64 d.value) (by rw [hS1g]; rfl) hS1l
                have st4 := st3 (.int .i64 (d.value + s.price)) ⟨d.key, d.many + 1, d.value + s.price⟩ (by rw [hS1g]; rfl)
                rw [hS1, List.set_set] at st4
                have gs25 := gr_set (q := ⟨gd, k * 3 + 2, none⟩) (gr_refl w24 (some gd)) rfl (.int .i64 (d.value + s.price))
                have gd25 := gr_drew (gr_refl (w24.setCell ⟨gd, k * 3 + 2, none⟩ (.int .i64 (d.value + s.price))) none)
                have h25 : MachV ((w24.setCell ⟨gd, k * 3 + 2, none⟩ (.int .i64 (d.value + s.price))).drew) base M { m23 with sold := m.sold.set k ⟨d.key, d.many + 1, d.value + s.price⟩ } (.slice a8 m.tubes.length c8) kv (.slice (some ⟨gs, 0, none⟩) m.slots.length caps) (.slice (some ⟨gj, 0, none⟩) m.jam.length capj) (.slice none 0 0) (.slice (some ⟨gd, 0, none⟩) m.sold.length capd) := (H24.out.solded (m.sold.set k ⟨d.key, d.many + 1, d.value + s.price⟩) (by simp) gs25 st4).keep0 gd25
                have g25 := gr_trans gs25 (gr_weak gd25 (some gd))
                have sv24 : w24.ownsRow base 43 5 (.slice (some ⟨gs, 0, none⟩) m.slots.length caps) m.slots.length (flat encSlot m.slots) := by have := H24.out.s; rw [show Mach.slots { m23 with sold := S1 } = m.slots from hm2] at this; exact this
                obtain ⟨q2, _, _⟩ := own_cellE encSlot_len sv24 k hk 2 (by decide) (.int .i64 (slotAt m.slots k).price) (by rw [slotAt_get hk]; rfl) rfl
                rw [← HSE.out] at q2
                have HH25 := Lib.hid h25
                have GG25 := Lib.hid g25
                clear h25 g25 gs25 gd25 st3 st4 sv24
                have hwr2 : IntKind.i64.wrap (d.value + s.price) = d.value + s.price := IntWalk.i64_in _ ⟨by omega, by omega⟩
                have HWR2 := Lib.hid hwr2
                clear hwr2
                have HST2 := Lib.hid st2
                have HS1 := Lib.hid hS1
                clear st2 hS1
                go_cut [164] from 151 to 167 (fun _ wx => wx = (w24.setCell ⟨gd, k * 3 + 2, none⟩ (.int .i64 (d.value + s.price))).drew)
                case first =>
                  go_region_law (fail)
                  all_goals (try (rw [HWR2.out]))
                  all_goals (go_wp2_with (fail); go_meet; exact rfl)
                case rest =>
                obtain ⟨⟩ := hcut
                obtain ⟨w25, hw25⟩ : ∃ w25, w25 = (w24.setCell ⟨gd, k * 3 + 2, none⟩ (.int .i64 (d.value + s.price))).drew := ⟨_, rfl⟩
                rw [← hw25] at HH25 GG25
                rw [← hw25]
                clear hw25 c6 e2 f2 q2
                have sv25 : w25.ownsRow base 43 5 (.slice (some ⟨gs, 0, none⟩) m.slots.length caps) m.slots.length (flat encSlot m.slots) := by have := HH25.out.s; rw [show Mach.slots { m23 with sold := m.sold.set k ⟨d.key, d.many + 1, d.value + s.price⟩ } = m.slots from hm2] at this; exact this
                obtain ⟨q4, f4, st4⟩ := own_cellE encSlot_len sv25 k hk 4 (by decide) (.int .i64 (slotAt m.slots k).count) (by rw [slotAt_get hk]; rfl) rfl
                have st5 := st4 (.int .i64 ((slotAt m.slots k).count - 1)) ⟨(slotAt m.slots k).key, (slotAt m.slots k).prod, (slotAt m.slots k).price, (slotAt m.slots k).most, (slotAt m.slots k).count - 1⟩ (by rw [← slotAt_get hk]; rfl)
                rw [← HSE.out] at q4 st5
                have gs26 := gr_set (q := ⟨gs, k * 5 + 4, none⟩) (gr_refl w25 (some gs)) rfl (.int .i64 (s.count - 1))
                have h26 := HH25.out.slotted (m.slots.set k ⟨s.key, s.prod, s.price, s.most, s.count - 1⟩) (by simp) gs26 st5
                have HH26 := Lib.hid h26
                have GG26 := Lib.hid gs26
                have HST5 := Lib.hid st5
                clear h26 gs26 st4 st5 sv25
                go_upto_region 27 with (fail)
                obtain ⟨w26, hw26⟩ : ∃ w26, w26 = w25.setCell ⟨gs, k * 5 + 4, none⟩ (.int .i64 (s.count - 1)) := ⟨_, rfl⟩
                rw [← hw26] at HH26 GG26 HST5
                rw [← hw26]
                clear hw26 q4 f4
                have hRM : ∀ {w' : World} {tg : Nat}, w'.heap[R]? = some (.cells #[.string ⟨#[]⟩, .int .i64 0, .slice none 0 0] 71 (0, 0)) → (∀ cs, w'.heap[tg]? = some (.cells cs 71 (0, 0)) → False) → some R ≠ some tg := by
                  intro w' tg h1 h2 e
                  injection e with e
                  exact h2 _ (e ▸ h1)
                have hR23 := (G23.out.block R (lt_of_block HRO.out) (hRM HRO.out (fun cs hc => by rw [HO.out.blk] at hc; injection hc with hc; injection hc with _ hc; exact absurd hc (by decide)))).trans HRO.out
                have hR24 := (GS24.out.block R (lt_of_block hR23) (fun e => own_ne H23.out.d hR23 (by decide) (by rw [e]; rfl))).trans hR23
                have hR25 := (GG25.out.block R (lt_of_block hR24) (fun e => own_ne H24.out.d hR24 (by decide) (by rw [e]; rfl))).trans hR24
                have hR26 := (GG26.out.block R (lt_of_block hR25) (fun e => own_ne HH25.out.s hR25 (by decide) (by rw [e]; rfl))).trans hR25
                obtain ⟨L, hL⟩ : ∃ L, L = m.slots.set k ⟨s.key, s.prod, s.price, s.most, s.count - 1⟩ := ⟨_, rfl⟩
                have hLl : L.length = m.slots.length := by rw [hL]; simp
                have hLk : k < L.length := by omega
                have hLg : L[k] = ⟨s.key, s.prod, s.price, s.most, s.count - 1⟩ := by simp [hL]
                have hs5 := HST5.out
                rw [← hL] at hs5
                obtain ⟨q1, _, _⟩ := own_cellE encSlot_len hs5 k hLk 1 (by decide) (.string s.prod) (by rw [hLg]; rfl) hLl
                obtain ⟨q2, _, _⟩ := own_cellE encSlot_len hs5 k hLk 2 (by decide) (.int .i64 s.price) (by rw [hLg]; rfl) hLl
                have r0 := blkC hR26 0 rfl
                have r1 := blkC hR26 1 rfl
                have r2 := blkC hR26 2 rfl
                have z0 := blkF hR26 0
                have z1 := blkF hR26 1
                have z2 := blkF hR26 2
                have HR26 := Lib.hid hR26
                have HR23 := Lib.hid hR23; have HR24 := Lib.hid hR24; have HR25 := Lib.hid hR25
                have HL := Lib.hid hL
                clear hR23 hR24 hR25 hR26 hs5 hL hRM
                obtain ⟨w27, hw27⟩ : ∃ w27, w27 = (((w26.setCell ⟨R, 0, none⟩ (.string s.prod)).setCell ⟨R, 1, none⟩ (.int .i64 s.price)).setCell ⟨R, 2, none⟩ (.slice a11 m.tubes.length c11)).drew := ⟨_, rfl⟩
                have g27 : w26.grownBy w27 (some R) := by rw [hw27]; exact gr_drew (set3R_gr w26 R _ _ _)
                have hR27 : w27.heap[R]? = some (.cells #[.string s.prod, .int .i64 s.price, .slice a11 m.tubes.length c11] 71 (0, 0)) := by rw [hw27]; exact set3R_heap HR26.out _ _ _
                have hh := HH26.out.keepOff HR26.out (by decide) g27
                have HH := Lib.hid hh
                have G27 := Lib.hid g27
                have HR27 := Lib.hid hR27
                have HW27 := Lib.hid hw27
                clear hh g27 hR27 hw27
                go_cut [5] from 174 to 184 (fun v wx => v = .int .i64 0 ∧ wx = w27)
                case first =>
                  go_region_law (fail)
                  all_goals (go_wp2_with (fail); go_meet; exact ⟨rfl, HW27.out.symm⟩)
                case rest =>
                obtain ⟨rfl, hcw⟩ := hcut
                subst hcw
                have hA2 := HA.out
                go_wp2_with (fail)
                refine bodyPost_ret (results_cell_slot (p := 4) (q := 5) (by kernel_rfl) _ _ R _ #[_, _, _] _ (.struct dt) _ rfl rfl HR27.out hd1 rfl (by kernel_rfl)) rfl (.inr ⟨_, rfl, ⟨_, _, _, _, _, rfl⟩, k, add, f, rest, .slice a8 m.tubes.length c8, hk, HADD.out, hr0, HSUM.out, HFL.out, HFB.out, ?_, ?_, ?_, ?_, ?_⟩)
                · rw [← HSE.out]; omega
                · rw [← HSE.out]; omega
                · rw [← HSE.out, hA2]; exact HFW.out
                · have hm : PressM m k add f rest = { m23 with sold := m.sold.set k ⟨d.key, d.many + 1, d.value + s.price⟩, slots := m.slots.set k ⟨s.key, s.prod, s.price, s.most, s.count - 1⟩ } := by
                    rw [HM23.out]
                    unfold PressM
                    rw [← HRT.out, ← HSE.out, ← HD.out, hA2]
                  rw [hm]
                  exact HH.out
                · refine grS.next (grS.next (grS.next (grS.next (grS.next (grS.none HGO.out) G23.out ?_) GS24.out ?_) GG25.out ?_) GG26.out ?_) G27.out ?_
                  · intro z hz; injection hz with hz; exact .inl (.inl hz.symm)
                  · intro z hz; exact .inl (.inr (.inr (.inr (.inr hz))))
                  · intro z hz; exact .inl (.inr (.inr (.inr (.inr hz))))
                  · intro z hz; exact .inl (.inr (.inr (.inl hz)))
                  · intro z hz; injection hz with hz; exact .inr (by rw [← hz, HR.out]; exact Nat.le_refl _)
end Go.Proofs.YtdjnomeabadbnaaDoor
