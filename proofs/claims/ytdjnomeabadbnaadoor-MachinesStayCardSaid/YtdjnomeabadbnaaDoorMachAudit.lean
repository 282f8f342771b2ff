/- Machine.Audit. -/
import Derived.Test.YtdjnomeabadbnaaDoorMach
namespace Go.Proofs.YtdjnomeabadbnaaDoor
open Go.RowKit
attribute [local go_sem ↓] Go.wp_at_zero Go.wp_at_succ

def AuditPost (m : Mach) (w : World) (e : Ending) (w' : World) : Prop :=
  ∃ sv tv, e = .returned (.agg #[sv, .int .i64 m.inn, .int .i64 m.out, .int .i64 m.filled, .int .i64 m.collected, .int .i64 m.box, .int .i64 m.credit, tv]) ∧
    w'.ownsRow w.heap.size 79 3 sv m.sold.length (flat encTally m.sold) ∧ w'.ownsRow w.heap.size 41 3 tv m.tubes.length (tubes m.tubes) ∧ w.grownBy w' none
set_option maxRecDepth 100000 in
set_option maxHeartbeats 4000000 in
theorem audit_any (m : Mach) (base M : Nat) (tv kv sv jv ev dv : Value) (w : World) (h : MachV w base M m tv kv sv jv ev dv) (ht : m.tubes.length ≤ 1000) (hs : m.sold.length ≤ 1000) :
    Calls Tryd.prog 15 #[.pointer (some ⟨M, 0, none⟩)] w (AuditPost m w) := by
  obtain ⟨dt, hd1⟩ := und_struct (P := Tryd.prog) (t := 46) (by kernel_rfl)
  obtain ⟨c6, _⟩ := mb6 h.blk
  obtain ⟨c7, _⟩ := mb7 h.blk
  obtain ⟨c8, _⟩ := mb8 h.blk
  obtain ⟨c9, _⟩ := mb9 h.blk
  obtain ⟨c10, _⟩ := mb10 h.blk
  obtain ⟨c11, _⟩ := mb11 h.blk
  obtain ⟨c12, _⟩ := mb12 h.blk
  obtain ⟨c13, _⟩ := mb13 h.blk
  obtain ⟨da, dc, rfl, _, _, hdc, _⟩ := own_shape h.d
  obtain ⟨ta, tc, rfl, _, _, htc, _⟩ := own_shape h.t
  have hMl := lt_of_block h.blk
  have H := Lib.hid h
  have HDC := Lib.hid hdc
  have HTC := Lib.hid htc
  have hnD := own_nil h.d
  have hnT := own_nil h.t
  clear h hdc htc
  go_enter Tryd.func15, Tryd.ntmps15
  go_wp2_with (fail)
  have hR1 := heap_alloc_new w (.cells #[.slice none 0 0, .int .i64 0, .int .i64 0, .int .i64 0, .int .i64 0, .int .i64 0, .int .i64 0, .slice none 0 0] 46)
  have g1 := gr_alloc (gr_refl w none) (.cells #[.slice none 0 0, .int .i64 0, .int .i64 0, .int .i64 0, .int .i64 0, .int .i64 0, .int .i64 0, .slice none 0 0] 46)
  have hO2 := heap_alloc_new (w.alloc (.cells #[.slice none 0 0, .int .i64 0, .int .i64 0, .int .i64 0, .int .i64 0, .int .i64 0, .int .i64 0, .slice none 0 0] 46)) (.cells #[.slice da m.sold.length dc, .int .i64 m.inn, .int .i64 m.out, .int .i64 m.filled, .int .i64 m.collected, .int .i64 m.box, .int .i64 m.credit, .slice none 0 0] 46)
  have g2 := gr_alloc (gr_refl (w.alloc (.cells #[.slice none 0 0, .int .i64 0, .int .i64 0, .int .i64 0, .int .i64 0, .int .i64 0, .int .i64 0, .slice none 0 0] 46)) none) (.cells #[.slice da m.sold.length dc, .int .i64 m.inn, .int .i64 m.out, .int .i64 m.filled, .int .i64 m.collected, .int .i64 m.box, .int .i64 m.credit, .slice none 0 0] 46)
  have hR2 := (g2.block w.heap.size (lt_of_block hR1) (by simp)).trans hR1
  have g12 := gr_trans g1 g2
  obtain ⟨O, hO⟩ : ∃ O, O = (w.alloc (.cells #[.slice none 0 0, .int .i64 0, .int .i64 0, .int .i64 0, .int .i64 0, .int .i64 0, .int .i64 0, .slice none 0 0] 46)).heap.size := ⟨_, rfl⟩
  obtain ⟨w2, hw2⟩ : ∃ w2, w2 = (w.alloc (.cells #[.slice none 0 0, .int .i64 0, .int .i64 0, .int .i64 0, .int .i64 0, .int .i64 0, .int .i64 0, .slice none 0 0] 46)).alloc (.cells #[.slice da m.sold.length dc, .int .i64 m.inn, .int .i64 m.out, .int .i64 m.filled, .int .i64 m.collected, .int .i64 m.box, .int .i64 m.credit, .slice none 0 0] 46) := ⟨_, rfl⟩
  have hO' : O = w.heap.size + 1 := by rw [hO]; simp
  rw [← hw2] at hO2 hR2 g12
  rw [← hO] at hO2
  rw [← hw2]
  obtain ⟨R, hR⟩ : ∃ R, R = w.heap.size := ⟨_, rfl⟩
  rw [← hR] at hR2 hO'
  rw [← hR]
  try rw [← hO']
  have HR := Lib.hid hR
  have HOE := Lib.hid hO'
  have HO2 := Lib.hid hO2
  have HR2 := Lib.hid hR2
  have hOl := lt_of_block hO2
  have hRl := lt_of_block hR2
  have hRO : R ≠ O := by omega
  have hg12 := Lib.hid g12
  have H2 := Lib.hid (H.out.keep0 g12)
  have CT : Hid (∀ w', w2.grownBy w' none → Calls Tryd.prog 75 #[.slice ta m.tubes.length tc] w' fun e w'' => ∃ a c, e = .returned (.slice a m.tubes.length c) ∧ w''.ownsRow w2.heap.size 41 3 (.slice a m.tubes.length c) m.tubes.length (tubes m.tubes) ∧ w'.grownBy w'' none) := by
    show ∀ w', _ → _
    intro w' hg'
    refine (cloneTube_any ta m.tubes.length tc (tubes m.tubes) w' (flat_length encTube_len _) ((HTC.out.keep0 g12).keep0 hg') hnT (flat_ones encTube_one _) (by omega)).mono ?_
    rintro e w'' ⟨v, rfl, ho, hg⟩
    obtain ⟨a, c, rfl, _⟩ := own_shape ho
    exact ⟨a, c, rfl, own_base ho hg'.size, hg⟩
  have CD : Hid (∀ w', w2.grownBy w' none → Calls Tryd.prog 83 #[.slice da m.sold.length dc] w' fun e w'' => ∃ a c, e = .returned (.slice a m.sold.length c) ∧ w''.ownsRow w2.heap.size 79 3 (.slice a m.sold.length c) m.sold.length (flat encTally m.sold) ∧ w'.grownBy w'' none) := by
    show ∀ w', _ → _
    intro w' hg'
    refine (cloneTally_any da m.sold.length dc (flat encTally m.sold) w' (flat_length encTally_len _) ((HDC.out.keep0 g12).keep0 hg') hnD (flat_ones encTally_one _) (by omega)).mono ?_
    rintro e w'' ⟨v, rfl, ho, hg⟩
    obtain ⟨a, c, rfl, _⟩ := own_shape ho
    exact ⟨a, c, rfl, own_base ho hg'.size, hg⟩
  clear hw2 hO hO2 hR2 g12 g1 g2 hR1 hR hO' c6 c7 c8 c9 c10 c11 c12 c13 hnD hnT
  have hM2 := H2.out.blk
  obtain ⟨c0, _⟩ := mb0 hM2
  obtain ⟨c6, _⟩ := mb6 hM2
  clear hM2
  have hgd := gr_drew (gr_refl w2 none)
  go_region_law (first
    | (go_simp; go_at_call 83; revert t3; intro t3; (with_reducible refine (CD.out _ ?_).mono ?_); (· exact hg3); rintro e w4 ⟨da, dc, rfl, d4, hg4'⟩; have hg4 := gr_trans hg3 hg4'; have t4 := own_keep0 t3 hg4'; have hO4 := (hg4'.block O (lt_of_block hO3) (by simp)).trans hO3; have o0 := blkC hO4 0 rfl; have o1 := blkC hO4 1 rfl; have o2 := blkC hO4 2 rfl; have o3 := blkC hO4 3 rfl; have o4 := blkC hO4 4 rfl; have o5 := blkC hO4 5 rfl; have o6 := blkC hO4 6 rfl; have o7 := blkC hO4 7 rfl; have y0 := blkF hO4 0; have y7 := blkF hO4 7; have hR4 := ((gr_trans hg3 hg4').block R hRl (by simp)).trans HR2.out; have r0 := blkC hR4 0 rfl; have r1 := blkC hR4 1 rfl; have r2 := blkC hR4 2 rfl; have r3 := blkC hR4 3 rfl; have r4 := blkC hR4 4 rfl; have r5 := blkC hR4 5 rfl; have r6 := blkC hR4 6 rfl; have r7 := blkC hR4 7 rfl; have s0 := blkF hR4 0; have s1 := blkF hR4 1; have s2 := blkF hR4 2; have s3 := blkF hR4 3; have s4 := blkF hR4 4; have s5 := blkF hR4 5; have s6 := blkF hR4 6; have s7 := blkF hR4 7)
    | (go_simp; go_at_call 75; revert d3; intro d3; (with_reducible refine (CT.out _ ?_).mono ?_); (· exact hg3); rintro e w4 ⟨ta, tc, rfl, t4, hg4'⟩; have hg4 := gr_trans hg3 hg4'; have d4 := own_keep0 d3 hg4'; have hO4 := (hg4'.block O (lt_of_block hO3) (by simp)).trans hO3; have o0 := blkC hO4 0 rfl; have o1 := blkC hO4 1 rfl; have o2 := blkC hO4 2 rfl; have o3 := blkC hO4 3 rfl; have o4 := blkC hO4 4 rfl; have o5 := blkC hO4 5 rfl; have o6 := blkC hO4 6 rfl; have o7 := blkC hO4 7 rfl; have y0 := blkF hO4 0; have y7 := blkF hO4 7; have hR4 := ((gr_trans hg3 hg4').block R hRl (by simp)).trans HR2.out; have r0 := blkC hR4 0 rfl; have r1 := blkC hR4 1 rfl; have r2 := blkC hR4 2 rfl; have r3 := blkC hR4 3 rfl; have r4 := blkC hR4 4 rfl; have r5 := blkC hR4 5 rfl; have r6 := blkC hR4 6 rfl; have r7 := blkC hR4 7 rfl; have s0 := blkF hR4 0; have s1 := blkF hR4 1; have s2 := blkF hR4 2; have s3 := blkF hR4 3; have s4 := blkF hR4 4; have s5 := blkF hR4 5; have s6 := blkF hR4 6; have s7 := blkF hR4 7)
    | (go_simp; go_at_call 83; (with_reducible refine (CD.out _ ?_).mono ?_); (· exact hgd); rintro e w3 ⟨da, dc, rfl, d3, hg3'⟩; have hg3 := gr_trans hgd hg3'; have hM3 := H2.out.keep0 hg3; obtain ⟨q0, _⟩ := mb0 hM3.blk; obtain ⟨q6, _⟩ := mb6 hM3.blk; have hO3 := (hg3.block O hOl (by simp)).trans HO2.out; clear hM3)
    | (go_simp; go_at_call 75; (with_reducible refine (CT.out _ ?_).mono ?_); (· exact hgd); rintro e w3 ⟨ta, tc, rfl, t3, hg3'⟩; have hg3 := gr_trans hgd hg3'; have hM3 := H2.out.keep0 hg3; obtain ⟨q0, _⟩ := mb0 hM3.blk; obtain ⟨q6, _⟩ := mb6 hM3.blk; have hO3 := (hg3.block O hOl (by simp)).trans HO2.out; clear hM3)
    | fail)
  all_goals (go_wp2_with (fail))
  all_goals
    have hRw : w.heap.size ≤ R := Nat.le_of_eq HR.out.symm
    have hOw : w.heap.size ≤ O := by have := HOE.out; omega
    have hR6 : ∀ u v, ((w4.setCell ⟨O, 0, none⟩ u).setCell ⟨O, 7, none⟩ v).heap[R]? = _ := fun u v => (((gr_set (q := ⟨O, 7, none⟩) (gr_set (q := ⟨O, 0, none⟩) (gr_refl w4 (some O)) rfl u) rfl v)).block R (lt_of_block hR4) (fun e => hRO (by injection e))).trans hR4
    refine bodyPost_ret (results_cell_row (p := 2) (by kernel_rfl) _ _ R _ #[_, _, _, _, _, _, _, _] _ (.struct dt) rfl (heap_setCell_same _ R 7 _ _ _ (heap_setCell_same _ R 6 _ _ _ (heap_setCell_same _ R 5 _ _ _ (heap_setCell_same _ R 4 _ _ _ (heap_setCell_same _ R 3 _ _ _ (heap_setCell_same _ R 2 _ _ _ (heap_setCell_same _ R 1 _ _ _ (heap_setCell_same _ R 0 _ _ _ (hR6 _ _))))))))) hd1 rfl (by kernel_rfl)) rfl ⟨_, _, rfl, ?_, ?_, ?_⟩
    · exact own_base (own_keep (own_keep d4 (gr_set (q := ⟨O, 7, none⟩) (gr_set (q := ⟨O, 0, none⟩) (gr_refl w4 (some O)) rfl _) rfl _) (.inr (own_ne d4 hO4 (by decide)))) (gr_set (q := ⟨R, 7, none⟩) (gr_set (q := ⟨R, 6, none⟩) (gr_set (q := ⟨R, 5, none⟩) (gr_set (q := ⟨R, 4, none⟩) (gr_set (q := ⟨R, 3, none⟩) (gr_set (q := ⟨R, 2, none⟩) (gr_set (q := ⟨R, 1, none⟩) (gr_set (q := ⟨R, 0, none⟩) (gr_refl _ (some R)) rfl _) rfl _) rfl _) rfl _) rfl _) rfl _) rfl _) rfl _) (.inr (own_ne d4 hR4 (by decide)))) (hg12.out.size)
    · exact own_base (own_keep (own_keep t4 (gr_set (q := ⟨O, 7, none⟩) (gr_set (q := ⟨O, 0, none⟩) (gr_refl w4 (some O)) rfl _) rfl _) (.inr (own_ne t4 hO4 (by decide)))) (gr_set (q := ⟨R, 7, none⟩) (gr_set (q := ⟨R, 6, none⟩) (gr_set (q := ⟨R, 5, none⟩) (gr_set (q := ⟨R, 4, none⟩) (gr_set (q := ⟨R, 3, none⟩) (gr_set (q := ⟨R, 2, none⟩) (gr_set (q := ⟨R, 1, none⟩) (gr_set (q := ⟨R, 0, none⟩) (gr_refl _ (some R)) rfl _) rfl _) rfl _) rfl _) rfl _) rfl _) rfl _) rfl _) (.inr (own_ne t4 hR4 (by decide)))) (hg12.out.size)
    · exact gr_new (q := ⟨R, 7, none⟩) (gr_new (q := ⟨R, 6, none⟩) (gr_new (q := ⟨R, 5, none⟩) (gr_new (q := ⟨R, 4, none⟩) (gr_new (q := ⟨R, 3, none⟩) (gr_new (q := ⟨R, 2, none⟩) (gr_new (q := ⟨R, 1, none⟩) (gr_new (q := ⟨R, 0, none⟩) (gr_new (q := ⟨O, 7, none⟩) (gr_new (q := ⟨O, 0, none⟩) (gr_trans hg12.out (gr_trans hg3 hg4')) hOw _) hOw _) hRw _) hRw _) hRw _) hRw _) hRw _) hRw _) hRw _) hRw _
end Go.Proofs.YtdjnomeabadbnaaDoor
