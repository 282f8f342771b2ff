/- vend.CheckConfig of a right configuration. -/
import Derived.Test.YtdjnomeabadbnaaDoorCfgFault
import Derived.Test.YtdjnomeabadbnaaDoorFindTube
namespace Go.Proofs.YtdjnomeabadbnaaDoor
open Go.RowKit
attribute [local go_sem ↓] Go.wp_at_zero Go.wp_at_succ

theorem checkConfig1_fn : ∀ (args : Array Value) (w : World), (callFunc 135 args).run Tryd.prog w = .ok (.enter 135 args) w := fun _ _ => by kernel_rfl
set_option maxRecDepth 100000 in
theorem checkConfig1_any (t : Tube) (L : List Int) (ka : Option Addr) (kc : Nat) (q : Nat) (w : World) (hq : w.cell? ⟨q, 1, none⟩ = some (.slice ka L.length kc)) (hK : CellsAt w ka (ints L)) (hl : L.length ≤ 1000) :
    Calls Tryd.prog 135 #[.agg #[.int .i64 t.value, .int .i64 t.count, .int .i64 t.most], .pointer (some ⟨q, 0, none⟩)] w fun e w' => e = .returned (.bool (!(L.any (fun y => t.value == y)))) ∧ w.grownBy w' none := by
  have hqlt := lt_of_cell hq
  go_enter Tryd.func135, Tryd.ntmps135
  go_wp2_with (fail)
  have hg1 := gr_alloc (gr_refl w none) (.cells #[.int .i64 t.value, .int .i64 t.count, .int .i64 t.most] 41)
  refine (contains_int ka L kc t.value _ (hK.keep0 hg1) (by omega)).mono ?_
  rintro e w4 ⟨rfl, rfl⟩
  go_wp2_with (fail)
  go_ret
  exact ⟨rfl, hg1⟩

set_option maxRecDepth 100000 in
set_option maxHeartbeats 4000000 in
theorem checkConfig_ok (c : Cfg) (ta ka sa : Option Addr) (tc kc sc : Nat) (w : World) (hT : CellsAt w ta (tubes c.tubes)) (hK : CellsAt w ka (ints c.takes)) (hS : CellsAt w sa (flat encSlot c.slots)) (hok : CfgOk c) (hk : ∀ s ∈ c.slots, s.key.size ≤ 100 ∧ s.prod.size ≤ 100) :
    Calls Tryd.prog 74 #[.agg #[.slice ta c.tubes.length tc, .slice ka c.takes.length kc, .slice sa c.slots.length sc, .int .i64 c.high]] w (fun e w' => e = .returned (.int .i64 0) ∧ w.grownBy w' none) := by
  have HKS := Lib.hid hk
  have OK := Lib.hid hok
  have htl := hok.tub.len
  have hkl20 := hok.tlen
  have hs60 := hok.s60
  have hs0 := hok.s0
  clear hk hok
  go_enter Tryd.func74, Tryd.ntmps74
  go_wp2_with (fail)
  have hB1 := heap_alloc_new w (.cells #[.slice ta c.tubes.length tc, .slice ka c.takes.length kc, .slice sa c.slots.length sc, .int .i64 c.high] 29)
  have hg1 := gr_alloc (gr_refl w none) (.cells #[.slice ta c.tubes.length tc, .slice ka c.takes.length kc, .slice sa c.slots.length sc, .int .i64 c.high] 29)
  obtain ⟨w1, hw1⟩ : ∃ w1, w1 = w.alloc (.cells #[.slice ta c.tubes.length tc, .slice ka c.takes.length kc, .slice sa c.slots.length sc, .int .i64 c.high] 29) := ⟨_, rfl⟩
  rw [← hw1] at hB1 hg1
  rw [← hw1]
  obtain ⟨B, hB⟩ : ∃ B, B = w.heap.size := ⟨_, rfl⟩
  rw [← hB] at hB1
  rw [← hB]
  clear hw1 hB
  have hBl := lt_of_block hB1
  have HB1 := Lib.hid hB1
  clear hB1
  have HT := Lib.hid hT; have HK := Lib.hid hK; have HSS := Lib.hid hS
  clear hT hK hS
  refine (checkTubes_any c.tubes ta tc w1 (HT.out.keep0 hg1) (by omega)).mono ?_
  rintro e w2 ⟨r, rfl, hr, hg2⟩
  obtain rfl : r = 0 := hr.2 OK.out.tub
  have hgr2 := gr_trans hg1 hg2
  have hB2 := (hg2.block B hBl (by simp)).trans HB1.out
  have hBl2 := lt_of_block hB2
  have d1 : w2.cell? ⟨B, 1, none⟩ = some (.slice ka c.takes.length kc) := blkC hB2 1 rfl
  have HB2 := Lib.hid hB2
  clear hr hB2
  go_wp2_with (fail)
  go_loopw [21] (fun i wr => ∃ k : Nat, k ≤ c.takes.length ∧ i = .int .i64 k ∧ w2.grownBy wr none) (fun i _ => c.takes.length - (intOf i).toNat)
  case atStart => exact ⟨0, Nat.zero_le _, rfl, gr_refl _ _⟩
  case round =>
    obtain ⟨k, hkl, rfl, hgr⟩ := hrel
    obtain ⟨wo, rfl⟩ : ∃ wo : World, wo = wr := ⟨_, rfl⟩
    have hgw := gr_trans hgr2 hgr
    have hBo := (hgr.block B hBl2 (by simp)).trans HB2.out
    have hBlo := lt_of_block hBo
    have HBo := Lib.hid hBo
    clear d1
    by_cases hlt : k < c.takes.length
    · obtain ⟨b, off, rfl, hx⟩ := HK.out.keep0 hgw k _ (ints_get _ k hlt)
      have d1 : wo.cell? ⟨B, 1, none⟩ = some (.slice (some ⟨b, off, none⟩) c.takes.length kc) := blkC hBo 1 rfl
      have ot := OK.out.tak k hlt
      have ot0 := ot.v0
      have ot1 := ot.v1
      have otu := ot.up
      obtain ⟨x, hxe⟩ : ∃ x, x = c.takes.getD k 0 := ⟨_, rfl⟩
      rw [← hxe] at hx ot0 ot1 otu
      have ob : (decide (x < 1) || decide (20000 < x)) = false := by simp; omega
      clear hxe hBo ot
      by_cases hk0 : k = 0
      · have hkb : decide (0 < k) = false := by simp; omega
        clear hk0 otu
        go_wp2_with (fail)
        refine (out_any x 1 20000 wo).mono ?_
        rintro e w4 ⟨rfl, rfl⟩
        rw [ob]
        go_wp2_with (fail)
        go_roundw
        case rel => exact ⟨k + 1, by omega, by go_num, hgr⟩
        case measure => simp [intOf]; omega
      · obtain ⟨k', rfl⟩ : ∃ k', k = k' + 1 := ⟨k - 1, by omega⟩
        obtain ⟨b', off', he, hy⟩ := HK.out.keep0 hgw k' _ (ints_get _ k' (by omega))
        injection he with he
        injection he with he1 he2
        subst he1 he2
        have hlt2 := otu (by omega)
        rw [show k' + 1 - 1 = k' by omega] at hlt2
        obtain ⟨y, hye⟩ : ∃ y, y = c.takes.getD k' 0 := ⟨_, rfl⟩
        rw [← hye] at hy hlt2
        have hle : ¬ x ≤ y := by omega
        clear hye hk0 otu
        go_wp2_with (fail)
        refine (out_any x 1 20000 wo).mono ?_
        rintro e w4 ⟨rfl, rfl⟩
        rw [ob]
        go_wp2_with (fail)
        go_roundw
        case rel => exact ⟨k' + 1 + 1, by omega, by go_num, hgr⟩
        case measure => simp [intOf]; omega
    · obtain rfl : k = c.takes.length := by omega
      have d0 : wo.cell? ⟨B, 0, none⟩ = some (.slice ta c.tubes.length tc) := blkC hBo 0 rfl
      clear hBo hgr hgr2 hg2 hg1
      have CF := Lib.hid (containsFunc_tube 135 B (fun t => !(c.takes.any (fun y => t.value == y))) c.tubes ta tc wo (HT.out.keep0 hgw) (by omega) checkConfig1_fn (fun t _ w2 hg2 => checkConfig1_any t c.takes ka kc B w2 ((gr_cell hg2 hBlo).trans (blkC HBo.out 1 rfl)) (HK.out.keep0 (gr_trans hgw hg2)) (by omega)))
      have hany : c.tubes.any (fun t => !(c.takes.any (fun y => t.value == y))) = false := by
        rw [List.any_eq_false]
        intro t ht
        obtain ⟨i, hi, rfl⟩ := List.getElem_of_mem ht
        have := OK.out.has i hi
        unfold tubeAt at this
        rw [List.getD_eq_getElem?_getD, List.getElem?_eq_getElem hi] at this
        simpa using this
      rw [hany] at CF
      clear hany
      go_wp2_with (fail)
      refine CF.out.mono ?_
      rintro e wp ⟨rfl, hgp0⟩
      have hgp := gr_trans hgw hgp0
      have hBp := (hgp0.block B hBlo (by simp)).trans HBo.out
      have hBlp := lt_of_block hBp
      have HBp := Lib.hid hBp
      have d2 : wp.cell? ⟨B, 2, none⟩ = some (.slice sa c.slots.length sc) := blkC hBp 2 rfl
      have hsb : ((c.slots.length : Int) == 0) = false := beq_eq_false_iff_ne.2 (by omega)
      clear hBp CF d0
      go_wp2_with (fail)
      clear d2
      go_loopw [58] (fun i wr => ∃ k : Nat, k ≤ c.slots.length ∧ i = .int .i64 k ∧ wp.grownBy wr none) (fun i _ => c.slots.length - (intOf i).toNat)
      case atStart => exact ⟨0, Nat.zero_le _, rfl, gr_refl _ _⟩
      case round =>
        obtain ⟨k, hkl, rfl, hgr⟩ := hrel
        obtain ⟨wq, rfl⟩ : ∃ wq : World, wq = wr := ⟨_, rfl⟩
        have hgq := gr_trans hgp hgr
        have hBq := (hgr.block B hBlp (by simp)).trans HBp.out
        have hBlq := lt_of_block hBq
        have HBq := Lib.hid hBq
        clear hsb
        by_cases hlt : k < c.slots.length
        · obtain ⟨b, off, rfl, hcs⟩ := slot_cells (HSS.out.keep0 hgq) k hlt
          obtain ⟨c0, c1, c2, c3, c4⟩ := hcs k hlt
          have hin : wq.cell? ⟨b, off + (k - 1) * 5, none⟩ = some (.string (slotAt c.slots (k - 1)).key) := (hcs (k - 1) (by omega)).1
          have d2 : wq.cell? ⟨B, 2, none⟩ = some (.slice (some ⟨b, off, none⟩) c.slots.length sc) := blkC hBq 2 rfl
          have hks : (slotAt c.slots k).key.size ≤ 100 ∧ (slotAt c.slots k).prod.size ≤ 100 := by
            unfold slotAt
            rw [List.getD_eq_getElem?_getD, List.getElem?_eq_getElem hlt]
            exact HKS.out _ (List.getElem_mem hlt)
          obtain ⟨o1, oup, o3, op0, op1, om0, om1, oc0, oc1⟩ := OK.out.slo k hlt
          obtain ⟨x, hx⟩ : ∃ x, x = slotAt c.slots k := ⟨_, rfl⟩
          obtain ⟨y, hy⟩ : ∃ y, y = (slotAt c.slots (k - 1)).key := ⟨_, rfl⟩
          rw [← hx] at c0 c1 c2 c3 c4 hks o1 oup o3 op0 op1 om0 om1 oc0 oc1
          rw [← hy] at hin oup
          have HUP : Hid (0 < k → (Op.bytesLess x.key.toList y.toList || x.key.toList == y.toList) = false) := oup
          have hbq := lt_of_cell c0
          clear hx hy hcs hBq oup
          go_wp2_with (fail)
          have hq3 := heap_alloc_new wq (.cells #[.string x.key, .string x.prod, .int .i64 x.price, .int .i64 x.most, .int .i64 x.count] 43)
          have hg3 := gr_alloc (gr_refl wq none) (.cells #[.string x.key, .string x.prod, .int .i64 x.price, .int .i64 x.most, .int .i64 x.count] 43)
          obtain ⟨w3, hw3⟩ : ∃ w3, w3 = wq.alloc (.cells #[.string x.key, .string x.prod, .int .i64 x.price, .int .i64 x.most, .int .i64 x.count] 43) := ⟨_, rfl⟩
          rw [← hw3] at hq3 hg3
          rw [← hw3]
          obtain ⟨q, hqe⟩ : ∃ q, q = wq.heap.size := ⟨_, rfl⟩
          rw [← hqe] at hq3
          rw [← hqe]
          clear hw3 hqe c0 c1 c2 c3 c4
          have hql := lt_of_block hq3
          have HQ3 := Lib.hid hq3
          refine (key_any x.key w3 (by omega)).mono ?_
          rintro e w4 ⟨rfl, rfl⟩
          rw [o1]
          have hgr3 := gr_trans hgr hg3
          have e0 : w3.cell? ⟨q, 0, none⟩ = some (.string x.key) := blkC hq3 0 rfl
          have e1 : w3.cell? ⟨q, 1, none⟩ = some (.string x.prod) := blkC hq3 1 rfl
          have d3 : w3.cell? ⟨B, 2, none⟩ = some (.slice (some ⟨b, off, none⟩) c.slots.length sc) := (gr_cell hg3 hBlq).trans d2
          have i3 : w3.cell? ⟨b, off + (k - 1) * 5, none⟩ = some (.string y) := (gr_cell hg3 hbq).trans hin
          clear d2 hin hq3
          by_cases hk0 : k = 0
          · have hkb : decide (0 < k) = false := by simp; omega
            clear hk0
            go_wp2_with (fail)
            go_quiet (fail)
            go_wp2_with (fail)
            refine (key_any x.prod _ (by omega)).mono ?_
            rintro e w5 ⟨rfl, hw5⟩
            rw [o3]
            have hgr5 : wp.grownBy w5 none := hw5 ▸ gr_drewN hgr3 _
            have hq5 : w5.heap[q]? = some (.cells #[.string x.key, .string x.prod, .int .i64 x.price, .int .i64 x.most, .int .i64 x.count] 43 (0, 0)) := hw5 ▸ HQ3.out
            have f2 : w5.cell? ⟨q, 2, none⟩ = some (.int .i64 x.price) := blkC hq5 2 rfl
            have f3 : w5.cell? ⟨q, 3, none⟩ = some (.int .i64 x.most) := blkC hq5 3 rfl
            have f4 : w5.cell? ⟨q, 4, none⟩ = some (.int .i64 x.count) := blkC hq5 4 rfl
            have ob1 : (decide (x.price < 1) || decide (20000 < x.price)) = false := by simp; omega
            have ob2 : (decide (x.most < 0) || decide (1000 < x.most)) = false := by simp; omega
            have ob3 : (decide (x.count < 0) || decide (x.most < x.count)) = false := by simp; omega
            clear hw5 hq5 e0 e1 d3 i3
            go_wp2_with (fail)
            refine (out_any x.price 1 20000 w5).mono ?_
            rintro e w6 ⟨rfl, rfl⟩
            rw [ob1]
            go_wp2_with (fail)
            refine (out_any x.most 0 1000 w5).mono ?_
            rintro e w6 ⟨rfl, rfl⟩
            rw [ob2]
            go_wp2_with (fail)
            refine (out_any x.count 0 x.most w5).mono ?_
            rintro e w6 ⟨rfl, rfl⟩
            rw [ob3]
            go_wp2_with (fail)
            go_roundw
            case rel => exact ⟨k + 1, by omega, by go_num, hgr5⟩
            case measure => simp [intOf]; omega
          · obtain ⟨k', rfl⟩ : ∃ k', k = k' + 1 := ⟨k - 1, by omega⟩
            have hup := HUP.out (by omega)
            rw [show k' + 1 - 1 = k' by omega] at i3
            clear hk0
            go_wp2_with (fail)
            go_quiet (fail)
            go_wp2_with (fail)
            refine (key_any x.prod _ (by omega)).mono ?_
            rintro e w5 ⟨rfl, hw5⟩
            rw [o3]
            have hgr5 : wp.grownBy w5 none := hw5 ▸ gr_drewN hgr3 _
            have hq5 : w5.heap[q]? = some (.cells #[.string x.key, .string x.prod, .int .i64 x.price, .int .i64 x.most, .int .i64 x.count] 43 (0, 0)) := hw5 ▸ HQ3.out
            have f2 : w5.cell? ⟨q, 2, none⟩ = some (.int .i64 x.price) := blkC hq5 2 rfl
            have f3 : w5.cell? ⟨q, 3, none⟩ = some (.int .i64 x.most) := blkC hq5 3 rfl
            have f4 : w5.cell? ⟨q, 4, none⟩ = some (.int .i64 x.count) := blkC hq5 4 rfl
            have ob1 : (decide (x.price < 1) || decide (20000 < x.price)) = false := by simp; omega
            have ob2 : (decide (x.most < 0) || decide (1000 < x.most)) = false := by simp; omega
            have ob3 : (decide (x.count < 0) || decide (x.most < x.count)) = false := by simp; omega
            clear hw5 hq5 e0 e1 d3 i3
            go_wp2_with (fail)
            refine (out_any x.price 1 20000 w5).mono ?_
            rintro e w6 ⟨rfl, rfl⟩
            rw [ob1]
            go_wp2_with (fail)
            refine (out_any x.most 0 1000 w5).mono ?_
            rintro e w6 ⟨rfl, rfl⟩
            rw [ob2]
            go_wp2_with (fail)
            refine (out_any x.count 0 x.most w5).mono ?_
            rintro e w6 ⟨rfl, rfl⟩
            rw [ob3]
            go_wp2_with (fail)
            go_roundw
            case rel => exact ⟨k' + 1 + 1, by omega, by go_num, hgr5⟩
            case measure => simp [intOf]; omega
        · obtain rfl : k = c.slots.length := by omega
          have d3 : wq.cell? ⟨B, 3, none⟩ = some (.int .i64 c.high) := blkC hBq 3 rfl
          have oh0 := OK.out.h0
          have oh1 := OK.out.h1
          have ob : (decide (c.high < 1) || decide (20000 < c.high)) = false := by simp; omega
          clear hBq
          go_wp2_with (fail)
          refine (out_any c.high 1 20000 wq).mono ?_
          rintro e w6 ⟨rfl, rfl⟩
          rw [ob]
          go_wp2_with (fail)
          go_ret
          exact ⟨rfl, hgq⟩
end Go.Proofs.YtdjnomeabadbnaaDoor
