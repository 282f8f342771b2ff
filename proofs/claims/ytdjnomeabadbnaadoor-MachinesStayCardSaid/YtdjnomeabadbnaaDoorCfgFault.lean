/- The reference's look at a configuration. -/
import Derived.Test.YtdjnomeabadbnaaDoorTubesFault
import Derived.Test.YtdjnomeabadbnaaDoorConfig
import Derived.Test.YtdjnomeabadbnaaDoorKey
import Derived.Test.YtdjnomeabadbnaaDoorContains
namespace Go.Proofs.YtdjnomeabadbnaaDoor
open Go.RowKit
attribute [local go_sem ↓] Go.wp_at_zero Go.wp_at_succ

def slotAt (S : List Slot) (i : Nat) : Slot := S.getD i ⟨⟨#[]⟩, ⟨#[]⟩, 0, 0, 0⟩
def leB (a b : ByteArray) : Bool := Op.bytesLess a.toList b.toList || a.toList == b.toList
structure OkSlot (S : List Slot) (i : Nat) : Prop where
  key : keyB (slotAt S i).key = true
  up : 0 < i → leB (slotAt S i).key (slotAt S (i - 1)).key = false
  prod : keyB (slotAt S i).prod = true
  p0 : 1 ≤ (slotAt S i).price
  p1 : (slotAt S i).price ≤ 20000
  m0 : 0 ≤ (slotAt S i).most
  m1 : (slotAt S i).most ≤ 1000
  c0 : 0 ≤ (slotAt S i).count
  c1 : (slotAt S i).count ≤ (slotAt S i).most
structure OkTake (L : List Int) (i : Nat) : Prop where
  v0 : 1 ≤ L.getD i 0
  v1 : L.getD i 0 ≤ 20000
  up : 0 < i → L.getD (i - 1) 0 < L.getD i 0
structure CfgOk (c : Cfg) : Prop where
  tub : OkTubes c.tubes
  tlen : c.takes.length ≤ 20
  tak : ∀ i, i < c.takes.length → OkTake c.takes i
  has : ∀ i, i < c.tubes.length → c.takes.any (fun y => (tubeAt c.tubes i).value == y) = true
  s0 : 0 < c.slots.length
  s60 : c.slots.length ≤ 60
  slo : ∀ i, i < c.slots.length → OkSlot c.slots i
  h0 : 1 ≤ c.high
  h1 : c.high ≤ 20000
def CfgFaultPost (c : Cfg) (w : World) (e : Ending) (w' : World) : Prop := ∃ r : Int, e = .returned (.int .i64 r) ∧ (r = 0 → CfgOk c) ∧ w.grownBy w' none
theorem cfg_bad {c : Cfg} {w w' : World} (r : Int) (hr : r ≠ 0) (g : w.grownBy w' none) : CfgFaultPost c w (.returned (.int .i64 r)) w' := ⟨r, rfl, fun e => absurd e hr, g⟩
theorem slot_cells {w : World} {a : Option Addr} {S : List Slot} (hc : CellsAt w a (flat encSlot S)) (i : Nat) (h : i < S.length) : ∃ b off, a = some ⟨b, off, none⟩ ∧ ∀ j, j < S.length →
    w.cell? ⟨b, off + j * 5, none⟩ = some (.string (slotAt S j).key) ∧ w.cell? ⟨b, off + j * 5 + 1, none⟩ = some (.string (slotAt S j).prod) ∧ w.cell? ⟨b, off + j * 5 + 2, none⟩ = some (.int .i64 (slotAt S j).price) ∧ w.cell? ⟨b, off + j * 5 + 3, none⟩ = some (.int .i64 (slotAt S j).most) ∧ w.cell? ⟨b, off + j * 5 + 4, none⟩ = some (.int .i64 (slotAt S j).count) := by
  obtain ⟨b, off, rfl, hcs⟩ := flat_cells encSlot_len (by decide) hc (by omega)
  refine ⟨b, off, rfl, fun j hj => ?_⟩
  unfold slotAt
  rw [getD_eq S j _ hj]
  exact ⟨hcs j hj 0 _ rfl, hcs j hj 1 _ rfl, hcs j hj 2 _ rfl, hcs j hj 3 _ rfl, hcs j hj 4 _ rfl⟩

set_option maxRecDepth 100000 in
set_option maxHeartbeats 4000000 in
theorem configFault_any (c : Cfg) (ta ka sa : Option Addr) (tc kc sc : Nat) (w : World) (hT : CellsAt w ta (tubes c.tubes)) (hK : CellsAt w ka (ints c.takes)) (hS : CellsAt w sa (flat encSlot c.slots)) (hTl : c.tubes.length ≤ 1000) (hKl : c.takes.length ≤ 1000) (hSl : c.slots.length ≤ 1000) (hk : ∀ s ∈ c.slots, s.key.size ≤ 100 ∧ s.prod.size ≤ 100) :
    Calls Tryd.prog 10 #[.agg #[.slice ta c.tubes.length tc, .slice ka c.takes.length kc, .slice sa c.slots.length sc, .int .i64 c.high]] w (CfgFaultPost c w) := by
  have HKS := Lib.hid hk
  clear hk
  go_enter Tryd.func10, Tryd.ntmps10
  go_wp2_with (fail)
  have hB1 := heap_alloc_new w (.cells #[.slice ta c.tubes.length tc, .slice ka c.takes.length kc, .slice sa c.slots.length sc, .int .i64 c.high] 29)
  have hg1 := gr_alloc (gr_refl w none) (.cells #[.slice ta c.tubes.length tc, .slice ka c.takes.length kc, .slice sa c.slots.length sc, .int .i64 c.high] 29)
  obtain ⟨w1, hw1⟩ : ∃ w1, w1 = w.alloc (.cells #[.slice ta c.tubes.length tc, .slice ka c.takes.length kc, .slice sa c.slots.length sc, .int .i64 c.high] 29) := ⟨_, rfl⟩
  rw [← hw1] at hB1 hg1
  rw [← hw1]
  obtain ⟨B, hB⟩ : ∃ B, B = w.heap.size := ⟨_, rfl⟩
  rw [← hB] at hB1
  rw [← hB]
  clear hw1 hB
  have hBl := lt_of_block hB1
  have HB1 := Lib.hid hB1
  clear hB1
  have HT := Lib.hid hT; have HK := Lib.hid hK; have HSS := Lib.hid hS
  clear hT hK hS
  refine (tubesFault_any c.tubes ta tc w1 (HT.out.keep0 hg1) (by omega)).mono ?_
  rintro e w2 ⟨r, rfl, hr, hg2⟩
  have hgr2 := gr_trans hg1 hg2
  have hB2 := (hg2.block B hBl (by simp)).trans HB1.out
  have hBl2 := lt_of_block hB2
  by_cases hr0 : r = 0
  rotate_left
  · have hb : (r != 0) = true := by simpa using hr0
    have HR := Lib.hid hr0
    clear hr0 hr
    go_wp2_with (fail)
    go_ret
    exact cfg_bad r HR.out hgr2
  have hb : (r != 0) = false := by simpa using hr0
  have HTO := Lib.hid (hr.1 hr0)
  have d1 : w2.cell? ⟨B, 1, none⟩ = some (.slice ka c.takes.length kc) := blkC hB2 1 rfl
  have HB2 := Lib.hid hB2
  clear hr0 hr hB2
  by_cases h20 : 20 < c.takes.length
  · go_wp2_with (fail)
    go_ret
    exact cfg_bad 2 (by decide) hgr2
  go_wp2_with (fail)
  go_loopw [23] (fun i wr => ∃ k : Nat, k ≤ c.takes.length ∧ i = .int .i64 k ∧ (∀ j, j < k → OkTake c.takes j) ∧ w2.grownBy wr none) (fun i _ => c.takes.length - (intOf i).toNat)
  case atStart => exact ⟨0, Nat.zero_le _, rfl, fun j hj => by omega, gr_refl _ _⟩
  case round =>
    obtain ⟨k, hkl, rfl, hok, hgr⟩ := hrel
    have HOK := Lib.hid hok; clear hok
    obtain ⟨wo, rfl⟩ : ∃ wo : World, wo = wr := ⟨_, rfl⟩
    have hgw := gr_trans hgr2 hgr
    have hBo := (hgr.block B hBl2 (by simp)).trans HB2.out
    have hBlo := lt_of_block hBo
    have HBo := Lib.hid hBo
    clear d1
    by_cases hlt : k < c.takes.length
    · obtain ⟨b, off, rfl, hx⟩ := HK.out.keep0 hgw k _ (ints_get _ k hlt)
      have d1 : wo.cell? ⟨B, 1, none⟩ = some (.slice (some ⟨b, off, none⟩) c.takes.length kc) := blkC hBo 1 rfl
      obtain ⟨x, hxe⟩ : ∃ x, x = c.takes.getD k 0 := ⟨_, rfl⟩
      rw [← hxe] at hx
      have HX := Lib.hid hxe
      clear hxe hBo
      by_cases hd0 : x < 1
      · go_wp2_with (fail)
        go_ret
        exact cfg_bad 1 (by decide) hgw
      by_cases hd1 : 20000 < x
      · go_wp2_with (fail)
        go_ret
        exact cfg_bad 1 (by decide) hgw
      by_cases hk0 : k = 0
      · have HK0 := Lib.hid hk0
        have hkb : decide (0 < k) = false := by simp; omega
        clear hk0
        go_wp2_with (fail)
        go_roundw
        case rel =>
          refine ⟨k + 1, by omega, by go_num, fun j hj => ?_, hgr⟩
          by_cases hjk : j = k
          · subst hjk
            exact ⟨by rw [← HX.out]; omega, by rw [← HX.out]; omega, fun h => absurd HK0.out (by omega)⟩
          · exact HOK.out j (by omega)
        case measure => simp [intOf]; omega
      · obtain ⟨k', rfl⟩ : ∃ k', k = k' + 1 := ⟨k - 1, by omega⟩
        obtain ⟨b', off', he, hy⟩ := HK.out.keep0 hgw k' _ (ints_get _ k' (by omega))
        injection he with he
        injection he with he1 he2
        subst he1 he2
        obtain ⟨y, hye⟩ : ∃ y, y = c.takes.getD k' 0 := ⟨_, rfl⟩
        rw [← hye] at hy
        have HY := Lib.hid hye
        clear hye hk0
        by_cases hle : x ≤ y
        · go_wp2_with (fail)
          go_ret
          exact cfg_bad 7 (by decide) hgw
        · go_wp2_with (fail)
          go_roundw
          case rel =>
            refine ⟨k' + 1 + 1, by omega, by go_num, fun j hj => ?_, hgr⟩
            by_cases hjk : j = k' + 1
            · subst hjk
              exact ⟨by rw [← HX.out]; omega, by rw [← HX.out]; omega, fun h => by rw [← HX.out, show k' + 1 - 1 = k' by omega, ← HY.out]; omega⟩
            · exact HOK.out j (by omega)
          case measure => simp [intOf]; omega
    · obtain rfl : k = c.takes.length := by omega
      have HTK := HOK
      have d0 : wo.cell? ⟨B, 0, none⟩ = some (.slice ta c.tubes.length tc) := blkC hBo 0 rfl
      have htl := HTO.out.len
      clear hBo hgr hgr2 hg2 hg1
      go_wp2_with (fail)
      clear d0
      go_loopw [50] (fun i wr => ∃ k : Nat, k ≤ c.tubes.length ∧ i = .int .i64 k ∧ (∀ j, j < k → c.takes.any (fun y => (tubeAt c.tubes j).value == y) = true) ∧ wo.grownBy wr none) (fun i _ => c.tubes.length - (intOf i).toNat)
      case atStart => exact ⟨0, Nat.zero_le _, rfl, fun j hj => by omega, gr_refl _ _⟩
      case round =>
        obtain ⟨k, hkl, rfl, hok, hgr⟩ := hrel
        have HAS := Lib.hid hok; clear hok
        obtain ⟨wp, rfl⟩ : ∃ wp : World, wp = wr := ⟨_, rfl⟩
        have hgp := gr_trans hgw hgr
        have hBp := (hgr.block B hBlo (by simp)).trans HBo.out
        have hBlp := lt_of_block hBp
        have HBp := Lib.hid hBp
        by_cases hlt : k < c.tubes.length
        · obtain ⟨b, off, rfl, hcs⟩ := tubes_cells (HT.out.keep0 hgp) k hlt
          obtain ⟨c0, c1, c2⟩ := hcs k hlt
          have d1 : wp.cell? ⟨B, 1, none⟩ = some (.slice ka c.takes.length kc) := blkC hBp 1 rfl
          obtain ⟨x, hx⟩ : ∃ x, x = tubeAt c.tubes k := ⟨_, rfl⟩
          rw [← hx] at c0 c1 c2
          have HX := Lib.hid hx
          clear hx hcs hBp
          go_wp2_with (fail)
          have hg3 := gr_alloc (gr_refl wp none) (.cells #[.int .i64 x.value, .int .i64 x.count, .int .i64 x.most] 41)
          obtain ⟨w3, hw3⟩ : ∃ w3, w3 = wp.alloc (.cells #[.int .i64 x.value, .int .i64 x.count, .int .i64 x.most] 41) := ⟨_, rfl⟩
          rw [← hw3] at hg3
          rw [← hw3]
          clear hw3
          have hgr3 := gr_trans hgr hg3
          have hgw3 := gr_trans hgw hgr3
          refine (contains_int ka c.takes kc x.value w3 (HK.out.keep0 hgw3) (by omega)).mono ?_
          rintro e w4 ⟨rfl, rfl⟩
          obtain ⟨bb, hbb⟩ : ∃ bb, bb = c.takes.any (fun y => x.value == y) := ⟨_, rfl⟩
          rw [← hbb]
          have HBB := Lib.hid hbb
          clear hbb c0 c1 c2 d1
          cases bb with
          | false =>
            go_wp2_with (fail)
            go_ret
            exact cfg_bad 8 (by decide) hgw3
          | true =>
            go_wp2_with (fail)
            go_roundw
            case rel =>
              refine ⟨k + 1, by omega, by go_num, fun j hj => ?_, hgr3⟩
              by_cases hjk : j = k
              · subst hjk; rw [← HX.out, ← HBB.out]
              · exact HAS.out j (by omega)
            case measure => simp [intOf]; omega
        · obtain rfl : k = c.tubes.length := by omega
          have d2 : wp.cell? ⟨B, 2, none⟩ = some (.slice sa c.slots.length sc) := blkC hBp 2 rfl
          clear hBp hgr hgw
          by_cases hs0 : c.slots.length = 0
          · have hsb : ((c.slots.length : Int) == 0) = true := by simp [hs0]
            clear hs0
            go_wp2_with (fail)
            go_ret
            exact cfg_bad 8 (by decide) hgp
          have hsb : ((c.slots.length : Int) == 0) = false := beq_eq_false_iff_ne.2 (by omega)
          by_cases hs60 : 60 < c.slots.length
          · go_wp2_with (fail)
            go_ret
            exact cfg_bad 2 (by decide) hgp
          go_wp2_with (fail)
          clear d2
          go_loopw [72] (fun i wr => ∃ k : Nat, k ≤ c.slots.length ∧ i = .int .i64 k ∧ (∀ j, j < k → OkSlot c.slots j) ∧ wp.grownBy wr none) (fun i _ => c.slots.length - (intOf i).toNat)
          case atStart => exact ⟨0, Nat.zero_le _, rfl, fun j hj => by omega, gr_refl _ _⟩
          case round =>
            obtain ⟨k, hkl, rfl, hok, hgr⟩ := hrel
            have HSO := Lib.hid hok; clear hok
            obtain ⟨wq, rfl⟩ : ∃ wq : World, wq = wr := ⟨_, rfl⟩
            have hgq := gr_trans hgp hgr
            have hBq := (hgr.block B hBlp (by simp)).trans HBp.out
            have hBlq := lt_of_block hBq
            have HBq := Lib.hid hBq
            clear hsb
            by_cases hlt : k < c.slots.length
            · obtain ⟨b, off, rfl, hcs⟩ := slot_cells (HSS.out.keep0 hgq) k hlt
              obtain ⟨c0, c1, c2, c3, c4⟩ := hcs k hlt
              have hin : wq.cell? ⟨b, off + (k - 1) * 5, none⟩ = some (.string (slotAt c.slots (k - 1)).key) := (hcs (k - 1) (by omega)).1
              have d2 : wq.cell? ⟨B, 2, none⟩ = some (.slice (some ⟨b, off, none⟩) c.slots.length sc) := blkC hBq 2 rfl
              have hks : (slotAt c.slots k).key.size ≤ 100 ∧ (slotAt c.slots k).prod.size ≤ 100 := by
                unfold slotAt
                rw [List.getD_eq_getElem?_getD, List.getElem?_eq_getElem hlt]
                exact HKS.out _ (List.getElem_mem hlt)
              obtain ⟨x, hx⟩ : ∃ x, x = slotAt c.slots k := ⟨_, rfl⟩
              obtain ⟨y, hy⟩ : ∃ y, y = (slotAt c.slots (k - 1)).key := ⟨_, rfl⟩
              rw [← hx] at c0 c1 c2 c3 c4 hks
              rw [← hy] at hin
              have HX := Lib.hid hx
              have HY := Lib.hid hy
              have hbq := lt_of_cell c0
              clear hx hy hcs hBq
              go_wp2_with (fail)
              have hq3 := heap_alloc_new wq (.cells #[.string x.key, .string x.prod, .int .i64 x.price, .int .i64 x.most, .int .i64 x.count] 43)
              have hg3 := gr_alloc (gr_refl wq none) (.cells #[.string x.key, .string x.prod, .int .i64 x.price, .int .i64 x.most, .int .i64 x.count] 43)
              obtain ⟨w3, hw3⟩ : ∃ w3, w3 = wq.alloc (.cells #[.string x.key, .string x.prod, .int .i64 x.price, .int .i64 x.most, .int .i64 x.count] 43) := ⟨_, rfl⟩
              rw [← hw3] at hq3 hg3
              rw [← hw3]
              obtain ⟨q, hqe⟩ : ∃ q, q = wq.heap.size := ⟨_, rfl⟩
              rw [← hqe] at hq3
              rw [← hqe]
              clear hw3 hqe c0 c1 c2 c3 c4
              have hql := lt_of_block hq3
              have HQ3 := Lib.hid hq3
              clear hq3
              refine (keyOf_any x.key w3 (by omega)).mono ?_
              rintro e w4 ⟨rfl, hg4⟩
              have hg34 := gr_trans hg3 hg4
              have hgr4 := gr_trans hgr hg34
              have hgq4 := gr_trans hgp hgr4
              have hq4 := (hg4.block q hql (by simp)).trans HQ3.out
              have hq4l := lt_of_block hq4
              obtain ⟨b4, hb4⟩ : ∃ b4, b4 = keyB x.key := ⟨_, rfl⟩
              rw [← hb4]
              have HB4 := Lib.hid hb4
              clear hb4
              cases b4 with
              | false =>
                go_wp2_with (fail)
                go_ret
                exact cfg_bad 5 (by decide) hgq4
              | true =>
                have e0 : w4.cell? ⟨q, 0, none⟩ = some (.string x.key) := blkC hq4 0 rfl
                have e1 : w4.cell? ⟨q, 1, none⟩ = some (.string x.prod) := blkC hq4 1 rfl
                have d4 : w4.cell? ⟨B, 2, none⟩ = some (.slice (some ⟨b, off, none⟩) c.slots.length sc) := (gr_cell hg34 hBlq).trans d2
                have i4 : w4.cell? ⟨b, off + (k - 1) * 5, none⟩ = some (.string y) := (gr_cell hg34 hbq).trans hin
                clear d2 hin hq4
                by_cases hk0 : k = 0
                · have hkb : decide (0 < k) = false := by simp; omega
                  have HK0 := Lib.hid hk0
                  clear hk0
                  go_wp2_with (fail)
                  go_quiet (fail)
                  go_wp2_with (fail)
                  refine (keyOf_any x.prod _ (by omega)).mono ?_
                  rintro e w6 ⟨rfl, hg6⟩
                  have hgr6 := gr_trans (gr_drewN hgr4 _) hg6
                  have hgq6 := gr_trans hgp hgr6
                  have hq6 := ((gr_trans (gr_drewN hg4 _) hg6).block q hql (by simp)).trans HQ3.out
                  have hq6l := lt_of_block hq6
                  obtain ⟨b6, hb6⟩ : ∃ b6, b6 = keyB x.prod := ⟨_, rfl⟩
                  rw [← hb6]
                  have HB6 := Lib.hid hb6
                  clear hb6
                  cases b6 with
                  | false =>
                    go_wp2_with (fail)
                    go_ret
                    exact cfg_bad 5 (by decide) hgq6
                  | true =>
                    have e2 : w6.cell? ⟨q, 2, none⟩ = some (.int .i64 x.price) := blkC hq6 2 rfl
                    have e3 : w6.cell? ⟨q, 3, none⟩ = some (.int .i64 x.most) := blkC hq6 3 rfl
                    have e4 : w6.cell? ⟨q, 4, none⟩ = some (.int .i64 x.count) := blkC hq6 4 rfl
                    clear hq6
                    by_cases hp0 : x.price < 1
                    · go_wp2_with (fail)
                      go_ret
                      exact cfg_bad 1 (by decide) hgq6
                    by_cases hp1 : 20000 < x.price
                    · go_wp2_with (fail)
                      go_ret
                      exact cfg_bad 1 (by decide) hgq6
                    by_cases hm0 : x.most < 0
                    · go_wp2_with (fail)
                      go_ret
                      exact cfg_bad 1 (by decide) hgq6
                    by_cases hm1 : 1000 < x.most
                    · go_wp2_with (fail)
                      go_ret
                      exact cfg_bad 1 (by decide) hgq6
                    by_cases hc0 : x.count < 0
                    · go_wp2_with (fail)
                      go_ret
                      exact cfg_bad 1 (by decide) hgq6
                    by_cases hc1 : x.most < x.count
                    · go_wp2_with (fail)
                      go_ret
                      exact cfg_bad 1 (by decide) hgq6
                    go_wp2_with (fail)
                    go_roundw
                    case rel =>
                      refine ⟨k + 1, by omega, by go_num, fun j hj => ?_, hgr6⟩
                      by_cases hjk : j = k
                      · subst hjk
                        exact ⟨by rw [← HX.out, ← HB4.out], fun h => absurd HK0.out (by omega), by rw [← HX.out, ← HB6.out], by rw [← HX.out]; omega, by rw [← HX.out]; omega, by rw [← HX.out]; omega, by rw [← HX.out]; omega, by rw [← HX.out]; omega, by rw [← HX.out]; omega⟩
                      · exact HSO.out j (by omega)
                    case measure => simp [intOf]; omega
                · obtain ⟨k', rfl⟩ : ∃ k', k = k' + 1 := ⟨k - 1, by omega⟩
                  rw [show k' + 1 - 1 = k' by omega] at i4 HY
                  clear hk0
                  obtain ⟨lb, hlb⟩ : ∃ lb, leB x.key y = lb := ⟨_, rfl⟩
                  have hlb2 : (Op.bytesLess x.key.toList y.toList || x.key.toList == y.toList) = lb := hlb
                  have HLB := Lib.hid hlb
                  clear hlb
                  cases lb with
                  | true =>
                    go_wp2_with (fail)
                    go_quiet (fail)
                    go_wp2_with (fail)
                    go_ret
                    exact cfg_bad 7 (by decide) (gr_drewN hgq4 _)
                  | false =>
                    go_wp2_with (fail)
                    go_quiet (fail)
                    go_wp2_with (fail)
                    refine (keyOf_any x.prod _ (by omega)).mono ?_
                    rintro e w6 ⟨rfl, hg6⟩
                    have hgr6 := gr_trans (gr_drewN hgr4 _) hg6
                    have hgq6 := gr_trans hgp hgr6
                    have hq6 := ((gr_trans (gr_drewN hg4 _) hg6).block q hql (by simp)).trans HQ3.out
                    have hq6l := lt_of_block hq6
                    obtain ⟨b6, hb6⟩ : ∃ b6, b6 = keyB x.prod := ⟨_, rfl⟩
                    rw [← hb6]
                    have HB6 := Lib.hid hb6
                    clear hb6
                    cases b6 with
                    | false =>
                      go_wp2_with (fail)
                      go_ret
                      exact cfg_bad 5 (by decide) hgq6
                    | true =>
                      have e2 : w6.cell? ⟨q, 2, none⟩ = some (.int .i64 x.price) := blkC hq6 2 rfl
                      have e3 : w6.cell? ⟨q, 3, none⟩ = some (.int .i64 x.most) := blkC hq6 3 rfl
                      have e4 : w6.cell? ⟨q, 4, none⟩ = some (.int .i64 x.count) := blkC hq6 4 rfl
                      clear hq6
                      by_cases hp0 : x.price < 1
                      · go_wp2_with (fail)
                        go_ret
                        exact cfg_bad 1 (by decide) hgq6
                      by_cases hp1 : 20000 < x.price
                      · go_wp2_with (fail)
                        go_ret
                        exact cfg_bad 1 (by decide) hgq6
                      by_cases hm0 : x.most < 0
                      · go_wp2_with (fail)
                        go_ret
                        exact cfg_bad 1 (by decide) hgq6
                      by_cases hm1 : 1000 < x.most
                      · go_wp2_with (fail)
                        go_ret
                        exact cfg_bad 1 (by decide) hgq6
                      by_cases hc0 : x.count < 0
                      · go_wp2_with (fail)
                        go_ret
                        exact cfg_bad 1 (by decide) hgq6
                      by_cases hc1 : x.most < x.count
                      · go_wp2_with (fail)
                        go_ret
                        exact cfg_bad 1 (by decide) hgq6
                      go_wp2_with (fail)
                      go_roundw
                      case rel =>
                        refine ⟨k' + 1 + 1, by omega, by go_num, fun j hj => ?_, hgr6⟩
                        by_cases hjk : j = k' + 1
                        · subst hjk
                          exact ⟨by rw [← HX.out, ← HB4.out], fun _ => by rw [← HX.out, show k' + 1 - 1 = k' by omega, ← HY.out]; exact HLB.out, by rw [← HX.out, ← HB6.out], by rw [← HX.out]; omega, by rw [← HX.out]; omega, by rw [← HX.out]; omega, by rw [← HX.out]; omega, by rw [← HX.out]; omega, by rw [← HX.out]; omega⟩
                        · exact HSO.out j (by omega)
                      case measure => simp [intOf]; omega
            · obtain rfl : k = c.slots.length := by omega
              have d3 : wq.cell? ⟨B, 3, none⟩ = some (.int .i64 c.high) := blkC hBq 3 rfl
              clear hBq
              by_cases hh0 : c.high < 1
              · go_wp2_with (fail)
                go_ret
                exact cfg_bad 1 (by decide) hgq
              by_cases hh1 : 20000 < c.high
              · go_wp2_with (fail)
                go_ret
                exact cfg_bad 1 (by decide) hgq
              go_wp2_with (fail)
              go_ret
              exact ⟨0, rfl, fun _ => ⟨HTO.out, by omega, HTK.out, HAS.out, by omega, by omega, HSO.out, by omega, by omega⟩, hgq⟩
end Go.Proofs.YtdjnomeabadbnaaDoor
