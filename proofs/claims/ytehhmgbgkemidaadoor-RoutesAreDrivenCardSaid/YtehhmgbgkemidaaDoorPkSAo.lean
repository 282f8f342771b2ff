/- Driving an order: the way, and whether it is driven. -/
import Derived.Test.YtehhmgbgkemidaaDoorPkSAn
import Derived.Test.YtehhmgbgkemidaaDoorPkSAa
import Derived.Test.YtehhmgbgkemidaaDoorPkSAd
import Derived.Deep.DeepCutAuto
import Derived.Test.YtehhmgbgkemidaaDoorPkSAk
import Derived.Deep.RegionLaw
import Derived.Test.YtehhmgbgkemidaaDoorPkSAc
namespace Go.Proofs.YtehhmgbgkemidaaDoor
open Go.RowKit

set_option maxRecDepth 100000 in
theorem far_val (x1 y1 x2 y2 : Int) (w : World) (h1 : -10000 ≤ x1 ∧ x1 ≤ 10000) (h2 : -10000 ≤ y1 ∧ y1 ≤ 10000) (h3 : -10000 ≤ x2 ∧ x2 ≤ 10000) (h4 : -10000 ≤ y2 ∧ y2 ≤ 10000) :
    Calls Tryd.prog 25 #[.agg #[.int .i64 x1, .int .i64 y1], .agg #[.int .i64 x2, .int .i64 y2]] w fun e w' => e = .returned (.int .i64 (farI x1 y1 x2 y2)) ∧ w.grownBy w' none := by
  have hg := gr_alloc (gr_alloc (gr_refl w none) (.cells #[.int .i64 x1, .int .i64 y1] 29)) (.cells #[.int .i64 x2, .int .i64 y2] 29)
  have HG := Lib.hid hg
  clear hg
  have hE : Hid (farI x1 y1 x2 y2 = max (x1 - x2) (x2 - x1) + max (y1 - y2) (y2 - y1)) := rfl
  go_enter Tryd.func25, Tryd.ntmps25
  go_wp2_with (fail)
  all_goals go_ret
  all_goals exact ⟨ret_int hE.out.symm, HG.out⟩
theorem runP_none {xs : List Stop} {O : List Int} {p : Pos} (k : Nat) (h : runP xs (O.take k) p = none) : runP xs O p = none := by
  rw [← List.take_append_drop k O, runP_app, h]
  rfl
theorem runP_next {xs : List Stop} {O : List Int} {p q : Pos} (k : Nat) (hk : k < O.length) (h : runP xs (O.take k) p = some q) : runP xs (O.take (k + 1)) p = stepP (stopN xs (O.getD k 0)) q := by
  rw [List.take_succ_eq_append_getElem hk, runP_snoc, h, getD_eq O k 0 hk]
  rfl
/-- A tour of that way, if it is driven; the memory of the call is new. -/
def DrvPost (r : Option Int) (w : World) (e : Ending) (w' : World) : Prop :=
  (∃ (ba : Option Addr) (bn bc : Nat) (x y z : Int), e = .returned (.tuple #[.agg #[.slice ba bn bc, .int .i64 x, .int .i64 y, .int .i64 z], .bool r.isSome]) ∧ ∀ W, r = some W → y = W) ∧ w.grownBy w' none
set_option maxRecDepth 100000 in
set_option maxHeartbeats 4000000 in
theorem drive_val (hx hy st : Int) (xs : List Stop) (a : Option Addr) (c : Nat) (O : List Int) (ao : Option Addr) (co : Nat) (w : World) (hc : CellsAt w a (flat encStop xs)) (hl : xs.length ≤ 60) (ht : TripOk hx hy st xs)
    (hco : CellsAt w ao (ints O)) (hlo : O.length ≤ 100) (hO : ∀ i ∈ O, 0 ≤ i ∧ i < xs.length) :
    Calls Tryd.prog 28 #[.agg #[.int .i64 hx, .int .i64 hy, .slice a xs.length c, .int .i64 st], .slice ao O.length co] w (DrvPost (drvM hx hy st xs O) w) := by
  have HTO := Lib.hid ht
  have PS := Lib.hid ht.start
  clear ht
  obtain ⟨dt, hd1⟩ := und_struct (P := Tryd.prog) (t := 40) (by kernel_rfl)
  obtain ⟨b1, b2, b3⟩ := heap_3 w (.cells #[.int .i64 hx, .int .i64 hy, .slice a xs.length c, .int .i64 st] 60) (.cells #[.slice none 0 0, .int .i64 0, .int .i64 0, .int .i64 0] 40) (.cells #[.slice none 0 0, .int .i64 0, .int .i64 0, .int .i64 0] 40)
  have g1 := gr_alloc (gr_alloc (gr_alloc (gr_refl w none) (.cells #[.int .i64 hx, .int .i64 hy, .slice a xs.length c, .int .i64 st] 60)) (.cells #[.slice none 0 0, .int .i64 0, .int .i64 0, .int .i64 0] 40)) (.cells #[.slice none 0 0, .int .i64 0, .int .i64 0, .int .i64 0] 40)
  have z1 : (((w.alloc (.cells #[.int .i64 hx, .int .i64 hy, .slice a xs.length c, .int .i64 st] 60)).alloc (.cells #[.slice none 0 0, .int .i64 0, .int .i64 0, .int .i64 0] 40)).alloc (.cells #[.slice none 0 0, .int .i64 0, .int .i64 0, .int .i64 0] 40)).heap.size = w.heap.size + 3 := by simp
  obtain ⟨w1, hw1⟩ : ∃ w1, w1 = (((w.alloc (.cells #[.int .i64 hx, .int .i64 hy, .slice a xs.length c, .int .i64 st] 60)).alloc (.cells #[.slice none 0 0, .int .i64 0, .int .i64 0, .int .i64 0] 40)).alloc (.cells #[.slice none 0 0, .int .i64 0, .int .i64 0, .int .i64 0] 40)) := ⟨_, rfl⟩
  rw [← hw1] at b1 b2 b3 g1 z1
  have HW1 := Lib.hid hw1
  obtain ⟨T, hT⟩ : ∃ T, T = w.heap.size := ⟨_, rfl⟩
  rw [← hT] at b1 b2 b3 z1
  have HT := Lib.hid hT
  obtain ⟨t0, t1, t2, t3⟩ := blk4 b1
  have HB1 := Lib.hid b1
  have HB2 := Lib.hid b2
  have HB3 := Lib.hid b3
  have HZ1 := Lib.hid z1
  have htl : T < w1.heap.size := by omega
  have HOO := Lib.hid hO
  clear hw1 hT b1 b2 b3 z1 hO
  go_enter Tryd.func28, Tryd.ntmps28
  go_wp2_with (fail)
  rw [← HW1.out, ← HT.out]
  go_cut [7, 8] (fun s7 s8 wx => s7 = .pointer (some ⟨w1.heap.size, 0, none⟩) ∧ s8 = .int .i64 st ∧ wx.heap[w1.heap.size]? = some (.cells #[.int .i64 hx, .int .i64 hy] 29 (0, 0)) ∧ w1.grownBy wx none)
  case first =>
    go_region
    all_goals (go_wp2_with (fail))
    all_goals (try go_simp)
    all_goals go_meet
    all_goals exact ⟨rfl, rfl, heap_alloc_new w1 _, gr_drew (gr_alloc (gr_refl _ _) _)⟩
  case rest =>
    obtain ⟨rfl, rfl, hA2, g2⟩ := hcut
    obtain ⟨w2, rfl⟩ : ∃ w2 : World, w2 = wc := ⟨_, rfl⟩
    obtain ⟨A, hA⟩ : ∃ A, A = w1.heap.size := ⟨_, rfl⟩
    obtain ⟨R, hR⟩ : ∃ R, R = T + 1 := ⟨_, rfl⟩
    obtain ⟨U, hU⟩ : ∃ U, U = R + 1 := ⟨_, rfl⟩
    have hT2 := (g2.block T (lt_of_block HB1.out) (by simp)).trans HB1.out
    have hR2 := (g2.block (T + 1) (lt_of_block HB2.out) (by simp)).trans HB2.out
    have hU2 := (g2.block (T + 2) (lt_of_block HB3.out) (by simp)).trans HB3.out
    rw [show T + 2 = U by omega] at hU2
    rw [← hR] at hR2
    rw [← hA] at hA2
    rw [← hA, ← hR, ← hU]
    have hTw : w.heap.size ≤ T := by have := HT.out; omega
    have hTR : T < R := by omega
    have hRU : R < U := by omega
    have hUA : U < A := by have := HZ1.out; omega
    have hgr2 := gr_trans g1 g2
    have hsz2 : T ≤ w2.heap.size := Nat.le_of_lt (lt_of_block hT2)
    clear hA hR hU t0 t1 t2 t3 g1 g2 htl
    go_wp2_with (fail)
    go_loopw [8, 21] (fun s8 i wr => ∃ (k : Nat) (now x y wy wt : Int) (bv : Value) (B : List Int), (runP xs (O.take k) ⟨hx, hy, st, 0⟩ = some ⟨x, y, now, wy⟩ ∧ PosOk ⟨x, y, now, wy⟩ k) ∧ k ≤ O.length ∧ i = .int .i64 k ∧ s8 = .int .i64 now ∧ wr.heap[A]? = some (.cells #[.int .i64 x, .int .i64 y] 29 (0, 0)) ∧
      wr.heap[U]? = some (.cells #[bv, .int .i64 0, .int .i64 wy, .int .i64 wt] 40 (0, 0)) ∧ wr.heap[R]? = some (.cells #[.slice none 0 0, .int .i64 0, .int .i64 0, .int .i64 0] 40 (0, 0)) ∧
      wr.heap[T]? = some (.cells #[.int .i64 hx, .int .i64 hy, .slice a xs.length c, .int .i64 st] 60 (0, 0)) ∧ wr.ownsRow T 3 1 bv k (ints B) ∧ w.grownBy wr none) (fun _ i _ => O.length - (intOf i).toNat)
    case atStart => exact ⟨0, st, hx, hy, 0, 0, _, [], ⟨rfl, PS.out⟩, by omega, rfl, rfl, hA2, hU2, hR2, hT2, World.ownsRow_nil _ _ _ _, hgr2⟩
    case round =>
      clear hA2 hU2 hR2 hT2 hgr2 hsz2
      obtain ⟨k, now, x, y, wy, wt, bv, B, ⟨hrun, hpos⟩, hk, rfl, rfl, hA2, hU2, hR2, hT2, hown, hgr⟩ := hrel
      obtain ⟨wo, rfl⟩ : ∃ wo : World, wo = wr := ⟨_, rfl⟩
      have hAl := lt_of_block hA2
      have HRUN := Lib.hid hrun
      have HPOS := Lib.hid hpos
      obtain ⟨p1, p2, p3, p4, p5, p6, p7, p8⟩ := hpos
      simp only at p1 p2 p3 p4 p5 p6 p7 p8
      clear hrun
      have a0 : wo.cell? ⟨A, 0, none⟩ = some (.int .i64 x) := blkC hA2 0 rfl
      have a1 : wo.cell? ⟨A, 1, none⟩ = some (.int .i64 y) := blkC hA2 1 rfl
      have HA := Lib.hid hA2
      have HU := Lib.hid hU2
      have HR := Lib.hid hR2
      have HTT := Lib.hid hT2
      have HVU := Lib.hid (own_ne hown hU2 (by decide))
      have HVR := Lib.hid (own_ne hown hR2 (by decide))
      have HVA := Lib.hid (own_ne hown hA2 (by decide))
      have HVT := Lib.hid (own_ne hown hT2 (by decide))
      by_cases hlt : k < O.length
      · obtain ⟨ob, oo, rfl, d0⟩ := (hco.keep0 hgr) k _ (ints_get O k hlt)
        have hmem : O.getD k 0 ∈ O := by rw [getD_eq O k 0 hlt]; exact List.getElem_mem hlt
        have hm2 := HOO.out _ hmem
        obtain ⟨m, hm⟩ : ∃ m : Nat, O.getD k 0 = (m : Int) := ⟨(O.getD k 0).toNat, by omega⟩
        rw [hm] at d0 hm2
        have hml : m < xs.length := by omega
        obtain ⟨b, off, rfl, hcs⟩ := flat_cells encStop_len (by decide) (hc.keep0 hgr) (by omega)
        obtain ⟨s, hs⟩ : ∃ s, s = xs[m] := ⟨_, rfl⟩
        have e0 : wo.cell? ⟨b, off + m * 6, none⟩ = some (.string s.key) := by rw [hs]; exact hcs m hml 0 _ rfl
        have e1 : wo.cell? ⟨b, off + m * 6 + 1, none⟩ = some (.int .i64 s.x) := by rw [hs]; exact hcs m hml 1 _ rfl
        have e2 : wo.cell? ⟨b, off + m * 6 + 2, none⟩ = some (.int .i64 s.y) := by rw [hs]; exact hcs m hml 2 _ rfl
        have e3 : wo.cell? ⟨b, off + m * 6 + 3, none⟩ = some (.int .i64 s.fr) := by rw [hs]; exact hcs m hml 3 _ rfl
        have e4 : wo.cell? ⟨b, off + m * 6 + 4, none⟩ = some (.int .i64 s.tt) := by rw [hs]; exact hcs m hml 4 _ rfl
        have e5 : wo.cell? ⟨b, off + m * 6 + 5, none⟩ = some (.int .i64 s.lo) := by rw [hs]; exact hcs m hml 5 _ rfl
        have t2 : wo.cell? ⟨T, 2, none⟩ = some (.slice (some ⟨b, off, none⟩) xs.length c) := blkC hT2 2 rfl
        have hsm : s ∈ xs := by rw [hs]; exact List.getElem_mem hml
        have HSO := Lib.hid (HTO.out.all s hsm)
        obtain ⟨r1, r2, r3, r4, r5, r6, r7, r8, r9⟩ := HTO.out.all s hsm
        have hsN : stopN xs (O.getD k 0) = s := by
          unfold stopN
          rw [hm, Int.toNat_natCast, List.getD_eq_getElem?_getD, List.getElem?_eq_getElem hml, hs]; rfl
        have RN := Lib.hid (runP_next k hlt HRUN.out)
        rw [hsN] at RN
        have hkb : (k : Int) ≤ 100 := by omega
        have hf := farI_bd p1 p2 p3 p4 r1 r2 r3 r4
        clear hs hcs hmem hm hm2 hA2 hU2 hR2 hT2 hsm hsN
        go_wp2_with (fail)
        have hS3 := heap_alloc_new wo (.cells #[.string s.key, .int .i64 s.x, .int .i64 s.y, .int .i64 s.fr, .int .i64 s.tt, .int .i64 s.lo] 52)
        have hg3 := gr_alloc (gr_refl wo none) (.cells #[.string s.key, .int .i64 s.x, .int .i64 s.y, .int .i64 s.fr, .int .i64 s.tt, .int .i64 s.lo] 52)
        obtain ⟨S, hS⟩ : ∃ S, S = wo.heap.size := ⟨_, rfl⟩
        rw [← hS] at hS3
        rw [← hS]
        have hSw : w.heap.size ≤ S := by have := hgr.size; omega
        have hAS : A < S := by omega
        refine (far_val x y s.x s.y _ ⟨p1, p2⟩ ⟨p3, p4⟩ ⟨r1, r2⟩ ⟨r3, r4⟩).mono ?_
        rintro e w4 ⟨rfl, hg4⟩
        obtain ⟨v, hv⟩ : ∃ v, v = farI x y s.x s.y := ⟨_, rfl⟩
        rw [← hv] at hf ⊢
        have HV := Lib.hid hv
        clear hv
        have hS4 := (hg4.block S (lt_of_block hS3) (by simp)).trans hS3
        have hg4 := gr_trans hg3 hg4
        have hA4 := (hg4.block A (lt_of_block HA.out) (by simp)).trans HA.out
        have hU4 := (hg4.block U (lt_of_block HU.out) (by simp)).trans HU.out
        have hR4 := (hg4.block R (lt_of_block HR.out) (by simp)).trans HR.out
        have hT4 := (hg4.block T (lt_of_block HTT.out) (by simp)).trans HTT.out
        have hown4 := own_keep0 hown hg4
        have hgr4 := gr_trans hgr hg4
        have hsz4 := hg4.size
        have f3 : w4.cell? ⟨S, 3, none⟩ = some (.int .i64 s.fr) := blkC hS4 3 rfl
        have HS4 := Lib.hid hS4
        have HA4 := Lib.hid hA4
        have HU4 := Lib.hid hU4
        have HR4 := Lib.hid hR4
        have HT4 := Lib.hid hT4
        clear hS hS3 hg3 hS4 hA4 hU4 hR4 hT4 hown hgr hg4 HA HU HR HTT a0 a1 d0 e0 e1 e2 e3 e4 e5 t2
        have hp : IntKind.i64.wrap (now + v) = now + v := IntWalk.i64_in _ (by omega)
        go_upto_region 8 with (fail)
        go_cut [13] (fun s13 wx => ∃ bg : Int, s13 = .int .i64 bg ∧ bg = max (now + v) s.fr ∧ wx = w4)
        case first =>
          go_wp2_with (fail)
          all_goals go_meet
          all_goals exact ⟨_, rfl, rfl, rfl⟩
        case rest =>
        obtain ⟨bg, rfl, hbg, hwc⟩ := hcut
        have HBG := Lib.hid hbg
        have hbb : 0 ≤ bg ∧ now ≤ bg := by omega
        clear hbg
        rw [hwc]
        clear hwc
        clear hp f3
        have f4 : w4.cell? ⟨S, 4, none⟩ = some (.int .i64 s.tt) := blkC HS4.out 4 rfl
        by_cases hbt : s.tt < bg
        · have DN : drvM hx hy st xs O = none := by
            have e : runP xs (O.take (k + 1)) ⟨hx, hy, st, 0⟩ = none := by
              rw [RN.out]
              unfold stepP
              simp only
              rw [← HV.out, ← HBG.out, if_pos hbt]
            unfold drvM
            rw [runP_none (k + 1) e]
            rfl
          have DN := Lib.hid DN
          clear RN
          obtain ⟨r0, r1, r2, r3⟩ := blk4 HR4.out
          have z0 := blkF HR4.out 0
          have z1 := blkF HR4.out 1
          have z2 := blkF HR4.out 2
          have z3 := blkF HR4.out 3
          go_wp2_with (fail)
          refine bodyPost_ret (results_cell_slot (p := 4) (q := 5) (by kernel_rfl) _ _ R _ #[.slice none 0 0, .int .i64 0, .int .i64 0, .int .i64 0] _ (.struct dt) _ rfl rfl (set4_heap HR4.out _ _ _ _) hd1 rfl (by kernel_rfl)) rfl ⟨⟨none, 0, 0, 0, 0, 0, by rw [DN.out]; rfl, fun W h => by rw [DN.out] at h; cases h⟩, ?_⟩
          exact gr_grown hgr4 (set4_gr _ _ _ _ _ _) (fun g e => by cases e; omega)
        · have u0 : w4.cell? ⟨U, 0, none⟩ = some bv := blkC HU4.out 0 rfl
          have hstep : stepP s ⟨x, y, now, wy⟩ = some ⟨s.x, s.y, bg + s.lo, wy + v⟩ := by
            unfold stepP
            simp only
            rw [← HV.out, ← HBG.out, if_neg hbt]
          have RN2 : Hid (runP xs (O.take (k + 1)) ⟨hx, hy, st, 0⟩ = some ⟨s.x, s.y, bg + s.lo, wy + v⟩) := by show _ = _; rw [RN.out, hstep]
          have PO2 := Lib.hid (HPOS.out.step HSO.out hstep)
          clear hstep RN
          obtain ⟨wy2, hwy2, hwy3⟩ : ∃ q, IntKind.i64.wrap (wy + v) = q ∧ q = wy + v := ⟨_, rfl, IntWalk.i64_in _ (by omega)⟩
          have HWY := Lib.hid hwy3
          clear hwy3
          obtain ⟨d1, hdd1⟩ : ∃ q, IntKind.i64.wrap (bg - now) = q := ⟨_, rfl⟩
          obtain ⟨d2, hdd2⟩ : ∃ q, IntKind.i64.wrap (d1 - v) = q := ⟨_, rfl⟩
          obtain ⟨wt2, hwt2⟩ : ∃ q, IntKind.i64.wrap (wt + d2) = q := ⟨_, rfl⟩
          go_wp2_with (at_builtin; refine wpList_app1 eInt rfl _ _ rfl T bv k _ rfl w4 #[.int .i64 bg] rfl hown4 _ rfl rfl rfl rfl ?_ ?_ ?_; (· omega); (· omega); intro v5 w5 hown5 hg5 hlt5; have hU5 := (hg5.block U (lt_of_block HU4.out) (fun e => HVU.out e.symm)).trans HU4.out; obtain ⟨u0, u1, u2, u3⟩ := blk4 hU5; have z0 := blkF hU5 0; have z2 := blkF hU5 2; have z3 := blkF hU5 3; have HU5 := Lib.hid hU5; clear hU5; obtain ⟨g6, c6, rfl, _, _, _, _⟩ := own_some hown5 (by omega))
          obtain ⟨w6, hw6⟩ : ∃ w6, w6 = ((w5.setCell ⟨U, 0, none⟩ (.slice (some ⟨g6, 0, none⟩) (k + 1) c6)).setCell ⟨U, 2, none⟩ (.int .i64 wy2)).setCell ⟨U, 3, none⟩ (.int .i64 wt2) := ⟨_, rfl⟩
          have hgU : w5.grownBy w6 (some U) := by rw [hw6]; exact gr_set (q := ⟨U, 3, none⟩) (gr_set (q := ⟨U, 2, none⟩) (gr_set (q := ⟨U, 0, none⟩) (gr_refl w5 (some U)) rfl _) rfl _) rfl _
          have hU6 : w6.heap[U]? = some (.cells #[.slice (some ⟨g6, 0, none⟩) (k + 1) c6, .int .i64 0, .int .i64 wy2, .int .i64 wt2] 40 (0, 0)) := by
            rw [hw6]
            have k1 := heap_setCell_same w5 U 0 _ _ (.slice (some ⟨g6, 0, none⟩) (k + 1) c6) HU5.out
            have k2 := heap_setCell_same _ U 2 _ _ (.int .i64 wy2) k1
            exact heap_setCell_same _ U 3 _ _ (.int .i64 wt2) k2
          have hA5 := (hg5.block A (lt_of_block HA4.out) (fun e => HVA.out e.symm)).trans HA4.out
          have hA6 := (hgU.block A (lt_of_block hA5) (by simp; omega)).trans hA5
          have hR5 := (hg5.block R (lt_of_block HR4.out) (fun e => HVR.out e.symm)).trans HR4.out
          have hR6 := (hgU.block R (lt_of_block hR5) (by simp; omega)).trans hR5
          have hT5 := (hg5.block T (lt_of_block HT4.out) (fun e => HVT.out e.symm)).trans HT4.out
          have hT6 := (hgU.block T (lt_of_block hT5) (by simp; omega)).trans hT5
          have hS5 := (hg5.block S (lt_of_block HS4.out) (fun e => own_ne hown4 HS4.out (by decide) e.symm)).trans HS4.out
          have hS6 := (hgU.block S (lt_of_block hS5) (by simp; omega)).trans hS5
          have hown6 := own_keep hown5 hgU (.inr (own_ne hown5 HU5.out (by decide)))
          have hgr6 := gr_grown (gr_grown hgr4 hg5 (fun q e => by have := hlt5 q e; omega)) hgU (fun g e => by cases e; omega)
          have a0 : w6.cell? ⟨A, 0, none⟩ = some (.int .i64 x) := blkC hA6 0 rfl
          have a1 : w6.cell? ⟨A, 1, none⟩ = some (.int .i64 y) := blkC hA6 1 rfl
          have y0 := blkF hA6 0
          have y1 := blkF hA6 1
          have s1 : w6.cell? ⟨S, 1, none⟩ = some (.int .i64 s.x) := blkC hS6 1 rfl
          have s2 : w6.cell? ⟨S, 2, none⟩ = some (.int .i64 s.y) := blkC hS6 2 rfl
          have s5 : w6.cell? ⟨S, 5, none⟩ = some (.int .i64 s.lo) := blkC hS6 5 rfl
          rw [← hw6]
          have HA6 := Lib.hid hA6
          have HU6 := Lib.hid hU6
          have HR6 := Lib.hid hR6
          have HT6 := Lib.hid hT6
          have HO6 := Lib.hid hown6
          clear hw6 hgU hU6 hA5 hA6 hR5 hR6 hT5 hT6 hS5 hS6 hown5 hown6 hg5 hlt5 u0 u1 u2 u3 z0 z2 z3 f4 hwy2 hdd1 hdd2 hwt2 HU5 hown4
          obtain ⟨nw, hnw, hnw3⟩ : ∃ q, IntKind.i64.wrap (bg + s.lo) = q ∧ q = bg + s.lo := ⟨_, rfl, IntWalk.i64_in _ (by omega)⟩
          have HNW := Lib.hid hnw3
          clear hnw3
          go_region
          all_goals (go_wp2_with (fail))
          all_goals go_roundw
          all_goals first | (simp [intOf]; omega) | skip
          all_goals
            have hgA := gr_drew (gr_set (q := ⟨A, 1, none⟩) (gr_set (q := ⟨A, 0, none⟩) (gr_refl w6 (some A)) rfl (.int .i64 s.x)) rfl (.int .i64 s.y))
            have hO7 := own_keep HO6.out hgA (.inr (own_ne HO6.out HA6.out (by decide)))
            refine ⟨k + 1, nw, s.x, s.y, wy2, wt2, _, B ++ [bg], ⟨by rw [HNW.out, HWY.out]; exact RN2.out, by rw [HNW.out, HWY.out]; exact PO2.out⟩, by omega, by go_num, rfl, set2_heap HA6.out _ _, (hgA.block U (lt_of_block HU6.out) (by simp; omega)).trans HU6.out, (hgA.block R (lt_of_block HR6.out) (by simp; omega)).trans HR6.out, (hgA.block T (lt_of_block HT6.out) (by simp; omega)).trans HT6.out, ?_, gr_grown hgr6 hgA (fun g e => by cases e; omega)⟩
            simpa [ints] using hO7
      · obtain rfl : k = O.length := by omega
        obtain ⟨ba, bc, rfl, _, _, _, _⟩ := own_shape hown
        have t0 : wo.cell? ⟨T, 0, none⟩ = some (.int .i64 hx) := blkC hT2 0 rfl
        have t1 : wo.cell? ⟨T, 1, none⟩ = some (.int .i64 hy) := blkC hT2 1 rfl
        clear hA2 hU2 hR2 hT2
        go_wp2_with (fail)
        refine (far_val x y hx hy _ ⟨p1, p2⟩ ⟨p3, p4⟩ ⟨HTO.out.hx0, HTO.out.hx1⟩ ⟨HTO.out.hy0, HTO.out.hy1⟩).mono ?_
        rintro e w4 ⟨rfl, hg4⟩
        have hf := farI_bd p1 p2 p3 p4 HTO.out.hx0 HTO.out.hx1 HTO.out.hy0 HTO.out.hy1
        have DS : drvM hx hy st xs O = some (wy + farI x y hx hy) := by
          have e := HRUN.out
          rw [List.take_length] at e
          unfold drvM
          rw [e]
          rfl
        obtain ⟨v, hv⟩ : ∃ v, v = farI x y hx hy := ⟨_, rfl⟩
        rw [← hv] at hf DS ⊢
        have DS := Lib.hid DS
        clear hv
        have hU4 := (hg4.block U (lt_of_block HU.out) (by simp)).trans HU.out
        have hR4 := (hg4.block R (lt_of_block HR.out) (by simp)).trans HR.out
        have hgr4 := gr_trans hgr hg4
        obtain ⟨u0, u1, u2, u3⟩ := blk4 hU4
        obtain ⟨r0, r1, r2, r3⟩ := blk4 hR4
        have z1 := blkF hU4 1
        have z2 := blkF hU4 2
        have y0 := blkF hR4 0
        have y1 := blkF hR4 1
        have y2 := blkF hR4 2
        have y3 := blkF hR4 3
        have HR4 := Lib.hid hR4
        have HU4 := Lib.hid hU4
        obtain ⟨wy2, hwy2, hwy3⟩ : ∃ q, IntKind.i64.wrap (wy + v) = q ∧ q = wy + v := ⟨_, rfl, IntWalk.i64_in _ (by omega)⟩
        have HWY := Lib.hid hwy3
        clear hwy3
        obtain ⟨en, hen⟩ : ∃ q, IntKind.i64.wrap (now + v) = q := ⟨_, rfl⟩
        clear hU4 hR4 hg4 t0 t1 a0 a1
        go_wp2_with (fail)
        have hgU := gr_set (q := ⟨U, 1, none⟩) (gr_set (q := ⟨U, 2, none⟩) (gr_refl w4 (some U)) rfl (.int .i64 wy2)) rfl (.int .i64 en)
        have hR6 := (hgU.block R (lt_of_block HR4.out) (by simp; omega)).trans HR4.out
        refine bodyPost_ret (results_cell_slot (p := 4) (q := 5) (by kernel_rfl) _ _ R _ #[.slice ba O.length bc, .int .i64 en, .int .i64 wy2, .int .i64 wt] _ (.struct dt) _ rfl rfl (set4_heap hR6 _ _ _ _) hd1 rfl (by kernel_rfl)) rfl ⟨⟨_, _, _, _, _, _, by rw [DS.out]; rfl, fun W h => by rw [DS.out] at h; rw [HWY.out]; exact Option.some.inj h⟩, ?_⟩
        exact gr_grown (gr_grown hgr4 hgU (fun g e => by cases e; omega)) (set4_gr _ _ _ _ _ _) (fun g e => by cases e; omega)
end Go.Proofs.YtehhmgbgkemidaaDoor

/-! round.Drive of an order that is right and can be driven. -/
namespace Go.Proofs.YtehhmgbgkemidaaDoor
open Go.RowKit

set_option maxRecDepth 100000 in
set_option maxHeartbeats 2000000 in
theorem driveE_val (hx hy st : Int) (xs : List Stop) (a : Option Addr) (c : Nat) (O : List Int) (ao : Option Addr) (co : Nat) (w : World) (hc : CellsAt w a (flat encStop xs)) (hl : xs.length ≤ 60) (hcap : xs.length ≤ c) (hk : ∀ x ∈ xs, x.key.size ≤ 100) (hok : StopsOk xs) (ht : TripOk hx hy st xs) (ho : OrdOk O xs.length) (W : Int) (hW : drvM hx hy st xs O = some W)
    (hco : CellsAt w ao (ints O)) (hlo : O.length ≤ 100) :
    Calls Tryd.prog 11 #[.agg #[.int .i64 hx, .int .i64 hy], .slice a xs.length c, .int .i64 st, .slice ao O.length co] w fun e w' => (∃ (ba : Option Addr) (bn bc : Nat) (x z : Int), e = .returned (.tuple #[.agg #[.slice ba bn bc, .int .i64 x, .int .i64 W, .int .i64 z], .int .i64 0])) ∧ w.grownBy w' none := by
  have HTO := Lib.hid ht
  have HO := Lib.hid ho
  have HWW := Lib.hid hW
  obtain ⟨dt, hd1⟩ := und_struct (P := Tryd.prog) (t := 40) (by kernel_rfl)
  obtain ⟨b1, b2, b3⟩ := heap_3 w (.cells #[.int .i64 hx, .int .i64 hy] 29) (.cells #[.slice none 0 0, .int .i64 0, .int .i64 0, .int .i64 0] 40) (.cells #[.int .i64 hx, .int .i64 hy, .slice a xs.length c, .int .i64 st] 60)
  have g1 := gr_alloc (gr_alloc (gr_alloc (gr_refl w none) (.cells #[.int .i64 hx, .int .i64 hy] 29)) (.cells #[.slice none 0 0, .int .i64 0, .int .i64 0, .int .i64 0] 40)) (.cells #[.int .i64 hx, .int .i64 hy, .slice a xs.length c, .int .i64 st] 60)
  obtain ⟨w1, hw1⟩ : ∃ w1, w1 = (((w.alloc (.cells #[.int .i64 hx, .int .i64 hy] 29)).alloc (.cells #[.slice none 0 0, .int .i64 0, .int .i64 0, .int .i64 0] 40)).alloc (.cells #[.int .i64 hx, .int .i64 hy, .slice a xs.length c, .int .i64 st] 60)) := ⟨_, rfl⟩
  rw [← hw1] at b1 b2 b3 g1
  have HW1 := Lib.hid hw1
  obtain ⟨R, hR⟩ : ∃ R, R = w.heap.size + 1 := ⟨_, rfl⟩
  obtain ⟨T, hT⟩ : ∃ T, T = R + 1 := ⟨_, rfl⟩
  rw [show w.heap.size + 2 = T by omega] at b3
  rw [← hR] at b2
  have HR := Lib.hid hR
  have HT := Lib.hid hT
  have hwR : w.heap.size ≤ R := by omega
  obtain ⟨t0, t1, t2, t3⟩ := blk4 b3
  have HB2 := Lib.hid b2
  have HB3 := Lib.hid b3
  have FA := Lib.hid (tripFault_ok hx hy st xs a c w1 (hc.keep0 g1) hl hcap hk hok ht)
  clear hw1 hR hT b1 b2 b3 hk hcap hok ht ho hW
  go_enter Tryd.func11, Tryd.ntmps11
  go_wp2_with (fail)
  rw [← HW1.out, ← HR.out, ← HT.out]
  refine FA.out.mono ?_
  rintro e w2 ⟨rfl, hg2⟩
  have hgr2 := gr_trans g1 hg2
  have hR2 := (hg2.block R (lt_of_block HB2.out) (by simp)).trans HB2.out
  have hT2 := (hg2.block T (lt_of_block HB3.out) (by simp)).trans HB3.out
  have HR2 := Lib.hid hR2
  have HT2 := Lib.hid hT2
  clear hg2 hR2 hT2 t0 t1 t2 t3
  obtain ⟨t0, t1, t2, t3⟩ := blk4 HT2.out
  go_wp2_with (fail)
  refine (orderFault_ok hx hy st xs.length c a O ao co w2 (by omega) (hco.keep0 hgr2) (by omega) HO.out).mono ?_
  rintro e w3 ⟨rfl, hg3⟩
  have hgr3 := gr_trans hgr2 hg3
  have hR3 := (hg3.block R (lt_of_block HR2.out) (by simp)).trans HR2.out
  have hT3 := (hg3.block T (lt_of_block HT2.out) (by simp)).trans HT2.out
  have HR3 := Lib.hid hR3
  have HT3 := Lib.hid hT3
  clear hg3 hR3 hT3 t0 t1 t2 t3 HR2 HT2 hgr2
  have DR := drive_val hx hy st xs a c O ao co w3 (hc.keep0 hgr3) hl HTO.out (hco.keep0 hgr3) hlo HO.out.rng
  rw [HWW.out] at DR
  have DR := Lib.hid DR
  obtain ⟨t0, t1, t2, t3⟩ := blk4 HT3.out
  go_wp2_with (fail)
  refine DR.out.mono ?_
  rintro e w4 ⟨⟨ba, bn, bc, x, y, z, rfl, hy⟩, hg4⟩
  have hy := hy W rfl
  subst hy
  have hgr4 := gr_trans hgr3 hg4
  have hR4 := (hg4.block R (lt_of_block HR3.out) (by simp)).trans HR3.out
  have hRl := lt_of_block hR4
  obtain ⟨r0, r1, r2, r3⟩ := blk4 hR4
  have z0 := blkF hR4 0
  have z1 := blkF hR4 1
  have z2 := blkF hR4 2
  have z3 := blkF hR4 3
  have HR4 := Lib.hid hR4
  clear hg4 hR4 t0 t1 t2 t3
  go_wp2_with (fail)
  have hR5 := set4_heap HR4.out (.slice ba bn bc) (.int .i64 x) (.int .i64 y) (.int .i64 z)
  have hR6 := ((gr_alloc (gr_refl _ none) (.cells #[.slice ba bn bc, .int .i64 x, .int .i64 y, .int .i64 z] 40)).block R (lt_of_block hR5) (by simp)).trans hR5
  refine bodyPost_ret (results_cell_slot (p := 8) (q := 9) (by kernel_rfl) _ _ R _ #[.slice ba bn bc, .int .i64 x, .int .i64 y, .int .i64 z] _ (.struct dt) _ rfl rfl hR6 hd1 rfl (by kernel_rfl)) rfl ⟨⟨_, _, _, _, _, rfl⟩, ?_⟩
  exact gr_alloc (gr_grown hgr4 (set4_gr _ _ _ _ _ _) (fun g e => by cases e; omega)) _
end Go.Proofs.YtehhmgbgkemidaaDoor

/-! round.Nearest: a route that is driven. -/
namespace Go.Proofs.YtehhmgbgkemidaaDoor
open Go.RowKit

theorem stop_cells {w : World} {a : Option Addr} {L : List Stop} (h : CellsAt w a (flat encStop L)) (k : Nat) (hk : k < L.length) : ∃ b off, a = some ⟨b, off, none⟩ ∧ w.cell? ⟨b, off + k * 6, none⟩ = some (.string L[k].key) ∧ w.cell? ⟨b, off + k * 6 + 1, none⟩ = some (.int .i64 L[k].x) ∧ w.cell? ⟨b, off + k * 6 + 2, none⟩ = some (.int .i64 L[k].y) ∧ w.cell? ⟨b, off + k * 6 + 3, none⟩ = some (.int .i64 L[k].fr) ∧ w.cell? ⟨b, off + k * 6 + 4, none⟩ = some (.int .i64 L[k].tt) ∧ w.cell? ⟨b, off + k * 6 + 5, none⟩ = some (.int .i64 L[k].lo) := by
  obtain ⟨b, off, e, hcs⟩ := flat_cells (enc := encStop) (m := 6) (fun _ => rfl) (by decide) h (by omega)
  exact ⟨b, off, e, hcs k hk 0 _ rfl, hcs k hk 1 _ rfl, hcs k hk 2 _ rfl, hcs k hk 3 _ rfl, hcs k hk 4 _ rfl, hcs k hk 5 _ rfl⟩
def rtLen : Value → Nat
  | .slice _ n _ => n
  | _ => 0
theorem stopN_at (xs : List Stop) (m : Nat) (h : m < xs.length) : stopN xs (m : Int) = xs[m] := by
  unfold stopN
  rw [Int.toNat_natCast, List.getD_eq_getElem?_getD, List.getElem?_eq_getElem h]; rfl
theorem any_mem (O : List Int) (i : Int) (h : O.any (fun y => i == y) = false) : i ∉ O := fun hm => by
  have := List.any_eq_false.1 h i hm
  simp at this
theorem OrdOk.snoc {O : List Int} {n : Nat} {i : Int} (h : OrdOk O n) (hi : 0 ≤ i ∧ i < n) (hn : i ∉ O) : OrdOk (O ++ [i]) n := by
  refine ⟨fun j hj => ?_, ?_⟩
  · rcases List.mem_append.1 hj with hj | hj
    · exact h.rng j hj
    · have e : j = i := by simpa using hj
      rw [e]; exact hi
  · rw [List.nodup_append]
    exact ⟨h.nd, by simp, fun a ha b hb e => hn (by
      have e2 : b = i := by simpa using hb
      rw [← e2, ← e]; exact ha)⟩
/-- An order that is right and driven, in new memory. -/
def RtPost (hx hy st : Int) (xs : List Stop) (w : World) (e : Ending) (w' : World) : Prop :=
  ∃ (v : Value) (O : List Int) (W : Int), e = .returned (.tuple #[v, .int .i64 0]) ∧ w'.ownsRow w.heap.size 3 1 v O.length (ints O) ∧ OrdOk O xs.length ∧ drvM hx hy st xs O = some W ∧ w.grownBy w' none
set_option maxRecDepth 100000 in
set_option maxHeartbeats 4000000 in
theorem nearest_val (hx hy st : Int) (xs : List Stop) (a : Option Addr) (c : Nat) (w : World) (hc : CellsAt w a (flat encStop xs)) (hl : xs.length ≤ 60) (hcap : xs.length ≤ c) (hk : ∀ x ∈ xs, x.key.size ≤ 100) (hok : StopsOk xs) (ht : TripOk hx hy st xs) :
    Calls Tryd.prog 10 #[.agg #[.int .i64 hx, .int .i64 hy], .slice a xs.length c, .int .i64 st] w (RtPost hx hy st xs w) := by
  obtain ⟨b1, b2⟩ := heap_2 w (.cells #[.int .i64 hx, .int .i64 hy] 29) (.cells #[.int .i64 hx, .int .i64 hy, .slice a xs.length c, .int .i64 st] 60)
  have g1 := gr_alloc (gr_alloc (gr_refl w none) (.cells #[.int .i64 hx, .int .i64 hy] 29)) (.cells #[.int .i64 hx, .int .i64 hy, .slice a xs.length c, .int .i64 st] 60)
  obtain ⟨w1, hw1⟩ : ∃ w1, w1 = (w.alloc (.cells #[.int .i64 hx, .int .i64 hy] 29)).alloc (.cells #[.int .i64 hx, .int .i64 hy, .slice a xs.length c, .int .i64 st] 60) := ⟨_, rfl⟩
  rw [← hw1] at b1 b2 g1
  obtain ⟨H, hH⟩ : ∃ H, H = w.heap.size := ⟨_, rfl⟩
  obtain ⟨T, hT⟩ : ∃ T, T = w.heap.size + 1 := ⟨_, rfl⟩
  rw [← hH] at b1
  rw [← hT] at b2
  have TF := Lib.hid (tripFault_ok hx hy st xs a c w1 (hc.keep0 g1) hl hcap hk hok ht)
  have HC := Lib.hid hc
  have HB1 := Lib.hid b1
  have HB2 := Lib.hid b2
  have HG1 := Lib.hid g1
  have HW1 := Lib.hid hw1
  have HH := Lib.hid hH
  have HT := Lib.hid hT
  have HTO := Lib.hid ht
  have PS := Lib.hid ht.start
  clear hc hk hok ht b1 b2 g1 hw1 hH hT
  go_enter Tryd.func10, Tryd.ntmps10
  go_upto_region 2 with (fail)
  rw [← HW1.out, ← HT.out, ← HH.out]
  obtain ⟨t0, t1, t2, t3⟩ := blk4 HB2.out
  go_wp2_with (fail)
  refine TF.out.mono ?_
  rintro e w2 ⟨rfl, g2⟩
  have h0 : w2.cell? ⟨H, 0, none⟩ = some (.int .i64 hx) := blkC ((g2.block H (lt_of_block HB1.out) (by simp)).trans HB1.out) 0 rfl
  have h1 : w2.cell? ⟨H, 1, none⟩ = some (.int .i64 hy) := blkC ((g2.block H (lt_of_block HB1.out) (by simp)).trans HB1.out) 1 rfl
  have HG2 := Lib.hid (gr_trans HG1.out g2)
  clear g2 t0 t1 t2 t3 TF HB1 HB2 HG1 HW1
  have g3 := gr_alloc (gr_refl w2 none) (.cells #[.int .i64 hx, .int .i64 hy] 29)
  have b3 := heap_alloc_new w2 (.cells #[.int .i64 hx, .int .i64 hy] 29)
  obtain ⟨w3, hw3⟩ : ∃ w3, w3 = w2.alloc (.cells #[.int .i64 hx, .int .i64 hy] 29) := ⟨_, rfl⟩
  obtain ⟨A, hA⟩ : ∃ A, A = w2.heap.size := ⟨_, rfl⟩
  have hz3 : w3.heap.size = A + 1 := by rw [hw3, hA]; simp
  have hwA : w.heap.size ≤ A := by have := HG2.out.size; omega
  rw [← hw3] at g3 b3
  rw [← hA] at b3
  have HB3 := Lib.hid b3
  have HG3 := Lib.hid (gr_trans HG2.out g3)
  have HW3 := Lib.hid hw3
  have HA := Lib.hid hA
  have HZ3 := Lib.hid hz3
  clear g3 b3 hw3 hA hz3 HG2
  have HAX : Hid (w3.heap[A]? = some (.cells #[.int .i64 hx, .int .i64 hy] 29 (0, 0))) := HB3
  have HGX := HG3
  go_wp2_with (fail)
  rw [← HW3.out, ← HA.out]
  clear h0 h1 HB3 HG3 HW3 HA HZ3
  go_loopw [10, 12] (fun o nw wr => ∃ (O : List Int) (x y now way : Int), (runP xs O ⟨hx, hy, st, 0⟩ = some ⟨x, y, now, way⟩ ∧ PosOk ⟨x, y, now, way⟩ O.length) ∧ OrdOk O xs.length ∧ nw = .int .i64 now ∧ wr.heap[A]? = some (.cells #[.int .i64 x, .int .i64 y] 29 (0, 0)) ∧ wr.ownsRow w.heap.size 3 1 o O.length (ints O) ∧ w.grownBy wr none) (fun o _ _ => xs.length - rtLen o)
  case atStart => exact ⟨[], hx, hy, st, 0, ⟨rfl, PS.out⟩, ⟨(fun i hi => by cases hi), List.nodup_nil⟩, rfl, HAX.out, World.ownsRow_nil _ _ _ _, HGX.out⟩
  case round =>
    clear HAX HGX
    obtain ⟨O, x, y, now, way, ⟨hrun, hpos⟩, hord, rfl, hAr, hown, hgr⟩ := hrel
    obtain ⟨wo, rfl⟩ : ∃ wo : World, wo = wr := ⟨_, rfl⟩
    obtain ⟨oa, oc, rfl, -, -, hoc, -⟩ := own_shape hown
    have hol := nodup_full _ _ hord
    have HRUN := Lib.hid hrun
    have HPOS := Lib.hid hpos
    have HORD := Lib.hid hord
    have HAR := Lib.hid hAr
    have HOWN := Lib.hid hown
    have HGR := Lib.hid hgr
    have HOC := Lib.hid hoc
    obtain ⟨p1, p2, p3, p4, p5, p6, p7, p8⟩ := hpos
    simp only at p1 p2 p3 p4 p5 p6 p7 p8
    clear hrun hord hAr hown hgr hoc
    go_wp2_with (fail)
    go_loopw [13, 31] (fun nx i wr => ∃ (k : Nat) (nn : Int), k ≤ xs.length ∧ i = .int .i64 k ∧ nx = .int .i64 nn ∧ (nn = -1 ∨ ∃ m : Nat, ∃ hm : m < xs.length, nn = (m : Int) ∧ (m : Int) ∉ O ∧ now + farI x y xs[m].x xs[m].y ≤ xs[m].tt) ∧ wo.grownBy wr none) (fun _ i _ => xs.length - (intOf i).toNat)
    case atStart => exact ⟨0, -1, Nat.zero_le _, rfl, rfl, .inl rfl, gr_refl _ _⟩
    case round =>
      obtain ⟨k, nn, hk, rfl, rfl, hnn, hgi⟩ := hrel
      obtain ⟨wi, rfl⟩ : ∃ wi : World, wi = wr := ⟨_, rfl⟩
      have HNN := Lib.hid hnn
      by_cases hlt : k < xs.length
      · obtain ⟨b, off, rfl, d0, d1, d2, d3, d4, d5⟩ := stop_cells (HC.out.keep0 (gr_trans HGR.out hgi)) k hlt
        obtain ⟨r1, r2, r3, r4, r5, r6, r7, r8, r9⟩ := HTO.out.all _ (List.getElem_mem hlt)
        have hf := farI_bd p1 p2 p3 p4 r1 r2 r3 r4
        have OTH : Hid (∀ m (hm : m < xs.length) (W : World), wi.grownBy W none → W.cell? ⟨b, off + m * 6 + 1, none⟩ = some (.int .i64 xs[m].x) ∧ W.cell? ⟨b, off + m * 6 + 2, none⟩ = some (.int .i64 xs[m].y)) := fun m hm W g => by
          obtain ⟨_, _, e, _, q1, q2, _⟩ := stop_cells (HC.out.keep0 (gr_trans (gr_trans HGR.out hgi) g)) m hm
          cases e
          exact ⟨q1, q2⟩
        have OK2 := Lib.hid (HTO.out.all)
        have HSK : Hid (∀ v, v = farI x y xs[k].x xs[k].y → now + v ≤ xs[k].tt → (k : Int) ∉ O → ∃ m : Nat, ∃ hm : m < xs.length, (k : Int) = (m : Int) ∧ (m : Int) ∉ O ∧ now + farI x y xs[m].x xs[m].y ≤ xs[m].tt) := fun v hv h1 h2 => ⟨k, hlt, rfl, h2, by rw [← hv]; exact h1⟩
        obtain ⟨s, hs⟩ : ∃ s, s = xs[k] := ⟨_, rfl⟩
        rw [← hs] at d0 d1 d2 d3 d4 d5 r1 r2 r3 r4 r5 r6 r7 r8 r9 hf HSK
        have gX := gr_alloc (gr_refl wi none) (.cells #[.string s.key, .int .i64 s.x, .int .i64 s.y, .int .i64 s.fr, .int .i64 s.tt, .int .i64 s.lo] 52)
        have bX := heap_alloc_new wi (.cells #[.string s.key, .int .i64 s.x, .int .i64 s.y, .int .i64 s.fr, .int .i64 s.tt, .int .i64 s.lo] 52)
        obtain ⟨w5, hw5⟩ : ∃ w5, w5 = wi.alloc (.cells #[.string s.key, .int .i64 s.x, .int .i64 s.y, .int .i64 s.fr, .int .i64 s.tt, .int .i64 s.lo] 52) := ⟨_, rfl⟩
        obtain ⟨X, hX⟩ : ∃ X, X = wi.heap.size := ⟨_, rfl⟩
        rw [← hw5] at gX bX
        rw [← hX] at bX
        have hA5 := ((gr_trans hgi gX).block A (lt_of_block HAR.out) (by simp)).trans HAR.out
        have a0 : w5.cell? ⟨A, 0, none⟩ = some (.int .i64 x) := blkC hA5 0 rfl
        have a1 : w5.cell? ⟨A, 1, none⟩ = some (.int .i64 y) := blkC hA5 1 rfl
        have x1 : w5.cell? ⟨X, 1, none⟩ = some (.int .i64 s.x) := blkC bX 1 rfl
        have x2 : w5.cell? ⟨X, 2, none⟩ = some (.int .i64 s.y) := blkC bX 2 rfl
        have HA5 := Lib.hid hA5
        have HX5 := Lib.hid bX
        have HG5 := Lib.hid gX
        have HGI := Lib.hid (gr_trans hgi gX)
        have HW5 := Lib.hid hw5
        have HX := Lib.hid hX
        clear hs gX bX hw5 hX hA5 hnn hgi
        go_upto_region 11 with (fail)
        rw [← HW5.out, ← HX.out]
        clear d0 d1 d2 d3 d4 d5 HW5 HX
        go_wp2_with (fail)
        refine (far_val x y s.x s.y w5 ⟨p1, p2⟩ ⟨p3, p4⟩ ⟨r1, r2⟩ ⟨r3, r4⟩).mono ?_
        rintro e w6 ⟨rfl, g6⟩
        obtain ⟨v, hv⟩ : ∃ v, v = farI x y s.x s.y := ⟨_, rfl⟩
        rw [← hv] at hf ⊢
        have HSK2 := Lib.hid (HSK.out v hv)
        have hA6 := (g6.block A (lt_of_block HA5.out) (by simp)).trans HA5.out
        have hX6 := (g6.block X (lt_of_block HX5.out) (by simp)).trans HX5.out
        have HA6 := Lib.hid hA6
        have HG6 := Lib.hid (gr_trans HGI.out g6)
        have HO6 := Lib.hid (HOC.out.keep0 (gr_trans HGI.out g6))
        have OT6 := Lib.hid (fun m hm (W : World) (g : w6.grownBy W none) => OTH.out m hm W (gr_trans (gr_trans HG5.out g6) g))
        have X4 := Lib.hid (grew_cell (blkC (v := .int .i64 s.tt) hX6 4 rfl))
        have A0 := Lib.hid (grew_cell (blkC (v := .int .i64 x) hA6 0 rfl))
        have A1 := Lib.hid (grew_cell (blkC (v := .int .i64 y) hA6 1 rfl))
        clear hv a0 a1 x1 x2 g6 hA6 hX6 HA5 HX5 HG5 HGI OTH HSK
        have hwr : IntKind.i64.wrap (now + v) = now + v := IntWalk.i64_in _ (by omega)
        obtain ⟨ct, hct⟩ : ∃ ct, ct = O.any (fun z => (k : Int) == z) := ⟨_, rfl⟩
        have CT : Hid (∀ W, w6.grownBy W none → Calls Tryd.prog 26 #[.slice oa O.length oc, .int .i64 k] W fun e w' => e = .returned (.bool ct) ∧ W.grownBy w' none) := fun W g => (contains_int oa O oc k W (HO6.out.keep0 g) (by omega)).mono fun e w' h => ⟨by rw [hct]; exact h.1, by rw [← h.2]; exact gr_refl _ _⟩
        have NCT : Hid (ct = false → (k : Int) ∉ O) := fun e => any_mem O k (by rw [← hct]; exact e)
        clear hct
        go_upto_region 12 with (fail)
        go_cut [66] (fun s' wx => ∃ b : Bool, s' = .bool b ∧ (b = true → (k : Int) ∉ O ∧ now + v ≤ s.tt) ∧ w6.grownBy wx none)
        case first =>
          have x4 := X4.out
          have a0 := A0.out
          have a1 := A1.out
          cases ct with
          | true =>
            refine wp_region_grew (by kernel_rfl) (by kernel_rfl) ?_
            repeat (go_big_quiet_step (first | (go_at_call 26; exact Calls.grew_of (fun W g => CT.out W g))))
            refine wpQuiet_nil ?_
            rintro wq ⟨nn', rfl⟩
            have gq := nn'.gr
            go_wp2_with (fail)
            go_meet
            exact ⟨false, rfl, (fun e => by cases e), gq⟩
          | false =>
            have NC := Lib.hid (NCT.out rfl)
            by_cases hnt : now + v ≤ s.tt
            · have hd1 : decide (now + v ≤ s.tt) = true := decide_eq_true hnt
              rcases HNN.out with hn | ⟨m, hm, hn, -⟩
              · subst hn
                have hd2 : decide ((-1 : Int) < 0) = true := by decide
                refine wp_region_grew (by kernel_rfl) (by kernel_rfl) ?_
                repeat (go_big_quiet_step (first | (go_at_call 26; exact Calls.grew_of (fun W g => CT.out W g))))
                refine wpQuiet_nil ?_
                rintro wq ⟨nn', rfl⟩
                have gq := nn'.gr
                go_wp2_with (fail)
                go_meet
                exact ⟨true, rfl, (fun _ => ⟨NC.out, hnt⟩), gq⟩
              · subst hn
                have hd2 : decide ((m : Int) < 0) = false := decide_eq_false (by omega)
                have hm0 : (0 : Int) ≤ (m : Int) := by omega
                have hm1 : (m : Int) < (xs.length : Int) := by omega
                have m1 : ∀ n : Grew w6, n.w.cell? ⟨b, off + m * 6 + 1, none⟩ = some (.int .i64 xs[m].x) := fun n => (OT6.out m hm n.w n.gr).1
                have m2 : ∀ n : Grew w6, n.w.cell? ⟨b, off + m * 6 + 2, none⟩ = some (.int .i64 xs[m].y) := fun n => (OT6.out m hm n.w n.gr).2
                have hmo := OK2.out _ (List.getElem_mem hm)
                obtain ⟨z, hz⟩ : ∃ z, z = xs[m] := ⟨_, rfl⟩
                rw [← hz] at m1 m2 hmo
                have FM : Hid (∀ W, w6.grownBy W none → Calls Tryd.prog 25 #[.agg #[.int .i64 x, .int .i64 y], .agg #[.int .i64 z.x, .int .i64 z.y]] W fun e w' => e = .returned (.int .i64 (farI x y z.x z.y)) ∧ W.grownBy w' none) := fun W _ => far_val x y z.x z.y W ⟨p1, p2⟩ ⟨p3, p4⟩ ⟨hmo.x0, hmo.x1⟩ ⟨hmo.y0, hmo.y1⟩
                clear hz hmo
                obtain ⟨u, hu⟩ : ∃ u, u = farI x y z.x z.y := ⟨_, rfl⟩
                rw [← hu] at FM
                clear hu
                by_cases huv : v < u
                · have hd3 : decide (v < u) = true := decide_eq_true huv
                  refine wp_region_grew (by kernel_rfl) (by kernel_rfl) ?_
                  repeat (go_big_quiet_step (first | (go_at_call 26; exact Calls.grew_of (fun W g => CT.out W g)) | (go_at_call 25; exact Calls.grew_of (fun W g => FM.out W g))))
                  refine wpQuiet_nil ?_
                  rintro wq ⟨nn', rfl⟩
                  have gq := nn'.gr
                  go_wp2_with (fail)
                  go_meet
                  exact ⟨true, rfl, (fun _ => ⟨NC.out, hnt⟩), gq⟩
                · have hd3 : decide (v < u) = false := decide_eq_false huv
                  refine wp_region_grew (by kernel_rfl) (by kernel_rfl) ?_
                  repeat (go_big_quiet_step (first | (go_at_call 26; exact Calls.grew_of (fun W g => CT.out W g)) | (go_at_call 25; exact Calls.grew_of (fun W g => FM.out W g))))
                  refine wpQuiet_nil ?_
                  rintro wq ⟨nn', rfl⟩
                  have gq := nn'.gr
                  go_wp2_with (fail)
                  go_meet
                  exact ⟨false, rfl, (fun e => by cases e), gq⟩
            · have hd1 : decide (now + v ≤ s.tt) = false := decide_eq_false hnt
              refine wp_region_grew (by kernel_rfl) (by kernel_rfl) ?_
              repeat (go_big_quiet_step (first | (go_at_call 26; exact Calls.grew_of (fun W g => CT.out W g))))
              refine wpQuiet_nil ?_
              rintro wq ⟨nn', rfl⟩
              have gq := nn'.gr
              go_wp2_with (fail)
              go_meet
              exact ⟨false, rfl, (fun e => by cases e), gq⟩
        case rest =>
        obtain ⟨b', rfl, hb, g7⟩ := hcut
        obtain ⟨w7, rfl⟩ : ∃ w7 : World, w7 = wc := ⟨_, rfl⟩
        have HG7 := Lib.hid (gr_trans HG6.out g7)
        have HBB := Lib.hid hb
        clear hb g7 CT NCT X4 A0 A1 OT6 HO6 HA6 HG6
        cases b' with
        | false =>
          go_wp2_with (fail)
          go_roundw
          case rel => exact ⟨k + 1, nn, by omega, by go_num, rfl, HNN.out, HG7.out⟩
          case measure => simp [intOf]; omega
        | true =>
          go_wp2_with (fail)
          go_roundw
          case rel => exact ⟨k + 1, (k : Int), by omega, by go_num, rfl, .inr (HSK2.out (HBB.out rfl).2 (HBB.out rfl).1), HG7.out⟩
          case measure => simp [intOf]; omega
      · obtain rfl : k = xs.length := by omega
        have HGI := Lib.hid hgi
        clear hnn hgi
        rcases HNN.out with hn | ⟨m, hm, hn, hno, hfar⟩
        · subst hn
          have hd : decide ((-1 : Int) < 0) = true := by decide
          go_wp2_with (fail)
          go_ret2
          exact ⟨_, O, _, rfl, own_keep0 HOWN.out HGI.out, HORD.out, by unfold drvM; rw [HRUN.out]; rfl, gr_trans HGR.out HGI.out⟩
        · subst hn
          have hd : decide ((m : Int) < 0) = false := decide_eq_false (by omega)
          have hm0 : (0 : Int) ≤ (m : Int) := by omega
          have hm1 : (m : Int) < (xs.length : Int) := by omega
          obtain ⟨b, off, rfl, d0, d1, d2, d3, d4, d5⟩ := stop_cells (HC.out.keep0 (gr_trans HGR.out HGI.out)) m hm
          have HSO := Lib.hid (HTO.out.all _ (List.getElem_mem hm))
          obtain ⟨r1, r2, r3, r4, r5, r6, r7, r8, r9⟩ := HTO.out.all _ (List.getElem_mem hm)
          have hf := farI_bd p1 p2 p3 p4 r1 r2 r3 r4
          have hsn := stopN_at xs m hm
          obtain ⟨s, hs⟩ : ∃ s, s = xs[m] := ⟨_, rfl⟩
          rw [← hs] at d0 d1 d2 d3 d4 d5 r1 r2 r3 r4 r5 r6 r7 r8 r9 hf hsn HSO hfar
          obtain ⟨v, hv⟩ : ∃ v, v = farI x y s.x s.y := ⟨_, rfl⟩
          rw [← hv] at hf hfar
          obtain ⟨nw, hnw⟩ : ∃ nw, nw = max (now + v) s.fr + s.lo := ⟨_, rfl⟩
          have hstep : stepP s ⟨x, y, now, way⟩ = some ⟨s.x, s.y, nw, way + v⟩ := by
            unfold stepP
            simp only
            rw [← hv, if_neg (by omega), hnw]
          have RN : Hid (runP xs (O ++ [(m : Int)]) ⟨hx, hy, st, 0⟩ = some ⟨s.x, s.y, nw, way + v⟩) := by show _ = _; rw [runP_snoc, HRUN.out, Option.bind_some, hsn, hstep]
          have PN : Hid (PosOk ⟨s.x, s.y, nw, way + v⟩ (O ++ [(m : Int)]).length) := by
            have := HPOS.out.step HSO.out hstep
            rw [List.length_append]
            exact this
          have ON := Lib.hid (HORD.out.snoc (i := (m : Int)) ⟨hm0, by omega⟩ hno)
          have hol2 := nodup_full _ _ ON.out
          rw [List.length_append, List.length_singleton] at hol2
          have gX := gr_alloc (gr_refl wi none) (.cells #[.string s.key, .int .i64 s.x, .int .i64 s.y, .int .i64 s.fr, .int .i64 s.tt, .int .i64 s.lo] 52)
          have bX := heap_alloc_new wi (.cells #[.string s.key, .int .i64 s.x, .int .i64 s.y, .int .i64 s.fr, .int .i64 s.tt, .int .i64 s.lo] 52)
          obtain ⟨w5, hw5⟩ : ∃ w5, w5 = wi.alloc (.cells #[.string s.key, .int .i64 s.x, .int .i64 s.y, .int .i64 s.fr, .int .i64 s.tt, .int .i64 s.lo] 52) := ⟨_, rfl⟩
          obtain ⟨X, hX⟩ : ∃ X, X = wi.heap.size := ⟨_, rfl⟩
          rw [← hw5] at gX bX
          rw [← hX] at bX
          have hA5 := ((gr_trans HGI.out gX).block A (lt_of_block HAR.out) (by simp)).trans HAR.out
          have HA5 := Lib.hid hA5
          have HX5 := Lib.hid bX
          have HG5 := Lib.hid (gr_trans HGR.out (gr_trans HGI.out gX))
          have HO5 := Lib.hid (own_keep0 HOWN.out (gr_trans HGI.out gX))
          have FV : Hid (∀ W, w5.grownBy W none → Calls Tryd.prog 25 #[.agg #[.int .i64 x, .int .i64 y], .agg #[.int .i64 s.x, .int .i64 s.y]] W fun e w' => e = .returned (.int .i64 v) ∧ W.grownBy w' none) := fun W _ => by rw [hv]; exact far_val x y s.x s.y W ⟨p1, p2⟩ ⟨p3, p4⟩ ⟨r1, r2⟩ ⟨r3, r4⟩
          have x1 := grew_cell (blkC (v := .int .i64 s.x) bX 1 rfl)
          have x2 := grew_cell (blkC (v := .int .i64 s.y) bX 2 rfl)
          have x3 := grew_cell (blkC (v := .int .i64 s.fr) bX 3 rfl)
          have x5 := grew_cell (blkC (v := .int .i64 s.lo) bX 5 rfl)
          have a0 := grew_cell (blkC (v := .int .i64 x) hA5 0 rfl)
          have a1 := grew_cell (blkC (v := .int .i64 y) hA5 1 rfl)
          have hwr : IntKind.i64.wrap (now + v) = now + v := IntWalk.i64_in _ (by omega)
          have hwr2 : IntKind.i64.wrap (max (now + v) s.fr + s.lo) = nw := by rw [← hnw]; exact IntWalk.i64_in _ (by omega)
          have HW5 := Lib.hid hw5
          have HX := Lib.hid hX
          clear hs hv hnw hstep hsn gX bX hw5 hX hA5 HGI HNN hno hfar
          go_upto_region 18 with (fail)
          rw [← HW5.out, ← HX.out]
          clear d0 d1 d2 d3 d4 d5 HW5 HX
          refine wp_region_grew (by kernel_rfl) (by kernel_rfl) ?_
          repeat (go_big_quiet_step (first | (go_at_call 25; exact Calls.grew_of (fun W g => FV.out W g))))
          refine wpQuiet_nil ?_
          rintro wq ⟨nn', rfl⟩
          have gq := nn'.gr
          obtain ⟨wn, hwn⟩ : ∃ wn, wn = nn'.w := ⟨_, rfl⟩
          rw [← hwn] at gq
          rw [← hwn]
          have hAn := (gq.block A (lt_of_block HA5.out) (by simp)).trans HA5.out
          have hXn := (gq.block X (lt_of_block HX5.out) (by simp)).trans HX5.out
          have HON := Lib.hid (own_keep0 HO5.out gq)
          have HGN := Lib.hid (gr_trans HG5.out gq)
          clear x1 x2 x3 x5 a0 a1 hwn gq hwr hwr2 HO5 HG5 FV
          have x1 : wn.cell? ⟨X, 1, none⟩ = some (.int .i64 s.x) := blkC hXn 1 rfl
          have x2 : wn.cell? ⟨X, 2, none⟩ = some (.int .i64 s.y) := blkC hXn 2 rfl
          have a0 : wn.cell? ⟨A, 0, none⟩ = some (.int .i64 x) := blkC hAn 0 rfl
          have a1 : wn.cell? ⟨A, 1, none⟩ = some (.int .i64 y) := blkC hAn 1 rfl
          have f0 := blkF hAn 0
          have f1 := blkF hAn 1
          have gA := gr_set (q := ⟨A, 1, none⟩) (gr_set (q := ⟨A, 0, none⟩) (gr_refl wn (some A)) rfl (.int .i64 s.x)) rfl (.int .i64 s.y)
          have bA := set2_heap hAn (.int .i64 s.x) (.int .i64 s.y)
          obtain ⟨w8, hw8⟩ : ∃ w8, w8 = (wn.setCell ⟨A, 0, none⟩ (.int .i64 s.x)).setCell ⟨A, 1, none⟩ (.int .i64 s.y) := ⟨_, rfl⟩
          rw [← hw8] at gA bA
          have HOA := Lib.hid (own_keep HON.out gA (.inr (own_ne HON.out hAn (by decide))))
          have HGA := Lib.hid (gr_grown HGN.out gA (fun q e => by cases e; exact hwA))
          have hzA := HGA.out.size
          have HBA := Lib.hid bA
          have HW8 := Lib.hid hw8
          clear hAn hXn gA bA hw8
          go_upto_region 20 with (fail)
          rw [← HW8.out]
          clear x1 x2 a0 a1 f0 f1 HW8
          obtain ⟨v9, hv9⟩ : ∃ v9, v9 = Value.slice oa O.length oc := ⟨_, rfl⟩
          rw [← hv9] at HOA
          rw [← hv9]
          have HL9 : Hid (rtLen v9 = O.length) := by show _ = _; rw [hv9]; rfl
          clear hv9
          go_wp2_with (at_builtin; refine wpList_app1 eInt rfl _ _ rfl w.heap.size v9 O.length (ints O) rfl w8 #[.int .i64 m] rfl HOA.out _ rfl rfl rfl rfl (by omega) hzA ?_; intro v7 w7 o7 g7 hl7; have B7 := Lib.hid ((g7.block A (lt_of_block HBA.out) (fun e => own_ne HOA.out HBA.out (by decide) e.symm)).trans HBA.out); have O7 := Lib.hid o7; have G7 := Lib.hid g7; clear o7 g7)
          go_roundw
          case rel =>
            refine ⟨O ++ [(m : Int)], s.x, s.y, nw, way + v, ⟨RN.out, PN.out⟩, ON.out, rfl, B7.out, ?_, gr_grown HGA.out G7.out hl7⟩
            rw [List.length_append, show ints (O ++ [(m : Int)]) = ints O ++ [.int .i64 m] by simp [ints]]
            exact O7.out
          case measure =>
            obtain ⟨a7, c7, e7, -⟩ := own_shape O7.out
            rw [e7]
            simp only [rtLen]
            omega
end Go.Proofs.YtehhmgbgkemidaaDoor

/-! What the search for the best route keeps in memory. -/
namespace Go.Proofs.YtehhmgbgkemidaaDoor
open Go.RowKit

theorem blk8 {w : World} {g t : Nat} {a b c d e f h i : Value} (hb : w.heap[g]? = some (.cells #[a, b, c, d, e, f, h, i] t (0, 0))) :
    w.cell? ⟨g, 0, none⟩ = some a ∧ w.cell? ⟨g, 1, none⟩ = some b ∧ w.cell? ⟨g, 2, none⟩ = some c ∧ w.cell? ⟨g, 3, none⟩ = some d ∧ w.cell? ⟨g, 4, none⟩ = some e ∧ w.cell? ⟨g, 5, none⟩ = some f ∧ w.cell? ⟨g, 6, none⟩ = some h ∧ w.cell? ⟨g, 7, none⟩ = some i :=
  ⟨blkC hb 0 rfl, blkC hb 1 rfl, blkC hb 2 rfl, blkC hb 3 rfl, blkC hb 4 rfl, blkC hb 5 rfl, blkC hb 6 rfl, blkC hb 7 rfl⟩
structure SeekAt (w0 w : World) (v : Nat) (hx hy st : Int) (a : Option Addr) (n c : Nat) (P : List Int) (os : Value) (gi : Nat) (bs : Value) (B : List Int) (way : Int) : Prop where
  gr : w0.grownBy w none
  le : w0.heap.size ≤ v
  blk : w.heap[v]? = some (.cells #[.int .i64 hx, .int .i64 hy, .slice a n c, .int .i64 st, os, .slice (some ⟨gi, 0, none⟩) n n, bs, .int .i64 way] 65 (0, 0))
  ord : w.ownsRow w0.heap.size 3 1 os P.length (ints P)
  ins : ∃ Bs, w.ownsRow w0.heap.size 4 1 (.slice (some ⟨gi, 0, none⟩) n n) n (bools Bs) ∧ ∀ j : Nat, j < n → Bs.getD j false = decide ((j : Int) ∈ P)
  best : w.ownsRow w0.heap.size 3 1 bs B.length (ints B)
  bd : ∀ g, bs.ownBlock = some g → os.ownBlock ≠ some g
/-- Blocks of other types stay. -/
def KeepT (w w' : World) : Prop := ∀ (b : Nat) (cs : Array Value) (t : TypeId), w.heap[b]? = some (Obj.cells cs t (0, 0)) → t ≠ 3 → t ≠ 4 → t ≠ 65 → w'.heap[b]? = some (Obj.cells cs t (0, 0))
theorem KeepT.refl (w : World) : KeepT w w := fun _ _ _ h _ _ _ => h
theorem KeepT.trans {a b c : World} (h : KeepT a b) (g : KeepT b c) : KeepT a c := fun q cs t e h1 h2 h3 => g q cs t (h q cs t e h1 h2 h3) h1 h2 h3
theorem KeepT.none {a b : World} (g : a.grownBy b none) : KeepT a b := fun q _ _ e _ _ _ => (g.block q (lt_of_block e) (by simp)).trans e
theorem KeepT.int {a b : World} {base size n : Nat} {v : Value} {xs : List Value} (h : a.ownsRow base 3 size v n xs) (g : a.grownBy b v.ownBlock) : KeepT a b := fun q _ _ e h1 _ _ => (g.block q (lt_of_block e) (fun e2 => own_ne h e (fun h => h1 h.symm) e2.symm)).trans e
theorem KeepT.blk {a b : World} {v t0 : Nat} {cs0 : Array Value} (h : a.heap[v]? = some (.cells cs0 t0 (0, 0))) (ht : t0 = 4 ∨ t0 = 65) (g : a.grownBy b (some v)) : KeepT a b := fun q _ t e _ h2 h3 => (g.block q (lt_of_block e) (fun e2 => by
  cases e2
  rw [h] at e
  have e3 : t0 = t := by cases e; rfl
  rcases ht with h4 | h4
  · exact h2 (e3.symm.trans h4)
  · exact h3 (e3.symm.trans h4))).trans e
section
variable {w0 w w1 : World} {v : Nat} {hx hy st : Int} {a : Option Addr} {n c : Nat} {P : List Int} {os : Value} {gi : Nat} {bs : Value} {B : List Int} {way : Int}
theorem SeekAt.keep0 (h : SeekAt w0 w v hx hy st a n c P os gi bs B way) (g : w.grownBy w1 none) : SeekAt w0 w1 v hx hy st a n c P os gi bs B way :=
  ⟨gr_trans h.gr g, h.le, (g.block v (lt_of_block h.blk) (by simp)).trans h.blk, own_keep0 h.ord g, by obtain ⟨Bs, h1, h2⟩ := h.ins; exact ⟨Bs, own_keep0 h1 g, h2⟩, own_keep0 h.best g, h.bd⟩
theorem SeekAt.vgi (h : SeekAt w0 w v hx hy st a n c P os gi bs B way) : gi ≠ v := by
  obtain ⟨Bs, h1, _⟩ := h.ins
  have := own_ne h1 h.blk (by decide)
  intro e
  exact this (by rw [← e]; rfl)
/-- A new best route. -/
theorem SeekAt.full (h : SeekAt w0 w v hx hy st a n c P os gi bs B way) {bs' : Value} {way' : Int} (ho : w.ownsRow w0.heap.size 3 1 bs' P.length (ints P)) (hb : ∀ g, bs'.ownBlock = some g → os.ownBlock ≠ some g) :
    SeekAt w0 ((w.setCell ⟨v, 6, none⟩ bs').setCell ⟨v, 7, none⟩ (.int .i64 way')) v hx hy st a n c P os gi bs' P way' := by
  have gs : w.grownBy ((w.setCell ⟨v, 6, none⟩ bs').setCell ⟨v, 7, none⟩ (.int .i64 way')) (some v) := gr_set (q := ⟨v, 7, none⟩) (gr_set (q := ⟨v, 6, none⟩) (gr_refl w (some v)) rfl _) rfl _
  have k1 := heap_setCell_same w v 6 _ _ bs' h.blk
  have k2 := heap_setCell_same _ v 7 _ _ (.int .i64 way') k1
  obtain ⟨Bs, h1, h2⟩ := h.ins
  exact ⟨gr_grown h.gr gs (fun k e => by cases e; exact h.le), h.le, k2, own_keep h.ord gs (.inr (own_ne h.ord h.blk (by decide))), ⟨Bs, own_keep h1 gs (.inr (own_ne h1 h.blk (by decide))), h2⟩, own_keep ho gs (.inr (own_ne ho h.blk (by decide))), hb⟩
theorem seen_get (Bs : List Bool) (k j : Nat) (x : Bool) (hk : k < Bs.length) : (Bs.set k x).getD j false = if j = k then x else Bs.getD j false := by
  rw [List.getD_eq_getElem?_getD, List.getElem?_set]
  by_cases h : k = j
  · subst h; simp [hk]
  · rw [if_neg h, if_neg (fun e => h e.symm), ← List.getD_eq_getElem?_getD]
/-- A stop is put at the end. -/
theorem SeekAt.push (h : SeekAt w0 w v hx hy st a n c P os gi bs B way) {k : Nat} (hk : k < n) {os' : Value} (ho : w1.ownsRow w0.heap.size 3 1 os' (P.length + 1) (ints P ++ [.int .i64 k])) (hg : (w.setCell ⟨gi, k, none⟩ (.bool true)).grownBy w1 os.ownBlock)
    (hf : ∀ q, os'.ownBlock = some q → os.ownBlock = some q ∨ (w.setCell ⟨gi, k, none⟩ (.bool true)).heap.size ≤ q) :
    SeekAt w0 (w1.setCell ⟨v, 4, none⟩ os') v hx hy st a n c (P ++ [(k : Int)]) os' gi bs B way ∧ KeepT w (w1.setCell ⟨v, 4, none⟩ os') := by
  obtain ⟨Bs, h1, h2⟩ := h.ins
  have hbl : Bs.length = n := by have := h1.1; simpa [bools] using this
  have hgi := (h1.lt gi rfl).1
  have hgil := (h1.lt gi rfl).2
  have gA : w.grownBy (w.setCell ⟨gi, k, none⟩ (.bool true)) (some gi) := gr_set (q := ⟨gi, k, none⟩) (gr_refl w (some gi)) rfl _
  have hsz : (w.setCell ⟨gi, k, none⟩ (.bool true)).heap.size = w.heap.size := by simp
  have hvA := (gA.block v (lt_of_block h.blk) (by simpa using fun e => h.vgi e.symm)).trans h.blk
  have hoA := own_keep h.ord gA (.inr (fun e => by
    obtain ⟨g', hg1, hg2⟩ : ∃ g', os.ownBlock = some g' ∧ g' = gi := ⟨gi, e, rfl⟩
    obtain ⟨Bs', hB1, _⟩ := h.ins
    rcases hB1.2 with ⟨hh, _⟩ | ⟨g3, cp, cur, hv3, _, hh3, _⟩
    · cases hh
    · cases hv3
      exact own_ne h.ord hh3 (by decide) e))
  have hiA := (own_bool h1 k hk).2.2 true
  have hbA := own_keep h.best gA (.inr (fun e => by
    rcases h1.2 with ⟨hh, _⟩ | ⟨g3, cp, cur, hv3, _, hh3, _⟩
    · cases hh
    · cases hv3
      exact own_ne h.best hh3 (by decide) e))
  have hv6 := (hg.block v (by rw [hsz]; exact lt_of_block h.blk) (fun e => own_ne hoA hvA (by decide) e.symm)).trans hvA
  have hi6 := own_keepU hiA hoA (by decide) hg
  have hb6 : w1.ownsRow w0.heap.size 3 1 bs B.length (ints B) := by
    refine own_keep hbA hg ?_
    cases hb : bs.ownBlock with
    | none => exact .inl rfl
    | some g => exact .inr (fun e => h.bd g hb e.symm)
  have gs : w1.grownBy (w1.setCell ⟨v, 4, none⟩ os') (some v) := gr_set (q := ⟨v, 4, none⟩) (gr_refl w1 (some v)) rfl _
  have hgi6 : ∃ cs, w.heap[gi]? = some (.cells cs 4 (0, 0)) := by
    rcases h1.2 with ⟨hh, _⟩ | ⟨g3, cp, cur, hv3, _, hh3, _⟩
    · cases hh
    · cases hv3; exact ⟨_, hh3⟩
  obtain ⟨csb, hcsb⟩ := hgi6
  refine ⟨⟨gr_grown (gr_grown (gr_grown h.gr gA (fun q e => by cases e; exact hgi)) hg (fun q e => (h.ord.lt q e).1)) gs (fun q e => by cases e; exact h.le), h.le, heap_setCell_same w1 v 4 _ _ os' hv6, ?_, ⟨Bs.set k true, own_keep hi6 gs (.inr (own_ne hi6 hv6 (by decide))), fun j hj => ?_⟩, own_keep hb6 gs (.inr (own_ne hb6 hv6 (by decide))), fun g hgb e => ?_⟩, ?_⟩
  · rw [List.length_append, List.length_singleton, show ints (P ++ [(k : Int)]) = ints P ++ [.int .i64 k] by simp [ints]]
    exact own_keep ho gs (.inr (own_ne ho hv6 (by decide)))
  · rw [seen_get Bs k j true (by omega)]
    by_cases e : j = k
    · subst e; simp
    · rw [if_neg e, h2 j hj]
      simp only [List.mem_append, List.mem_singleton, decide_eq_decide]
      constructor
      · exact .inl
      · rintro (h | h)
        · exact h
        · omega
  · rcases hf g e with h8 | h8
    · exact h.bd g hgb h8
    · rw [hsz] at h8
      have := (h.best.lt g hgb).2
      omega
  · exact ((KeepT.blk hcsb (.inl rfl) gA).trans (KeepT.int hoA hg)).trans (KeepT.blk hv6 (.inr rfl) gs)
/-- The stop is taken back. -/
theorem SeekAt.pop {k g cc : Nat} (h : SeekAt w0 w v hx hy st a n c (P ++ [(k : Int)]) (.slice (some ⟨g, 0, none⟩) (P.length + 1) cc) gi bs B way) (hk : k < n) (hn : (k : Int) ∉ P) :
    SeekAt w0 (((w.setCell ⟨v, 4, none⟩ (.slice (some ⟨g, 0, none⟩) P.length cc)).drew).setCell ⟨gi, k, none⟩ (.bool false)) v hx hy st a n c P (.slice (some ⟨g, 0, none⟩) P.length cc) gi bs B way ∧ KeepT w (((w.setCell ⟨v, 4, none⟩ (.slice (some ⟨g, 0, none⟩) P.length cc)).drew).setCell ⟨gi, k, none⟩ (.bool false)) := by
  obtain ⟨Bs, h1, h2⟩ := h.ins
  have hbl : Bs.length = n := by have := h1.1; simpa [bools] using this
  obtain ⟨w8, hw8⟩ : ∃ w8, w8 = (w.setCell ⟨v, 4, none⟩ (.slice (some ⟨g, 0, none⟩) P.length cc)).drew := ⟨_, rfl⟩
  rw [← hw8]
  have gs : w.grownBy w8 (some v) := by rw [hw8]; exact gr_drew (gr_set (q := ⟨v, 4, none⟩) (gr_refl w (some v)) rfl _)
  have hv8 : w8.heap[v]? = some (.cells #[.int .i64 hx, .int .i64 hy, .slice a n c, .int .i64 st, .slice (some ⟨g, 0, none⟩) P.length cc, .slice (some ⟨gi, 0, none⟩) n n, bs, .int .i64 way] 65 (0, 0)) := by rw [hw8]; exact heap_setCell_same w v 4 _ _ (.slice (some ⟨g, 0, none⟩) P.length cc) h.blk
  have hi8 := own_keep h1 gs (.inr (own_ne h1 h.blk (by decide)))
  have hb8 := own_keep h.best gs (.inr (own_ne h.best h.blk (by decide)))
  have ho7 := h.ord
  rw [List.length_append, List.length_singleton] at ho7
  have ho8 := own_take (own_keep ho7 gs (.inr (own_ne ho7 h.blk (by decide)))) P.length (by omega)
  have hP : (ints (P ++ [(k : Int)])).take (P.length * 1) = ints P := by rw [Nat.mul_one]; simp [ints]
  rw [hP] at ho8
  have hgt : w8.grownBy (w8.setCell ⟨gi, k, none⟩ (.bool false)) (some gi) := gr_set (q := ⟨gi, k, none⟩) (gr_refl w8 (some gi)) rfl _
  have hgi6 : ∃ cs, w8.heap[gi]? = some (.cells cs 4 (0, 0)) := by
    rcases hi8.2 with ⟨hh, _⟩ | ⟨g3, cp, cur, hv3, _, hh3, _⟩
    · cases hh
    · cases hv3; exact ⟨_, hh3⟩
  obtain ⟨csb, hcsb⟩ := hgi6
  refine ⟨⟨gr_grown (gr_grown h.gr gs (fun q e => by cases e; exact h.le)) hgt (fun q e => by cases e; exact (h1.lt gi rfl).1), h.le, (hgt.block v (lt_of_block hv8) (by simpa using fun e => h.vgi e.symm)).trans hv8, own_keep ho8 hgt (.inr (own_ne ho8 hcsb (by decide))), ⟨Bs.set k false, (own_bool hi8 k hk).2.2 false, fun j hj => ?_⟩, own_keep hb8 hgt (.inr (own_ne hb8 hcsb (by decide))), fun q hq e => h.bd q hq e⟩, (KeepT.blk h.blk (.inr rfl) gs).trans (KeepT.blk hcsb (.inl rfl) hgt)⟩
  rw [seen_get Bs k j false (by omega)]
  by_cases e : j = k
  · subst e; simp [hn]
  · rw [if_neg e, h2 j hj]
    simp only [List.mem_append, List.mem_singleton, decide_eq_decide]
    constructor
    · rintro (h | h)
      · exact h
      · omega
    · exact .inl
end
end Go.Proofs.YtehhmgbgkemidaaDoor
