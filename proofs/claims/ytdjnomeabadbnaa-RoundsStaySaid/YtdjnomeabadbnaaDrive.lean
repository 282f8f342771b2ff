/- Driving an order: no panic; some tour. -/
import Derived.Test.YtdjnomeabadbnaaTripFault
import Derived.Test.YtdjnomeabadbnaaKitB
import Derived.Test.YtdjnomeabadbnaaStepApp
import Derived.Deep.DeepCutAuto
namespace Go.Proofs.Ytdjnomeabadbnaa
open Go.RowKit

def SomeInt (w : World) (e : Ending) (w' : World) : Prop := (∃ v : Int, e = .returned (.int .i64 v)) ∧ w.grownBy w' none
set_option maxRecDepth 100000 in
theorem far_some (x1 y1 x2 y2 : Int) (w : World) :
    Calls Try.prog 69 #[.agg #[.int .i64 x1, .int .i64 y1], .agg #[.int .i64 x2, .int .i64 y2]] w (SomeInt w) := by
  have hg := gr_alloc (gr_alloc (gr_refl w none) (.cells #[.int .i64 x1, .int .i64 y1] 36)) (.cells #[.int .i64 x2, .int .i64 y2] 36)
  have HG := Lib.hid hg
  clear hg
  go_enter Try.func69, Try.ntmps69
  go_wp2_with (fail)
  all_goals (go_ret; exact ⟨⟨_, rfl⟩, HG.out⟩)

/-- Some tour, and whether it was driven; the memory of the call is new. -/
def ATour (w : World) (e : Ending) (w' : World) : Prop :=
  (∃ (ba : Option Addr) (bn bc : Nat) (x y z : Int) (ok : Bool), e = .returned (.tuple #[.agg #[.slice ba bn bc, .int .i64 x, .int .i64 y, .int .i64 z], .bool ok])) ∧ w.grownBy w' none
theorem set4_heap {w : World} {g t : Nat} {a b c d : Value} (h : w.heap[g]? = some (.cells #[a, b, c, d] t (0, 0))) (x y z u : Value) : ((((w.setCell ⟨g, 0, none⟩ x).setCell ⟨g, 1, none⟩ y).setCell ⟨g, 2, none⟩ z).setCell ⟨g, 3, none⟩ u).heap[g]? = some (.cells #[x, y, z, u] t (0, 0)) := by
  have h1 := heap_setCell_same w g 0 _ t x h
  have h2 := heap_setCell_same _ g 1 _ t y h1
  have h3 := heap_setCell_same _ g 2 _ t z h2
  exact heap_setCell_same _ g 3 _ t u h3
theorem set4_gr (w : World) (g : Nat) (x y z u : Value) : w.grownBy ((((w.setCell ⟨g, 0, none⟩ x).setCell ⟨g, 1, none⟩ y).setCell ⟨g, 2, none⟩ z).setCell ⟨g, 3, none⟩ u) (some g) :=
  gr_set (q := ⟨g, 3, none⟩) (gr_set (q := ⟨g, 2, none⟩) (gr_set (q := ⟨g, 1, none⟩) (gr_set (q := ⟨g, 0, none⟩) (gr_refl w (some g)) rfl _) rfl _) rfl _) rfl _
theorem blk4 {w : World} {g t : Nat} {a b c d : Value} (h : w.heap[g]? = some (.cells #[a, b, c, d] t (0, 0))) : w.cell? ⟨g, 0, none⟩ = some a ∧ w.cell? ⟨g, 1, none⟩ = some b ∧ w.cell? ⟨g, 2, none⟩ = some c ∧ w.cell? ⟨g, 3, none⟩ = some d :=
  ⟨blkC h 0 rfl, blkC h 1 rfl, blkC h 2 rfl, blkC h 3 rfl⟩
theorem heap_3 (w : World) (o1 o2 o3 : Obj) : (((w.alloc o1).alloc o2).alloc o3).heap[w.heap.size]? = some o1 ∧ (((w.alloc o1).alloc o2).alloc o3).heap[w.heap.size + 1]? = some o2 ∧ (((w.alloc o1).alloc o2).alloc o3).heap[w.heap.size + 2]? = some o3 := by
  have h1 := heap_alloc_new w o1
  have h2 := heap_alloc_new (w.alloc o1) o2
  have h3 := heap_alloc_new ((w.alloc o1).alloc o2) o3
  have e2 : (w.alloc o1).heap.size = w.heap.size + 1 := by simp
  have e3 : ((w.alloc o1).alloc o2).heap.size = w.heap.size + 2 := by simp
  rw [e2] at h2
  rw [e3] at h3
  refine ⟨?_, ?_, h3⟩
  · rw [heap_alloc_old (h := by simp; omega), heap_alloc_old (h := by simp)]; exact h1
  · rw [heap_alloc_old (h := by simp)]; exact h2

set_option maxRecDepth 100000 in
set_option maxHeartbeats 4000000 in
theorem drive_any (hx hy st : Int) (xs : List Stop) (a : Option Addr) (c : Nat) (O : List Int) (ao : Option Addr) (co : Nat) (w : World) (hc : CellsAt w a (flat encStop xs)) (hl : xs.length ≤ 1000)
    (hco : CellsAt w ao (ints O)) (hlo : O.length ≤ 1000) (hO : ∀ i ∈ O, 0 ≤ i ∧ i < xs.length) :
    Calls Try.prog 37 #[.agg #[.int .i64 hx, .int .i64 hy, .slice a xs.length c, .int .i64 st], .slice ao O.length co] w (ATour w) := by
  obtain ⟨dt, hd1⟩ := und_struct (P := Try.prog) (t := 72) (by kernel_rfl)
  obtain ⟨b1, b2, b3⟩ := heap_3 w (.cells #[.int .i64 hx, .int .i64 hy, .slice a xs.length c, .int .i64 st] 77) (.cells #[.slice none 0 0, .int .i64 0, .int .i64 0, .int .i64 0] 72) (.cells #[.slice none 0 0, .int .i64 0, .int .i64 0, .int .i64 0] 72)
  have g1 := gr_alloc (gr_alloc (gr_alloc (gr_refl w none) (.cells #[.int .i64 hx, .int .i64 hy, .slice a xs.length c, .int .i64 st] 77)) (.cells #[.slice none 0 0, .int .i64 0, .int .i64 0, .int .i64 0] 72)) (.cells #[.slice none 0 0, .int .i64 0, .int .i64 0, .int .i64 0] 72)
  have z1 : (((w.alloc (.cells #[.int .i64 hx, .int .i64 hy, .slice a xs.length c, .int .i64 st] 77)).alloc (.cells #[.slice none 0 0, .int .i64 0, .int .i64 0, .int .i64 0] 72)).alloc (.cells #[.slice none 0 0, .int .i64 0, .int .i64 0, .int .i64 0] 72)).heap.size = w.heap.size + 3 := by simp
  obtain ⟨w1, hw1⟩ : ∃ w1, w1 = (((w.alloc (.cells #[.int .i64 hx, .int .i64 hy, .slice a xs.length c, .int .i64 st] 77)).alloc (.cells #[.slice none 0 0, .int .i64 0, .int .i64 0, .int .i64 0] 72)).alloc (.cells #[.slice none 0 0, .int .i64 0, .int .i64 0, .int .i64 0] 72)) := ⟨_, rfl⟩
  rw [← hw1] at b1 b2 b3 g1 z1
  have HW1 := Lib.hid hw1
  obtain ⟨T, hT⟩ : ∃ T, T = w.heap.size := ⟨_, rfl⟩
  rw [← hT] at b1 b2 b3 z1
  have HT := Lib.hid hT
  obtain ⟨t0, t1, t2, t3⟩ := blk4 b1
  have HB1 := Lib.hid b1
  have HB2 := Lib.hid b2
  have HB3 := Lib.hid b3
  have HZ1 := Lib.hid z1
  have htl : T < w1.heap.size := by omega
  have HOO := Lib.hid hO
  clear hw1 hT b1 b2 b3 z1 hO
  go_enter Try.func37, Try.ntmps37
  go_wp2_with (fail)
  rw [← HW1.out, ← HT.out]
  go_cut [7, 8] (fun s7 s8 wx => s7 = .pointer (some ⟨w1.heap.size, 0, none⟩) ∧ s8 = .int .i64 st ∧ wx.heap[w1.heap.size]? = some (.cells #[.int .i64 hx, .int .i64 hy] 36 (0, 0)) ∧ w1.grownBy wx none)
  case first =>
    go_region
    all_goals (go_wp2_with (fail))
    all_goals (try go_simp)
    all_goals go_meet
    all_goals exact ⟨rfl, rfl, heap_alloc_new w1 _, gr_drew (gr_alloc (gr_refl _ _) _)⟩
  case rest =>
    obtain ⟨rfl, rfl, hA2, g2⟩ := hcut
    obtain ⟨w2, rfl⟩ : ∃ w2 : World, w2 = wc := ⟨_, rfl⟩
    obtain ⟨A, hA⟩ : ∃ A, A = w1.heap.size := ⟨_, rfl⟩
    obtain ⟨R, hR⟩ : ∃ R, R = T + 1 := ⟨_, rfl⟩
    obtain ⟨U, hU⟩ : ∃ U, U = R + 1 := ⟨_, rfl⟩
    have hT2 := (g2.block T (lt_of_block HB1.out) (by simp)).trans HB1.out
    have hR2 := (g2.block (T + 1) (lt_of_block HB2.out) (by simp)).trans HB2.out
    have hU2 := (g2.block (T + 2) (lt_of_block HB3.out) (by simp)).trans HB3.out
    rw [show T + 2 = U by omega] at hU2
    rw [← hR] at hR2
    rw [← hA] at hA2
    rw [← hA, ← hR, ← hU]
    have hTw : w.heap.size ≤ T := by have := HT.out; omega
    have hTR : T < R := by omega
    have hRU : R < U := by omega
    have hUA : U < A := by have := HZ1.out; omega
    have hgr2 := gr_trans g1 g2
    have hsz2 : T ≤ w2.heap.size := Nat.le_of_lt (lt_of_block hT2)
    clear hA hR hU t0 t1 t2 t3 g1 g2 htl
    go_wp2_with (fail)
    go_loopw [8, 21] (fun s8 i wr => ∃ (k : Nat) (now x y wy wt : Int) (bv : Value) (B : List Int), k ≤ O.length ∧ i = .int .i64 k ∧ s8 = .int .i64 now ∧ wr.heap[A]? = some (.cells #[.int .i64 x, .int .i64 y] 36 (0, 0)) ∧
      wr.heap[U]? = some (.cells #[bv, .int .i64 0, .int .i64 wy, .int .i64 wt] 72 (0, 0)) ∧ wr.heap[R]? = some (.cells #[.slice none 0 0, .int .i64 0, .int .i64 0, .int .i64 0] 72 (0, 0)) ∧
      wr.heap[T]? = some (.cells #[.int .i64 hx, .int .i64 hy, .slice a xs.length c, .int .i64 st] 77 (0, 0)) ∧ wr.ownsRow T 3 1 bv k (ints B) ∧ w.grownBy wr none) (fun _ i _ => O.length - (intOf i).toNat)
    case atStart => exact ⟨0, st, hx, hy, 0, 0, _, [], by omega, rfl, rfl, hA2, hU2, hR2, hT2, World.ownsRow_nil _ _ _ _, hgr2⟩
    case round =>
      clear hA2 hU2 hR2 hT2 hgr2 hsz2
      obtain ⟨k, now, x, y, wy, wt, bv, B, hk, rfl, rfl, hA2, hU2, hR2, hT2, hown, hgr⟩ := hrel
      obtain ⟨wo, rfl⟩ : ∃ wo : World, wo = wr := ⟨_, rfl⟩
      have hAl := lt_of_block hA2
      have a0 : wo.cell? ⟨A, 0, none⟩ = some (.int .i64 x) := blkC hA2 0 rfl
      have a1 : wo.cell? ⟨A, 1, none⟩ = some (.int .i64 y) := blkC hA2 1 rfl
      have HA := Lib.hid hA2
      have HU := Lib.hid hU2
      have HR := Lib.hid hR2
      have HTT := Lib.hid hT2
      have HVU := Lib.hid (own_ne hown hU2 (by decide))
      have HVR := Lib.hid (own_ne hown hR2 (by decide))
      have HVA := Lib.hid (own_ne hown hA2 (by decide))
      have HVT := Lib.hid (own_ne hown hT2 (by decide))
      by_cases hlt : k < O.length
      · obtain ⟨ob, oo, rfl, d0⟩ := (hco.keep0 hgr) k _ (ints_get O k hlt)
        have hmem : O.getD k 0 ∈ O := by rw [getD_eq O k 0 hlt]; exact List.getElem_mem hlt
        have hm2 := HOO.out _ hmem
        obtain ⟨m, hm⟩ : ∃ m : Nat, O.getD k 0 = (m : Int) := ⟨(O.getD k 0).toNat, by omega⟩
        rw [hm] at d0 hm2
        have hml : m < xs.length := by omega
        obtain ⟨b, off, rfl, hcs⟩ := flat_cells encStop_len (by decide) (hc.keep0 hgr) (by omega)
        obtain ⟨s, hs⟩ : ∃ s, s = xs[m] := ⟨_, rfl⟩
        have e0 : wo.cell? ⟨b, off + m * 6, none⟩ = some (.string s.key) := by rw [hs]; exact hcs m hml 0 _ rfl
        have e1 : wo.cell? ⟨b, off + m * 6 + 1, none⟩ = some (.int .i64 s.x) := by rw [hs]; exact hcs m hml 1 _ rfl
        have e2 : wo.cell? ⟨b, off + m * 6 + 2, none⟩ = some (.int .i64 s.y) := by rw [hs]; exact hcs m hml 2 _ rfl
        have e3 : wo.cell? ⟨b, off + m * 6 + 3, none⟩ = some (.int .i64 s.fr) := by rw [hs]; exact hcs m hml 3 _ rfl
        have e4 : wo.cell? ⟨b, off + m * 6 + 4, none⟩ = some (.int .i64 s.tt) := by rw [hs]; exact hcs m hml 4 _ rfl
        have e5 : wo.cell? ⟨b, off + m * 6 + 5, none⟩ = some (.int .i64 s.lo) := by rw [hs]; exact hcs m hml 5 _ rfl
        have t2 : wo.cell? ⟨T, 2, none⟩ = some (.slice (some ⟨b, off, none⟩) xs.length c) := blkC hT2 2 rfl
        clear hs hcs hmem hm hm2 hA2 hU2 hR2 hT2
        go_wp2_with (fail)
        have hS3 := heap_alloc_new wo (.cells #[.string s.key, .int .i64 s.x, .int .i64 s.y, .int .i64 s.fr, .int .i64 s.tt, .int .i64 s.lo] 44)
        have hg3 := gr_alloc (gr_refl wo none) (.cells #[.string s.key, .int .i64 s.x, .int .i64 s.y, .int .i64 s.fr, .int .i64 s.tt, .int .i64 s.lo] 44)
        obtain ⟨S, hS⟩ : ∃ S, S = wo.heap.size := ⟨_, rfl⟩
        rw [← hS] at hS3
        rw [← hS]
        have hSw : w.heap.size ≤ S := by have := hgr.size; omega
        have hAS : A < S := by omega
        refine (far_some x y s.x s.y _).mono ?_
        rintro e w4 ⟨⟨v, rfl⟩, hg4⟩
        have hS4 := (hg4.block S (lt_of_block hS3) (by simp)).trans hS3
        have hg4 := gr_trans hg3 hg4
        have hA4 := (hg4.block A (lt_of_block HA.out) (by simp)).trans HA.out
        have hU4 := (hg4.block U (lt_of_block HU.out) (by simp)).trans HU.out
        have hR4 := (hg4.block R (lt_of_block HR.out) (by simp)).trans HR.out
        have hT4 := (hg4.block T (lt_of_block HTT.out) (by simp)).trans HTT.out
        have hown4 := own_keep0 hown hg4
        have hgr4 := gr_trans hgr hg4
        have hsz4 := hg4.size
        have f3 : w4.cell? ⟨S, 3, none⟩ = some (.int .i64 s.fr) := blkC hS4 3 rfl
        have HS4 := Lib.hid hS4
        have HA4 := Lib.hid hA4
        have HU4 := Lib.hid hU4
        have HR4 := Lib.hid hR4
        have HT4 := Lib.hid hT4
        clear hS hS3 hg3 hS4 hA4 hU4 hR4 hT4 hown hgr hg4 HA HU HR HTT a0 a1 d0 e0 e1 e2 e3 e4 e5 t2
        obtain ⟨p, hp⟩ : ∃ p, IntKind.i64.wrap (now + v) = p := ⟨_, rfl⟩
        go_upto_region 8 with (fail)
        go_cut [13] (fun s13 wx => ∃ bg : Int, s13 = .int .i64 bg ∧ wx = w4)
        case first =>
          go_wp2_with (fail)
          all_goals go_meet
          all_goals exact ⟨_, rfl, rfl⟩
        case rest =>
        obtain ⟨bg, rfl, hwc⟩ := hcut
        rw [hwc]
        clear hwc
        clear hp f3
        have f4 : w4.cell? ⟨S, 4, none⟩ = some (.int .i64 s.tt) := blkC HS4.out 4 rfl
        by_cases hbt : s.tt < bg
        · obtain ⟨r0, r1, r2, r3⟩ := blk4 HR4.out
          have z0 := blkF HR4.out 0
          have z1 := blkF HR4.out 1
          have z2 := blkF HR4.out 2
          have z3 := blkF HR4.out 3
          go_wp2_with (fail)
          refine bodyPost_ret (results_cell_slot (p := 4) (q := 5) (by kernel_rfl) _ _ R _ #[.slice none 0 0, .int .i64 0, .int .i64 0, .int .i64 0] _ (.struct dt) _ rfl rfl (set4_heap HR4.out _ _ _ _) hd1 rfl (by kernel_rfl)) rfl ⟨⟨none, 0, 0, 0, 0, 0, false, rfl⟩, ?_⟩
          exact gr_grown hgr4 (set4_gr _ _ _ _ _ _) (fun g e => by cases e; omega)
        · have u0 : w4.cell? ⟨U, 0, none⟩ = some bv := blkC HU4.out 0 rfl
          obtain ⟨wy2, hwy2⟩ : ∃ q, IntKind.i64.wrap (wy + v) = q := ⟨_, rfl⟩
          obtain ⟨d1, hdd1⟩ : ∃ q, IntKind.i64.wrap (bg - now) = q := ⟨_, rfl⟩
          obtain ⟨d2, hdd2⟩ : ∃ q, IntKind.i64.wrap (d1 - v) = q := ⟨_, rfl⟩
          obtain ⟨wt2, hwt2⟩ : ∃ q, IntKind.i64.wrap (wt + d2) = q := ⟨_, rfl⟩
          go_wp2_with (at_builtin; refine wpList_app1 eInt rfl _ _ rfl T bv k _ rfl w4 #[.int .i64 bg] rfl hown4 _ rfl rfl rfl rfl ?_ ?_ ?_; (· omega); (· omega); intro v5 w5 hown5 hg5 hlt5; have hU5 := (hg5.block U (lt_of_block HU4.out) (fun e => HVU.out e.symm)).trans HU4.out; obtain ⟨u0, u1, u2, u3⟩ := blk4 hU5; have z0 := blkF hU5 0; have z2 := blkF hU5 2; have z3 := blkF hU5 3; have HU5 := Lib.hid hU5; clear hU5; obtain ⟨g6, c6, rfl, _, _, _, _⟩ := own_some hown5 (by omega))
          obtain ⟨w6, hw6⟩ : ∃ w6, w6 = ((w5.setCell ⟨U, 0, none⟩ (.slice (some ⟨g6, 0, none⟩) (k + 1) c6)).setCell ⟨U, 2, none⟩ (.int .i64 wy2)).setCell ⟨U, 3, none⟩ (.int .i64 wt2) := ⟨_, rfl⟩
          have hgU : w5.grownBy w6 (some U) := by rw [hw6]; exact gr_set (q := ⟨U, 3, none⟩) (gr_set (q := ⟨U, 2, none⟩) (gr_set (q := ⟨U, 0, none⟩) (gr_refl w5 (some U)) rfl _) rfl _) rfl _
          have hU6 : w6.heap[U]? = some (.cells #[.slice (some ⟨g6, 0, none⟩) (k + 1) c6, .int .i64 0, .int .i64 wy2, .int .i64 wt2] 72 (0, 0)) := by
            rw [hw6]
            have k1 := heap_setCell_same w5 U 0 _ _ (.slice (some ⟨g6, 0, none⟩) (k + 1) c6) HU5.out
            have k2 := heap_setCell_same _ U 2 _ _ (.int .i64 wy2) k1
            exact heap_setCell_same _ U 3 _ _ (.int .i64 wt2) k2
          have hA5 := (hg5.block A (lt_of_block HA4.out) (fun e => HVA.out e.symm)).trans HA4.out
          have hA6 := (hgU.block A (lt_of_block hA5) (by simp; omega)).trans hA5
          have hR5 := (hg5.block R (lt_of_block HR4.out) (fun e => HVR.out e.symm)).trans HR4.out
          have hR6 := (hgU.block R (lt_of_block hR5) (by simp; omega)).trans hR5
          have hT5 := (hg5.block T (lt_of_block HT4.out) (fun e => HVT.out e.symm)).trans HT4.out
          have hT6 := (hgU.block T (lt_of_block hT5) (by simp; omega)).trans hT5
          have hS5 := (hg5.block S (lt_of_block HS4.out) (fun e => own_ne hown4 HS4.out (by decide) e.symm)).trans HS4.out
          have hS6 := (hgU.block S (lt_of_block hS5) (by simp; omega)).trans hS5
          have hown6 := own_keep hown5 hgU (.inr (own_ne hown5 HU5.out (by decide)))
          have hgr6 := gr_grown (gr_grown hgr4 hg5 (fun q e => by have := hlt5 q e; omega)) hgU (fun g e => by cases e; omega)
          have a0 : w6.cell? ⟨A, 0, none⟩ = some (.int .i64 x) := blkC hA6 0 rfl
          have a1 : w6.cell? ⟨A, 1, none⟩ = some (.int .i64 y) := blkC hA6 1 rfl
          have y0 := blkF hA6 0
          have y1 := blkF hA6 1
          have s1 : w6.cell? ⟨S, 1, none⟩ = some (.int .i64 s.x) := blkC hS6 1 rfl
          have s2 : w6.cell? ⟨S, 2, none⟩ = some (.int .i64 s.y) := blkC hS6 2 rfl
          have s5 : w6.cell? ⟨S, 5, none⟩ = some (.int .i64 s.lo) := blkC hS6 5 rfl
          rw [← hw6]
          have HA6 := Lib.hid hA6
          have HU6 := Lib.hid hU6
          have HR6 := Lib.hid hR6
          have HT6 := Lib.hid hT6
          have HO6 := Lib.hid hown6
          clear hw6 hgU hU6 hA5 hA6 hR5 hR6 hT5 hT6 hS5 hS6 hown5 hown6 hg5 hlt5 u0 u1 u2 u3 z0 z2 z3 f4 hwy2 hdd1 hdd2 hwt2 HU5 hown4
          obtain ⟨nw, hnw⟩ : ∃ q, IntKind.i64.wrap (bg + s.lo) = q := ⟨_, rfl⟩
          go_region
          all_goals (go_wp2_with (fail))
          all_goals go_roundw
          all_goals first | (simp [intOf]; omega) | skip
          all_goals
            have hgA := gr_drew (gr_set (q := ⟨A, 1, none⟩) (gr_set (q := ⟨A, 0, none⟩) (gr_refl w6 (some A)) rfl (.int .i64 s.x)) rfl (.int .i64 s.y))
            have hO7 := own_keep HO6.out hgA (.inr (own_ne HO6.out HA6.out (by decide)))
            refine ⟨k + 1, nw, s.x, s.y, wy2, wt2, _, B ++ [bg], by omega, by go_num, rfl, set2_heap HA6.out _ _, (hgA.block U (lt_of_block HU6.out) (by simp; omega)).trans HU6.out, (hgA.block R (lt_of_block HR6.out) (by simp; omega)).trans HR6.out, (hgA.block T (lt_of_block HT6.out) (by simp; omega)).trans HT6.out, ?_, gr_grown hgr6 hgA (fun g e => by cases e; omega)⟩
            simpa [ints] using hO7
      · obtain rfl : k = O.length := by omega
        obtain ⟨ba, bc, rfl, _, _, _, _⟩ := own_shape hown
        have t0 : wo.cell? ⟨T, 0, none⟩ = some (.int .i64 hx) := blkC hT2 0 rfl
        have t1 : wo.cell? ⟨T, 1, none⟩ = some (.int .i64 hy) := blkC hT2 1 rfl
        clear hA2 hU2 hR2 hT2
        go_wp2_with (fail)
        refine (far_some x y hx hy _).mono ?_
        rintro e w4 ⟨⟨v, rfl⟩, hg4⟩
        have hU4 := (hg4.block U (lt_of_block HU.out) (by simp)).trans HU.out
        have hR4 := (hg4.block R (lt_of_block HR.out) (by simp)).trans HR.out
        have hgr4 := gr_trans hgr hg4
        obtain ⟨u0, u1, u2, u3⟩ := blk4 hU4
        obtain ⟨r0, r1, r2, r3⟩ := blk4 hR4
        have z1 := blkF hU4 1
        have z2 := blkF hU4 2
        have y0 := blkF hR4 0
        have y1 := blkF hR4 1
        have y2 := blkF hR4 2
        have y3 := blkF hR4 3
        have HR4 := Lib.hid hR4
        have HU4 := Lib.hid hU4
        obtain ⟨wy2, hwy2⟩ : ∃ q, IntKind.i64.wrap (wy + v) = q := ⟨_, rfl⟩
        obtain ⟨en, hen⟩ : ∃ q, IntKind.i64.wrap (now + v) = q := ⟨_, rfl⟩
        clear hU4 hR4 hg4 t0 t1 a0 a1
        go_wp2_with (fail)
        have hgU := gr_set (q := ⟨U, 1, none⟩) (gr_set (q := ⟨U, 2, none⟩) (gr_refl w4 (some U)) rfl (.int .i64 wy2)) rfl (.int .i64 en)
        have hR6 := (hgU.block R (lt_of_block HR4.out) (by simp; omega)).trans HR4.out
        refine bodyPost_ret (results_cell_slot (p := 4) (q := 5) (by kernel_rfl) _ _ R _ #[.slice ba O.length bc, .int .i64 en, .int .i64 wy2, .int .i64 wt] _ (.struct dt) _ rfl rfl (set4_heap hR6 _ _ _ _) hd1 rfl (by kernel_rfl)) rfl ⟨⟨_, _, _, _, _, _, _, rfl⟩, ?_⟩
        exact gr_grown (gr_grown hgr4 hgU (fun g e => by cases e; omega)) (set4_gr _ _ _ _ _ _) (fun g e => by cases e; omega)
end Go.Proofs.Ytdjnomeabadbnaa
