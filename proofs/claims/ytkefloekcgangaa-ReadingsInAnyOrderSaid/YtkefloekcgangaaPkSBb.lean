/- The walk of ReadingsStay. -/
import Derived.Test.YtkefloekcgangaaPkSAz
import Derived.Test.YtkefloekcgangaaPkSBa
import Derived.Test.YtkefloekcgangaaPkSAu
import Derived.Deep.DeepCutAuto
import Derived.Deep.CutBlock
namespace Go.Proofs.Ytkefloekcgangaa
open Go.RowKit
attribute [local go_sem ↓] Go.wp_at_zero Go.wp_at_succ

structure WInv (wr : World) (w9 : World) (Q : Nat) (sa : Option Addr) (sc : Nat) (Ls : List RdG) (ra : Option Addr) (rc : Nat) (Lr : List RdG) (ta : Option Addr) (tc : Nat) (St : List StG) : Prop where
  gr : w9.grownBy wr none
  s : ShR wr w9.heap.size (.slice sa Ls.length sc) Ls
  r : ShR wr w9.heap.size (.slice ra Lr.length rc) Lr
  t : ShS wr w9.heap.size (.slice ta St.length tc) St
  q : wr.heap[Q]? = some (.cells #[.slice sa Ls.length sc, .slice ra Lr.length rc] 36 (0, 0))
section
variable {wr w1 w9 : World} {Q sc rc tc b : Nat} {sa ra ta : Option Addr} {Ls Lr : List RdG} {St : List StG} {cur : Array Value}
theorem WInv.keep0 (h : WInv wr w9 Q sa sc Ls ra rc Lr ta tc St) (g : wr.grownBy w1 none) : WInv w1 w9 Q sa sc Ls ra rc Lr ta tc St :=
  ⟨gr_trans h.gr g, h.s.keep0 g, h.r.keep0 g, h.t.keep0 g, (g.block _ (lt_of_block h.q) (by simp)).trans h.q⟩
theorem ne_of_types {w : World} {q b e f : Nat} {cs cur : Array Value} (hq : w.heap[q]? = some (.cells cs e (0, 0))) (hb : w.heap[b]? = some (.cells cur f (0, 0))) (h : e ≠ f) : q ≠ b := by
  rintro rfl
  rw [hq] at hb
  cases hb
  exact h rfl
theorem blk_set {w : World} {q b e k : Nat} {cs cur : Array Value} (hq : w.heap[q]? = some (.cells cs e (0, 0))) (hb : w.heap[b]? = some (.cells cur 3 (0, 0))) (h : e ≠ 3) (x : Int) : (w.setCell ⟨b, k, none⟩ (.int .i64 x)).heap[q]? = some (.cells cs e (0, 0)) :=
  ((gr_set (q := ⟨b, k, none⟩) (gr_refl w (some b)) rfl (.int .i64 x)).block q (lt_of_block hq) (by simpa using ne_of_types hq hb h)).trans hq
theorem WInv.set (h : WInv wr w9 Q sa sc Ls ra rc Lr ta tc St) (hb : wr.heap[b]? = some (.cells cur 3 (0, 0))) (hb9 : w9.heap.size ≤ b) (k : Nat) (x : Int) : WInv (wr.setCell ⟨b, k, none⟩ (.int .i64 x)) w9 Q sa sc Ls ra rc Lr ta tc St :=
  ⟨gr_grown h.gr (gr_set (q := ⟨b, k, none⟩) (gr_refl wr (some b)) rfl (.int .i64 x)) (fun q e => by cases e; exact hb9), h.s.set hb k x, h.r.set hb k x, h.t.set hb k x, blk_set h.q hb (by decide) x⟩
end
theorem mtrM_cnt (l : List Int) (k : Nat) : -1000 ≤ (mtrM l k).cnt ∧ (mtrM l k).cnt ≤ 1000 := by
  unfold mtrM
  split
  · have := pickM_mem l (k + 1 + 1 + 1 + 1) [0, 1, 61] (by decide)
    simp only [List.mem_cons, List.not_mem_nil, or_false] at this
    simp only; omega
  · have := nxt_range l k 3 (by decide)
    simp only; omega
theorem mtrK_le (l : List Int) (k : Nat) : mtrK l k ≤ k + 7 := by unfold mtrK; split <;> omega
set_option maxRecDepth 100000 in
set_option maxHeartbeats 8000000 in
theorem readingsStay_any (l : List Int) (a : Option Addr) (cap : Nat) (w : World) (hc : CellsAt w a (ints l)) (hl : l.length ≤ 9223372036854775807) :
    Calls Try.prog 4 #[.slice a l.length cap] w fun e w' => e = .returned (.bool true) ∧ w.grownBy w' none := by
  have hg0 := gr_alloc (gr_alloc (gr_refl w none) (.cells #[.slice a l.length cap, .int .i64 0] 25)) (.cells #[.slice a l.length cap, .int .i64 0] 25)
  have sa0 := (StreamAt.made cap hc hl).keep0 (gr_alloc (gr_refl _ _) (.cells #[.slice a l.length cap, .int .i64 0] 25))
  have sb0 := StreamAt.madeLow cap (gr_alloc (gr_refl w none) (.cells #[.slice a l.length cap, .int .i64 0] 25)) hc hl
  rw [show (w.alloc (.cells #[.slice a l.length cap, .int .i64 0] 25)).heap.size = w.heap.size + 1 by simp] at sb0
  obtain ⟨w0, hw0⟩ : ∃ w0, w0 = (w.alloc (.cells #[.slice a l.length cap, .int .i64 0] 25)).alloc (.cells #[.slice a l.length cap, .int .i64 0] 25) := ⟨_, rfl⟩
  have hz0 : w0.heap.size = w.heap.size + 2 := by rw [hw0]; simp
  rw [← hw0] at sa0 sb0 hg0
  have MA := fun (p' : Nat) (w' : World) (h : StreamAt w' p' w.heap.size l 0) => meter_any l 0 p' w' h (by omega)
  unfold MtrPost at MA
  have hmc := mtrM_cnt l 0
  have hmt := mtrM_turn l 0
  have hk1 := mtrK_le l 0
  obtain ⟨m, hme⟩ : ∃ m, m = mtrM l 0 := ⟨_, rfl⟩
  obtain ⟨k1, hk1e⟩ : ∃ k1, k1 = mtrK l 0 := ⟨_, rfl⟩
  rw [← hme] at MA hmc hmt
  rw [← hk1e] at MA hk1
  obtain ⟨right, hri⟩ : ∃ right : Bool, right = true ↔ MtrOk m := by
    by_cases h : MtrOk m
    · exact ⟨true, fun _ => h, fun _ => rfl⟩
    · exact ⟨false, fun h2 => (by cases h2), fun h2 => absurd h2 h⟩
  have RA := fun (p' : Nat) (w' : World) (h : StreamAt w' p' w.heap.size l k1) => readings_any l k1 m right hri p' w' h (by omega) hmc hmt
  unfold RdsPost at RA
  obtain ⟨hX12, hXv, -⟩ := rdsM_small l k1 m right (fun h => hri.1 h)
  obtain ⟨X, hX⟩ : ∃ X, X = rdsM l k1 m right := ⟨_, rfl⟩
  rw [← hX] at RA hX12 hXv
  have HMA := Lib.hid MA
  have HRA := Lib.hid RA
  have HXV := Lib.hid hXv
  have HMT : Hid (-1000000000 ≤ m.turn ∧ m.turn ≤ 1000000000) := ⟨by omega, by omega⟩
  clear MA RA hXv hX hri hk1e hme hc hl hmc
  obtain ⟨mc, mt, mf⟩ := m
  unfold mtrV at HMA HRA
  dsimp only at HMA HRA
  go_enter Try.func4, Try.ntmps4
  go_wp2_with (fail)
  rw [← hw0]
  have HW0 := Lib.hid hw0; clear hw0
  refine (HMA.out _ w0 sa0).mono ?_
  rintro e w1 ⟨rfl, sa1, g1⟩
  have z1 := g1.size
  have sb1 := sb0.keepNe g1 (fun q e => by cases e; omega)
  clear sa0 sb0
  go_wp2_with (fail)
  refine (HMA.out _ w1 sb1).mono ?_
  rintro e w2 ⟨rfl, sb2, g2⟩
  have z2 := g2.size
  have sa2 := sa1.keepNe g2 (fun q e => by cases e; omega)
  have hgr2 := gr_grown (gr_grown hg0 g1 (fun k e => by cases e; omega)) g2 (fun k e => by cases e; omega)
  clear sa1 sb1 g1 g2 hg0 HMA HW0
  obtain ⟨hM, hM'⟩ := heap_2 w2 (.cells #[.int .i64 mc, .int .i64 mt, .int .i64 mf] 34) (.cells #[.int .i64 mc, .int .i64 mt, .int .i64 mf] 34)
  have g24 := gr_alloc (gr_alloc (gr_refl w2 none) (.cells #[.int .i64 mc, .int .i64 mt, .int .i64 mf] 34)) (.cells #[.int .i64 mc, .int .i64 mt, .int .i64 mf] 34)
  obtain ⟨w4, hw4⟩ : ∃ w4, w4 = (w2.alloc (.cells #[.int .i64 mc, .int .i64 mt, .int .i64 mf] 34)).alloc (.cells #[.int .i64 mc, .int .i64 mt, .int .i64 mf] 34) := ⟨_, rfl⟩
  rw [← hw4] at hM g24
  obtain ⟨B5, hB5⟩ : ∃ B5, B5 = w2.heap.size := ⟨_, rfl⟩
  rw [← hB5] at hM
  have hB5l : w.heap.size + 1 < B5 := by omega
  have sa4 := sa2.keep0 g24
  have sb4 := sb2.keep0 g24
  have HM := Lib.hid hM
  have HG4 := Lib.hid (gr_trans hgr2 g24)
  have hz4 : w.heap.size + 2 ≤ w4.heap.size := by have := g24.size; omega
  have HW4 := Lib.hid hw4
  have HB5 := Lib.hid hB5
  clear hM hM' g24 hw4 sa2 sb2 hgr2 hB5 z1 z2 hz0
  go_upto_region 3 with (fail)
  rw [← HW4.out, ← HB5.out]
  go_cut [7, 8] (fun x y wx => ∃ Lx Ly, Rds wx w.heap.size x Lx ∧ Rds wx w.heap.size y Ly ∧ rdsG Lx = X ∧ rdsG Ly = X ∧ wx.heap[B5]? = some (.cells #[.int .i64 mc, .int .i64 mt, .int .i64 mf] 34 (0, 0)) ∧ w.grownBy wx none)
  case first =>
    obtain ⟨m0, m1, m2, -⟩ := blk3M HM.out
    have sa4d := sa4.keep0 (gr_drew (gr_refl w4 none))
    have sb4d := sb4.keep0 (gr_drew (gr_refl w4 none))
    have RA4 := Lib.hid (HRA.out w.heap.size w4.drew sa4d)
    have RB4 := Lib.hid (HRA.out (w.heap.size + 1) w4.drew sb4d)
    have hMl := lt_of_block HM.out
    have hgd := gr_drew (gr_refl w4 none)
    go_region_law (first
      | (go_simp; revert KB; intro KB; go_at_call 12; (with_reducible refine KB.out.mono ?_); rintro e w6 ⟨v6, L6, rfl, r6, e6, -, g6⟩; have r5 := r5.keepS g6 (by omega); have hM6 := (g6.block _ (lt_of_block hM5) (by simp; omega)).trans hM5; have hgB := gr_grown hgA g6 (fun q e => by cases e; omega); have hz6 := g6.size)
      | (go_simp; revert KA; intro KA; go_at_call 12; (with_reducible refine KA.out.mono ?_); rintro e w6 ⟨v6, L6, rfl, r6, e6, -, g6⟩; have r5 := r5.keepS g6 (by omega); have hM6 := (g6.block _ (lt_of_block hM5) (by simp; omega)).trans hM5; have hgB := gr_grown hgA g6 (fun q e => by cases e; omega); have hz6 := g6.size)
      | (go_simp; go_at_call 12; (with_reducible refine RA4.out.mono ?_); rintro e w5 ⟨v5, L5, rfl, r5, e5, -, g5⟩; have r5 := r5.base (show w4.heap.size ≤ w4.drew.heap.size from Nat.le_refl _); have sb5 := sb4d.keepNe g5 (fun q e => by cases e; omega); have KB := Lib.hid (HRA.out (w.heap.size + 1) w5 sb5); have hz5 : w4.heap.size ≤ w5.heap.size := g5.size; have hM5 := (g5.block B5 (show B5 < w4.heap.size from hMl) (by simp; omega)).trans HM.out; have hgA := gr_grown (gr_drew HG4.out) g5 (fun q e => by cases e; omega); obtain ⟨y0, y1, y2, -⟩ := blk3M hM5)
      | (go_simp; go_at_call 12; (with_reducible refine RB4.out.mono ?_); rintro e w5 ⟨v5, L5, rfl, r5, e5, -, g5⟩; have r5 := r5.base (show w4.heap.size ≤ w4.drew.heap.size from Nat.le_refl _); have sa5 := sa4d.keepNe g5 (fun q e => by cases e; omega); have KA := Lib.hid (HRA.out w.heap.size w5 sa5); have hz5 : w4.heap.size ≤ w5.heap.size := g5.size; have hM5 := (g5.block B5 (show B5 < w4.heap.size from hMl) (by simp; omega)).trans HM.out; have hgA := gr_grown (gr_drew HG4.out) g5 (fun q e => by cases e; omega); obtain ⟨y0, y1, y2, -⟩ := blk3M hM5)
      | fail)
    all_goals (go_wp2_with (fail))
    all_goals go_meet
    all_goals first
      | exact ⟨L5, L6, r5.base (by omega), r6.base (by omega), e5, e6, hM6, hgB⟩
      | exact ⟨L6, L5, r6.base (by omega), r5.base (by omega), e6, e5, hM6, hgB⟩
  case rest =>
  obtain ⟨Lx, Ly, rx, ry, ex, ey, hM6, hg6⟩ := hcut
  obtain ⟨w6, rfl⟩ : ∃ w6 : World, w6 = wc := ⟨_, rfl⟩
  obtain ⟨xa, xc, rfl, -, -⟩ := rx.shape
  obtain ⟨ya, yc, rfl, -, -⟩ := ry.shape
  have hlx : Lx.length = X.length := by have := congrArg List.length ex; rwa [rdsG_len] at this
  have hly : Ly.length = X.length := by have := congrArg List.length ey; rwa [rdsG_len] at this
  have hlx6 : Lx.length ≤ 6 := by omega
  have hly6 : Ly.length ≤ 6 := by omega
  have HXS : Hid (∀ g ∈ Lx, g.rd.vs.length ≤ 60) := fun g hg => HXV.out g.rd (by rw [← ex]; exact List.mem_map_of_mem hg)
  have HYS : Hid (∀ g ∈ Ly, g.rd.vs.length ≤ 60) := fun g hg => HXV.out g.rd (by rw [← ey]; exact List.mem_map_of_mem hg)
  have SR := sortedReadings_any ⟨mc, mt, mf⟩ Ly ya yc w6 HMT.out ry.toC (by omega) (fun g hg => by have := HYS.out g hg; omega)
  unfold SortedPost mtrV at SR
  rw [ey] at SR
  have SR := Lib.hid SR
  have HRX := Lib.hid rx
  have HXC := Lib.hid rx.toC
  have HYC := Lib.hid ry.toC
  have HEX := Lib.hid ex
  have HEY := Lib.hid ey
  have HM6 := Lib.hid hM6
  have HG6 := Lib.hid hg6
  have hz6 := hg6.size
  obtain ⟨m0, m1, m2, -⟩ := blk3M hM6
  have HNX : Hid (xa = none → Lx.length = 0 ∧ xc = 0) := own_nilS rx.row
  clear rx ry ex ey hM6 hg6 hlx hly HM HG4 HRA sa4 sb4 HMT hX12
  go_wp2_with (fail)
  refine SR.out.mono ?_
  rintro e w7 ⟨wv, r, rfl, g7, hr⟩
  have hM7 := (g7.block _ (lt_of_block HM6.out) (by simp)).trans HM6.out
  have HG7 := Lib.hid (gr_trans HG6.out g7)
  have HR := Lib.hid hr
  have HG67 := Lib.hid g7
  clear hr g7 m0 m1 m2 SR
  by_cases hr0 : r = 0
  case neg =>
    have hrb : (r != 0) = true := by simpa using hr0
    clear hr0
    go_wp2_with (fail)
    refine (meters_any w7).mono ?_
    rintro e w8 ⟨rfl, g8⟩
    have g8 := gr_trans HG7.out g8
    go_wp2_with (fail)
    go_ret
    exact ⟨rfl, g8⟩
  obtain ⟨hok, hall, Lw, hwv, hasc⟩ := HR.out hr0
  have HOK := Lib.hid hok
  have HALL := Lib.hid hall
  have HASC := Lib.hid hasc
  have HNC := Lib.hid hasc.noConf
  have HWV := Lib.hid hwv
  obtain ⟨wa, wc', rfl, -, -⟩ := hwv.shape
  subst hr0
  have HM7 := Lib.hid hM7
  obtain ⟨m0, m1, m2, -⟩ := blk3M hM7
  have NL := newLog_any ⟨mc, mt, mf⟩ hok w7
  unfold mtrV at NL
  have NL := Lib.hid NL
  clear hok hall hasc hwv hM7 HR
  go_wp2_with (fail)
  refine NL.out.mono ?_
  rintro e w8 ⟨g, rfl, hlog, hgl, g8⟩
  have hlog := hlog w7.heap.size
  have HXC7 := Lib.hid (HXC.out.keep0 HG67.out)
  have HLOG := Lib.hid hlog
  have HG78 := Lib.hid g8
  clear g8 hlog NL m0 m1 m2
  go_wp2_with (fail)
  go_loopw [66] (fun i wr => ∃ (k : Nat) (lv : Value) (L : List RdG), k ≤ Lx.length ∧ i = .int .i64 k ∧ LogAt wr g w7.heap.size ⟨mc, mt, mf⟩ lv L ∧ Hid (Asc (rdsG L) (rdsG (Lx.take k))) ∧ L.length ≤ k ∧ w7.grownBy wr none) (fun i _ => Lx.length - (intOf i).toNat)
  case atStart => exact ⟨0, _, [], Nat.zero_le _, rfl, HLOG.out, Asc.nil, Nat.zero_le _, HG78.out⟩
  case round =>
    obtain ⟨k, lv, L, hk, rfl, hlog, HAS, hlk, hgr⟩ := hrel
    obtain ⟨wo, rfl⟩ : ∃ wo : World, wo = wr := ⟨_, rfl⟩
    have HLG := Lib.hid hlog
    have HGR := Lib.hid hgr
    clear hlog hgr
    by_cases hlt : k < Lx.length
    · obtain ⟨b, off, rfl, c0, c1, cv⟩ := (HXC7.out.keep0 HGR.out).at hlt
      have hxm : Lx[k].rd ∈ X := by rw [← HEX.out]; exact List.mem_map_of_mem (List.getElem_mem hlt)
      have hrok := HALL.out _ hxm
      have hnil := HXC7.out.nil _ (List.getElem_mem hlt)
      have HTK : Hid (rdsG (Lx.take (k + 1)) = rdsG (Lx.take k) ++ [Lx[k].rd]) := by
        show _ = _
        have e : Lx.take (k + 1) = Lx.take k ++ [Lx[k]] := by simp
        rw [e, rdsG_app]
      have hnc : NoConf (rdsG (Lx.take k) ++ [Lx[k].rd]) := by
        rw [← HTK.out]
        have hsub : ∀ r ∈ rdsG (Lx.take (k + 1)), r ∈ X := by
          intro r hr
          rw [← HEX.out]
          simp only [rdsG, List.mem_map] at hr ⊢
          obtain ⟨q, hq, rfl⟩ := hr
          exact ⟨q, List.mem_of_mem_take hq, rfl⟩
        exact fun p hp q hq => HNC.out p (hsub p hp) q (hsub q hq)
      obtain ⟨x, hx⟩ : ∃ x, x = Lx[k] := ⟨_, rfl⟩
      rw [← hx] at c0 c1 cv hrok hnil HTK hnc
      clear hx hxm
      have ga := gr_alloc (gr_refl wo none) (.cells #[.int .i64 x.rd.at_, .slice x.a x.rd.vs.length x.c] 52)
      have PT := put_ok ⟨mc, mt, mf⟩ HOK.out L (rdsG (Lx.take k)) g w7.heap.size lv x _ (HLG.out.keep0 ga) (by have := HGR.out.size; have := ga.size; omega) HAS.out hrok hnc (cv.keep0 ga) hnil (by omega)
      unfold PutPost at PT
      have PT := Lib.hid PT
      have HGA := Lib.hid (gr_trans HGR.out ga)
      clear ga cv hrok hnil hnc
      go_wp2_with (fail)
      refine PT.out.mono ?_
      rintro e w9 ⟨bb, lv', L', rfl, h1, h2, h3, h4, h5⟩
      have hgg : w7.grownBy w9 none := GrowT.grown HGA.out h5 (fun q hq => by
        rcases hq with rfl | hq
        · exact hgl
        · exact (HLG.out.rds.row.lt q hq).1)
      have H1 := Lib.hid h1
      have H2 := Lib.hid h2
      clear h1 h2 h4 h5
      go_wp2_with (fail)
      go_roundw
      case rel => exact ⟨k + 1, lv', L', by omega, by go_num, H1.out, by show Asc _ _; rw [HTK.out]; exact H2.out, by omega, hgg⟩
      case measure => simp [intOf]; omega
    · obtain rfl : k = Lx.length := by omega
      have HLX : Hid (Asc (rdsG L) X) := by
        have h := HAS.out
        rw [List.take_length, HEX.out] at h
        exact h
      have HM9 := Lib.hid ((HGR.out.block _ (lt_of_block HM7.out) (by simp)).trans HM7.out)
      obtain ⟨m0, m1, m2, -⟩ := blk3M HM9.out
      have HXC9 := Lib.hid (HXC7.out.keep0 HGR.out)
      have SO := mtSort_ok ⟨mc, mt, mf⟩ HOK.out Lx xa xc wo HXC9.out HNX.out (by omega) (by rw [HEX.out]; exact HALL.out) (by rw [HEX.out]; exact HNC.out)
      have SP := fun (W : World) (gg : wo.grownBy W none) => steps_ok ⟨mc, mt, mf⟩ HOK.out Lx xa xc W (HXC9.out.keep0 gg) HNX.out (by omega) (by rw [HEX.out]; exact HALL.out) (by rw [HEX.out]; exact HNC.out)
      unfold MtSortPost mtrV at SO
      unfold StepsPost mtrV at SP
      have SO := Lib.hid SO
      have SP := Lib.hid SP
      obtain ⟨w9, rfl⟩ : ∃ w9 : World, w9 = wo := ⟨_, rfl⟩
      clear HAS
      go_wp2_with (fail)
      refine SO.out.mono ?_
      rintro e w10 ⟨sv, Ls, rfl, hs10, -, hls, g10⟩
      obtain ⟨sa, sc, rfl, -, -⟩ := hs10.shape
      have HS10 := Lib.hid hs10
      have HG10 := Lib.hid g10
      have hM10 := (g10.block _ (lt_of_block HM9.out) (by simp)).trans HM9.out
      obtain ⟨n0, n1, n2, -⟩ := blk3M hM10
      have hls6 : Ls.length ≤ 6 := by rw [rdsG_len] at hls; omega
      have HSP10 := Lib.hid (SP.out w10 g10)
      clear hs10 g10 hM10 m0 m1 m2 SO SP hls
      go_wp2_with (fail)
      refine HSP10.out.mono ?_
      rintro e w11 ⟨tv, St, Y, rfl, ht11, -, -, g11⟩
      obtain ⟨ta, tc, rfl, -, -⟩ := ht11.shape
      have HT11 := Lib.hid ht11
      have HG11 := Lib.hid (gr_trans HG10.out g11)
      have HS11 := Lib.hid (HS10.out.keep0 g11)
      have SM := Lib.hid (sameReadings_any Lx Ly (by rw [HEX.out, HEY.out]) xa ya xc yc w11 (HXC9.out.keep0 HG11.out) (HYC.out.keep0 (gr_trans HG67.out (gr_trans HGR.out HG11.out))) (by omega) (fun g hg => by have := HXS.out g hg; omega))
      have HLG11 := Lib.hid (HLG.out.keep0 HG11.out)
      clear ht11 g11 n0 n1 n2 HS10 HSP10
      go_wp2_with (fail)
      refine SM.out.mono ?_
      rintro e w12 ⟨rfl, g12⟩
      have HG12 := Lib.hid (gr_trans HG11.out g12)
      have HLG12 := Lib.hid (HLG11.out.keep0 g12)
      have HT12 := Lib.hid (HT11.out.keep0 g12)
      have HS12 := Lib.hid (HS11.out.keep0 g12)
      have hLv : ∀ x ∈ L, x.rd.vs.length ≤ 1000 := fun x hx => by
        have h1 := HXV.out x.rd ((HLX.out.mem _).1 (List.mem_map_of_mem hx))
        omega
      have HLV := Lib.hid hLv
      have LR := logReadings_any ⟨mc, mt, mf⟩ L g w7.heap.size lv w12 HLG12.out (by omega) hLv
      unfold OutPost at LR
      have LR := Lib.hid LR
      have hz9 : Hid (w9.heap.size ≤ w10.heap.size ∧ w9.heap.size ≤ w12.heap.size) := ⟨HG10.out.size, HG12.out.size⟩
      clear g12 SM hLv HT11 HS11
      go_wp2_with (fail)
      refine LR.out.mono ?_
      rintro e w13 ⟨rv, Lr, rfl, hr13, her, g13⟩
      obtain ⟨ra, rc, rfl, -, -⟩ := hr13.shape
      have hlr : Lr.length ≤ 6 := by have := congrArg List.length her; rw [rdsG_len, rdsG_len] at this; omega
      have ga := gr_alloc (gr_refl w13 none) (.cells #[.slice sa Ls.length sc, .slice ra Lr.length rc] 36)
      have hQ := heap_alloc_new w13 (.cells #[.slice sa Ls.length sc, .slice ra Lr.length rc] 36)
      have hW : WInv (w13.alloc (.cells #[.slice sa Ls.length sc, .slice ra Lr.length rc] 36)) w9 w13.heap.size sa sc Ls ra rc Lr ta tc St :=
        ⟨gr_trans HG12.out (gr_trans g13 ga), (HS12.out.sh).keep0 (gr_trans g13 ga), (hr13.sh.base hz9.out.2).keep0 ga, ((HT12.out.base hz9.out.1).sh).keep0 (gr_trans g13 ga), hQ⟩
      have HW := Lib.hid hW
      obtain ⟨Q, hQe⟩ : ∃ Q, Q = w13.heap.size := ⟨_, rfl⟩
      rw [← hQe] at HW
      have HQE := Lib.hid hQe
      clear hr13 her g13 ga hQ hW LR HLG12 HT12 HS12 hz9 hQe
      go_wp2_with (fail)
      rw [← HQE.out]
      go_loopw [108] (fun i wr => ∃ k : Nat, k ≤ 2 ∧ i = .int .i64 k ∧ WInv wr w9 Q sa sc Ls ra rc Lr ta tc St) (fun i _ => 2 - (intOf i).toNat)
      case atStart => exact ⟨0, by omega, rfl, HW.out⟩
      case round =>
        obtain ⟨i, hi, rfl, hwi⟩ := hrel
        obtain ⟨wo, rfl⟩ : ∃ wo : World, wo = wr := ⟨_, rfl⟩
        have HWI := Lib.hid hwi
        by_cases hi2 : i < 2
        · have hsel : ∃ (va : Option Addr) (vc : Nat) (Lv : List RdG), wo.cell? ⟨Q, i, none⟩ = some (.slice va Lv.length vc) ∧ Lv.length ≤ 6 ∧ ∀ W, WInv W w9 Q sa sc Ls ra rc Lr ta tc St → ShR W w9.heap.size (.slice va Lv.length vc) Lv := by
            rcases (show i = 0 ∨ i = 1 by omega) with rfl | rfl
            · exact ⟨sa, sc, Ls, blkC hwi.q 0 rfl, hls6, fun W h => h.s⟩
            · exact ⟨ra, rc, Lr, blkC hwi.q 1 rfl, hlr, fun W h => h.r⟩
          obtain ⟨va, vc, Lv, q0, hlv, hsh⟩ := hsel
          have HSH := Lib.hid hsh
          clear hsh hwi
          go_wp2_with (fail)
          go_loopw [114] (fun j wr => ∃ k : Nat, k ≤ Lv.length ∧ j = .int .i64 k ∧ WInv wr w9 Q sa sc Ls ra rc Lr ta tc St) (fun j _ => Lv.length - (intOf j).toNat)
          case atStart => exact ⟨0, Nat.zero_le _, rfl, HWI.out⟩
          case round =>
            obtain ⟨j, hj, rfl, hwj⟩ := hrel
            obtain ⟨wi, rfl⟩ : ∃ wi : World, wi = wr := ⟨_, rfl⟩
            have HWJ := Lib.hid hwj
            by_cases hjl : j < Lv.length
            · obtain ⟨b, off, rfl, c0, c1⟩ := (HSH.out wi hwj).at hjl
              have HMEM : Hid (Lv[j] ∈ Lv) := List.getElem_mem hjl
              obtain ⟨x, hx⟩ : ∃ x, x = Lv[j] := ⟨_, rfl⟩
              rw [← hx] at c0 c1 HMEM
              obtain ⟨xr, pa, pc⟩ := x
              simp only at c0 c1
              have ga := gr_alloc (gr_refl wi none) (.cells #[.int .i64 xr.at_, .slice pa xr.vs.length pc] 52)
              have hV := heap_alloc_new wi (.cells #[.int .i64 xr.at_, .slice pa xr.vs.length pc] 52)
              have HWA := Lib.hid (hwj.keep0 ga)
              have HV := Lib.hid hV
              have v1 : (wi.alloc (.cells #[.int .i64 xr.at_, .slice pa xr.vs.length pc] 52)).cell? ⟨wi.heap.size, 1, none⟩ = some (.slice pa xr.vs.length pc) := blkC hV 1 rfl
              obtain ⟨V, hVe⟩ : ∃ V, V = wi.heap.size := ⟨_, rfl⟩
              rw [← hVe] at HV v1
              have HVE := Lib.hid hVe
              have hvs : xr.vs.length ≤ 9223372036854775807 := by
                obtain ⟨M, h1, h2⟩ := (HSH.out wi hwj).vals _ HMEM.out
                obtain ⟨_, _, e, h3, h4, -, -⟩ := own_shape h2
                cases e
                unfold maxLen at h4
                dsimp only at h3 h4
                omega
              clear hx ga hV hwj hVe
              go_upto_region 27 with (fail)
              rw [← HVE.out]
              go_wp2_with (fail)
              go_loopw [121] (fun u wr => ∃ k : Nat, k ≤ xr.vs.length ∧ u = .int .i64 k ∧ WInv wr w9 Q sa sc Ls ra rc Lr ta tc St ∧ wr.heap[V]? = some (.cells #[.int .i64 xr.at_, .slice pa xr.vs.length pc] 52 (0, 0))) (fun u _ => xr.vs.length - (intOf u).toNat)
              case atStart => exact ⟨0, Nat.zero_le _, rfl, HWA.out, HV.out⟩
              case round =>
                obtain ⟨k, hk, rfl, hwk, hVk⟩ := hrel
                obtain ⟨wk, rfl⟩ : ∃ wk : World, wk = wr := ⟨_, rfl⟩
                have HWK := Lib.hid hwk
                by_cases hkl : k < xr.vs.length
                · have hrow := (HSH.out wk hwk).vals _ HMEM.out
                  obtain ⟨g0, rfl, hg9, -, ⟨uu, hu⟩, hf, cur, hcur⟩ := hrow.at hkl
                  have v1 : wk.cell? ⟨V, 1, none⟩ = some (.slice (some ⟨g0, 0, none⟩) xr.vs.length pc) := blkC hVk 1 rfl
                  have HS := Lib.hid (HWK.out.set hcur hg9 k (-5))
                  have HVS := Lib.hid (blk_set (k := k) hVk hcur (by decide) (-5))
                  clear hwk hVk hrow hcur
                  go_wp2_with (fail)
                  go_roundw
                  case rel => exact ⟨k + 1, by omega, by go_num, HS.out, HVS.out⟩
                  case measure => simp [intOf]; omega
                · clear hwk
                  go_wp2_with (fail)
                  go_roundw
                  case rel => exact ⟨j + 1, by omega, by go_num, HWK.out⟩
                  case measure => simp [intOf]; omega
            · clear hwj
              go_wp2_with (fail)
              go_roundw
              case rel => exact ⟨i + 1, by omega, by go_num, HWJ.out⟩
              case measure => simp [intOf]; omega
        · clear hwi
          go_wp2_with (fail)
          go_loopw [133] (fun i wr => ∃ k : Nat, k ≤ St.length ∧ i = .int .i64 k ∧ WInv wr w9 Q sa sc Ls ra rc Lr ta tc St) (fun i _ => St.length - (intOf i).toNat)
          case atStart => exact ⟨0, Nat.zero_le _, rfl, HWI.out⟩
          case round =>
            obtain ⟨j, hj, rfl, hwj⟩ := hrel
            obtain ⟨wi, rfl⟩ : ∃ wi : World, wi = wr := ⟨_, rfl⟩
            have HWJ := Lib.hid hwj
            have hst63 : St.length ≤ 9223372036854775807 := by
              obtain ⟨_, _, e, h3, h4, -, -⟩ := own_shape hwj.t.row
              cases e
              unfold maxLen at h4
              omega
            by_cases hjl : j < St.length
            · obtain ⟨b, off, rfl, c0, c1, c2, c3⟩ := hwj.t.at hjl
              have HMEM : Hid (St[j] ∈ St) := List.getElem_mem hjl
              obtain ⟨x, hx⟩ : ∃ x, x = St[j] := ⟨_, rfl⟩
              rw [← hx] at c0 c1 c2 c3 HMEM
              obtain ⟨xr, pa, pc⟩ := x
              simp only at c0 c1 c2 c3
              have ga := gr_alloc (gr_refl wi none) (.cells #[.int .i64 xr.fr, .int .i64 xr.til, .bool xr.rs, .slice pa xr.sold.length pc] 62)
              have hV := heap_alloc_new wi (.cells #[.int .i64 xr.fr, .int .i64 xr.til, .bool xr.rs, .slice pa xr.sold.length pc] 62)
              have HWA := Lib.hid (hwj.keep0 ga)
              have HV := Lib.hid hV
              have v1 : (wi.alloc (.cells #[.int .i64 xr.fr, .int .i64 xr.til, .bool xr.rs, .slice pa xr.sold.length pc] 62)).cell? ⟨wi.heap.size, 3, none⟩ = some (.slice pa xr.sold.length pc) := blkC hV 3 rfl
              obtain ⟨V, hVe⟩ : ∃ V, V = wi.heap.size := ⟨_, rfl⟩
              rw [← hVe] at HV v1
              have HVE := Lib.hid hVe
              have hvs : xr.sold.length ≤ 9223372036854775807 := by
                obtain ⟨M, h1, h2⟩ := hwj.t.vals _ HMEM.out
                obtain ⟨_, _, e, h3, h4, -, -⟩ := own_shape h2
                cases e
                unfold maxLen at h4
                dsimp only at h3 h4
                omega
              clear hx ga hV hwj hVe
              go_upto_region 37 with (fail)
              rw [← HVE.out]
              go_wp2_with (fail)
              go_loopw [140] (fun u wr => ∃ k : Nat, k ≤ xr.sold.length ∧ u = .int .i64 k ∧ WInv wr w9 Q sa sc Ls ra rc Lr (some ⟨b, off, none⟩) tc St ∧ wr.heap[V]? = some (.cells #[.int .i64 xr.fr, .int .i64 xr.til, .bool xr.rs, .slice pa xr.sold.length pc] 62 (0, 0))) (fun u _ => xr.sold.length - (intOf u).toNat)
              case atStart => exact ⟨0, Nat.zero_le _, rfl, HWA.out, HV.out⟩
              case round =>
                obtain ⟨k, hk, rfl, hwk, hVk⟩ := hrel
                obtain ⟨wk, rfl⟩ : ∃ wk : World, wk = wr := ⟨_, rfl⟩
                have HWK := Lib.hid hwk
                by_cases hkl : k < xr.sold.length
                · have hrow := hwk.t.vals _ HMEM.out
                  obtain ⟨g0, rfl, hg9, -, ⟨uu, hu⟩, hf, cur, hcur⟩ := hrow.at hkl
                  have v1 : wk.cell? ⟨V, 3, none⟩ = some (.slice (some ⟨g0, 0, none⟩) xr.sold.length pc) := blkC hVk 3 rfl
                  have HS := Lib.hid (HWK.out.set hcur hg9 k (-5))
                  have HVS := Lib.hid (blk_set (k := k) hVk hcur (by decide) (-5))
                  clear hwk hVk hrow hcur
                  go_wp2_with (fail)
                  go_roundw
                  case rel => exact ⟨k + 1, by omega, by go_num, HS.out, HVS.out⟩
                  case measure => simp [intOf]; omega
                · clear hwk
                  go_wp2_with (fail)
                  go_roundw
                  case rel => exact ⟨j + 1, by omega, by go_num, HWK.out⟩
                  case measure => simp [intOf]; omega
            · have HGJ := Lib.hid hwj.gr
              have SM := Lib.hid (sameReadings_any Lx Ly (by rw [HEX.out, HEY.out]) xa ya xc yc wi (HXC9.out.keep0 hwj.gr) (HYC.out.keep0 (gr_trans HG67.out (gr_trans HGR.out hwj.gr))) (by omega) (fun g hg => by have := HXS.out g hg; omega))
              clear hwj
              go_wp2_with (fail)
              refine SM.out.mono ?_
              rintro e wS ⟨rfl, gS⟩
              have HGS := Lib.hid (gr_trans HGR.out (gr_trans HGJ.out gS))
              have HLS := Lib.hid (HLG.out.keep0 (gr_trans HGJ.out gS))
              have HWS := Lib.hid (HWV.out.keep0 HGS.out)
              have HXS6 := Lib.hid ((HRX.out.keep0 (gr_trans HG67.out HGS.out)).sh)
              have HGW := Lib.hid (gr_trans HG7.out HGS.out)
              clear gS SM
              go_wp2_with (fail)
              go_loopw [155] (fun i wr => ∃ k : Nat, k ≤ Lx.length ∧ i = .int .i64 k ∧ ShR wr w.heap.size (.slice xa Lx.length xc) Lx ∧ GrowT (fun q => w.heap.size ≤ q ∧ q < w6.heap.size) wS wr) (fun i _ => Lx.length - (intOf i).toNat)
              case atStart => exact ⟨0, Nat.zero_le _, rfl, HXS6.out, GrowT.of (gr_refl _ none) (fun q e => by cases e)⟩
              case round =>
                obtain ⟨j, hj, rfl, hsr, hgt⟩ := hrel
                obtain ⟨wt, rfl⟩ : ∃ wt : World, wt = wr := ⟨_, rfl⟩
                have HSR := Lib.hid hsr
                have HGT := Lib.hid hgt
                clear hgt
                by_cases hjl : j < Lx.length
                · obtain ⟨b, off, rfl, c0, c1⟩ := hsr.at hjl
                  have HMEM : Hid (Lx[j] ∈ Lx) := List.getElem_mem hjl
                  have hvs := HXS.out _ (List.getElem_mem hjl)
                  obtain ⟨x, hx⟩ : ∃ x, x = Lx[j] := ⟨_, rfl⟩
                  rw [← hx] at c0 c1 HMEM hvs
                  obtain ⟨xr, pa, pc⟩ := x
                  simp only at c0 c1 hvs
                  have ga := gr_alloc (gr_refl wt none) (.cells #[.int .i64 xr.at_, .slice pa xr.vs.length pc] 52)
                  have hV := heap_alloc_new wt (.cells #[.int .i64 xr.at_, .slice pa xr.vs.length pc] 52)
                  have HSA := Lib.hid (hsr.keep0 ga)
                  have HTA := Lib.hid (HGT.out.trans (GrowT.of ga (fun q e => by cases e)))
                  have HV := Lib.hid hV
                  have v1 : (wt.alloc (.cells #[.int .i64 xr.at_, .slice pa xr.vs.length pc] 52)).cell? ⟨wt.heap.size, 1, none⟩ = some (.slice pa xr.vs.length pc) := blkC hV 1 rfl
                  obtain ⟨V, hVe⟩ : ∃ V, V = wt.heap.size := ⟨_, rfl⟩
                  rw [← hVe] at HV v1
                  have HVE := Lib.hid hVe
                  clear hx ga hV hsr hVe
                  go_upto_region 48 with (fail)
                  rw [← HVE.out]
                  go_wp2_with (fail)
                  go_loopw [162] (fun u wr => ∃ k : Nat, k ≤ xr.vs.length ∧ u = .int .i64 k ∧ ShR wr w.heap.size (.slice (some ⟨b, off, none⟩) Lx.length xc) Lx ∧ GrowT (fun q => w.heap.size ≤ q ∧ q < w6.heap.size) wS wr ∧ wr.heap[V]? = some (.cells #[.int .i64 xr.at_, .slice pa xr.vs.length pc] 52 (0, 0))) (fun u _ => xr.vs.length - (intOf u).toNat)
                  case atStart => exact ⟨0, Nat.zero_le _, rfl, HSA.out, HTA.out, HV.out⟩
                  case round =>
                    obtain ⟨k, hk, rfl, hsk, hgk, hVk⟩ := hrel
                    obtain ⟨wk, rfl⟩ : ∃ wk : World, wk = wr := ⟨_, rfl⟩
                    have HSK := Lib.hid hsk
                    have HGK := Lib.hid hgk
                    clear hgk
                    by_cases hkl : k < xr.vs.length
                    · have hrow := hsk.vals _ HMEM.out
                      have hrow6 := HRX.out.vals _ HMEM.out
                      obtain ⟨g0, rfl, hg9, -, ⟨uu, hu⟩, hf, cur, hcur⟩ := hrow.at hkl
                      have hg6 : g0 < w6.heap.size := (hrow6.lt g0 rfl).2
                      have v1 : wk.cell? ⟨V, 1, none⟩ = some (.slice (some ⟨g0, 0, none⟩) xr.vs.length pc) := blkC hVk 1 rfl
                      have HS := Lib.hid (HSK.out.set hcur k (-7))
                      have HVS := Lib.hid (blk_set (k := k) hVk hcur (by decide) (-7))
                      have HGS2 := Lib.hid (HGK.out.trans (GrowT.of (T := fun q => w.heap.size ≤ q ∧ q < w6.heap.size) (gr_set (q := ⟨g0, k, none⟩) (gr_refl wk (some g0)) rfl (.int .i64 (-7))) (fun q e => by cases e; exact ⟨hg9, hg6⟩)))
                      clear hsk hVk hrow hrow6 hcur
                      go_wp2_with (fail)
                      go_roundw
                      case rel => exact ⟨k + 1, by omega, by go_num, HS.out, HGS2.out, HVS.out⟩
                      case measure => simp [intOf]; omega
                    · clear hsk
                      go_wp2_with (fail)
                      go_roundw
                      case rel => exact ⟨j + 1, by omega, by go_num, HSK.out, HGK.out⟩
                      case measure => simp [intOf]; omega
                · have hzS : w7.heap.size ≤ wS.heap.size := HGS.out.size
                  have hz67 := HG67.out.size
                  have HLE : Hid (LogAt wt g w7.heap.size ⟨mc, mt, mf⟩ lv L) := ⟨(HGT.out.block g (lt_of_block HLS.out.blk) (fun h => by have := h.2; omega)).trans HLS.out.blk, HLS.out.rds.keepHi HGT.out (fun k h => h.2) hz67⟩
                  have HWE := Lib.hid ((HWS.out.keepHi HGT.out (fun k h => h.2) (Nat.le_refl _)).toC)
                  have HGE := Lib.hid (GrowT.grown HGW.out HGT.out (fun k h => h.1))
                  have ME := Lib.hid (meters_any wt)
                  clear hsr
                  go_wp2_with (fail)
                  refine ME.out.mono ?_
                  rintro e w20 ⟨rfl, g20⟩
                  have LR2 := logReadings_any ⟨mc, mt, mf⟩ L g w7.heap.size lv w20 (HLE.out.keep0 g20) (by omega) HLV.out
                  unfold OutPost at LR2
                  have LR2 := Lib.hid LR2
                  have HG20 := Lib.hid g20
                  clear g20 ME
                  go_wp2_with (fail)
                  refine LR2.out.mono ?_
                  rintro e w21 ⟨rv2, L2, rfl, hr21, her2, g21⟩
                  obtain ⟨ra2, rc2, rfl, -, -⟩ := hr21.shape
                  have heq : rdsG L2 = rdsG Lw := by rw [her2]; exact HLX.out.unique HASC.out
                  have hl2 : L2.length ≤ 6 := by have := congrArg List.length her2; rw [rdsG_len, rdsG_len] at this; omega
                  have SM2 := Lib.hid (sameReadings_any L2 Lw heq ra2 wa rc2 wc' w21 hr21.toC (HWE.out.keep0 (gr_trans HG20.out g21)) (by omega) (fun q hq => by
                    have h1 := HXV.out q.rd ((HLX.out.mem _).1 (by rw [← her2]; exact List.mem_map_of_mem hq))
                    omega))
                  have HG21 := Lib.hid (gr_trans HGE.out (gr_trans HG20.out g21))
                  clear hr21 her2 heq g21 LR2
                  go_wp2_with (fail)
                  refine SM2.out.mono ?_
                  rintro e w22 ⟨rfl, g22⟩
                  have HG22 := Lib.hid (gr_trans HG21.out g22)
                  clear g22
                  go_wp2_with (fail)
                  go_ret
                  exact ⟨rfl, HG22.out⟩
end Go.Proofs.Ytkefloekcgangaa

/-! The walk of ReadingsInAnyOrder. -/
namespace Go.Proofs.Ytkefloekcgangaa
open Go.RowKit
attribute [local go_sem ↓] Go.wp_at_zero Go.wp_at_succ

set_option maxRecDepth 100000 in
set_option maxHeartbeats 8000000 in
theorem readingsAny_any (l : List Int) (a : Option Addr) (cap : Nat) (w : World) (hc : CellsAt w a (ints l)) (hl : l.length ≤ 9223372036854775807) :
    Calls Try.prog 5 #[.slice a l.length cap] w fun e w' => e = .returned (.bool true) ∧ w.grownBy w' none := by
  have hg0 := gr_alloc (gr_refl w none) (.cells #[.slice a l.length cap, .int .i64 0] 25)
  have sa0 := StreamAt.made cap hc hl
  obtain ⟨w0, hw0⟩ : ∃ w0, w0 = w.alloc (.cells #[.slice a l.length cap, .int .i64 0] 25) := ⟨_, rfl⟩
  have hz0 : w0.heap.size = w.heap.size + 1 := by rw [hw0]; simp
  rw [← hw0] at sa0 hg0
  have MA := fun (p' : Nat) (w' : World) (h : StreamAt w' p' w.heap.size l 0) => meter_any l 0 p' w' h (by omega)
  unfold MtrPost at MA
  have hmc := mtrM_cnt l 0
  have hmt := mtrM_turn l 0
  have hk1 := mtrK_le l 0
  obtain ⟨m, hme⟩ : ∃ m, m = mtrM l 0 := ⟨_, rfl⟩
  obtain ⟨k1, hk1e⟩ : ∃ k1, k1 = mtrK l 0 := ⟨_, rfl⟩
  rw [← hme] at MA hmc hmt
  rw [← hk1e] at MA hk1
  obtain ⟨right, hri⟩ : ∃ right : Bool, right = true ↔ MtrOk m := by
    by_cases h : MtrOk m
    · exact ⟨true, fun _ => h, fun _ => rfl⟩
    · exact ⟨false, fun h2 => (by cases h2), fun h2 => absurd h2 h⟩
  have RA := fun (p' : Nat) (w' : World) (h : StreamAt w' p' w.heap.size l k1) => readings_any l k1 m right hri p' w' h (by omega) hmc hmt
  unfold RdsPost at RA
  obtain ⟨hX12, hXv, hk2⟩ := rdsM_small l k1 m right (fun h => hri.1 h)
  obtain ⟨X, hX⟩ : ∃ X, X = rdsM l k1 m right := ⟨_, rfl⟩
  obtain ⟨k2, hk2e⟩ : ∃ k2, k2 = rdsK l k1 m right := ⟨_, rfl⟩
  rw [← hX] at RA hX12 hXv
  rw [← hk2e] at RA hk2
  have HMA := Lib.hid MA
  have HRA := Lib.hid RA
  have HXV := Lib.hid hXv
  have HMT : Hid (-1000000000 ≤ m.turn ∧ m.turn ≤ 1000000000) := ⟨by omega, by omega⟩
  clear MA RA hXv hX hri hk1e hk2e hme hc hl hmc
  obtain ⟨mc, mt, mf⟩ := m
  unfold mtrV at HMA HRA
  dsimp only at HMA HRA
  go_enter Try.func5, Try.ntmps5
  go_wp2_with (fail)
  rw [← hw0]
  have HW0 := Lib.hid hw0; clear hw0
  refine (HMA.out _ w0 sa0).mono ?_
  rintro e w2 ⟨rfl, sa2, g2⟩
  have hM := heap_alloc_new w2 (.cells #[.int .i64 mc, .int .i64 mt, .int .i64 mf] 34)
  have g24 := gr_alloc (gr_refl w2 none) (.cells #[.int .i64 mc, .int .i64 mt, .int .i64 mf] 34)
  obtain ⟨w4, hw4⟩ : ∃ w4, w4 = w2.alloc (.cells #[.int .i64 mc, .int .i64 mt, .int .i64 mf] 34) := ⟨_, rfl⟩
  rw [← hw4] at hM g24
  obtain ⟨B5, hB5⟩ : ∃ B5, B5 = w2.heap.size := ⟨_, rfl⟩
  rw [← hB5] at hM
  have hB5l : w.heap.size < B5 := by have := g2.size; omega
  have sa4 := sa2.keep0 g24
  have hgr4 := gr_trans (gr_grown hg0 g2 (fun k e => by cases e; omega)) g24
  have hz4 : w.heap.size + 1 ≤ w4.heap.size := by have := g24.size; have := g2.size; omega
  have hM4 := hM
  obtain ⟨m0, m1, m2, -⟩ := blk3M hM
  have HM := Lib.hid hM
  have HW4 := Lib.hid hw4
  have HB5 := Lib.hid hB5
  clear hM hM4 g24 hw4 sa2 g2 hB5 hg0 sa0 HMA HW0
  go_upto_region 3 with (fail)
  rw [← HW4.out, ← HB5.out]
  go_wp2_with (fail)
  refine (HRA.out _ w4 sa4).mono ?_
  rintro e w6 ⟨xv, Lx, rfl, rx, ex, s6, g6⟩
  obtain ⟨xa, xc, rfl, -, -⟩ := rx.shape
  have hlx : Lx.length = X.length := by have := congrArg List.length ex; rwa [rdsG_len] at this
  have hlx6 : Lx.length ≤ 6 := by omega
  have HXS : Hid (∀ g ∈ Lx, g.rd.vs.length ≤ 60) := fun g hg => HXV.out g.rd (by rw [← ex]; exact List.mem_map_of_mem hg)
  have SR := sortedReadings_any ⟨mc, mt, mf⟩ Lx xa xc w6 HMT.out rx.toC (by omega) (fun g hg => by have := HXS.out g hg; omega)
  unfold SortedPost mtrV at SR
  rw [ex] at SR
  have SR := Lib.hid SR
  have hM6 := (g6.block _ (lt_of_block HM.out) (by simp; omega)).trans HM.out
  have HRX := Lib.hid rx
  have HEX := Lib.hid ex
  have HLX := Lib.hid hlx
  have HM6 := Lib.hid hM6
  have HS6 := Lib.hid s6
  have HG6 := Lib.hid (gr_grown hgr4 g6 (fun q e => by cases e; omega))
  have hz46 := g6.size
  have HNX : Hid (xa = none → Lx.length = 0 ∧ xc = 0) := own_nilS rx.row
  clear m0 m1 m2
  obtain ⟨m0, m1, m2, -⟩ := blk3M hM6
  clear rx ex hM6 hlx HM HRA sa4 HMT hX12 s6 g6 hgr4
  go_wp2_with (fail)
  refine SR.out.mono ?_
  rintro e w7 ⟨wv, r, rfl, g7, hr⟩
  have hM7 := (g7.block _ (lt_of_block HM6.out) (by simp)).trans HM6.out
  have HG7 := Lib.hid (gr_trans HG6.out g7)
  have HR := Lib.hid hr
  have HG67 := Lib.hid g7
  clear hr g7 m0 m1 m2 SR
  by_cases hr0 : r = 0
  case neg =>
    have hrb : (r != 0) = true := by simpa using hr0
    clear hr0
    go_wp2_with (fail)
    refine (meters_any w7).mono ?_
    rintro e w8 ⟨rfl, g8⟩
    have g8 := gr_trans HG7.out g8
    go_wp2_with (fail)
    go_ret
    exact ⟨rfl, g8⟩
  obtain ⟨hok, hall, Lw, hwv, hasc⟩ := HR.out hr0
  have HOK := Lib.hid hok
  have HALL := Lib.hid hall
  have HASC := Lib.hid hasc
  have HNC := Lib.hid hasc.noConf
  have HWV := Lib.hid hwv
  obtain ⟨wa, wc', rfl, -, -⟩ := hwv.shape
  subst hr0
  have HM7 := Lib.hid hM7
  obtain ⟨m0, m1, m2, -⟩ := blk3M hM7
  have NL := fun W => newLog_any ⟨mc, mt, mf⟩ hok W
  unfold mtrV at NL
  have NL := Lib.hid NL
  clear hok hall hasc hwv hM7 HR
  go_wp2_with (fail)
  refine (NL.out w7).mono ?_
  rintro e w8 ⟨gx, rfl, hlogx, hgxl, g8⟩
  have hM8 := (g8.block _ (lt_of_block HM7.out) (by simp)).trans HM7.out
  have HLX8 := Lib.hid (hlogx w7.heap.size)
  have HG8 := Lib.hid g8
  have hgx8 := lt_of_block (hlogx 0).blk
  clear m0 m1 m2
  obtain ⟨m0, m1, m2, -⟩ := blk3M hM8
  have HM8 := Lib.hid hM8
  clear hlogx g8 hM8
  go_wp2_with (fail)
  refine (NL.out w8).mono ?_
  rintro e w9 ⟨gy, rfl, hlogy, hgyl, g9⟩
  have HLY9 := Lib.hid (hlogy w7.heap.size)
  have HLX9 := Lib.hid (HLX8.out.keep0 g9)
  have HG9 := Lib.hid (gr_trans HG8.out g9)
  have HM9 := Lib.hid ((g9.block _ (lt_of_block HM8.out) (by simp)).trans HM8.out)
  have HS9 := Lib.hid (HS6.out.keep0 (gr_trans HG67.out HG9.out))
  have HRX9 := Lib.hid (HRX.out.keep0 (gr_trans HG67.out HG9.out))
  have hz67 := HG67.out.size
  have hz78 := HG8.out.size
  clear hlogy g9 m0 m1 m2 NL HLX8
  have ORD := orderF_any l k2 Lx.length w.heap.size w9 HS9.out (by omega) (by omega)
  unfold OrderFPost at ORD
  obtain ⟨O, hO⟩ : ∃ O, O = ordM l k2 Lx.length := ⟨_, rfl⟩
  rw [← hO] at ORD
  have ORD := Lib.hid ORD
  clear hO
  go_wp2_with (fail)
  refine ORD.out.mono ?_
  rintro e w10 ⟨vo, rfl, ho10, hord, hs10, g10⟩
  obtain ⟨oa, oc, rfl, -, -, hoc, -⟩ := own_shape ho10
  have hOl : O.length = Lx.length := hord.len
  have HORD := Lib.hid hord
  have HOC := Lib.hid ho10
  have HOL := Lib.hid hOl
  have hp7 : w.heap.size < w7.heap.size := by omega
  have hI0 : AnyInv w9 w7 w.heap.size w.heap.size l k2 ⟨mc, mt, mf⟩ gx gy w4.heap.size (.slice none 0 0) [] (.slice none 0 0) [] (.slice none 0 0) [] :=
    ⟨HLX9.out, HLY9.out, Rds.nil _ _, (fun q e => by cases e), (fun q e => by cases e), (fun q e => by cases e), (fun q e => by cases e), by omega, hgxl, by omega, HS9.out, gr_weak HG9.out _⟩
  have HI := Lib.hid (hI0.call (by omega) hp7 g10 hs10)
  have hz910 := g10.size
  have hz9 := HG9.out.size
  have HG910 := Lib.hid g10
  clear hoc hord hs10 hOl hI0 ORD HLX9 HLY9 ho10 g10
  have HRX7 := Lib.hid (HRX.out.keep0 HG67.out)
  obtain ⟨k3, hk3⟩ : ∃ k3, k3 = k2 + (Lx.length - 1) := ⟨_, rfl⟩
  rw [← hk3] at HI
  have hk3b : k3 ≤ k2 + 6 := by omega
  have HK3 := Lib.hid hk3
  clear hk3
  go_wp2_with (fail)
  go_loopw [12, 66] (fun v i wr => ∃ (t : Nat) (lvx : Value) (L1 : List RdG) (lvy : Value) (L2 : List RdG) (A B : List Rd) (gv : Value) (La : List RdG), gv = v ∧ t ≤ Lx.length ∧ i = .int .i64 t ∧ AnyInv wr w7 w.heap.size w.heap.size l (k3 + t) ⟨mc, mt, mf⟩ gx gy w4.heap.size lvx L1 lvy L2 gv La ∧ Hid (Asc (rdsG L1) A) ∧ Hid (Asc (rdsG L2) B) ∧ Hid (∀ r, r ∈ A ∨ r ∈ B ↔ r ∈ rdsG La) ∧ Hid (rdsG La = mixM (O.take t) X) ∧ L1.length ≤ t ∧ L2.length ≤ t ∧ Hid (IntStay w10 wr)) (fun _ i _ => Lx.length - (intOf i).toNat)
  case atStart => exact ⟨0, _, [], _, [], [], [], _, [], rfl, Nat.zero_le _, rfl, HI.out, Asc.nil, Asc.nil, (fun r => by simp [rdsG]), rfl, Nat.zero_le _, Nat.zero_le _, IntStay.refl _⟩
  case round =>
    obtain ⟨t, lvx, L1, lvy, L2, A, B, v, La, rfl, ht, rfl, hI, HA, HB, HAB, HLA, hl1, hl2, HIS⟩ := hrel
    obtain ⟨wo, rfl⟩ : ∃ wo : World, wo = wr := ⟨_, rfl⟩
    have HIo := Lib.hid hI
    have HSUB : Hid (∀ r ∈ rdsG La, r ∈ X) := by
      show ∀ r ∈ rdsG La, _
      intro r hr
      rw [HLA.out] at hr
      simp only [mixM, List.mem_map] at hr
      obtain ⟨q, hq, rfl⟩ := hr
      have := (HORD.out.mem q).1 (List.mem_of_mem_take hq)
      rw [getD_eq _ _ _ (by have := HLX.out; omega)]
      exact List.getElem_mem _
    by_cases htn : t < Lx.length
    · have hOt : t < O.length := by rw [HOL.out]; exact htn
      have hom := (HORD.out.mem _).1 (List.getElem_mem hOt)
      obtain ⟨q, hq⟩ : ∃ q : Nat, O[t] = q := ⟨O[t].toNat, by omega⟩
      rw [hq] at hom
      have hqt : q < Lx.length := by omega
      obtain ⟨_, _, ev, -, -, hoc, -⟩ := own_shape (own_intS HOC.out HIS.out)
      cases ev
      obtain ⟨ob, oo, rfl, oc0⟩ := hoc t _ (ints_get O t hOt)
      rw [getD_eq _ _ _ hOt, hq] at oc0
      have hRo := HRX7.out.keepS hI.gr (by omega)
      obtain ⟨gb, gc, ev, -, -, c0, c1⟩ := hRo.at hqt
      cases ev
      have HXV' := Lib.hid (hRo.vals _ (List.getElem_mem hqt))
      have HXX : Hid (Lx[q].rd ∈ X) := by show _ ∈ _; rw [← HEX.out]; exact List.mem_map_of_mem (List.getElem_mem hqt)
      have HMX : Hid (mixM (O.take (t + 1)) X = mixM (O.take t) X ++ [Lx[q].rd]) := by
        show _ = _
        have e : O.take (t + 1) = O.take t ++ [O[t]] := by simp
        unfold mixM
        rw [e, List.map_append, List.map_cons, List.map_nil, hq, Int.toNat_natCast]
        congr 2
        rw [← HEX.out, getD_eq _ _ _ (by rw [rdsG_len]; exact hqt)]
        simp [rdsG]
      obtain ⟨x, hx⟩ : ∃ x, x = Lx[q] := ⟨_, rfl⟩
      rw [← hx] at c0 c1 HXV' HXX HMX
      have HXE := Lib.hid hx
      have hLal : La.length = t := by
        have := congrArg List.length HLA.out
        rw [rdsG_len] at this
        simp only [mixM, List.length_map, List.length_take] at this
        omega
      have hLa6 : La.length ≤ 8 := by omega
      have hzo : w4.heap.size ≤ wo.heap.size := by have := hI.gr.size; omega
      clear hx hq hom hRo hoc hI hLal
      go_wp2_with (at_builtin; refine wpList_app1F eRd rfl _ _ rfl w4.heap.size _ La.length (cellsG La) rfl wo #[.int .i64 x.rd.at_, .slice x.a x.rd.vs.length x.c] rfl HIo.out.ra.row _ rfl rfl rfl rfl (by omega) hzo ?_; intro v12 w12 hown12 hg12 hlt12 hf12)
      have hI12 := HIo.out.app hp7 HXV'.out hown12 hg12 hf12
      have HIS12 := Lib.hid (HIS.out.trans (IntStay.of hg12 (fun b cs e hc => own_ne HIo.out.ra.row hc (by decide) e)))
      have HI12 := Lib.hid hI12
      clear hown12 hg12 hlt12 hf12 hI12
      have hzst := HI12.out.str
      go_wp2_with (fail)
      go_fit (flip_any l (k3 + t) 2 w.heap.size w12 hzst (by omega) (by decide))
      rintro e w13 ⟨rfl, hs13, g13⟩
      have hI10 := HI12.out.call (by omega) hp7 g13 hs13
      have HIS13 := Lib.hid (HIS12.out.trans (IntStay.of g13 (fun b cs e => by cases e; exact hzst.noint cs)))
      obtain ⟨fl, hfl⟩ : ∃ fl, fl = flipM l (k3 + t) 2 := ⟨_, rfl⟩
      rw [← hfl]
      clear hfl hs13 g13 hzst
      cases fl with
      | true =>
        have hI9 := Lib.hid hI10
        have hRW := HRX7.out.keepS hI10.gr (by omega)
        obtain ⟨_, _, ev, -, -, e0, e1⟩ := hRW.at hqt
        cases ev
        have hxv := hRW.toC.vals _ (List.getElem_mem hqt)
        have hxn := hRW.toC.nil _ (List.getElem_mem hqt)
        rw [← HXE.out] at e0 e1 hxv hxn
        have hnc : NoConf (B ++ [x.rd]) := by
          have hsub : ∀ r ∈ B ++ [x.rd], r ∈ X := by
            intro r hr
            rcases List.mem_append.1 hr with hr | hr
            · exact HSUB.out r ((HAB.out r).1 (.inr hr))
            · rw [List.mem_singleton] at hr; rw [hr]; exact HXX.out
          exact fun p hp q hq => HNC.out p (hsub p hp) q (hsub q hq)
        have PT := put_ok ⟨mc, mt, mf⟩ HOK.out L2 B gy w7.heap.size lvy x w13 hI9.out.swap.lx hI9.out.gr.size HB.out (HALL.out _ HXX.out) hnc hxv hxn (by omega)
        unfold PutPost at PT
        have PT := Lib.hid PT
        clear hI10 hRW hxv hxn hnc
        go_wp2_with (fail)
        refine PT.out.mono ?_
        rintro e w14 ⟨bb, lv2, L3, rfl, h1, h2, h3, h4, h5⟩
        have hI14 := (hI9.out.swap.put hp7 h1 h4 h5).swap
        have hIS := IntStay.ofT h5 hI9.out.swap.noint
        have H2 := Lib.hid h2
        have H14 := Lib.hid hI14
        have HIS14 := Lib.hid (HIS13.out.trans hIS)
        clear h1 h2 h4 h5 hI14 hIS PT
        go_wp2_with (fail)
        go_roundw
        case rel =>
          refine ⟨t + 1, lvx, L1, lv2, L3, A, B ++ [x.rd], _, La ++ [x], rfl, by omega, by go_num, H14.out, HA.out, H2.out, ?_, ?_, (by omega), (by omega), HIS14.out⟩
          · show ∀ r, _
            intro r
            simp only [rdsG_app, List.mem_append, List.mem_singleton]
            constructor
            · rintro (h1 | h1)
              · exact .inl ((HAB.out r).1 (.inl h1))
              · rcases h1 with h1 | h1
                · exact .inl ((HAB.out r).1 (.inr h1))
                · exact .inr h1
            · rintro (h1 | h1)
              · rcases (HAB.out r).2 h1 with h2 | h2
                · exact .inl h2
                · exact .inr (.inl h2)
              · exact .inr (.inr h1)
          · show _ = _
            rw [rdsG_app, HMX.out, HLA.out]
        case measure => simp [intOf]; omega
      | false =>
        have hI9 := Lib.hid hI10
        have hRW := HRX7.out.keepS hI10.gr (by omega)
        obtain ⟨_, _, ev, -, -, e0, e1⟩ := hRW.at hqt
        cases ev
        have hxv := hRW.toC.vals _ (List.getElem_mem hqt)
        have hxn := hRW.toC.nil _ (List.getElem_mem hqt)
        rw [← HXE.out] at e0 e1 hxv hxn
        have hnc : NoConf (A ++ [x.rd]) := by
          have hsub : ∀ r ∈ A ++ [x.rd], r ∈ X := by
            intro r hr
            rcases List.mem_append.1 hr with hr | hr
            · exact HSUB.out r ((HAB.out r).1 (.inl hr))
            · rw [List.mem_singleton] at hr; rw [hr]; exact HXX.out
          exact fun p hp q hq => HNC.out p (hsub p hp) q (hsub q hq)
        have PT := put_ok ⟨mc, mt, mf⟩ HOK.out L1 A gx w7.heap.size lvx x w13 hI9.out.lx hI9.out.gr.size HA.out (HALL.out _ HXX.out) hnc hxv hxn (by omega)
        unfold PutPost at PT
        have PT := Lib.hid PT
        clear hI10 hRW hxv hxn hnc
        go_wp2_with (fail)
        refine PT.out.mono ?_
        rintro e w14 ⟨bb, lv2, L3, rfl, h1, h2, h3, h4, h5⟩
        have hI14 := (hI9.out.put hp7 h1 h4 h5)
        have hIS := IntStay.ofT h5 hI9.out.noint
        have H2 := Lib.hid h2
        have H14 := Lib.hid hI14
        have HIS14 := Lib.hid (HIS13.out.trans hIS)
        clear h1 h2 h4 h5 hI14 hIS PT
        go_wp2_with (fail)
        go_roundw
        case rel =>
          refine ⟨t + 1, lv2, L3, lvy, L2, A ++ [x.rd], B, _, La ++ [x], rfl, by omega, by go_num, H14.out, H2.out, HB.out, ?_, ?_, (by omega), (by omega), HIS14.out⟩
          · show ∀ r, _
            intro r
            simp only [rdsG_app, List.mem_append, List.mem_singleton]
            constructor
            · rintro (h1 | h1)
              · rcases h1 with h1 | h1
                · exact .inl ((HAB.out r).1 (.inl h1))
                · exact .inr h1
              · exact .inl ((HAB.out r).1 (.inr h1))
            · rintro (h1 | h1)
              · rcases (HAB.out r).2 h1 with h2 | h2
                · exact .inl (.inl h2)
                · exact .inr h2
              · exact .inl (.inr h1)
          · show _ = _
            rw [rdsG_app, HMX.out, HLA.out]
        case measure => simp [intOf]; omega
    · obtain rfl : t = Lx.length := by omega
      have HLF : Hid (∀ r, r ∈ rdsG La ↔ r ∈ X) := by
        show ∀ r, _
        intro r
        refine ⟨HSUB.out r, fun hr => ?_⟩
        rw [HLA.out, List.take_of_length_le (by rw [HOL.out]; exact Nat.le_refl _)]
        obtain ⟨q, hq, rfl⟩ := List.mem_iff_getElem.1 hr
        simp only [mixM, List.mem_map]
        refine ⟨(q : Int), (HORD.out.mem _).2 ⟨by omega, by have := HLX.out; omega⟩, ?_⟩
        rw [Int.toNat_natCast, getD_eq _ _ _ hq]
      have hLal : La.length ≤ 6 := by
        have := congrArg List.length HLA.out
        rw [rdsG_len] at this
        simp only [mixM, List.length_map, List.length_take] at this
        omega
      have hncAB : NoConf (A ++ B) := by
        have hsub : ∀ r ∈ A ++ B, r ∈ X := fun r hr => (HLF.out r).1 ((HAB.out r).1 (List.mem_append.1 hr))
        exact fun p hp q hq => HNC.out p (hsub p hp) q (hsub q hq)
      have hv1 : ∀ g ∈ L1, g.rd.vs.length ≤ 1000 := fun g hg => by
        have h1 := (HLF.out _).1 ((HAB.out _).1 (.inl ((HA.out.mem g.rd).1 (List.mem_map_of_mem hg))))
        have := HXV.out _ h1
        omega
      have hv2 : ∀ g ∈ L2, g.rd.vs.length ≤ 1000 := fun g hg => by
        have h1 := (HLF.out _).1 ((HAB.out _).1 (.inr ((HB.out.mem g.rd).1 (List.mem_map_of_mem hg))))
        have := HXV.out _ h1
        omega
      have JN := join_ok ⟨mc, mt, mf⟩ L1 L2 A B gx gy w7.heap.size lvx lvy wo hI.lx hI.ly hI.gr.size HA.out HB.out hncAB (by omega) (by omega) hv1 hv2
      unfold JoinPost at JN
      have JN := Lib.hid JN
      clear hncAB hv1 hv2 hI
      go_wp2_with (fail)
      refine JN.out.mono ?_
      rintro e w11 ⟨cc, lv', L', rfl, hL', hA', hl', hg11⟩
      have hra11 := HIo.out.ra.keepT hg11 (fun q hq ht => by
        rcases ht with rfl | ht
        · exact own_ne HIo.out.ra.row HIo.out.lx.blk (by decide) hq
        · exact HIo.out.sxa q ht hq) HIo.out.noint
      have hgr11 := GrowT.grown' HIo.out.gr hg11 (fun q ht => by
        rcases ht with rfl | ht
        · exact hgxl
        · exact (HIo.out.lx.rds.row.lt q ht).1)
      have HAX : Hid (Asc (rdsG L') X) := hA'.of_mem (fun r => by rw [List.mem_append, HAB.out r, HLF.out r])
      have HL11 := Lib.hid hL'
      obtain ⟨ga, gc, rfl, -, -⟩ := hra11.shape
      have HRA11 := Lib.hid hra11
      have HG11 := Lib.hid hgr11
      have hM11 := (hgr11.block _ (lt_of_block HM7.out) (by simp; omega)).trans HM7.out
      obtain ⟨m0, m1, m2, -⟩ := blk3M hM11
      have HM11 := Lib.hid hM11
      have HRX11 := Lib.hid (HRX7.out.keepS hgr11 (by omega))
      have HWV11 := Lib.hid (HWV.out.keepS hgr11 (by omega))
      have hl'12 : L'.length ≤ 12 := by omega
      have SA := steps_ok ⟨mc, mt, mf⟩ HOK.out Lx xa xc w11 HRX11.out.toC HNX.out (by omega) (by rw [HEX.out]; exact HALL.out) (by rw [HEX.out]; exact HNC.out)
      have SB := fun (W : World) (g : w11.grownBy W none) => steps_ok ⟨mc, mt, mf⟩ HOK.out La ga gc W (HRA11.out.toC.keep0 g) (own_nilS HRA11.out.row) (by omega) (fun x hx => HALL.out x ((HLF.out x).1 hx)) (fun p hp q hq => HNC.out p ((HLF.out p).1 hp) q ((HLF.out q).1 hq))
      unfold StepsPost mtrV at SA SB
      rw [HEX.out] at SA
      have SA := Lib.hid SA
      have SB := Lib.hid SB
      clear hra11 hgr11 hM11 hL' hA' hl' hg11 JN
      go_wp2_with (fail)
      refine SA.out.mono ?_
      rintro e w12 ⟨t1, S1, Y1, rfl, hs1, hy1, he1, g12⟩
      obtain ⟨ta, tc, rfl, -, -⟩ := hs1.shape
      have hY1 := hy1.unique HASC.out
      subst hY1
      have HS1 := Lib.hid hs1
      have HE1 := Lib.hid he1
      have HG12 := Lib.hid g12
      have hM12 := (g12.block _ (lt_of_block HM11.out) (by simp)).trans HM11.out
      have SB12 := Lib.hid (SB.out w12 g12)
      clear m0 m1 m2
      obtain ⟨m0, m1, m2, -⟩ := blk3M hM12
      clear hs1 he1 g12 hM12 SA SB hy1
      go_wp2_with (fail)
      refine SB12.out.mono ?_
      rintro e w13 ⟨t2, S2, Y2, rfl, hs2, hy2, he2, g13⟩
      obtain ⟨tb, td, rfl, -, -⟩ := hs2.shape
      have hY2 := (hy2.of_mem HLF.out).unique HASC.out
      subst hY2
      have HS2 := Lib.hid hs2
      have HS13 := Lib.hid (HS1.out.keep0 g13)
      have HG13 := Lib.hid (gr_trans HG12.out g13)
      have hS1l : S1.length ≤ 12 := by
        have h1 := congrArg List.length HE1.out
        rw [stG_len, stepsM_len] at h1
        have := asc_len HASC.out.asc X (fun r hr => (HASC.out.mem r).1 hr)
        have := HLX.out
        omega
      have hsl : ∀ g ∈ S1, g.st.sold.length ≤ 1000000 := fun g hg => by
        have h1 := (stepsM_sold (m := ⟨mc, mt, mf⟩) (Y := rdsG Lw) (fun r hr => HALL.out r ((HASC.out.mem r).1 hr)) g.st (by rw [← HE1.out]; exact List.mem_map_of_mem hg)).1
        have h2 := HOK.out.c2
        dsimp only at h1 h2
        omega
      have SM := Lib.hid (sameSteps_any S1 S2 (by rw [HE1.out, he2]) ta tb tc td w13 HS13.out.toC hs2.toC (by omega) hsl)
      have HL13 := Lib.hid (HL11.out.keep0 HG13.out)
      clear m0 m1 m2 hs2 he2 g13 SB12 hy2 hsl
      go_wp2_with (fail)
      refine SM.out.mono ?_
      rintro e w14 ⟨rfl, g14⟩
      have hlv : ∀ x ∈ L', x.rd.vs.length ≤ 1000 := fun x hx => by
        have h1 := HXV.out x.rd ((HAX.out.mem _).1 (List.mem_map_of_mem hx))
        omega
      have LR := logReadings_any ⟨mc, mt, mf⟩ L' gx w7.heap.size lv' w14 (HL13.out.keep0 g14) (by omega) hlv
      unfold OutPost at LR
      have LR := Lib.hid LR
      have HG14 := Lib.hid (gr_trans HG13.out g14)
      have HS14 := Lib.hid (HS13.out.keep0 g14)
      clear g14 SM hlv
      go_wp2_with (fail)
      refine LR.out.mono ?_
      rintro e w15 ⟨rv, Lr, rfl, hr15, her, g15⟩
      obtain ⟨ra, rc, rfl, -, -⟩ := hr15.shape
      have hlr : Lr.length ≤ 12 := by have := congrArg List.length her; rw [rdsG_len, rdsG_len] at this; omega
      have SM2 := Lib.hid (sameReadings_any Lr Lw (by rw [her]; exact HAX.out.unique HASC.out) ra wa rc wc' w15 hr15.toC (HWV11.out.toC.keep0 (gr_trans HG14.out g15)) (by omega) (fun q hq => by
        have h1 := HXV.out q.rd ((HAX.out.mem _).1 (by rw [← her]; exact List.mem_map_of_mem hq))
        omega))
      have HG15 := Lib.hid (gr_trans HG14.out g15)
      have HS15 := Lib.hid (HS14.out.keep0 g15)
      clear hr15 her g15 LR
      go_wp2_with (fail)
      refine SM2.out.mono ?_
      rintro e w16 ⟨rfl, g16⟩
      have HG16 := Lib.hid (gr_trans HG15.out g16)
      have HS16 := Lib.hid (HS15.out.keep0 g16)
      have hM16 := (HG16.out.block _ (lt_of_block HM11.out) (by simp)).trans HM11.out
      obtain ⟨m0, m1, m2, -⟩ := blk3M hM16
      have hc1 := HOK.out.c1
      have hc2 := HOK.out.c2
      have ht1 := HOK.out.t1
      have ht2 := HOK.out.t2
      dsimp only at hc1 hc2 ht1 ht2
      obtain ⟨C, hC⟩ : ∃ C : Nat, (C : Int) = mc := ⟨mc.toNat, by omega⟩
      have SO := sold_ok ⟨mc, mt, mf⟩ C hC HOK.out Lx xa xc w16 (HRX11.out.toC.keep0 HG16.out) HNX.out (by omega) (by rw [HEX.out]; exact HALL.out) (by rw [HEX.out]; exact HNC.out)
      unfold SoldPost mtrV at SO
      rw [HEX.out] at SO
      have SO := Lib.hid SO
      subst hC
      have HM16 := Lib.hid hM16
      clear hM16 g16 SM2
      go_wp2_with (fail)
      refine SO.out.mono ?_
      rintro e w17 ⟨pv, P, Y3, rfl, hp17, hy3, hpe, g17⟩
      have hY3 := hy3.unique HASC.out
      subst hY3
      obtain ⟨pa, pc, rfl, -, -, -, -⟩ := own_shape hp17
      have HP17 := Lib.hid hp17
      have HPE := Lib.hid hpe
      have HG17 := Lib.hid (gr_trans HG16.out g17)
      have HS17 := Lib.hid (HS16.out.keep0 g17)
      have hM17 := (g17.block _ (lt_of_block HM16.out) (by simp)).trans HM16.out
      clear m0 m1 m2
      obtain ⟨m0, m1, m2, -⟩ := blk3M hM17
      have HM17 := Lib.hid hM17
      have CF := Lib.hid (containsFunc_St 28 (fun x => x.st.rs) S1 ta tc w17 HS17.out.toC.row (by omega) reset1_fn (fun x _ W g => reset1_any x W))
      have HANY : Hid (S1.any (fun x => x.st.rs) = false → ∀ s ∈ stepsM ⟨(C : Int), mt, mf⟩ (rdsG Lw), s.rs = false) := by
        show _ → _
        intro h s hs
        rw [← HE1.out] at hs
        simp only [stG, List.mem_map] at hs
        obtain ⟨g, hg, rfl⟩ := hs
        have := List.any_eq_false.1 h g hg
        simpa using this
      obtain ⟨rs, hrs⟩ : ∃ rs, rs = S1.any (fun x => x.st.rs) := ⟨_, rfl⟩
      rw [← hrs] at CF HANY
      clear hp17 hy3 hpe g17 hM17 hrs SO
      go_wp2_with (fail)
      refine CF.out.mono ?_
      rintro e w18 ⟨rfl, g18⟩
      have HG18 := Lib.hid (gr_trans HG17.out g18)
      have HP18 := Lib.hid (own_keep0 HP17.out g18)
      have HM18 := Lib.hid ((g18.block _ (lt_of_block HM17.out) (by simp)).trans HM17.out)
      have HW18 := Lib.hid (HWV11.out.keep0 HG18.out)
      clear m0 m1 m2
      obtain ⟨m0, m1, m2, -⟩ := blk3M HM18.out
      clear g18 CF
      go_wp2_with (fail)
      go_loopw [151] (fun i wr => ∃ k : Nat, k ≤ C ∧ i = .int .i64 k ∧ w18.grownBy wr none) (fun i _ => C - (intOf i).toNat)
      case atStart => exact ⟨0, Nat.zero_le _, rfl, gr_refl _ _⟩
      case round =>
        obtain ⟨k, hk, rfl, hgr⟩ := hrel
        obtain ⟨wo, rfl⟩ : ∃ wo : World, wo = wr := ⟨_, rfl⟩
        have HGR := Lib.hid hgr
        clear m0 m1 m2
        obtain ⟨m0, m1, m2, -⟩ := blk3M ((hgr.block _ (lt_of_block HM18.out) (by simp)).trans HM18.out)
        by_cases hkC : k < C
        · have hWo := HW18.out.keep0 hgr
          have hLw12 : Lw.length ≤ 12 := by
            have h := asc_len HASC.out.asc X (fun r hr => (HASC.out.mem r).1 hr)
            have := HLX.out
            rw [rdsG_len] at h
            omega
          by_cases hL0 : Lw.length = 0
          · have y0 : ¬ (0 : Int) < (Lw.length : Int) := by omega
            have hd : decide ((0 : Int) < (Lw.length : Int)) = false := decide_eq_false y0
            have hdl : decide (0 < Lw.length) = false := decide_eq_false (by omega)
            have hdn : ¬ 0 < Lw.length := by omega
            clear hL0
            go_wp2_with (fail)
            refine wp_region_grew (by kernel_rfl) (by kernel_rfl) ?_
            repeat (go_big_quiet_step (fail))
            refine wpQuiet_nil ?_
            rintro wq ⟨nn, rfl⟩
            have gq := nn.gr
            have HGQ := Lib.hid (gr_trans HGR.out gq)
            go_wp2_with (fail)
            go_roundw
            case rel => exact ⟨k + 1, by omega, by go_num, HGQ.out⟩
            case measure => simp [intOf]; omega
          · have y0 : (0 : Int) < (Lw.length : Int) := by omega
            have hd : decide ((0 : Int) < (Lw.length : Int)) = true := decide_eq_true y0
            have hdl : decide (0 < Lw.length) = true := decide_eq_true (by omega)
            have hdn : 0 < Lw.length := by omega
            cases rs with
            | true =>
              go_wp2_with (fail)
              refine wp_region_grew (by kernel_rfl) (by kernel_rfl) ?_
              repeat (go_big_quiet_step (fail))
              refine wpQuiet_nil ?_
              rintro wq ⟨nn, rfl⟩
              have gq := nn.gr
              have HGQ := Lib.hid (gr_trans HGR.out gq)
              go_wp2_with (fail)
              go_roundw
              case rel => exact ⟨k + 1, by omega, by go_num, HGQ.out⟩
              case measure => simp [intOf]; omega
            | false =>
              have hn0 : 0 < Lw.length := by omega
              obtain ⟨n, hn⟩ : ∃ n, n = Lw.length - 1 := ⟨_, rfl⟩
              have hnl : n < Lw.length := by omega
              obtain ⟨gb, gcc, ev, -, -, -, e1⟩ := hWo.at hn0
              cases ev
              obtain ⟨_, _, ev, -, -, -, d1⟩ := hWo.at hnl
              cases ev
              have hv0 := hWo.toC.vals _ (List.getElem_mem hn0)
              have hvn := hWo.toC.vals _ (List.getElem_mem hnl)
              have hr0 := HALL.out _ ((HASC.out.mem _).1 (List.mem_map_of_mem (List.getElem_mem hn0)))
              have hrn := HALL.out _ ((HASC.out.mem _).1 (List.mem_map_of_mem (List.getElem_mem hnl)))
              have hro : ∀ r ∈ rdsG Lw, RdOk ⟨(C : Int), mt, mf⟩ r := fun r hr => HALL.out r ((HASC.out.mem r).1 hr)
              have har := soldAt_stepsTo HOK.out hro (c := k) (by dsimp only; omega) (HANY.out rfl) ((rdsG Lw).length - 1) (Nat.le_refl _) (by rw [rdsG_len]; exact hn0)
              have hbd := soldAt_bd (stepsM ⟨(C : Int), mt, mf⟩ (rdsG Lw)) k (fun s hs => by
                have h1 := stepsM_sold hro s hs
                have h2 := h1.2 (s.sold.getD k 0) (by
                  have h3 := h1.1
                  dsimp only at h3
                  rw [getD_eq _ _ _ (show k < s.sold.length by omega)]
                  exact List.getElem_mem _)
                dsimp only at h2
                omega)
              rw [stepsM_len, rdsG_len] at hbd
              rw [rdsG_len, ← hn, getD_eq (rdsG Lw) 0 _ (by rw [rdsG_len]; exact hn0), getD_eq (rdsG Lw) n _ (by rw [rdsG_len]; exact hnl)] at har
              have hst : soldAt (stepsTo ⟨(C : Int), mt, mf⟩ (rdsG Lw) n) k = P.getD k 0 := by
                rw [HPE.out k hkC]
                unfold stepsM
                rw [rdsG_len, ← hn]
              rw [hst] at har
              rw [← HPE.out k hkC] at hbd
              simp only [rdsG, List.getElem_map] at har
              obtain ⟨x0, hx0⟩ : ∃ x0, x0 = Lw[0] := ⟨_, rfl⟩
              obtain ⟨xl, hxl⟩ : ∃ xl, xl = Lw[n] := ⟨_, rfl⟩
              rw [← hx0] at e1 hv0 hr0 har
              rw [← hxl] at d1 hvn hrn har
              obtain ⟨r0, a0, q0⟩ := x0
              obtain ⟨rl, al, ql⟩ := xl
              simp only at e1 hv0 hr0 har d1 hvn hrn
              have h0l := hr0.len
              have hll := hrn.len
              dsimp only at h0l hll
              have hk0 : k < r0.vs.length := by omega
              have hkl : k < rl.vs.length := by omega
              obtain ⟨fb, fo, rfl, fc⟩ := hv0 k _ (ints_get r0.vs k hk0)
              obtain ⟨lb, lo, rfl, lc⟩ := hvn k _ (ints_get rl.vs k hkl)
              have hPl : P.length = C := by have := HP18.out.1; simpa [ints] using this
              obtain ⟨_, _, ev, -, -, hpc, -⟩ := own_shape (own_keep0 HP18.out hgr)
              cases ev
              obtain ⟨pb, po, rfl, pc0⟩ := hpc k _ (ints_get P k (by omega))
              have hF := hr0.all _ (List.getElem_mem hk0)
              rw [← getD_eq _ _ 0 hk0] at hF
              dsimp only at hF
              obtain ⟨F, hFe⟩ : ∃ F, F = r0.vs.getD k 0 := ⟨_, rfl⟩
              obtain ⟨G, hGe⟩ : ∃ G, G = rl.vs.getD k 0 := ⟨_, rfl⟩
              obtain ⟨PK, hPe⟩ : ∃ PK, PK = P.getD k 0 := ⟨_, rfl⟩
              rw [← hFe] at hF har fc
              rw [← hGe] at har lc
              rw [← hPe] at har hbd pc0
              obtain ⟨hF0, hF1⟩ := hF
              obtain ⟨hP0, hP1⟩ := hbd
              have hP2 : PK ≤ 12000000 := by omega
              have hw1 : IntKind.i64.wrap (F + PK) = F + PK := IntWalk.i64_in _ (by omega)
              have htz : ¬ mt = 0 := by omega
              have htz2 : (mt == 0) = false := by simp; omega
              have hbb : ((F + PK) % mt != G) = false := by simp [har]
              have e1' : wo.cell? ⟨gb, 1, none⟩ = some (.slice (some ⟨fb, fo, none⟩) r0.vs.length q0) := by simpa using e1
              have z0 := grew_cell e1'
              have z1 := grew_cell d1
              have z2 := grew_cell fc
              have z3 := grew_cell lc
              have z4 := grew_cell pc0
              have z5 := grew_cell m1
              have y1 : (0 : Int) ≤ (Lw.length : Int) - 1 := by omega
              have y2 : (Lw.length : Int) - 1 < (Lw.length : Int) := by omega
              have y3 : ((Lw.length : Int) - 1).toNat = n := by omega
              have y4 : (0 : Int) ≤ (k : Int) := by omega
              have y5 : (k : Int) < (r0.vs.length : Int) := by omega
              have y6 : (k : Int) < (rl.vs.length : Int) := by omega
              have y7 : (k : Int) < (C : Int) := by omega
              have y8 : 0 ≤ F + PK := by omega
              clear hx0 hxl hn e1 e1' d1 fc lc pc0 hv0 hvn hr0 hrn hro har hst h0l hll hPl hpc hFe hGe hPe hWo hP1 hL0
              go_wp2_with (fail)
              refine wp_region_grew (by kernel_rfl) (by kernel_rfl) ?_
              repeat (go_big_quiet_step (fail))
              refine wpQuiet_nil ?_
              rintro wq ⟨nn, rfl⟩
              have gq := nn.gr
              have HGQ := Lib.hid (gr_trans HGR.out gq)
              go_wp2_with (fail)
              go_roundw
              case rel => exact ⟨k + 1, by omega, by go_num, HGQ.out⟩
              case measure => simp [intOf]; omega
        · clear hgr
          have ME := Lib.hid (meters_any wo)
          go_wp2_with (fail)
          refine ME.out.mono ?_
          rintro e w20 ⟨rfl, g20⟩
          have HF := Lib.hid (gr_trans HGR.out g20)
          go_wp2_with (fail)
          go_ret
          exact ⟨rfl, gr_trans (gr_trans (gr_grown HG7.out HG11.out (fun q e => by cases e; exact Nat.le_refl _)) HG18.out) HF.out⟩
end Go.Proofs.Ytkefloekcgangaa
