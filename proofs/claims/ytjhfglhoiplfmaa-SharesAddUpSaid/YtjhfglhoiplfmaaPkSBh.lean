/- What a counter sold on each day. (Under way.) -/
import Derived.Test.YtjhfglhoiplfmaaPkSBc
import Derived.Test.YtjhfglhoiplfmaaPkSBg
import Derived.Deep.DeepCutAuto
import Derived.Test.YtjhfglhoiplfmaaPkSAj
import Derived.Test.YtjhfglhoiplfmaaPkSAu
import Derived.Deep.CutBlock
namespace Go.Proofs.Ytjhfglhoiplfmaa
open Go.RowKit
attribute [local go_sem ↓] Go.wp_at_zero Go.wp_at_succ

theorem stepM_at (m : Mtr) (x y : Rd) : (stepM m x y).fr = x.at_ ∧ (stepM m x y).til = y.at_ := by
  unfold stepM
  split <;> exact ⟨rfl, rfl⟩
theorem stepsM_at {m : Mtr} {Y : List Rd} (h : ∀ r ∈ Y, RdOk m r) (ha : Y.Pairwise (fun a b => a.at_ < b.at_)) : ∀ s ∈ stepsM m Y, 0 ≤ s.fr ∧ s.fr < s.til ∧ s.til < 5761440 := by
  intro s hs
  simp only [stepsM, stepsTo, List.mem_map, List.mem_range] at hs
  obtain ⟨i, hi, rfl⟩ := hs
  obtain ⟨e1, e2⟩ := stepM_at m (Y.getD i rd0) (Y.getD (i + 1) rd0)
  rw [e1, e2, getD_eq _ _ _ (by omega), getD_eq _ _ _ (by omega)]
  have h1 := (h _ (List.getElem_mem (show i < Y.length by omega))).a0
  have h2 := (h _ (List.getElem_mem (show i + 1 < Y.length by omega))).a1
  have h3 := List.pairwise_iff_getElem.1 ha i (i + 1) (by omega) (by omega) (by omega)
  omega
theorem eDc : ElemT Try.prog 42 46 (.agg #[.int .i64 0, .int .i64 0]) 2 16 := ⟨by kernel_rfl, by kernel_rfl, by decide, by decide, by decide⟩
theorem ShareSum.le {tot : Int} {ws P : List Int} (h : ShareSum tot ws P) (j : Nat) (hj : j < ws.length) : P.getD j 0 ≤ tot := by
  have hl := h.len
  have h1 := mem_le_sum P (fun x hx => by
    obtain ⟨i, hi, rfl⟩ := List.getElem_of_mem hx
    have := h.pos i (by omega)
    rw [getD_eq P i 0 hi] at this
    exact this) P[j] (List.getElem_mem (by omega))
  rw [getD_eq P j 0 (by omega), ← h.all]
  exact h1
theorem stepF (fr til T1 F1 : Int) (hT : til / 1440 = T1) (hF : F1 = fr / 1440) (t : Nat) (h1 : (t : Int) ≤ T1 - F1 + 1) (h2 : ¬ F1 + (t : Int) ≤ T1) : t = dayN fr til := by unfold dayN; omega
def DaysPost (m : Mtr) (K : Nat) (X : List Rd) (w : World) (e : Ending) (w' : World) : Prop := ∃ v O Y, e = .returned (.tuple #[v, .int .i64 0]) ∧ w'.ownsRow w.heap.size 46 2 v O.length (flat encDc O) ∧ Asc Y X ∧ (O.map DC.many).sum = soldAt (stepsM m Y) K ∧ O.length ≤ 4001 ∧ (∀ x ∈ O, 0 ≤ x.many) ∧ w.grownBy w' none
set_option maxRecDepth 100000 in
set_option maxHeartbeats 1500000 in
theorem days_ok (m : Mtr) (K : Nat) (hK : (K : Int) < m.cnt) (hok : MtrOk m) (L : List RdG) (a : Option Addr) (c : Nat) (w : World) (hc : RdsC w a L) (hn : a = none → L.length = 0 ∧ c = 0) (hl : L.length ≤ 12) (hall : ∀ x ∈ rdsG L, RdOk m x) (hnc : NoConf (rdsG L)) :
    Calls Try.prog 14 #[mtrV m, .slice a L.length c, .int .i64 K] w (DaysPost m K (rdsG L) w) := by
  have SO := Lib.hid (fun (W : World) (g : w.grownBy W none) => steps_ok m hok L a c W (hc.keep0 g) hn hl hall hnc)
  have hC60 : m.cnt ≤ 60 := by have := hok.c2; omega
  have ht := hok.t2
  have HSS : Hid (∀ Y, Asc Y (rdsG L) → ∀ s ∈ stepsM m Y, (((s.sold.length : Nat) : Int) = m.cnt ∧ ∀ d ∈ s.sold, 0 ≤ d ∧ d < m.turn) ∧ 0 ≤ s.fr ∧ s.fr < s.til ∧ s.til < 5761440) := fun Y hY s hs => ⟨stepsM_sold (fun r hr => hall r ((hY.mem r).1 hr)) s hs, stepsM_at (fun r hr => hall r ((hY.mem r).1 hr)) hY.asc s hs⟩
  have HYL : Hid (∀ Y, Asc Y (rdsG L) → Y.length ≤ 12) := by
    show ∀ Y, _
    intro Y hY
    have := asc_len hY.asc (rdsG L) (fun r hr => (hY.mem r).1 hr)
    rw [rdsG_len] at this
    omega
  obtain ⟨mm, hmm⟩ : ∃ mm, mm = m := ⟨_, rfl⟩
  rw [← hmm] at SO HSS hK ht hC60 ⊢
  obtain ⟨mc, mt, mf⟩ := mm
  dsimp only at hK ht hC60
  unfold mtrV at SO ⊢
  dsimp only at SO ⊢
  have hP := heap_alloc_new w (.cells #[.int .i64 mc, .int .i64 mt, .int .i64 mf] 34)
  have g1 := gr_alloc (gr_refl w none) (.cells #[.int .i64 mc, .int .i64 mt, .int .i64 mf] 34)
  obtain ⟨w1, hw1⟩ : ∃ w1, w1 = w.alloc (.cells #[.int .i64 mc, .int .i64 mt, .int .i64 mf] 34) := ⟨_, rfl⟩
  rw [← hw1] at hP g1
  have HW := Lib.hid hw1
  have HP := Lib.hid hP
  have HG := Lib.hid g1
  obtain ⟨q0, q1, q2, -⟩ := blk3M hP
  clear hw1 hP g1 hc hnc hn hall hok hmm
  go_enter Try.func14, Try.ntmps14
  go_wp2_with (fail)
  rw [← HW.out]
  go_wp2_with (fail)
  refine (SO.out w1 HG.out).mono ?_
  rintro e w2 ⟨tv, S, Y, rfl, hst, hasc, heq, g2⟩
  obtain ⟨ta, tc, rfl, -, -⟩ := hst.shape
  have HST := Lib.hid hst
  have HASC := Lib.hid hasc
  have HEQ := Lib.hid heq
  have hS : S.length ≤ 12 := by
    have h1 := congrArg List.length heq
    rw [stG_len, stepsM_len] at h1
    have := HYL.out Y hasc
    omega
  have HSIN : Hid (∀ g ∈ S, (((g.st.sold.length : Nat) : Int) = mc ∧ ∀ d ∈ g.st.sold, 0 ≤ d ∧ d < mt) ∧ 0 ≤ g.st.fr ∧ g.st.fr < g.st.til ∧ g.st.til < 5761440) := fun g hg => HSS.out Y hasc g.st (by rw [← heq]; exact List.mem_map_of_mem hg)
  have hP2 := (g2.block _ (lt_of_block HP.out) (by simp)).trans HP.out
  obtain ⟨q0, q1, q2, -⟩ := blk3M hP2
  have HG2 := Lib.hid (gr_trans HG.out g2)
  have hz2 := HG2.out.size
  clear hst hasc heq g2 hP2 HP HG SO HSS HYL
  have dK : (decide ((K : Int) < 0) || decide (mc - 1 < (K : Int))) = false := by simp; omega
  go_wp2_with (fail)
  refine (out_any (K : Int) 0 (mc - 1) w2).mono ?_
  rintro e w3 ⟨rfl, rfl⟩
  rw [dK]
  have hmm := @run_makeMap Try.prog
  have HM0 := Lib.hid (MapI.made w2)
  have HGM := Lib.hid (gr_alloc (gr_refl w2 none) (.map #[] 0))
  have HT0 : Hid (0 = soldAt (stG (S.take 0)) K) := by show _ = _; rfl
  go_wp2_with (fail)
  clear hmm
  obtain ⟨B, hB⟩ : ∃ B, B = w2.heap.size := ⟨_, rfl⟩
  rw [← hB] at HM0
  try rw [← hB]
  have hB2 : w2.heap.size ≤ B := by omega
  clear hB
  go_loopw [38] (fun i wr => ∃ (k n : Nat) (f : Int → Option Int) (T : Int), k ≤ S.length ∧ i = .int .i64 k ∧ MapI wr B n f ∧ n ≤ 5000 * k ∧ DayMap f T ∧ Hid (T = soldAt (stG (S.take k)) K) ∧ T ≤ 1000000 * k ∧ w2.grownBy wr none) (fun i _ => S.length - (intOf i).toNat)
  case atStart => exact ⟨0, 0, _, 0, Nat.zero_le _, rfl, HM0.out, by omega, DayMap.start, HT0.out, by omega, HGM.out⟩
  case round =>
    obtain ⟨k, n, f, T, hk, rfl, hmp, hnk, hdm, HTE, hT1M, hgr⟩ := hrel
    obtain ⟨wo, rfl⟩ : ∃ wo : World, wo = wr := ⟨_, rfl⟩
    have HMP := Lib.hid hmp
    have HDM := Lib.hid hdm
    have HGR := Lib.hid hgr
    by_cases hlt : k < S.length
    · obtain ⟨b, off, rfl, c0, c1, c2, c3⟩ := ((HST.out.sh).keep0 hgr).at hlt
      obtain ⟨⟨hsl, hsd⟩, hf0, hf1, hf2⟩ := HSIN.out _ (List.getElem_mem hlt)
      have HTK : Hid (soldAt (stG (S.take (k + 1))) K = soldAt (stG (S.take k)) K + S[k].st.sold.getD K 0) := by
        show _ = _
        have e : S.take (k + 1) = S.take k ++ [S[k]] := by simp
        rw [e, stG_app, soldAt_next]
      obtain ⟨_, _, ev, -, -, hcv, -⟩ := own_shape (HST.out.vals _ (List.getElem_mem hlt))
      cases ev
      have HCV := Lib.hid hcv
      obtain ⟨x, hx⟩ : ∃ x, x = S[k] := ⟨_, rfl⟩
      rw [← hx] at c0 c1 c2 c3 hsl hsd hf0 hf1 hf2 HTK HCV
      have HX := Lib.hid hx
      obtain ⟨xr, pa, pc⟩ := x
      simp only at c0 c1 c2 c3 hsl hsd hf0 hf1 hf2 HTK HCV
      have hKs : K < xr.sold.length := by omega
      have htot := hsd _ (List.getElem_mem hKs)
      rw [← getD_eq _ _ 0 hKs] at htot
      have HSD := Lib.hid hsd
      clear hsd hcv
      clear hmp hdm hgr hx
      have hV := heap_alloc_new wo (.cells #[.int .i64 xr.fr, .int .i64 xr.til, .bool xr.rs, .slice pa xr.sold.length pc] 70)
      have ga := gr_alloc (gr_refl wo none) (.cells #[.int .i64 xr.fr, .int .i64 xr.til, .bool xr.rs, .slice pa xr.sold.length pc] 70)
      obtain ⟨wb, hwb⟩ : ∃ wb, wb = wo.alloc (.cells #[.int .i64 xr.fr, .int .i64 xr.til, .bool xr.rs, .slice pa xr.sold.length pc] 70) := ⟨_, rfl⟩
      rw [← hwb] at hV ga
      have HWB := Lib.hid hwb
      have HV := Lib.hid hV
      have HGA := Lib.hid ga
      clear hwb hV ga
      go_upto_region 12 with (fail)
      rw [← HWB.out]
      obtain ⟨V, hVe⟩ : ∃ V, V = wo.heap.size := ⟨_, rfl⟩
      rw [← hVe] at HV
      rw [← hVe]
      obtain ⟨F1, hF1⟩ : ∃ F1 : Int, F1 = xr.fr / 1440 := ⟨_, rfl⟩
      rw [← hF1]
      obtain ⟨T1, hT1⟩ : ∃ T1 : Int, xr.til / 1440 = T1 := ⟨_, rfl⟩
      have hFb : 0 ≤ F1 ∧ F1 ≤ T1 ∧ T1 ≤ 4000 := by omega
      have HVE := Lib.hid hVe
      have HF1 := Lib.hid hF1
      clear hVe hF1
      go_wp2_with (fail)
      go_loopw [14, 15] (fun v d wr => ∃ t : Nat, (t : Int) ≤ T1 - F1 + 1 ∧ d = .int .i64 (F1 + t) ∧ wr.ownsRow wb.heap.size 3 1 v t (ints (dayWs xr.fr xr.til t)) ∧ wb.grownBy wr none) (fun _ d _ => (T1 + 1 - intOf d).toNat)
      case atStart => exact ⟨0, by omega, by simp, World.ownsRow_nil _ _ _ _, gr_refl _ _⟩
      case round =>
        obtain ⟨t, ht', rfl, hown, hgw⟩ := hrel
        obtain ⟨wi, rfl⟩ : ∃ wi : World, wi = wr := ⟨_, rfl⟩
        have hVi := (hgw.block _ (lt_of_block HV.out) (by simp)).trans HV.out
        have v0 : wi.cell? ⟨V, 0, none⟩ = some (.int .i64 xr.fr) := blkC hVi 0 rfl
        have v1 : wi.cell? ⟨V, 1, none⟩ = some (.int .i64 xr.til) := blkC hVi 1 rfl
        have HOW := Lib.hid hown
        have HGW := Lib.hid hgw
        clear hown hgw hVi
        by_cases hle : F1 + (t : Int) ≤ T1
        · have hw3 : IntKind.i64.wrap ((F1 + (t : Int) + 1) * 1440) = (F1 + (t : Int) + 1) * 1440 := IntWalk.i64_in _ (by omega)
          have hw4 : IntKind.i64.wrap ((F1 + (t : Int)) * 1440) = (F1 + (t : Int)) * 1440 := IntWalk.i64_in _ (by omega)
          have hzw := HGW.out.size
          go_wp2_with (at_builtin; refine wpList_app1F eInt rfl _ _ rfl wb.heap.size _ t (ints (dayWs xr.fr xr.til t)) rfl wi #[.int .i64 (max 0 (min xr.til ((F1 + (t : Int) + 1) * 1440) - max xr.fr ((F1 + (t : Int)) * 1440)))] rfl HOW.out _ rfl rfl rfl rfl (by omega) hzw ?_; intro v7 w7 o7 g7 hl7 hk7)
          have HO7 : Hid (w7.ownsRow wb.heap.size 3 1 v7 (t + 1) (ints (dayWs xr.fr xr.til (t + 1)))) := by
            show World.ownsRow _ _ _ _ _ _ _
            rw [dayWs_next, ← HF1.out]
            have e : ints (dayWs xr.fr xr.til t ++ [dayW xr.fr xr.til (F1 + (t : Int))]) = ints (dayWs xr.fr xr.til t) ++ [Value.int .i64 (dayW xr.fr xr.til (F1 + (t : Int)))] := by simp [ints]
            rw [e]
            exact o7
          have HG7 := Lib.hid (gr_grown HGW.out g7 (fun q hq => hl7 q hq))
          clear o7 g7 hl7 hk7 hw3 hw4
          go_wp2_with (fail)
          go_roundw
          case rel => exact ⟨t + 1, by omega, by go_num, HO7.out, HG7.out⟩
          case measure => simp [intOf]; omega
        · have htn := stepF _ _ _ _ hT1 HF1.out t ht' hle
          have HTN := Lib.hid htn
          have htp : 1 ≤ t ∧ t ≤ 4001 := by omega
          have hv3 := (HGW.out.block _ (lt_of_block HV.out) (by simp)).trans HV.out
          have v3 : wi.cell? ⟨V, 3, none⟩ = some (.slice pa xr.sold.length pc) := blkC hv3 3 rfl
          obtain ⟨db, doff, rfl, d0⟩ := (HCV.out.keep0 (gr_trans HGR.out (gr_trans HGA.out HGW.out))) K _ (ints_get xr.sold K hKs)
          obtain ⟨va, vc, rfl, -, -, hwc, -⟩ := own_shape HOW.out
          obtain ⟨d, hd⟩ : ∃ d, d = xr.sold.getD K 0 := ⟨_, rfl⟩
          rw [← hd] at d0 htot
          have HD := Lib.hid hd
          have SH := fun (W : World) (g : wi.grownBy W none) => sharedW_any d (xr.til - xr.fr) (dayWs xr.fr xr.til t) va vc W (hwc.keep0 g) (by rw [dayWs_len]; omega) (by omega) (by omega) (by omega) (fun y hy => by have := dayWs_in _ _ _ y hy; omega) (by rw [htn]; exact dayWs_sum _ _ (by omega))
          unfold SharePostW at SH
          rw [dayWs_len] at SH
          have SH := Lib.hid SH
          have hgi := gr_trans HGR.out (gr_trans HGA.out HGW.out)
          have HGI := Lib.hid hgi
          have hzi := hgi.size
          have HMI := Lib.hid (HMP.out.keep0 (gr_trans HGA.out HGW.out))
          have hBl := HMI.out.lt
          have hdr := Lib.hid (gr_drew (gr_refl wi none))
          clear hd htn hv3 hwc hgi HOW HGW HGA HWB HV HST HSD HCV
          have hws : IntKind.i64.wrap (xr.til - xr.fr) = xr.til - xr.fr := IntWalk.i64_in _ (by omega)
          go_upto_region 16 with (fail)
          clear hle
          go_cut [80, 81, 82] (fun s80 s81 s82 wx => ∃ (g c0 : Nat) (P : List Int), s80 = .slice (some ⟨g, 0, none⟩) t c0 ∧ s81 = .int .i64 t ∧ s82 = .int .i64 0 ∧ wx.ownsRow wi.heap.size 3 1 (.slice (some ⟨g, 0, none⟩) t c0) t (ints P) ∧ ShareSum d (dayWs xr.fr xr.til t) P ∧ wi.grownBy wx none)
          case first =>
            go_region_law (first
              | (go_simp; go_at_call 22; refine (SH.out _ hdr.out).mono ?_; rintro e w5 ⟨v5, P, rfl, o5, hP, g5⟩; obtain ⟨g0, cap0, rfl, hgb, hgl, -, -⟩ := own_some o5 (by omega); have o5 := own_base o5 (Nat.le_refl wi.heap.size))
              | fail)
            all_goals (go_wp2_with (fail))
            all_goals (try go_simp)
            all_goals go_meet
            all_goals exact ⟨_, _, _, rfl, rfl, rfl, o5, hP, gr_trans hdr.out g5⟩
          case rest =>
          obtain ⟨g0, cap0, P, rfl, rfl, rfl, o5, hP, g5⟩ := hcut
          obtain ⟨w5, rfl⟩ : ∃ w5 : World, w5 = wc := ⟨_, rfl⟩
          have HO5 := Lib.hid o5
          have HPP := Lib.hid hP
          have HM5 := Lib.hid (HMI.out.keep0 g5)
          have HG5 := Lib.hid (gr_trans HGI.out g5)
          have hPl : P.length = t := by rw [hP.len, dayWs_len]
          have HPL := Lib.hid hPl
          have P0 : Hid (T = T + (P.take 0).sum) := by show _ = _; simp
          clear o5 hP g5 HMI HGI SH hdr hws v0 v1 v3 d0 hPl
          go_wp2_with (fail)
          go_loopw [16, 17, 82] (fun _ _ i wr => ∃ (j m : Nat) (f' : Int → Option Int) (T' : Int), j ≤ t ∧ i = .int .i64 j ∧ MapI wr B m f' ∧ m ≤ n + j ∧ DayMap f' T' ∧ Hid (T' = T + (P.take j).sum) ∧ T' ≤ T + 1000000 * j ∧ wr.ownsRow wi.heap.size 3 1 (.slice (some ⟨g0, 0, none⟩) t cap0) t (ints P) ∧ w2.grownBy wr none) (fun _ _ i _ => t - (intOf i).toNat)
          case atStart => exact ⟨0, n, f, T, Nat.zero_le _, rfl, HM5.out, by omega, HDM.out, P0.out, by omega, HO5.out, HG5.out⟩
          case round =>
            obtain ⟨j, m, f', T', hj, rfl, hmp, hmn, hdm, hTj, hTb, ho, hgr⟩ := hrel
            obtain ⟨wj, rfl⟩ : ∃ wj : World, wj = wr := ⟨_, rfl⟩
            have HMJ := Lib.hid hmp
            have HGJ := Lib.hid hgr
            have HDJ := Lib.hid hdm
            by_cases hjt : j < t
            · have hPj : j < P.length := by rw [HPL.out]; exact hjt
              have d0 := ho.cellAt j (by omega)
              rw [ints_get P j hPj] at d0
              have hjw : j < (dayWs xr.fr xr.til t).length := by rw [dayWs_len]; exact hjt
              have hx0 := HPP.out.pos j hjw
              have hx1 := HPP.out.le j hjw
              have HNX : Hid ((P.take (j + 1)).sum = (P.take j).sum + P.getD j 0) := by
                show _ = _
                rw [take_snoc P j hPj, sumI_app, getD_eq P j 0 hPj]
                simp
              obtain ⟨x, hx⟩ : ∃ x, x = P.getD j 0 := ⟨_, rfl⟩
              rw [← hx] at d0 hx0 hx1 HNX
              have hDN := hdm.put (F1 + (j : Int)) x (by omega) hx0
              have hDG := hdm.get (F1 + (j : Int))
              have hDP := hdm.pos
              have HTT : Hid (T' + x = T + (P.take (j + 1)).sum) := by show _ = _; rw [HNX.out, hTj.out]; omega
              obtain ⟨y, hy⟩ : ∃ y, y = (f' (F1 + (j : Int))).getD 0 := ⟨_, rfl⟩
              rw [← hy] at hDN hDG
              have HY := Lib.hid hy
              have HDN := Lib.hid hDN
              have HOJ := Lib.hid (own_base ho (show B + 1 ≤ wi.heap.size by omega))
              have hzj := Nat.lt_of_lt_of_le hBl (Nat.le_refl wi.heap.size)
              have HOI := Lib.hid ho
              have hwy : IntKind.i64.wrap (y + x) = y + x := IntWalk.i64_in _ (by omega)
              have hwk : IntKind.i64.wrap (F1 + (j : Int)) = F1 + (j : Int) := IntWalk.i64_in _ (by omega)
              clear hx hy hDN hdm hmp hgr ho hTj HNX
              go_wp2_with (first
                | (at_lookup; refine wpList_getII rfl _ _ rfl B m f' rfl HMJ.out (F1 + (j : Int)) rfl (by omega) ?_; rw [← HY.out])
                | (at_mapUpdate; refine wpList_putII rfl _ _ _ rfl B m f' rfl HMJ.out (by omega) (F1 + (j : Int)) rfl (by omega) (y + x) rfl (by omega) ?_; intro w6 hm6 g6; have HM6 := Lib.hid hm6; have HG6 := Lib.hid g6; clear hm6 g6))
              go_roundw
              case rel => exact ⟨j + 1, m + 1, _, T' + x, by omega, by go_num, HM6.out, by omega, HDN.out, HTT.out, by omega, own_keepS HOI.out HG6.out (by omega), gr_grown HGJ.out HG6.out (fun q hq => by cases hq; exact hB2)⟩
              case measure => simp [intOf]; omega
            · obtain rfl : j = t := by omega
              have HTE2 : Hid (T' = soldAt (stG (S.take (k + 1))) K) := by
                show _ = _
                rw [hTj.out, HTK.out, ← HTE.out, ← HD.out, ← HPL.out, List.take_length, HPP.out.all]
              have hT2 : T' ≤ 1000000 * ((k + 1 : Nat) : Int) := by
                have h1 : T' = T + d := by rw [hTj.out, ← HPL.out, List.take_length, HPP.out.all]
                have h2 : 1000000 * ((k + 1 : Nat) : Int) = 1000000 * (k : Int) + 1000000 := by omega
                rw [h2]; omega
              clear hmp hgr hdm ho hTj
              go_wp2_with (fail)
              go_roundw
              case rel => exact ⟨k + 1, m, f', T', by omega, by go_num, HMJ.out, by omega, HDJ.out, HTE2.out, hT2, HGJ.out⟩
              case measure => simp [intOf]; omega
    · obtain rfl : k = S.length := by omega
      have HTF : Hid (T = soldAt (stepsM ⟨mc, mt, mf⟩ Y) K) := by
        have h := HTE.out
        rw [List.take_length, HEQ.out] at h
        exact h
      have hBo : B < wo.heap.size := hmp.lt
      clear hmp hdm hgr HT0 hlt HTE HST HSIN
      go_wp2_with (first | (at_range; refine wpList_rangeII rfl _ rfl B n f rfl HMP.out ?_; intro w5 left cnt hr hleft g5 hz5))
      go_frame
      have K0 : Hid (RangeI w5 B wo.heap.size n f left cnt ∧ DayRead f T left [] ∧ w2.grownBy w5 none) := ⟨hr, DayRead.start HDM.out left hleft, gr_trans HGR.out g5⟩
      have hz5' : wo.heap.size + 1 ≤ w5.heap.size := by omega
      have hz2o := HGR.out.size
      obtain ⟨ib, hib⟩ : ∃ b, b = wo.heap.size := ⟨_, rfl⟩
      rw [← hib] at K0
      rw [← hib]
      have HIB := Lib.hid hib
      have hibB : B < ib := by omega
      have hibw : w2.heap.size ≤ ib := by omega
      clear hr hleft g5 hz5 hib hz2o hBo
      go_loopw [18, 98] (fun v _ wr => ∃ left cnt R, RangeI wr B ib n f left cnt ∧ DayRead f T left R ∧ wr.ownsRow (ib + 1) 46 2 v R.length (flat encDc R) ∧ ib + 1 ≤ wr.heap.size ∧ w2.grownBy wr none) (fun _ _ wr => wr.rangeLeft B ib)
      case atStart => exact ⟨_, _, [], K0.out.1, K0.out.2.1, World.ownsRow_nil _ _ _ _, by have := HIB.out; omega, K0.out.2.2⟩
      case round =>
        clear K0
        obtain ⟨left, cnt, R, hr, hN, hO, hzi, hgr⟩ := hrel
        obtain ⟨wi, rfl⟩ : ∃ wi : World, wi = wr := ⟨_, rfl⟩
        have hRl := hN.few
        have HO := Lib.hid hO
        have HN := Lib.hid hN
        clear hO hN
        go_wp2_with (first | (at_next; refine wpList_nextII rfl _ rfl B ib n f left cnt rfl hr ?_ ?_))
        · intro hdone
          have HGRi := Lib.hid hgr
          have SF := Lib.hid (sortDcV_any _ R.length (ib + 1) R wi HO.out rfl (by omega))
          have HD := Lib.hid hdone
          have LT := Lib.hid HO.out.lt
          clear hr hgr hdone HO
          go_wp2_with (fail)
          refine SF.out.mono ?_
          rintro e w3 ⟨O, rfl, o3, hp3, g3⟩
          have hOl : O.length = R.length := hp3.length_eq
          have HSUM : Hid ((O.map DC.many).sum = soldAt (stepsM ⟨mc, mt, mf⟩ Y) K) := by
            show _ = _
            rw [many_perm hp3, HN.out.done HD.out, HTF.out]
          have HPOS : Hid (∀ x ∈ O, 0 ≤ x.many) := fun x hx => HN.out.pos x (hp3.mem_iff.1 hx)
          have HG3 := Lib.hid (gr_grown HGRi.out g3 (fun q hq => by have := (LT.out q hq).1; omega))
          have HO3 := Lib.hid (show w3.ownsRow (ib + 1) 46 2 _ O.length (flat encDc O) by rw [hOl]; exact o3)
          clear SF hp3 g3 o3
          go_wp2_with (fail)
          go_ret2
          exact ⟨_, O, Y, rfl, own_base HO3.out (by omega), HASC.out, HSUM.out, by omega, HPOS.out, gr_trans HG2.out HG3.out⟩
        · intro s x w22 cnt' hfs hl2 hr22 hlt g22 hz22 hen
          have HN2 := Lib.hid (HN.out.next HDM.out s x hfs hl2)
          have HO22 := Lib.hid (own_keepS HO.out g22 (by omega))
          have HG22 := Lib.hid (gr_grown hgr g22 (fun k hk => by cases hk; exact hibw))
          have HLT := Lib.hid hlt
          have HR22 := Lib.hid hr22
          have HRo := Lib.hid hr
          have hz23 : ib + 1 ≤ w22.heap.size := by omega
          clear hfs hl2 hlt g22 hz22 hr hgr hr22 HO HN
          by_cases hx : 0 < x
          · have HN3 := Lib.hid (HN2.out.1 hx)
            go_wp2_with (at_builtin; refine wpList_app1F eDc rfl _ _ rfl (ib + 1) _ R.length (flat encDc R) rfl w22 #[.int .i64 s, .int .i64 x] rfl HO22.out _ rfl rfl rfl rfl (by omega) (by omega) ?_; intro v7 w7 o7 g7 hl7 hk7)
            have HO7 : Hid (w7.ownsRow (ib + 1) 46 2 v7 (R ++ [(⟨s, x⟩ : DC)]).length (flat encDc (R ++ [⟨s, x⟩]))) := by
              show World.ownsRow _ _ _ _ _ _ _
              rw [List.length_append, flat_append, flat_one]; exact o7
            have HR7 := Lib.hid (HR22.out.keep g7 (fun e => by have := hl7 B e.symm; omega) (fun e => by have := hl7 ib e.symm; omega))
            have HG7 := Lib.hid (gr_grown HG22.out g7 (fun q hq => by have := hl7 q hq; omega))
            have hz7 := g7.size
            have hz77 : ib + 1 ≤ w7.heap.size := by omega
            clear o7 g7 hl7 hk7 HO22 HG22 hz7
            go_wp2_with (fail)
            go_roundw
            case rel => exact ⟨_, _, _, HR7.out, HN3.out, HO7.out, hz77, HG7.out⟩
            case measure => rw [HR7.out.left, HRo.out.left]; exact HLT.out
          · have HN3 := Lib.hid (HN2.out.2 hx)
            go_wp2_with (fail)
            go_roundw
            case rel => exact ⟨_, _, _, HR22.out, HN3.out, HO22.out, hz23, HG22.out⟩
            case measure => rw [HR22.out.left, HRo.out.left]; exact HLT.out
end Go.Proofs.Ytjhfglhoiplfmaa

/-! The walk of SharesAddUp. -/
namespace Go.Proofs.Ytjhfglhoiplfmaa
open Go.RowKit
attribute [local go_sem ↓] Go.wp_at_zero Go.wp_at_succ

theorem mtrM_cnt2 (l : List Int) (k : Nat) : -1000 ≤ (mtrM l k).cnt ∧ (mtrM l k).cnt ≤ 1000 := by
  unfold mtrM
  split
  · have := pickM_mem l (k + 1 + 1 + 1 + 1) [0, 1, 61] (by decide)
    simp only [List.mem_cons, List.not_mem_nil, or_false] at this
    simp only; omega
  · have := nxt_range l k 3 (by decide)
    simp only; omega
theorem mtrK_le2 (l : List Int) (k : Nat) : mtrK l k ≤ k + 7 := by unfold mtrK; split <;> omega
theorem dc_cells {w : World} {a : Option Addr} {L : List DC} (h : CellsAt w a (flat encDc L)) (k : Nat) (hk : k < L.length) : ∃ b off, a = some ⟨b, off, none⟩ ∧ w.cell? ⟨b, off + k * 2, none⟩ = some (.int .i64 L[k].day) ∧ w.cell? ⟨b, off + k * 2 + 1, none⟩ = some (.int .i64 L[k].many) := by
  obtain ⟨b, off, e, hcs⟩ := flat_cells (enc := encDc) (m := 2) (fun _ => rfl) (by decide) h (by omega)
  exact ⟨b, off, e, hcs k hk 0 _ rfl, hcs k hk 1 _ rfl⟩
theorem soldAt_one (S : List Stp) (K : Nat) (t : Int) (h : ∀ s ∈ S, 0 ≤ s.sold.getD K 0 ∧ s.sold.getD K 0 ≤ t) : 0 ≤ soldAt S K ∧ soldAt S K ≤ t * S.length := by
  induction S with
  | nil => simp [soldAt]
  | cons s S ih =>
    have h1 := h s (by simp)
    have h2 := ih (fun x hx => h x (by simp [hx]))
    have e : soldAt (s :: S) K = s.sold.getD K 0 + soldAt S K := by simp [soldAt]
    rw [e, List.length_cons, Int.natCast_add, Int.mul_add]
    omega
def dcSum (L : List DC) : Int := (L.map DC.many).sum
theorem dcSum_next (L : List DC) (k : Nat) (h : k < L.length) : dcSum (L.take (k + 1)) = dcSum (L.take k) + L[k].many := by
  have e : L.take (k + 1) = L.take k ++ [L[k]] := by simp
  unfold dcSum
  rw [e, List.map_append, sumI_app]
  simp
set_option maxRecDepth 100000 in
set_option maxHeartbeats 1500000 in
theorem sharesAdd_any (l : List Int) (a : Option Addr) (cap : Nat) (w : World) (hc : CellsAt w a (ints l)) (hl : l.length ≤ 9223372036854775807) :
    Calls Try.prog 3 #[.slice a l.length cap] w fun e w' => e = .returned (.bool true) ∧ w.grownBy w' none := by
  have hg0 := gr_alloc (gr_refl w none) (.cells #[.slice a l.length cap, .int .i64 0] 25)
  have sa0 := StreamAt.made cap hc hl
  obtain ⟨w0, hw0⟩ : ∃ w0, w0 = w.alloc (.cells #[.slice a l.length cap, .int .i64 0] 25) := ⟨_, rfl⟩
  have hz0 : w0.heap.size = w.heap.size + 1 := by rw [hw0]; simp
  rw [← hw0] at sa0 hg0
  have HW0 := Lib.hid hw0
  have hn := nxt_range l 0 1000 (by omega)
  clear hw0 hc hl
  go_enter Try.func3, Try.ntmps3
  go_wp2_with (fail)
  rw [← HW0.out]
  refine (next_any l 0 1000 _ w0 sa0 (by omega) (by omega)).mono ?_
  rintro e w1 ⟨rfl, sa1, g1⟩
  obtain ⟨n, hnE⟩ : ∃ n, n = nxt l 0 1000 := ⟨_, rfl⟩
  rw [← hnE] at hn
  rw [← hnE]
  have hgr1 := gr_grown hg0 g1 (fun k e => by cases e; omega)
  have hz1 := g1.size
  clear hnE sa0 hg0 g1 HW0
  go_wp2_with (fail)
  have WT := weights_any l 1 _ w1 sa1 (by omega)
  unfold WtsPost at WT
  refine WT.mono ?_
  rintro e w2 ⟨wv, ws, q, rfl, ow, hwl, hwb, hq, sa2, g2⟩
  obtain ⟨xa, xc, rfl, -, -, hcw, -⟩ := own_shape ow
  have hgr2 := gr_grown hgr1 g2 (fun k e => by cases e; omega)
  have hz2 := g2.size
  have SF := shareFault_any n ws xa xc w2 hcw hwl hwb (by omega) (by omega)
  unfold ShfPost at SF
  have SF := Lib.hid SF
  have HS2 := Lib.hid sa2
  have HG2 := Lib.hid hgr2
  have HCW := Lib.hid hcw
  clear WT ow hwb sa2 hgr2 hgr1 sa1 g2 hcw
  go_wp2_with (fail)
  refine SF.out.mono ?_
  rintro e w3 ⟨r, rfl, hr, g3⟩
  have HR := Lib.hid hr
  have HG3 := Lib.hid g3
  clear hr g3 SF
  go_upto_if 33 with (fail)
  go_cut [] (fun wx => w2.grownBy wx none)
  case first =>
    by_cases hr0 : r = 0
    · have hok := HR.out hr0
      subst hr0
      have MS := meterShare_ok n ws xa xc w3 (HCW.out.keep0 HG3.out) (by omega) (by omega) (by omega) hok.pos hok.all
      have MS := Lib.hid MS
      have HOK := Lib.hid hok
      clear hok
      go_wp2_with (fail)
      refine MS.out.mono ?_
      rintro e w4 ⟨v4, P, rfl, o4, hP, g4⟩
      obtain ⟨pa, pc, rfl, -, -, hcp, -⟩ := own_shape o4
      have HPL := Lib.hid hP.len
      have hPall := hP.all
      have HEACH : Hid (∀ j, j < ws.length → (quoL n ws.sum ws).getD j 0 ≤ P.getD j 0 ∧ P.getD j 0 ≤ (quoL n ws.sum ws).getD j 0 + 1) := fun j hj => hP.each j hj
      have HQB : Hid (∀ j (hj : j < ws.length), (quoL n ws.sum ws).getD j 0 = quoT n ws.sum ws[j] ∧ 0 ≤ quoT n ws.sum ws[j] ∧ quoT n ws.sum ws[j] ≤ n) := fun j hj => by
        have hq := HOK.out.all _ (List.getElem_mem hj)
        refine ⟨?_, (quo_rem (by omega) HOK.out.pos hq.1).2.2.2, quoT_le (by omega) HOK.out.pos hq.1 (mem_le_sum ws (fun x hx => (HOK.out.all x hx).1) _ (List.getElem_mem hj))⟩
        unfold quoL
        rw [List.getD_eq_getElem?_getD, List.getElem?_map, List.getElem?_eq_getElem hj]
        rfl
      have HPB : Hid (∀ x ∈ P, -2000000000 ≤ x ∧ x ≤ 2000000000) := fun x hx => by
        obtain ⟨i, hi, rfl⟩ := List.getElem_of_mem hx
        have h1 := HEACH.out i (by rw [← HPL.out]; exact hi)
        have h2 := HQB.out i (by rw [← HPL.out]; exact hi)
        rw [getD_eq P i 0 hi, h2.1] at h1
        omega
      have TP := totalC P pa pc w4 hcp HPB.out (by rw [HPL.out]; omega)
      rw [hPall, HPL.out] at TP
      have TP := Lib.hid TP
      have HCP := Lib.hid hcp
      have HG4 := Lib.hid (gr_trans HG3.out g4)
      have e1 : (n != n) = false := by simp
      have e2 : ((ws.length : Int) != (ws.length : Int)) = false := by simp
      clear o4 hP g4 hcp hPall MS
      go_wp2_with (fail)
      refine TP.out.mono ?_
      rintro e w5 ⟨rfl, rfl⟩
      obtain ⟨s, hs⟩ : ∃ s, s = ws.sum := ⟨_, rfl⟩
      have hspos := HOK.out.pos
      have hsb := (sum_bd 1000000 ws HOK.out.all).2
      rw [← hs] at hspos hsb
      rw [← hs] at HEACH HQB
      have HSE := Lib.hid hs
      have HCW5 := Lib.hid (HCW.out.keep0 HG4.out)
      clear hs
      go_wp2_with (fail)
      go_loopw [57] (fun i wr => ∃ k : Nat, k ≤ ws.length ∧ i = .int .i64 k ∧ w5.grownBy wr none) (fun i _ => ws.length - (intOf i).toNat)
      case atStart => exact ⟨0, Nat.zero_le _, rfl, gr_refl _ _⟩
      case round =>
        obtain ⟨k, hk, rfl, hgr⟩ := hrel
        obtain ⟨wo, rfl⟩ : ∃ wo : World, wo = wr := ⟨_, rfl⟩
        by_cases hlt : k < ws.length
        · obtain ⟨wb, woff, rfl, d0⟩ := (HCW5.out.keep0 hgr) k _ (ints_get ws k hlt)
          obtain ⟨pb, poff, rfl, d1⟩ := (HCP.out.keep0 hgr) k _ (ints_get P k (by rw [HPL.out]; exact hlt))
          have hx := HOK.out.all _ (List.getElem_mem hlt)
          have h1 := HEACH.out k hlt
          have h2 := HQB.out k hlt
          rw [getD_eq ws k 0 hlt] at d0
          rw [h2.1] at h1
          have TW : Hid (∀ m, Calls Try.prog 8 #[.slice (some ⟨wb, woff, none⟩) ws.length xc] (wo.drewN m) fun e w' => e = .returned (.int .i64 s) ∧ w' = wo.drewN m) := by
            show ∀ m, _
            intro m
            rw [HSE.out]
            exact totalC ws _ xc _ ((HCW5.out.keep0 hgr).keep0 (gr_drewN (gr_refl _ _) _)) (fun x hx => by have := HOK.out.all x hx; omega) (by omega)
          obtain ⟨x, hxe⟩ : ∃ x, x = ws[k] := ⟨_, rfl⟩
          rw [← hxe] at d0 hx h1 h2
          obtain ⟨y, hye⟩ : ∃ y, y = P.getD k 0 := ⟨_, rfl⟩
          rw [← hye] at d1 h1
          have mu0 : 0 ≤ n * x := Int.mul_nonneg (by omega) hx.1
          have mu1 : n * x ≤ 1000 * 1000000 := Int.mul_le_mul (by omega) hx.2 hx.1 (by omega)
          obtain ⟨p, hp⟩ : ∃ p, n * x = p := ⟨_, rfl⟩
          obtain ⟨lw, hlw⟩ : ∃ lw, lw = quoT n s x := ⟨_, rfl⟩
          have hqt : p.tdiv s = lw := by rw [← hp, hlw]; rfl
          rw [hp] at mu0 mu1
          rw [← hlw] at h1 h2
          obtain ⟨hy1, hy2⟩ := h1
          obtain ⟨-, hl0, hl1⟩ := h2
          have hsz : (s == 0) = false := beq_eq_false_iff_ne.2 (by omega)
          have f1 : decide (y < lw) = false := decide_eq_false (by omega)
          have f2 : decide (lw + 1 < y) = false := decide_eq_false (by omega)
          have HGR := Lib.hid hgr
          clear hxe hye hlw hgr
          go_wp2_with (fail)
          go_quiet ((first | (go_at_call 8; exact Calls.quiet_of_same (TW.out _))))
          clear hqt hp
          go_wp2_with (fail)
          go_roundw
          case rel => exact ⟨k + 1, by omega, by go_num, gr_drewN HGR.out _⟩
          case measure => simp [intOf]; omega
        · obtain rfl : k = ws.length := by omega
          have HGR := Lib.hid (gr_trans HG4.out hgr)
          clear hgr
          go_wp2_with (fail)
          go_meet
          exact HGR.out
    · have hrb : (r == 0) = false := by simpa using hr0
      have HG3 := HG3
      clear hr0
      go_wp2_with (fail)
      go_meet
      exact HG3.out
  case rest =>
  obtain ⟨w4, rfl⟩ : ∃ w4 : World, w4 = wc := ⟨_, rfl⟩
  have sa0 := HS2.out.keep0 hcut
  have hg0 := gr_trans HG2.out hcut
  have hz0 : w.heap.size + 1 ≤ w4.heap.size := by have := hcut.size; omega
  have MA := fun (p' : Nat) (w' : World) (h : StreamAt w' p' w.heap.size l q) => meter_any l q p' w' h (by omega)
  unfold MtrPost at MA
  have hmc := mtrM_cnt2 l q
  have hmt := mtrM_turn l q
  have hk1 := mtrK_le2 l q
  obtain ⟨m, hme⟩ : ∃ m, m = mtrM l q := ⟨_, rfl⟩
  obtain ⟨k1, hk1e⟩ : ∃ k1, k1 = mtrK l q := ⟨_, rfl⟩
  rw [← hme] at MA hmc hmt
  rw [← hk1e] at MA hk1
  obtain ⟨right, hri⟩ : ∃ right : Bool, right = true ↔ MtrOk m := by
    by_cases h : MtrOk m
    · exact ⟨true, fun _ => h, fun _ => rfl⟩
    · exact ⟨false, fun h2 => (by cases h2), fun h2 => absurd h2 h⟩
  have RA := fun (p' : Nat) (w' : World) (h : StreamAt w' p' w.heap.size l k1) => readings_any l k1 m right hri p' w' h (by omega) hmc hmt
  unfold RdsPost at RA
  obtain ⟨hX12, hXv, -⟩ := rdsM_small l k1 m right (fun h => hri.1 h)
  obtain ⟨X, hX⟩ : ∃ X, X = rdsM l k1 m right := ⟨_, rfl⟩
  rw [← hX] at RA hX12 hXv
  have HMA := Lib.hid MA
  have HRA := Lib.hid RA
  have HXV := Lib.hid hXv
  have HMT : Hid (-1000000000 ≤ m.turn ∧ m.turn ≤ 1000000000) := ⟨by omega, by omega⟩
  clear MA RA hXv hX hri hk1e hme hmc HR HG3 HCW HG2 HS2 hcut
  obtain ⟨mc, mt, mf⟩ := m
  unfold mtrV at HMA HRA
  dsimp only at HMA HRA
  go_wp2_with (fail)
  refine (HMA.out _ w4 sa0).mono ?_
  rintro e w2 ⟨rfl, sa2, g2⟩
  have hM := heap_alloc_new w2 (.cells #[.int .i64 mc, .int .i64 mt, .int .i64 mf] 34)
  have g24 := gr_alloc (gr_refl w2 none) (.cells #[.int .i64 mc, .int .i64 mt, .int .i64 mf] 34)
  obtain ⟨w5, hw5⟩ : ∃ w5, w5 = w2.alloc (.cells #[.int .i64 mc, .int .i64 mt, .int .i64 mf] 34) := ⟨_, rfl⟩
  rw [← hw5] at hM g24
  obtain ⟨B5, hB5⟩ : ∃ B5, B5 = w2.heap.size := ⟨_, rfl⟩
  rw [← hB5] at hM
  have hB5l : w.heap.size < B5 := by have := g2.size; omega
  have sa4 := sa2.keep0 g24
  have hgr4 := gr_trans (gr_grown hg0 g2 (fun k e => by cases e; omega)) g24
  obtain ⟨m0, m1, m2, -⟩ := blk3M hM
  have HM := Lib.hid hM
  have HW5 := Lib.hid hw5
  have HB5 := Lib.hid hB5
  have HGR4 := Lib.hid hgr4
  have hz4 : w.heap.size + 1 ≤ w5.heap.size := by have := g24.size; have := g2.size; omega
  clear hM g24 hw5 sa2 g2 hB5 hg0 sa0 HMA hgr4
  go_upto_region 15 with (fail)
  rw [← HW5.out, ← HB5.out]
  go_wp2_with (fail)
  refine (HRA.out _ w5 sa4).mono ?_
  rintro e w6 ⟨xv, Lx, rfl, rx, ex, -, g6⟩
  obtain ⟨xa', xc', rfl, -, -⟩ := rx.shape
  have hlx : Lx.length = X.length := by have := congrArg List.length ex; rwa [rdsG_len] at this
  have hlx6 : Lx.length ≤ 6 := by omega
  have HXS : Hid (∀ g ∈ Lx, g.rd.vs.length ≤ 60) := fun g hg => HXV.out g.rd (by rw [← ex]; exact List.mem_map_of_mem hg)
  have SR := sortedReadings_any ⟨mc, mt, mf⟩ Lx xa' xc' w6 HMT.out rx.toC (by omega) (fun g hg => by have := HXS.out g hg; omega)
  unfold SortedPost mtrV at SR
  rw [ex] at SR
  have SR := Lib.hid SR
  have hM6 := (g6.block _ (lt_of_block HM.out) (by simp; omega)).trans HM.out
  have HRX := Lib.hid rx.toC
  have HEX := Lib.hid ex
  have HM6 := Lib.hid hM6
  have HG6 := Lib.hid (gr_grown HGR4.out g6 (fun q e => by cases e; omega))
  have HNX : Hid (xa' = none → Lx.length = 0 ∧ xc' = 0) := own_nilS rx.row
  clear m0 m1 m2
  obtain ⟨m0, m1, m2, -⟩ := blk3M hM6
  clear rx ex hM6 hlx HM HRA sa4 HMT hX12 g6 HGR4
  go_wp2_with (fail)
  refine SR.out.mono ?_
  rintro e w7 ⟨wv, r7, rfl, g7, hr⟩
  have hM7 := (g7.block _ (lt_of_block HM6.out) (by simp)).trans HM6.out
  have HG7 := Lib.hid (gr_trans HG6.out g7)
  have HR := Lib.hid hr
  have HG67 := Lib.hid g7
  clear hr g7 m0 m1 m2 SR
  by_cases hr0 : r7 = 0
  case neg =>
    have hrb : (r7 != 0) = true := by simpa using hr0
    clear hr0
    go_wp2_with (fail)
    refine (meters_any w7).mono ?_
    rintro e w8 ⟨rfl, g8⟩
    have g8 := gr_trans HG7.out g8
    go_wp2_with (fail)
    go_ret
    exact ⟨rfl, g8⟩
  obtain ⟨hok, hall, Lw, -, hasc⟩ := HR.out hr0
  obtain ⟨C, hC⟩ : ∃ C : Nat, (C : Int) = mc := ⟨mc.toNat, by have := hok.c1; dsimp only at this; omega⟩
  have HOK := Lib.hid hok
  have HALL := Lib.hid hall
  have HNC := Lib.hid hasc.noConf
  subst hr0
  obtain ⟨m0, m1, m2, -⟩ := blk3M hM7
  have HM7 := Lib.hid hM7
  have HRX7 := Lib.hid (HRX.out.keep0 HG67.out)
  have SO := sold_ok ⟨mc, mt, mf⟩ C hC hok Lx xa' xc' w7 HRX7.out HNX.out (by omega) (by rw [HEX.out]; exact hall) (by rw [HEX.out]; exact hasc.noConf)
  unfold SoldPost mtrV at SO
  rw [HEX.out] at SO
  have SO := Lib.hid SO
  have HASC := Lib.hid hasc
  have hC60 : C ≤ 60 := by have := hok.c2; dsimp only at this; omega
  have ht6 : mt ≤ 1000000 := by have := hok.t2; dsimp only at this; omega
  subst hC
  clear hok hall hasc hM7 HR
  go_wp2_with (fail)
  refine SO.out.mono ?_
  rintro e w8 ⟨sv, P, Y, rfl, o8, hasc, hPV, g8⟩
  obtain ⟨pa, pc, rfl, -, -, hcp, -⟩ := own_shape o8
  have hPl : P.length = C := by have := o8.1; simpa [ints] using this
  have hM8 := (g8.block _ (lt_of_block HM7.out) (by simp)).trans HM7.out
  have HPL := Lib.hid hPl
  have HCP := Lib.hid hcp
  have HPV := Lib.hid hPV
  have HASCY := Lib.hid hasc
  have HG8 := Lib.hid (gr_trans HG7.out g8)
  have HRX8 := Lib.hid (HRX7.out.keep0 g8)
  have HSB : Hid (∀ K, K < C → 0 ≤ soldAt (stepsM ⟨(C : Int), mt, mf⟩ Y) K ∧ soldAt (stepsM ⟨(C : Int), mt, mf⟩ Y) K ≤ 20000000) := fun K hK => by
    have h1 := stepsM_sold (m := ⟨(C : Int), mt, mf⟩) (Y := Y) (fun r hr => HALL.out r ((hasc.mem r).1 hr))
    have h2 := soldAt_one (stepsM ⟨(C : Int), mt, mf⟩ Y) K 1000000 (fun s hs => by
      obtain ⟨e1, e2⟩ := h1 s hs
      have hl : s.sold.length = C := by have e1 : ((s.sold.length : Nat) : Int) = (C : Int) := e1; omega
      have := e2 _ (List.getElem_mem (show K < s.sold.length by omega))
      rw [getD_eq s.sold K 0 (by omega)]
      dsimp only at this
      omega)
    have h3 := asc_len hasc.asc X (fun r hr => (hasc.mem r).1 hr)
    have h4 : X.length = Lx.length := by rw [← HEX.out, rdsG_len]
    have h5 := stepsM_len ⟨(C : Int), mt, mf⟩ Y
    omega
  have HM8 := Lib.hid hM8
  clear m0 m1 m2
  obtain ⟨m0, m1, m2, -⟩ := blk3M hM8
  have e1 : ((C : Int) != (C : Int)) = false := by simp
  have DA := fun (K : Nat) (hK : (K : Int) < (C : Int)) (W : World) (g : w8.grownBy W none) => days_ok ⟨(C : Int), mt, mf⟩ K hK HOK.out Lx xa' xc' W (HRX8.out.keep0 g) HNX.out (by omega) (by rw [HEX.out]; exact HALL.out) (by rw [HEX.out]; exact HNC.out)
  unfold DaysPost mtrV at DA
  rw [HEX.out] at DA
  have DA := Lib.hid DA
  clear o8 hPl hcp hPV hasc g8 hM8 SO
  go_wp2_with (fail)
  go_loopw [112] (fun i wr => ∃ k : Nat, k ≤ C ∧ i = .int .i64 k ∧ w8.grownBy wr none) (fun i _ => C - (intOf i).toNat)
  case atStart => exact ⟨0, Nat.zero_le _, rfl, gr_refl _ _⟩
  case round =>
    obtain ⟨k, hk, rfl, hgr⟩ := hrel
    obtain ⟨wo, rfl⟩ : ∃ wo : World, wo = wr := ⟨_, rfl⟩
    clear m0 m1 m2
    obtain ⟨m0, m1, m2, -⟩ := blk3M ((hgr.block _ (lt_of_block HM8.out) (by simp)).trans HM8.out)
    by_cases hlt : k < C
    · have HD := Lib.hid (DA.out k (by omega) wo hgr)
      have HGO := Lib.hid hgr
      clear hgr
      go_wp2_with (fail)
      refine HD.out.mono ?_
      rintro e w9 ⟨v9, O, Y', rfl, o9, hasc', hsum, hOl, hpos, g9⟩
      have hYY := hasc'.unique HASCY.out
      rw [hYY] at hsum
      clear hYY
      obtain ⟨oa, oc, rfl, -, -, hco, -⟩ := own_shape o9
      have HCO := Lib.hid hco
      have HGR9 := Lib.hid (gr_trans HGO.out g9)
      have hsb := HSB.out k hlt
      have HSUM := Lib.hid hsum
      have HPOS := Lib.hid hpos
      have HPB : Hid (∀ j, j ≤ O.length → 0 ≤ dcSum (O.take j) ∧ dcSum (O.take j) ≤ 20000000) := by
        show ∀ j, _
        intro j hj
        have e : dcSum O = dcSum (O.take j) + dcSum (O.drop j) := by
          unfold dcSum
          rw [← sumI_app, ← List.map_append, List.take_append_drop]
        have p1 : ∀ L : List DC, (∀ x ∈ L, 0 ≤ x.many) → 0 ≤ dcSum L := fun L hL => by
          induction L with
          | nil => exact Int.le_refl _
          | cons x L ih =>
            have h1 := hL x (by simp)
            have h2 := ih (fun y hy => hL y (by simp [hy]))
            have e : dcSum (x :: L) = x.many + dcSum L := by simp [dcSum]
            omega
        have h1 := p1 (O.take j) (fun x hx => hpos x (List.mem_of_mem_take hx))
        have h2 := p1 (O.drop j) (fun x hx => hpos x (List.mem_of_mem_drop hx))
        have h3 : dcSum O = soldAt (stepsM ⟨(C : Int), mt, mf⟩ Y) k := hsum
        omega
      have S0 : Hid ((0 : Int) = dcSum (O.take 0)) := by show _ = _; rfl
      clear o9 hasc' hsum hpos hco hsb m0 m1 m2 HD g9
      go_wp2_with (fail)
      go_loopw [20, 124] (fun s i wr => ∃ j : Nat, j ≤ O.length ∧ i = .int .i64 j ∧ s = .int .i64 (dcSum (O.take j)) ∧ w9.grownBy wr none) (fun _ i _ => O.length - (intOf i).toNat)
      case atStart => exact ⟨0, Nat.zero_le _, rfl, congrArg _ S0.out, gr_refl _ _⟩
      case round =>
        clear S0
        obtain ⟨j, hj, rfl, rfl, hgj⟩ := hrel
        obtain ⟨wj, rfl⟩ : ∃ wj : World, wj = wr := ⟨_, rfl⟩
        by_cases hjl : j < O.length
        · obtain ⟨db, doff, rfl, d0, d1⟩ := dc_cells (HCO.out.keep0 hgj) j hjl
          have NX := Lib.hid (dcSum_next O j hjl)
          have hb0 := HPB.out j hj
          have hb1 := HPB.out (j + 1) (by omega)
          rw [NX.out] at hb1
          obtain ⟨x, hx⟩ : ∃ x, x = O[j] := ⟨_, rfl⟩
          rw [← hx] at d0 d1 NX hb1
          obtain ⟨xd, xm⟩ := x
          simp only at d0 d1 NX hb1
          obtain ⟨s, hs⟩ : ∃ s, s = dcSum (O.take j) := ⟨_, rfl⟩
          rw [← hs] at hb0 hb1 NX
          rw [← hs]
          have hg1 := gr_alloc hgj (.cells #[.int .i64 xd, .int .i64 xm] 46)
          have HG1 := Lib.hid hg1
          have HV := heap_alloc_new wj (.cells #[.int .i64 xd, .int .i64 xm] 46)
          clear hs hx hgj hg1
          go_wp2_with (fail)
          go_roundw
          case rel => exact ⟨j + 1, by omega, by go_num, by rw [NX.out], HG1.out⟩
          case measure => simp [intOf]; omega
        · obtain rfl : j = O.length := by omega
          obtain ⟨pb, poff, rfl, d0⟩ := (HCP.out.keep0 (gr_trans HGR9.out hgj)) k _ (ints_get P k (by rw [HPL.out]; exact hlt))
          have HE : Hid (dcSum (O.take O.length) = P.getD k 0) := by
            show _ = _
            rw [List.take_length, HPV.out k hlt]
            exact HSUM.out
          obtain ⟨y, hy⟩ : ∃ y, y = P.getD k 0 := ⟨_, rfl⟩
          rw [← hy] at d0 HE
          rw [HE.out]
          have e2 : (y != y) = false := by simp
          have HGJ := Lib.hid (gr_trans HGR9.out hgj)
          clear hy hgj
          go_wp2_with (fail)
          go_roundw
          case rel => exact ⟨k + 1, by omega, by go_num, HGJ.out⟩
          case measure => simp [intOf]; omega
    · obtain rfl : k = C := by omega
      have HGO := Lib.hid (gr_trans HG8.out hgr)
      clear hgr
      go_wp2_with (fail)
      refine (meters_any wo).mono ?_
      rintro e w9 ⟨rfl, g9⟩
      have g9 := gr_trans HGO.out g9
      go_wp2_with (fail)
      go_ret
      exact ⟨rfl, g9⟩
end Go.Proofs.Ytjhfglhoiplfmaa
