/- round.Fair. -/
import Derived.Test.YtdjnomeabadbnaaWkSort
import Derived.Test.YtdjnomeabadbnaaWkLevel2
namespace Go.Proofs.Ytdjnomeabadbnaa
open Go.RowKit

theorem order_nodup {n : Nat} {O : List Int} (h : IsOrder n O) : O.Nodup := by
  refine (h.nodup_iff).2 ?_
  rw [List.nodup_iff_pairwise_ne, List.pairwise_map]
  exact (List.nodup_range (n := n)).imp (fun h e => h (by omega))
theorem order_new {n : Nat} {O : List Int} (h : IsOrder n O) (t : Nat) (ht : t < O.length) : O.getD t 0 ∉ O.take t := by
  intro hm
  obtain ⟨i, hi, he⟩ := mem_get hm 0
  have hit : i < t := by rw [List.length_take] at hi; omega
  have hnd := order_nodup h
  have e1 : O.getD i 0 = O.getD t 0 := by
    rw [← he, List.getD_eq_getElem?_getD, List.getD_eq_getElem?_getD, List.getElem?_take_of_lt hit]
  rw [List.getD_eq_getElem?_getD, List.getD_eq_getElem?_getD, List.getElem?_eq_getElem (show i < O.length by omega), List.getElem?_eq_getElem ht] at e1
  exact (List.pairwise_iff_getElem.1 hnd) i t (by omega) ht hit (by simpa using e1)
theorem order_of {n : Nat} {O : List Int} (hl : O.length = n) (h : ∀ j : Nat, j < n → O.getD j 0 = (j : Int)) : IsOrder n O := by
  have : O = (List.range n).map fun k : Nat => (k : Int) := by
    apply list_ext0
    · simp [hl]
    · intro i hi
      rw [h i (by omega), List.getD_eq_getElem?_getD]
      simp [show i < n by omega]
  rw [this]
  exact List.Perm.refl _
def FairPost (J : List Int) (D n : Nat) (longest : Int) (w : World) (e : Ending) (w' : World) : Prop :=
  ∃ v Q, e = .returned (.tuple #[v, .int .i64 0]) ∧ w'.ownsRow w.heap.size 3 1 v n (ints Q) ∧ DaysOk D n Q ∧ (∀ d, d < D → ((ldL J Q D n).getD d 0 - longest) * D ≤ J.sum) ∧ w.grownBy w' none

set_option maxRecDepth 100000 in
set_option maxHeartbeats 8000000 in
theorem fair_any (n D : Nat) (ja : Option Addr) (J : List Int) (jc : Nat) (longest : Int) (w : World) (hj : CellsAt w ja (ints J)) (hn : J.length = n) (hl : n < 20) (hJ : JobsOk J) (h1 : 1 ≤ D) (h2 : D ≤ 7) (hl0 : 0 ≤ longest) (hlj : ∀ i, J.getD i 0 ≤ longest) :
    Calls Try.prog 10 #[.agg #[.slice ja n jc, .int .i64 D]] w (FairPost J D n longest w) := by
  obtain ⟨w1, hw1⟩ : ∃ w1, w1 = w.alloc (.cells #[.slice ja n jc, .int .i64 D] 30) := ⟨_, rfl⟩
  have hg1 : w.grownBy w1 none := by rw [hw1]; exact gr_alloc (gr_refl w none) _
  have hP1 : w1.heap[w.heap.size]? = some (.cells #[.slice ja n jc, .int .i64 D] 30 (0, 0)) := by rw [hw1]; exact heap_alloc_new w _
  obtain ⟨b0, b1, _, _⟩ := blk2 hP1
  have hP := lt_of_block hP1
  have hbw := badWeek_zero (D := D) (J := J) (by omega) (by omega) (by omega) hJ
  have PL := Lib.hid (plan_any ja J jc D w1 (hj.keep0 hg1) (by omega))
  rw [hbw, hn] at PL
  have HN := Lib.hid hn
  have HLJ := Lib.hid hlj
  clear hP1 hbw hn hlj
  go_enter Try.func10, Try.ntmps10
  go_wp2_with (fail)
  rw [← hw1]
  clear hw1
  refine PL.out.mono ?_
  rintro e w2 ⟨rfl, hg2⟩
  have c0 := (gr_cell hg2 hP).trans b0
  have c1 := (gr_cell hg2 hP).trans b1
  have hP2 := lt_of_cell c0
  have hgr2 := gr_trans hg1 hg2
  clear b0 b1 hP hg1 hg2
  go_wp2_with (at_make; refine wpList_mk _ eInt rfl _ _ rfl w2.heap.size (n : Int) n rfl rfl rfl ?_ ?_ ?_; (· omega); (· omega); intro w3 hown3 hg3)
  obtain ⟨g, hg⟩ : ∃ g, g = w2.heap.size := ⟨_, rfl⟩
  have hgg : w2.heap.size ≤ g := by omega
  rw [← hg] at hown3
  rw [← hg]
  have HG := Lib.hid hg
  clear hg
  go_loopw [23] (fun i wr => ∃ (k : Nat) (O : List Int), k ≤ n ∧ i = .int .i64 k ∧ wr.ownsRow g 3 1 (.slice (some ⟨g, 0, none⟩) n n) n (ints O) ∧ (∀ j : Nat, j < k → O.getD j 0 = (j : Int)) ∧ w2.grownBy wr none) (fun i _ => n - (intOf i).toNat)
  case atStart => exact ⟨0, _, by omega, rfl, hown3, fun j hj => by omega, hg3⟩
  case round =>
    obtain ⟨k, O, hk, rfl, hown, hO, hgr⟩ := hrel
    obtain ⟨wo, rfl⟩ : ∃ wo : World, wo = wr := ⟨_, rfl⟩
    have HO := Lib.hid hO
    clear hO
    by_cases hkn : k < n
    · obtain ⟨d0, d1, d2⟩ := own_int hown k hkn
      have hol := own_len hown
      have HOL := Lib.hid hol
      have D2 := Lib.hid (d2 (k : Int))
      clear hol d2
      go_wp2_with (fail)
      go_roundw
      case rel =>
        refine ⟨k + 1, O.set k (k : Int), by omega, by go_num, D2.out, fun j hj => ?_, gr_new hgr hgg _⟩
        rw [set_get _ _ _ _ (by rw [HOL.out]; exact hkn)]
        by_cases hjk : j = k
        · rw [if_pos hjk, hjk]
        · rw [if_neg hjk]; exact HO.out j (by omega)
      case measure => simp [intOf]; omega
    · obtain rfl : n = k := by omega
      have hord : IsOrder n O := order_of (own_len hown) HO.out
      have e0 := (gr_cell hgr hP2).trans c0
      have e1 := (gr_cell hgr hP2).trans c1
      have hPo := lt_of_cell e0
      have hjo := (hj.keep0 hgr2).keep0 hgr
      have hgr2o := gr_trans hgr2 hgr
      have hwg : w.heap.size < g := by have := HG.out; omega
      have CM : Compares 42 w.heap.size n (some g) wo := ⟨fun a b => cmpI (J.getD b 0) (J.getD a 0), fun a b => cmpI_range _ _, fun a b w1 ha hb hg => fairCmp_any ja J n jc a b w.heap.size w1 (hjo.keep hg (fun b off he => by
        intro e
        cases e
        subst he
        obtain ⟨_, _, hje, hjc⟩ := hj a _ (ints_get J a (by rw [HN.out]; exact ha))
        cases hje
        have := lt_of_cell hjc
        omega)) HN.out (hg.cell e0 (by simp; omega)) ha hb⟩
      have SS := Lib.hid (sortStable_any 42 w.heap.size n (.slice (some ⟨g, 0, none⟩) n n) g O wo hown hord hl fairCmp_fn CM)
      clear CM hord hown HO
      go_wp2_with (fail)
      refine SS.out.mono ?_
      rintro e w5 ⟨O5, rfl, hown5, hord5, hg5⟩
      have hg5' : wo.grownBy w5 (some g) := hg5
      have f0 := hg5'.cell e0 (by simp; omega)
      have f1 := hg5'.cell e1 (by simp; omega)
      have hP5 := lt_of_cell f0
      have hgr5 := gr_grown hgr2o hg5' (fun q e => by cases e; omega)
      have hj5 := hj.keep0 hgr5
      have HORD := Lib.hid hord5
      have HOWN5 := Lib.hid hown5
      have hg5lt := (hown5.lt g rfl).2
      clear hg5 hg5' hord5 hown5 SS e0 e1 hPo hjo hgr2o c0 c1 hP2 hgr hgr2 hg3 hown3
      have RMn : ∀ w' : World, (Instr.makeSlice 22 (.int .i64 (n : Int)) (.int .i64 (n : Int))).run Try.prog w' = .ok (.slice (some ⟨w'.heap.size, 0, none⟩) n n) (w'.alloc (.cells (madeCells #[Value.int .i64 0] n) 3)) := fun w' =>
        run_make_row' 22 3 (.int .i64 0) 8 eInt.und eInt.info rfl .i64 .i64 n (by omega) (by omega) w'
      have RMD : ∀ w' : World, (Instr.makeSlice 22 (.int .i64 (D : Int)) (.int .i64 (D : Int))).run Try.prog w' = .ok (.slice (some ⟨w'.heap.size, 0, none⟩) D D) (w'.alloc (.cells (madeCells #[Value.int .i64 0] D) 3)) := fun w' =>
        run_make_row' 22 3 (.int .i64 0) 8 eInt.und eInt.info rfl .i64 .i64 D (by omega) (by omega) w'
      go_wp2_with (fail)
      go_cut [7, 8] from 34 to 40 (fun s7 s8 wx => ∃ gs gb, s7 = .slice (some ⟨gs, 0, none⟩) n n ∧ s8 = .slice (some ⟨gb, 0, none⟩) D D ∧ gs ≠ gb ∧ wx.ownsRow w5.heap.size 3 1 (.slice (some ⟨gs, 0, none⟩) n n) n (ints (List.replicate n 0)) ∧ wx.ownsRow w5.heap.size 3 1 (.slice (some ⟨gb, 0, none⟩) D D) D (ints (List.replicate D 0)) ∧ w5.grownBy wx none)
      case first =>
        go_region
        all_goals (go_wp2_with (fail))
        all_goals (try go_simp)
        all_goals go_meet
        all_goals first
          | exact ⟨_, _, rfl, rfl, by omega, own_keep0 (own_mk0 (heap_2 w5 _ _).1 (Nat.le_refl _) (by omega)) (gr_drew (gr_refl _ _)), own_keep0 (own_mk0 (heap_2 w5 _ _).2 (by omega) (by omega)) (gr_drew (gr_refl _ _)), gr_drew (gr_alloc (gr_alloc (gr_refl w5 none) _) _)⟩
          | exact ⟨_, _, rfl, rfl, by omega, own_keep0 (own_mk0 (heap_2 w5 _ _).2 (by omega) (by omega)) (gr_drew (gr_refl _ _)), own_keep0 (own_mk0 (heap_2 w5 _ _).1 (Nat.le_refl _) (by omega)) (gr_drew (gr_refl _ _)), gr_drew (gr_alloc (gr_alloc (gr_refl w5 none) _) _)⟩
      case rest =>
      obtain ⟨gs, gb, rfl, rfl, hsb, hS, hB, hgc⟩ := hcut
      obtain ⟨hfs, hfl⟩ := fair_start hJ (D := D) (n := n) h1 hl0
      rw [← hfl] at hB
      have HFS := Lib.hid hfs
      have HS := Lib.hid hS
      have HB := Lib.hid hB
      clear hfs hfl hS hB RMn RMD
      go_wp2_with (fail)
      go_loopw [43] (fun i wr => ∃ (t : Nat) (Q : List Int), t ≤ n ∧ i = .int .i64 t ∧ wr.ownsRow w5.heap.size 3 1 (.slice (some ⟨gs, 0, none⟩) n n) n (ints Q) ∧ wr.ownsRow w5.heap.size 3 1 (.slice (some ⟨gb, 0, none⟩) D D) D (ints (ldL (msk J (O5.take t)) Q D n)) ∧ FairAt J Q (O5.take t) D n longest ∧ w5.grownBy wr none) (fun i _ => n - (intOf i).toNat)
      case atStart => exact ⟨0, _, by omega, rfl, HS.out, HB.out, HFS.out, hgc⟩
      case round =>
        obtain ⟨t, Q, ht, rfl, hS, hB, hfa, hgr⟩ := hrel
        obtain ⟨wi, rfl⟩ : ∃ wi : World, wi = wr := ⟨_, rfl⟩
        have HFA := Lib.hid hfa
        have HS' := Lib.hid hS
        have HB' := Lib.hid hB
        clear hfa
        by_cases htn : t < n
        · have hlo := HORD.out.len
          have hmi := (HORD.out.mem _).1 (get_mem O5 t 0 (by omega))
          have hnew := order_new HORD.out t (by omega)
          have htk := take_nextD O5 t (by omega)
          obtain ⟨i, hi⟩ : ∃ i : Nat, O5.getD t 0 = (i : Int) := ⟨(O5.getD t 0).toNat, by omega⟩
          rw [hi] at hmi hnew htk
          have hin : i < n := by omega
          obtain ⟨o0, _, _⟩ := own_int (own_keep0 HOWN5.out hgr) t htn
          rw [hi] at o0
          have HNEW := Lib.hid hnew
          have HTK := Lib.hid htk
          have hLb := ldL_bound (msk_ok hJ (O5.take t)) Q D n
          obtain ⟨L, hL⟩ : ∃ L, L = ldL (msk J (O5.take t)) Q D n := ⟨_, rfl⟩
          have HLL : Hid (L.length = D) := by show _ = _; rw [hL, ldL_len]
          rw [← hL] at hB hLb
          have HL := Lib.hid hL
          have HLB := Lib.hid hLb
          have HBL := Lib.hid hB
          have hcL : CellsAt wi (some ⟨gb, 0, none⟩) (ints L) := by
            obtain ⟨_, _, he, _, _, hcc, _⟩ := own_shape hB
            cases he
            exact hcc
          have MN := Lib.hid (min_any (some ⟨gb, 0, none⟩) L D D wi hcL HLL.out (by omega) (by omega))
          have p0 := (gr_cell hgr hP5).trans f0
          have p1 := (gr_cell hgr hP5).trans f1
          have hPi := lt_of_cell p0
          obtain ⟨jb, jo, rfl, dj⟩ := (hj5.keep0 hgr) i _ (ints_get J i (by rw [HN.out]; exact hin))
          clear hlo hmi hnew htk hi hL hLb hB hS
          go_wp2_with (fail)
          refine MN.out.mono ?_
          rintro e w6 ⟨⟨m, rfl, hbot⟩, rfl⟩
          have HBOT := Lib.hid hbot
          have IX := Lib.hid (index_any (some ⟨gb, 0, none⟩) L D D m wi hcL HLL.out hbot.1 (by omega))
          clear hbot hcL
          go_wp2_with (fail)
          refine IX.out.mono ?_
          rintro e w6 ⟨⟨d, rfl, hdD, hdm⟩, rfl⟩
          obtain ⟨s0, s1, s2⟩ := own_int HS'.out i hin
          obtain ⟨l0, l1, l2⟩ := own_int HBL.out d hdD
          have hmb := HLB.out _ (get_mem L d 0 (by rw [HLL.out]; exact hdD))
          have hxb := job_ok hJ i
          have hxl := HLJ.out i
          rw [hdm] at l0 hmb
          obtain ⟨x, hx⟩ : ∃ x, x = J.getD i 0 := ⟨_, rfl⟩
          rw [← hx] at dj hxb hxl
          have hjs : jb ≠ gs := by
            obtain ⟨_, _, hje, hjc⟩ := hj5 i _ (ints_get J i (by rw [HN.out]; exact hin))
            cases hje
            have h7 := lt_of_cell hjc
            have h8 := (HS'.out.lt gs rfl).1
            omega
          have hws : w.heap.size ≠ gs := by
            have h8 := (HS'.out.lt gs rfl).1
            omega
          have S2 := Lib.hid (s2 (d : Int))
          have hSi := (HS'.out.lt gs rfl).1
          have hBi := (HB'.out.lt gb rfl).1
          have hgbl := lt_of_cell l0
          have hgsl := lt_of_cell s0
          have hgs : wi.grownBy (wi.setCell ⟨gs, i, none⟩ (.int .i64 (d : Int))) (some gs) := gr_set (q := ⟨gs, i, none⟩) (gr_refl wi (some gs)) rfl _
          have hBs := own_keep HBL.out hgs (.inr (fun e => hsb (by simpa [Value.ownBlock] using e.symm)))
          have hstep : FairAt J (Q.set i (d : Int)) (O5.take (t + 1)) D n longest := by
            rw [HTK.out]
            exact fair_step (m := m) hJ HN.out HFA.out i d hin hdD HNEW.out (by rw [← hx]; exact hxl) (by rw [← HL.out]; exact hdm) (by rw [← HL.out]; exact HBOT.out.2)
          have hgive : ldL (msk J (O5.take (t + 1))) (Q.set i (d : Int)) D n = L.set d (m + x) := by
            rw [HTK.out, ldL_give J Q (O5.take t) D n i d hin HN.out HFA.out.days.len HNEW.out hdD, ← HL.out, hdm, hx]
          have HSTEP := Lib.hid hstep
          have HGIVE := Lib.hid hgive
          have L2 := Lib.hid ((own_int hBs d hdD).2.2 (m + x))
          have y0 := (own_int hBs d hdD).1
          have y1 := (own_int hBs d hdD).2.1
          rw [hdm] at y0
          have HGS := Lib.hid hgs
          clear hdm hx s2 l2 hstep hgive hgs hBs MN IX
          go_wp2_with (fail)
          go_region
          all_goals (go_wp2_with (fail))
          all_goals go_roundw
          all_goals first | (simp [intOf]; omega) | skip
          all_goals
            have hgb2 := gr_set (q := ⟨gb, d, none⟩) (gr_refl (wi.setCell ⟨gs, i, none⟩ (.int .i64 (d : Int))) (some gb)) rfl (.int .i64 (m + x))
            refine ⟨t + 1, Q.set i (d : Int), by omega, by go_num, own_of_heap (own_keep S2.out hgb2 (.inr (fun e => hsb (by simpa [Value.ownBlock] using e)))) rfl, by rw [HGIVE.out]; exact own_of_heap L2.out rfl, HSTEP.out, ?_⟩
            exact gr_new (gr_drew (gr_new hgr hSi _)) hBi _
        · obtain rfl : n = t := by omega
          have hall : msk J (O5.take n) = J := msk_all J _ (fun i hi => by
            rw [List.take_of_length_le (by rw [HORD.out.len]; exact Nat.le_refl _)]
            exact (HORD.out.mem _).2 ⟨by omega, by rw [HN.out] at hi; omega⟩)
          have hfair := HFA.out.fair
          rw [hall] at hfair
          have HFAIR := Lib.hid hfair
          clear hall hfair
          go_wp2_with (fail)
          go_ret2
          exact ⟨_, Q, rfl, own_base HS'.out hgr5.size, HFA.out.days, HFAIR.out, gr_trans hgr5 hgr⟩
end Go.Proofs.Ytdjnomeabadbnaa
