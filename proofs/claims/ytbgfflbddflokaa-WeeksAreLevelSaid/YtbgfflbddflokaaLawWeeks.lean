/- The walk of WeeksAreLevel. -/
import Derived.Test.YtbgfflbddflokaaWkDays
import Derived.Test.YtbgfflbddflokaaWkFair
import Derived.Test.YtbgfflbddflokaaWkMove
import Derived.Test.YtbgfflbddflokaaWkRounds
namespace Go.Proofs.Ytbgfflbddflokaa
open Go.RowKit

theorem max_at (a : Option Addr) (L : List Int) (n c : Nat) (M : Int) (w : World) (hc : CellsAt w a (ints L)) (hn : L.length = n) (h0 : 0 < n) (hl : n ≤ 1000000) (hM : IsTop L M) :
    Calls Try.prog 49 #[.slice a n c] w fun e w' => e = .returned (.int .i64 M) ∧ w' = w :=
  (max_any a L n c w hc hn h0 hl).mono (by
    rintro e w' ⟨⟨N, rfl, hN⟩, rfl⟩
    rw [hN.uniq hM]
    exact ⟨rfl, rfl⟩)
set_option maxRecDepth 100000 in
theorem total_at (a : Option Addr) (L : List Int) (n c : Nat) (w : World) (hc : CellsAt w a (ints L)) (hn : L.length = n) (hl : n ≤ 1000) (hb : ∀ x ∈ L, -1000000 ≤ x ∧ x ≤ 1000000) :
    Calls Try.prog 17 #[.slice a n c] w fun e w' => e = .returned (.int .i64 L.sum) ∧ w' = w := by
  have HN := Lib.hid hn
  have hlast : L.take n = L := List.take_of_length_le (by omega)
  have HLAST := Lib.hid hlast
  have HB := Lib.hid (sum_bound L (-1000000) 1000000 (by omega) (by omega) hb)
  have HNX := Lib.hid (sum_next L)
  have HBB := Lib.hid hb
  clear hn hlast hb
  go_enter Try.func17, Try.ntmps17
  go_wp2_with (fail)
  go_loop [3, 8] (fun s i => ∃ k : Nat, k ≤ n ∧ i = .int .i64 k ∧ s = .int .i64 ((L.take k).sum)) (fun _ i => n - (intOf i).toNat)
  case atStart => exact ⟨0, by omega, rfl, rfl⟩
  case round =>
    obtain ⟨k, hk, rfl, rfl⟩ := hrel
    by_cases hlt : k < n
    · obtain ⟨b2, o2, rfl, dk⟩ := hc k _ (ints_get L k (by rw [HN.out]; exact hlt))
      have h1 := HB.out k
      have h2 := HBB.out _ (get_mem L k 0 (by rw [HN.out]; exact hlt))
      have hnx := HNX.out k (by rw [HN.out]; exact hlt)
      obtain ⟨x, hx⟩ : ∃ x, x = L.getD k 0 := ⟨_, rfl⟩
      obtain ⟨s, hs⟩ : ∃ s, s = (L.take k).sum := ⟨_, rfl⟩
      rw [← hx] at dk h2 hnx
      rw [← hs] at h1 hnx
      rw [← hs]
      have HX := Lib.hid hnx
      clear hx hs hnx
      go_wp2_with (fail)
      go_round
      case rel => exact ⟨k + 1, by omega, by go_num, by rw [HX.out]⟩
      case measure => simp [intOf]; omega
    · obtain rfl : n = k := by omega
      go_wp2_with (fail)
      go_ret
      exact ⟨ret_int (by rw [HLAST.out]), rfl⟩
/-- The check of the first statement: which ways it goes. -/
theorem top_cons {L : List Int} {M : Int} (h : IsTop (0 :: L) M) : 0 ≤ M ∧ ∀ x ∈ L, x ≤ M := ⟨h.2 0 (by simp), fun x hx => h.2 x (by simp [hx])⟩

set_option maxRecDepth 100000 in
set_option maxHeartbeats 16000000 in
theorem weeks_any (l : List Int) (a : Option Addr) (cap : Nat) (w : World) (hc : CellsAt w a (ints l)) (hl : l.length ≤ 9223372036854775807) :
    Calls Try.prog 6 #[.slice a l.length cap] w fun e w' => e = .returned (.bool true) ∧ w.grownBy w' none := by
  have hs0 := StreamAt.made cap hc hl
  obtain ⟨w1, hw1⟩ : ∃ w1, w1 = w.alloc (.cells #[.slice a l.length cap, .int .i64 0] 25) := ⟨_, rfl⟩
  have hgw1 : w.grownBy w1 none := by rw [hw1]; exact gr_alloc (gr_refl w none) _
  have hs1 : StreamAt w1 w.heap.size w.heap.size l 0 := by rw [hw1]; exact hs0
  clear hc hs0
  go_enter Try.func6, Try.ntmps6
  go_wp2_with (fail)
  rw [← hw1]
  clear hw1
  obtain ⟨p, hp⟩ : ∃ p, p = w.heap.size := ⟨_, rfl⟩
  have hpw : w.heap.size ≤ p := by omega
  rw [← hp] at hs1 ⊢
  clear hp
  refine (wkWeek_any l 0 7 p w1 hs1 (by omega) (by omega)).mono ?_
  rintro e w2 ⟨v, rfl, hown2, hs2, hg2⟩
  have hnl := wkJ_len l 0 7
  have hDr := wkD_range l 0 7
  have hkr := (wkK_le l 0 7).2
  obtain ⟨J, hJe⟩ : ∃ J, J = wkJ l 0 7 := ⟨_, rfl⟩
  obtain ⟨D, hDe⟩ : ∃ D, D = wkD l 0 7 := ⟨_, rfl⟩
  obtain ⟨k2, hke⟩ : ∃ k2, k2 = wkK l 0 7 := ⟨_, rfl⟩
  rw [← hJe] at hown2 hnl
  rw [← hDe] at hDr ⊢
  rw [← hke] at hs2 hkr
  obtain ⟨n, hn⟩ : ∃ n, n = J.length := ⟨_, rfl⟩
  rw [← hn] at hown2 hnl
  obtain ⟨va, vc, rfl, _, _, hcJ2, hvn2⟩ := own_shape hown2
  have hgr2 := gr_grown hgw1 hg2 (fun k e => by cases e; exact hpw)
  have hlt1 := hs1.lt
  have hb3 := heap_alloc_new w2 (.cells #[.slice va n vc, .int .i64 D] 79)
  obtain ⟨w3, hw3⟩ : ∃ w3, w3 = w2.alloc (.cells #[.slice va n vc, .int .i64 D] 79) := ⟨_, rfl⟩
  have hg3 : w2.grownBy w3 none := by rw [hw3]; exact gr_alloc (gr_refl w2 none) _
  rw [← hw3] at hb3
  have hs3 := hs2.keep0 hg3
  have hown3 := own_keep0 hown2 hg3
  have hgr3 := gr_trans hgr2 hg3
  obtain ⟨b0, b1, _, _⟩ := blk2 hb3
  have hps : p < w2.heap.size := hs2.lt
  have hP3 := lt_of_block hb3
  have HN := Lib.hid hn
  clear hJe hDe hke hn hb3 hs1 hs2 hg2 hgr2 hown2 hcJ2 hvn2 hg3
  go_wp2_with (fail)
  rw [← hw3]
  clear hw3
  refine (jobDays_any l k2 p va n vc D w3 hs3 (by omega) (by omega) (by omega) (by omega)).mono ?_
  rintro e w5 ⟨qv, Q, rfl, hownQ, hQl, hg5⟩
  have hownJ := own_keepS hown3 hg5 hlt1
  have c0 := hg5.cell b0 (by simp; omega)
  have c1 := hg5.cell b1 (by simp; omega)
  have hP5 := lt_of_cell c0
  have hgr5 := gr_grown hgr3 hg5 (fun k e => by cases e; exact hpw)
  obtain ⟨qn, hqn⟩ : ∃ qn, qn = Q.length := ⟨_, rfl⟩
  rw [← hqn] at hownQ hQl
  have hqnil : ∀ qa qc, qv = .slice qa qn qc → qa = none → qn = 0 ∧ qc = 0 := fun qa qc e => by subst e; exact own_nil hownQ
  obtain ⟨qa, qc, rfl, _, _, hcQ, _⟩ := own_shape hownQ
  have hqnil' := hqnil qa qc rfl
  have hcJ : CellsAt w5 va (ints J) := by
    obtain ⟨_, _, he, _, _, hcc, _⟩ := own_shape hownJ
    cases he
    exact hcc
  have HQN := Lib.hid hqn
  have HNIL := Lib.hid hqnil'
  clear hqn hqnil hqnil' hownJ hownQ b0 b1 hs3 hown3 hg5 hgr3 hP3
  obtain ⟨fw, hfw⟩ : ∃ fw, fw = badWeek D J := ⟨_, rfl⟩
  have WF := Lib.hid (weekFault_any va J vc D w5 hcJ (by have := HN.out; omega))
  rw [← hfw, ← HN.out] at WF
  by_cases hbw : fw = 0
  · rw [hbw] at hfw WF
    obtain ⟨hD1, hD7, _, hJok⟩ := badWeek_ok hfw.symm
    obtain ⟨Dn, rfl⟩ : ∃ Dn : Nat, D = (Dn : Int) := ⟨D.toNat, by omega⟩
    have hD1 : 1 ≤ Dn := by omega
    have hD7 : Dn ≤ 7 := by omega
    clear hfw hbw fw
    go_wp2_with (fail)
    refine WF.out.mono ?_
    rintro e w6 ⟨rfl, hg6⟩
    have d0 := (gr_cell hg6 hP5).trans c0
    have d1 := (gr_cell hg6 hP5).trans c1
    have hP6 := lt_of_cell d0
    have hgr6 := gr_trans hgr5 hg6
    obtain ⟨fd, hfd⟩ : ∃ fd, fd = badDays Dn J Q := ⟨_, rfl⟩
    have LF := Lib.hid (loadsFault_n n qn va J vc Dn qa Q qc w6 HN.out.symm HQN.out.symm (hcQ.keep0 hg6) (by have := HQN.out; omega))
    rw [← hfd] at LF
    have hn8 : ¬ 8 < (n : Int) := by omega
    have hn8b : decide (8 < (n : Int)) = false := decide_eq_false hn8
    have hn8c : decide (8 < n) = false := decide_eq_false (by omega)
    by_cases hbd : fd = 0
    · rw [hbd] at hfd LF
      have hQok : DaysOk Dn n Q := badDays_ok HN.out.symm hfd.symm
      have hqnn : n = qn := by rw [HQN.out]; exact hQok.len.symm
      subst hqnn
      have HQOK := Lib.hid hQok
      clear hfd hbd fd hQok
      go_wp2_with (fail)
      refine LF.out.mono ?_
      rintro e w7 ⟨rfl, hg7⟩
      have e07 := (gr_cell hg7 hP6).trans d0
      have e17 := (gr_cell hg7 hP6).trans d1
      have hP7 := lt_of_cell e07
      have hcJ7 := hcJ.keep0 (gr_trans hg6 hg7)
      have hcQ7 := hcQ.keep0 (gr_trans hg6 hg7)
      have hgr7 := gr_trans hgr6 hg7
      obtain ⟨lg, hlg⟩ := top_exists (0 :: J) (by simp)
      obtain ⟨hlg0, hlgJ⟩ := top_cons hlg
      have hlgi : ∀ i, J.getD i 0 ≤ lg := fun i => by
        by_cases hi : i < J.length
        · exact hlgJ _ (get_mem J i 0 hi)
        · rw [List.getD_eq_getElem?_getD, List.getElem?_eq_none (by omega)]; exact hlg0
      have HLGI := Lib.hid hlgi
      have HLG := Lib.hid hlg
      have hlg4 : lg ≤ 10000 := by
        rcases List.mem_cons.1 hlg.1 with h | h
        · omega
        · exact (hJok lg h).2
      clear hlgi hlg hlgJ d0 d1 hP6 hg7 hg6 hgr6 WF LF c0 c1 hP5 hgr5 hcJ hcQ
      go_wp2_with (fail)
      refine (level_any n Dn va J vc w7 hcJ7 HN.out.symm (by omega) hJok hD1 hD7).mono ?_
      rintro e w8 ⟨lv, lb, load, rfl, hlown, hlok, hltop, hleast, hg8⟩
      have e08 := (gr_cell hg8 hP7).trans e07
      have e18 := (gr_cell hg8 hP7).trans e17
      have hP8 := lt_of_cell e08
      have hcJ8 := hcJ7.keep0 hg8
      have hcQ8 := hcQ7.keep0 hg8
      have hgr8 := gr_trans hgr7 hg8
      obtain ⟨la, lc, rfl, _, _, hcL8, _⟩ := own_shape hlown
      have HLOK := Lib.hid hlok
      have HLTOP := Lib.hid hltop
      have HLEAST := Lib.hid hleast
      clear hlown hlok hltop hleast
      clear e07 e17 hP7 hcJ7 hcQ7 hgr7
      go_wp2_with (fail)
      refine (fair_any n Dn va J vc lg w8 hcJ8 HN.out.symm (by omega) hJok hD1 hD7 hlg0 HLGI.out).mono ?_
      rintro e w9 ⟨fv, fb, rfl, hfown, hfok, hffair, hg9⟩
      have e09 := (gr_cell hg9 hP8).trans e08
      have e19 := (gr_cell hg9 hP8).trans e18
      have hP9 := lt_of_cell e09
      have hcJ9 := hcJ8.keep0 hg9
      have hcQ9 := hcQ8.keep0 hg9
      have hgr9 := gr_trans hgr8 hg9
      obtain ⟨fa, fc, rfl, _, _, hcF9, _⟩ := own_shape hfown
      have HFOK := Lib.hid hfok
      have HFF := Lib.hid hffair
      have hcL9 := hcL8.keep0 hg9
      clear hfown hfok hffair hcL8
      clear e08 e18 hP8 hcJ8 hcQ8 hgr8
      go_wp2_with (fail)
      refine (loads_any n Dn va J vc qa Q qc w9 hcJ9 hcQ9 HN.out.symm (by omega) hJok HQOK.out hD1 hD7).mono ?_
      rintro e w10 ⟨ga, rfl, haown, hg10⟩
      have e010 := (gr_cell hg10 hP9).trans e09
      have e110 := (gr_cell hg10 hP9).trans e19
      have hP10 := lt_of_cell e010
      have hcJ10 := hcJ9.keep0 hg10
      have hcQ10 := hcQ9.keep0 hg10
      have hgr10 := gr_trans hgr9 hg10
      have hcA10 : CellsAt w10 (some ⟨ga, 0, none⟩) (ints (ldL J Q Dn n)) := by
        obtain ⟨_, _, he, _, _, hcc, _⟩ := own_shape haown
        cases he
        exact hcc
      have hcL10 := hcL9.keep0 hg10
      have hcF10 := hcF9.keep0 hg10
      have hga := (haown.lt ga rfl).2
      clear haown hcL9 hcF9
      clear e09 e19 hP9 hcJ9 hcQ9 hgr9
      go_wp2_with (fail)
      refine (loads_any n Dn va J vc fa fb fc w10 hcJ10 hcF10 HN.out.symm (by omega) hJok HFOK.out hD1 hD7).mono ?_
      rintro e w11 ⟨gb, rfl, hbown, hg11⟩
      have e011 := (gr_cell hg11 hP10).trans e010
      have e111 := (gr_cell hg11 hP10).trans e110
      have hP11 := lt_of_cell e011
      have hcJ11 := hcJ10.keep0 hg11
      have hcQ11 := hcQ10.keep0 hg11
      have hgr11 := gr_trans hgr10 hg11
      have hcB11 : CellsAt w11 (some ⟨gb, 0, none⟩) (ints (ldL J fb Dn n)) := by
        obtain ⟨_, _, he, _, _, hcc, _⟩ := own_shape hbown
        cases he
        exact hcc
      have hcL11 := hcL10.keep0 hg11
      have hcA11 := hcA10.keep0 hg11
      clear hbown hcL10 hcF10 hcA10
      clear e010 e110 hP10 hcJ10 hcQ10 hgr10
      go_wp2_with (fail)
      refine (loads_any n Dn va J vc la lb lc w11 hcJ11 hcL11 HN.out.symm (by omega) hJok HLOK.out hD1 hD7).mono ?_
      rintro e w12 ⟨gc, rfl, hcown, hg12⟩
      have e012 := (gr_cell hg12 hP11).trans e011
      have e112 := (gr_cell hg12 hP11).trans e111
      have hP12 := lt_of_cell e012
      have hcJ12 := hcJ11.keep0 hg12
      have hcQ12 := hcQ11.keep0 hg12
      have hgr12 := gr_trans hgr11 hg12
      have hcC12 : CellsAt w12 (some ⟨gc, 0, none⟩) (ints (ldL J lb Dn n)) := by
        obtain ⟨_, _, he, _, _, hcc, _⟩ := own_shape hcown
        cases he
        exact hcc
      have hcB12 := hcB11.keep0 hg12
      have hcA12 := hcA11.keep0 hg12
      clear hcown hcL11 hcB11 hcA11
      clear e011 e111 hP11 hcJ11 hcQ11 hgr11
      go_wp2_with (fail)
      refine (move_any n Dn 50 va J vc qa Q qc w12 hcJ12 hcQ12 HNIL.out HN.out.symm (by omega) hJok HQOK.out hD1 hD7 (by omega)).mono ?_
      rintro e w13 ⟨mv, mb, mk, rfl, hmown, hmok, hmtop, hmsq, hg13⟩
      have e013 := (gr_cell hg13 hP12).trans e012
      have e113 := (gr_cell hg13 hP12).trans e112
      have hP13 := lt_of_cell e013
      have hcJ13 := hcJ12.keep0 hg13
      have hcQ13 := hcQ12.keep0 hg13
      have hgr13 := gr_trans hgr12 hg13
      obtain ⟨ma, mc, rfl, _, _, hcM13, _⟩ := own_shape hmown
      have HMOK := Lib.hid hmok
      have HMTOP := Lib.hid hmtop
      have HMSQ := Lib.hid hmsq
      have hcC13 := hcC12.keep0 hg13
      have hcB13 := hcB12.keep0 hg13
      have hcA13 := hcA12.keep0 hg13
      clear hmown hmok hmtop hmsq hcC12 hcB12 hcA12
      clear e012 e112 hP12 hcJ12 hcQ12 hgr12
      go_wp2_with (fail)
      refine (loads_any n Dn va J vc ma mb mc w13 hcJ13 hcM13 HN.out.symm (by omega) hJok HMOK.out hD1 hD7).mono ?_
      rintro e w14 ⟨gk, rfl, hkown, hg14⟩
      have e014 := (gr_cell hg14 hP13).trans e013
      have e114 := (gr_cell hg14 hP13).trans e113
      have hP14 := lt_of_cell e014
      have hcJ14 := hcJ13.keep0 hg14
      have hcQ14 := hcQ13.keep0 hg14
      have hgr14 := gr_trans hgr13 hg14
      have hcK14 : CellsAt w14 (some ⟨gk, 0, none⟩) (ints (ldL J mb Dn n)) := by
        obtain ⟨_, _, he, _, _, hcc, _⟩ := own_shape hkown
        cases he
        exact hcc
      have hcC14 := hcC13.keep0 hg14
      have hcB14 := hcB13.keep0 hg14
      have hcA14 := hcA13.keep0 hg14
      clear hkown hcC13 hcB13 hcA13 hcM13
      clear e013 e113 hP13 hcJ13 hcQ13 hgr13
      have HCA := Lib.hid hcA14
      have HCB := Lib.hid hcB14
      have HCC := Lib.hid hcC14
      have HCK := Lib.hid hcK14
      clear hcA14 hcB14 hcC14 hcK14 hcQ14 hg8 hg9 hg10 hg11 hg12 hg13 hg14
      go_wp2_with (fail)
      go_loop [22, 121] (fun s i => ∃ (k : Nat) (M : Int), k ≤ n ∧ i = .int .i64 k ∧ s = .int .i64 M ∧ IsTop (0 :: J.take k) M) (fun _ i => n - (intOf i).toNat)
      case atStart => exact ⟨0, 0, by omega, rfl, rfl, ⟨by simp, fun x hx => by simp at hx; omega⟩⟩
      case round =>
        obtain ⟨k, M, hk, rfl, rfl, hM⟩ := hrel
        have HM := Lib.hid hM
        clear hM
        by_cases hkn : k < n
        · obtain ⟨jb, jo, rfl, dj⟩ := hcJ14 k _ (ints_get J k (by rw [← HN.out]; exact hkn))
          have htn := top_next HM.out (J.getD k 0)
          rw [List.cons_append, ← take_nextD J k (by rw [← HN.out]; exact hkn)] at htn
          obtain ⟨x, hx⟩ : ∃ x, x = J.getD k 0 := ⟨_, rfl⟩
          rw [← hx] at dj htn
          have HTN := Lib.hid htn
          clear htn hx
          by_cases hMx : M < x
          · have HTN2 : Hid (IsTop (0 :: J.take (k + 1)) x) := by have := HTN.out; rwa [if_pos hMx] at this
            go_wp2_with (fail)
            go_round
            case rel => exact ⟨k + 1, x, by omega, by go_num, rfl, HTN2.out⟩
            case measure => simp [intOf]; omega
          · have HTN2 : Hid (IsTop (0 :: J.take (k + 1)) M) := by have := HTN.out; rwa [if_neg hMx] at this
            go_wp2_with (fail)
            go_round
            case rel => exact ⟨k + 1, M, by omega, by go_num, rfl, HTN2.out⟩
            case measure => simp [intOf]; omega
        · obtain rfl : n = k := by omega
          obtain rfl : M = lg := by
            have h1 := HM.out
            rw [List.take_of_length_le (by rw [← HN.out]; exact Nat.le_refl _)] at h1
            exact h1.uniq HLG.out
          obtain ⟨TA, hTA⟩ := top_exists (ldL J Q Dn n) (by rw [ldL_len]; omega)
          obtain ⟨TB, hTB⟩ := top_exists (ldL J fb Dn n) (by rw [ldL_len]; omega)
          have hA := HLEAST.out Q TA HQOK.out hTA
          have hB := HLEAST.out fb TB HFOK.out hTB
          have hK := HLEAST.out mb mk HMOK.out HMTOP.out
          have hTBb := ldL_bound hJok fb Dn n TB hTB.1
          have hfin : (TB - M) * (Dn : Int) ≤ J.sum := by
            obtain ⟨d, hd, hde⟩ := mem_get hTB.1 0
            rw [ldL_len] at hd
            have := HFF.out d hd
            rwa [hde] at this
          have MXA : Hid (∀ m, Calls Try.prog 49 #[.slice (some ⟨ga, 0, none⟩) Dn Dn] (w14.drewN m) fun e w' => e = .returned (.int .i64 TA) ∧ w' = w14.drewN m) := fun m => max_at _ _ Dn Dn TA _ (HCA.out.keep0 (gr_drewN (gr_refl _ _) _)) (ldL_len J Q Dn n) (by omega) (by omega) hTA
          have MXB : Hid (∀ m, Calls Try.prog 49 #[.slice (some ⟨gb, 0, none⟩) Dn Dn] (w14.drewN m) fun e w' => e = .returned (.int .i64 TB) ∧ w' = w14.drewN m) := fun m => max_at _ _ Dn Dn TB _ (HCB.out.keep0 (gr_drewN (gr_refl _ _) _)) (ldL_len J fb Dn n) (by omega) (by omega) hTB
          have MXC : Hid (∀ m, Calls Try.prog 49 #[.slice (some ⟨gc, 0, none⟩) Dn Dn] (w14.drewN m) fun e w' => e = .returned (.int .i64 load) ∧ w' = w14.drewN m) := fun m => max_at _ _ Dn Dn load _ (HCC.out.keep0 (gr_drewN (gr_refl _ _) _)) (ldL_len J lb Dn n) (by omega) (by omega) HLTOP.out
          have MXK : Hid (∀ m, Calls Try.prog 49 #[.slice (some ⟨gk, 0, none⟩) Dn Dn] (w14.drewN m) fun e w' => e = .returned (.int .i64 mk) ∧ w' = w14.drewN m) := fun m => max_at _ _ Dn Dn mk _ (HCK.out.keep0 (gr_drewN (gr_refl _ _) _)) (ldL_len J mb Dn n) (by omega) (by omega) HMTOP.out
          have TOT : Hid (∀ m, Calls Try.prog 17 #[.slice va n vc] (w14.drewN m) fun e w' => e = .returned (.int .i64 J.sum) ∧ w' = w14.drewN m) := fun m => total_at va J n vc _ (hcJ14.keep0 (gr_drewN (gr_refl _ _) _)) HN.out.symm (by omega) (fun x hx => by have := hJok x hx; omega)
          have hpb : -26000000000 ≤ (TB - M) * (Dn : Int) ∧ (TB - M) * (Dn : Int) ≤ 26000000000 := by
            have := wkProd_bound (x := (Dn : Int)) (y := TB - M) (by omega) (by omega) (by omega) (by omega)
            rwa [Int.mul_comm] at this
          have hw1 : IntKind.i64.wrap (TB - M) = TB - M := IntWalk.i64_in _ (by omega)
          have hw2 : IntKind.i64.wrap ((TB - M) * (Dn : Int)) = (TB - M) * (Dn : Int) := IntWalk.i64_in _ (by omega)
          have g1 : decide (TA < load) = false := decide_eq_false (by omega)
          have g2 : decide (TB < load) = false := decide_eq_false (by omega)
          have g3 : decide (mk < load) = false := decide_eq_false (by omega)
          have g4 : decide (J.sum < (TB - M) * (Dn : Int)) = false := decide_eq_false (by omega)
          have g5 : (load != load) = false := by simp
          have g6 : (mk != mk) = false := by simp
          have HTA := Lib.hid hTA
          clear hTA hTB hA hB hK hTBb hfin hpb
          go_wp2_with (fail)
          go_quiet ((first
            | (go_at_call 49; first | (with_reducible exact Calls.quiet_of_same (MXC.out _)) | (with_reducible exact Calls.quiet_of_same (MXA.out _)) | (with_reducible exact Calls.quiet_of_same (MXB.out _)) | (with_reducible exact Calls.quiet_of_same (MXK.out _)) | fail)
            | (go_at_call 17; exact Calls.quiet_of_same (TOT.out _))))
          clear hw1 hw2
          go_wp2_with (fail)
          refine (rounds_any _).mono ?_
          rintro e w15 ⟨rfl, hg15⟩
          have hg15' := gr_trans (gr_drewN (gr_refl w14 none) _) hg15
          have HG15 := Lib.hid hg15'
          have hsq : decide (sq (ldL J mb Dn n) ≤ sq (ldL J Q Dn n)) = true := decide_eq_true HMSQ.out
          have hsq' := HMSQ.out
          have SK := Lib.hid (squares_any (some ⟨gk, 0, none⟩) (ldL J mb Dn n) Dn Dn w15 (HCK.out.keep0 hg15') (ldL_len J mb Dn n) (by omega) (fun x hx => by have := ldL_bound hJok mb Dn n x hx; omega))
          have SA := Lib.hid (squares_any (some ⟨ga, 0, none⟩) (ldL J Q Dn n) Dn Dn w15 (HCA.out.keep0 hg15') (ldL_len J Q Dn n) (by omega) (fun x hx => by have := ldL_bound hJok Q Dn n x hx; omega))
          obtain ⟨sk, hsk⟩ : ∃ sk, sk = sq (ldL J mb Dn n) := ⟨_, rfl⟩
          obtain ⟨sa, hsa⟩ : ∃ sa, sa = sq (ldL J Q Dn n) := ⟨_, rfl⟩
          rw [← hsk] at SK hsq hsq'
          rw [← hsa] at SA hsq hsq'
          clear hsk hsa hg15 hg15'
          go_wp2_with (fail)
          refine SK.out.mono ?_
          rintro e w16 ⟨rfl, rfl⟩
          go_wp2_with (fail)
          refine SA.out.mono ?_
          rintro e w16 ⟨rfl, rfl⟩
          go_wp2_with (fail)
          go_ret
          exact ⟨ret_bool (by simp), gr_trans hgr14 HG15.out⟩
    · have hbn : (fd != 0) = true := by simpa using hbd
      clear hfd
      go_wp2_with (fail)
      refine LF.out.mono ?_
      rintro e w7 ⟨rfl, hg7⟩
      go_wp2_with (fail)
      refine (rounds_any w7).mono ?_
      rintro e w8 ⟨rfl, hg8⟩
      go_wp2_with (fail)
      go_ret
      exact ⟨rfl, gr_trans (gr_trans hgr6 hg7) hg8⟩
  · have hbn : (fw != 0) = true := by simpa using hbw
    clear hfw
    go_wp2_with (fail)
    refine WF.out.mono ?_
    rintro e w6 ⟨rfl, hg6⟩
    go_wp2_with (fail)
    refine (rounds_any w6).mono ?_
    rintro e w8 ⟨rfl, hg8⟩
    go_wp2_with (fail)
    go_ret
    exact ⟨rfl, gr_trans (gr_trans hgr5 hg6) hg8⟩
end Go.Proofs.Ytbgfflbddflokaa
