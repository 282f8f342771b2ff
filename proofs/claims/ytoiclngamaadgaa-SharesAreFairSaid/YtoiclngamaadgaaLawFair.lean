/- The walk of SharesAreFair. -/
import Derived.Test.YtoiclngamaadgaaShares
import Derived.Test.YtoiclngamaadgaaTierRow
import Derived.Test.YtoiclngamaadgaaEven
import Derived.Test.YtoiclngamaadgaaTotal
namespace Go.Proofs.Ytoiclngamaadgaa
open Go.RowKit
attribute [local go_sem ↓] Go.wp_at_zero Go.wp_at_succ

theorem row_c {w : World} {base e size n cap : Nat} {a : Option Addr} {xs : List Value} (h : w.ownsRow base e size (.slice a n cap) n xs) : CellsAt w a xs := by
  obtain ⟨_, _, e, _, _, hc, _⟩ := own_shape h
  cases e
  exact hc
theorem row_cap {w : World} {base e size n cap : Nat} {a : Option Addr} {xs : List Value} (h : w.ownsRow base e size (.slice a n cap) n xs) : n ≤ cap := by
  obtain ⟨_, _, e, h1, _, hc, _⟩ := own_shape h
  cases e
  exact h1
theorem evenM_bd (g d : Int) (h0 : 0 ≤ g) (hd : 0 < d) : 0 ≤ evenM g d ∧ evenM g d ≤ g + 1 := by
  have q0 : 0 ≤ g / d := Int.ediv_nonneg h0 (by omega)
  have q1 : g / d ≤ g := Int.ediv_le_self _ h0
  unfold evenM
  split <;> omega
theorem net_zero (g : Int) (w : World) (h0 : 0 ≤ g) (h1 : g ≤ 1000000000) :
    Calls Try.prog 16 #[.int .i64 g, .int .i64 0] w fun e w' => e = .returned (.tuple #[.int .i64 g, .int .i64 0, .int .i64 0]) ∧ w = w' := by
  refine (net_any g 0 w h0 h1 (by decide) (by decide)).mono ?_
  rintro e w1 ⟨rfl, rfl⟩
  rw [show (10000 + 0 : Int) = 10000 from rfl, evenM_exact g 10000 (by decide), Int.sub_self]
  exact ⟨rfl, rfl⟩
theorem SharesOf.bd {tot : Int} {p : List Nm} {P : List Int} (h : SharesOf tot p P) (hf : FitN p) (h0 : 0 ≤ tot) (x : Int) (hx : x ∈ P) : 0 ≤ x ∧ x ≤ tot + 1 := by
  obtain ⟨Z, Q, z1, z2, z3, z4⟩ := h.ex
  obtain ⟨i, hi, rfl⟩ := List.getElem_of_mem hx
  have hi2 : i < p.length := by rw [← h.len]; exact hi
  obtain ⟨k, hk, ek⟩ := List.getElem_of_mem (z1.mem_iff.2 (List.getElem_mem hi2))
  have e := z4 i k hi2 hk ek
  rw [getD_eq P i 0 hi] at e
  rw [e]
  have hfz : FitW (Z.map Nm.many) := hf.fit.perm (z1.symm.map _)
  have hk2 : k < (Z.map Nm.many).length := by simpa using hk
  have he := z3.each k hk2
  have hq : (quoL tot (Z.map Nm.many).sum (Z.map Nm.many)).getD k 0 = quoT tot (Z.map Nm.many).sum (Z.map Nm.many)[k] := by
    unfold quoL
    rw [getD_eq _ k 0 (by simpa using hk), List.getElem_map]
  have hm : (Z.map Nm.many)[k] ∈ Z.map Nm.many := List.getElem_mem hk2
  have hw := hfz.each _ hm
  have hr := quo_rem h0 hfz.sum hw.1
  have hl := quoT_le h0 hfz.sum hw.1 (mem_le_sum _ (fun x hx => (hfz.each x hx).1) _ hm)
  rw [hq] at he
  omega
set_option maxRecDepth 100000 in
set_option maxHeartbeats 8000000 in
theorem sharesAreFair_any (l : List Int) (a : Option Addr) (cap : Nat) (w : World) (hc : CellsAt w a (ints l)) (hl : l.length ≤ 9223372036854775807) :
    Calls Try.prog 3 #[.slice a l.length cap] w fun e w' => e = .returned (.bool true) ∧ w.grownBy w' none := by
  have hs0 := StreamAt.made cap hc hl
  have hg0 : w.grownBy (w.alloc (.cells #[.slice a l.length cap, .int .i64 0] 25)) none := gr_alloc (gr_refl _ _) _
  obtain ⟨w0, hw0⟩ : ∃ w0, w0 = w.alloc (.cells #[.slice a l.length cap, .int .i64 0] 25) := ⟨_, rfl⟩
  have hz0 : w0.heap.size = w.heap.size + 1 := by rw [hw0]; simp
  rw [← hw0] at hs0 hg0
  have HW0 := Lib.hid hw0
  clear hw0 hc
  go_enter Try.func3, Try.ntmps3
  go_wp2_with (fail)
  rw [← HW0.out]
  refine (partners_any l 0 _ w0 hs0 (by omega)).mono ?_
  rintro e w1 ⟨v1, N, rfl, own1, hN5, hNsm, ⟨q1, hq1, hs1⟩, hg1⟩
  have G1 := Lib.hid (gr_grown hg0 hg1 (fun k e => by cases e; omega))
  obtain ⟨va, vc, rfl, -, -, -, -⟩ := own_shape own1
  clear hs0 hg0
  go_wp2_with (fail)
  refine (next_any l q1 500 _ w1 hs1 (by omega) (by omega)).mono ?_
  rintro e w2 ⟨rfl, hs2, hg2⟩
  have hnx := nxt_range l q1 500 (by omega)
  obtain ⟨tot, htot⟩ : ∃ y, y = nxt l q1 500 := ⟨_, rfl⟩
  rw [← htot] at hnx
  rw [← htot]
  obtain ⟨ht0, ht1⟩ := hnx
  have G2 := Lib.hid (gr_grown G1.out hg2 (fun k e => by cases e; omega))
  have ON2 := Lib.hid (own_keepS own1 hg2 (by omega))
  have S2 := Lib.hid hs2
  have hw2p : w.heap.size < w2.heap.size := hs2.lt
  have HSM := Lib.hid (fun (x : Nm) (hx : x ∈ N) => show x.key.size ≤ 1000 by have := (hNsm x hx).1; omega)
  clear htot own1 hs1 hg1 hs2 hg2 hNsm G1
  go_wp2_with (fail)
  refine (shares_any tot N va vc w2 (row_c ON2.out) (by omega) (row_cap ON2.out) HSM.out ht0 (by omega)).mono ?_
  rintro e w3 ⟨hg3, h3⟩
  have S3 := Lib.hid (S2.out.keep0 hg3)
  have G3 := Lib.hid (gr_trans G2.out hg3)
  have ON3 := Lib.hid (own_keep0 ON2.out hg3)
  have hz3 := hg3.size
  have hz2 := G2.out.size
  clear hg3 ON2 S2
  rcases h3 with ⟨hnf, r, hr0, rfl⟩ | ⟨hfit, v3, P, rfl, o3, hP⟩
  · have hrb : (r == 0) = false := beq_eq_false_iff_ne.2 hr0
    clear hnf hr0 ON3 HSM G2
    go_wp2_with (fail)
    refine (tiers_any l (q1 + 1) _ w3 S3.out (by omega)).mono ?_
    rintro e t1 ⟨tv, T, rfl, ot1, hT5, ⟨u1, hu1, ts1⟩, tg1⟩
    have hzz := S3.out.lt
    have TG1 := Lib.hid (gr_grown G3.out tg1 (fun k e => by cases e; omega))
    obtain ⟨ta, tc, rfl, -, -, -, -⟩ := own_shape ot1
    go_wp2_with (fail)
    refine (next_any l u1 30000 _ t1 ts1 (by omega) (by omega)).mono ?_
    rintro e t2 ⟨rfl, ts2, tg2⟩
    have hsr := nxt_range l u1 30000 (by omega)
    obtain ⟨sa, hsa⟩ : ∃ y, y = nxt l u1 30000 := ⟨_, rfl⟩
    rw [← hsa] at hsr
    rw [← hsa]
    obtain ⟨sa0, sa1⟩ := hsr
    have TG2 := Lib.hid (gr_grown TG1.out tg2 (fun k e => by cases e; omega))
    have OT2 := Lib.hid (own_keepS ot1 tg2 (by omega))
    have TS2 := Lib.hid ts2
    clear hsa ot1 ts1 tg1 ts2 tg2 TG1
    go_wp2_with (fail)
    refine (tiersFault_any T ta tc t2 (row_c OT2.out) (by omega)).mono ?_
    rintro e t3 ⟨r, rfl, hrT, tg3⟩
    have TG3 := Lib.hid (gr_trans TG2.out tg3)
    have OT3 := Lib.hid (own_keep0 OT2.out tg3)
    have TS3 := Lib.hid (TS2.out.keep0 tg3)
    clear OT2 TS2 TG2 tg3
    by_cases hr : r = 0
    · have HTO := Lib.hid (hrT hr)
      subst hr
      clear hrT
      go_wp2_with (fail)
      refine (commission_ok T sa ta tc t3 (row_c OT3.out) HTO.out (by omega) (by omega)).mono ?_
      rintro e t4 ⟨rfl, tg4⟩
      have TG4 := Lib.hid (gr_trans TG3.out tg4)
      have OT4 := Lib.hid (own_keep0 OT3.out tg4)
      have TS4 := Lib.hid (TS3.out.keep0 tg4)
      clear TG3 OT3 TS3 tg4
      obtain ⟨A, hA⟩ : ∃ A, A = evenM (tierSum T sa T.length) 10000 := ⟨_, rfl⟩
      rw [← hA]
      have HA := Lib.hid hA
      clear hA
      go_wp2_with (fail)
      refine (next_any l (u1 + 1) 500 _ t4 TS4.out (by omega) (by omega)).mono ?_
      rintro e t5 ⟨rfl, ts5, tg5⟩
      have hsr := nxt_range l (u1 + 1) 500 (by omega)
      obtain ⟨sb, hsb⟩ : ∃ y, y = nxt l (u1 + 1) 500 := ⟨_, rfl⟩
      rw [← hsb] at hsr
      rw [← hsb]
      obtain ⟨sb0, sb1⟩ := hsr
      have TG5 := Lib.hid (gr_grown TG4.out tg5 (fun k e => by cases e; omega))
      have OT5 := Lib.hid (own_keepS OT4.out tg5 (by omega))
      have TS5 := Lib.hid ts5
      clear hsb ts5 tg5 TG4 OT4 TS4
      go_wp2_with (fail)
      refine (commission_ok T (sa + sb) ta tc t5 (row_c OT5.out) HTO.out (by omega) (by omega)).mono ?_
      rintro e t6 ⟨rfl, tg6⟩
      have TG6 := Lib.hid (gr_trans TG5.out tg6)
      have TS6 := Lib.hid (TS5.out.keep0 tg6)
      clear TG5 OT5 TS5 tg6
      obtain ⟨B, hB⟩ : ∃ B, B = evenM (tierSum T (sa + sb) T.length) 10000 := ⟨_, rfl⟩
      rw [← hB]
      have hAB : A ≤ B := by rw [HA.out, hB]; exact evenM_mono (tierSum_mono HTO.out.rate (by omega) _) (by decide)
      have dAB : decide (A ≤ B) = true := decide_eq_true hAB
      clear HA hB
      go_wp2_with (fail)
      refine (pick_any l (u1 + 1 + 1) [0, 700, 1900] _ t6 TS6.out (by omega) (by decide) (by decide)).mono ?_
      rintro e t7 ⟨rfl, ts7, tg7⟩
      have hmm := pickM_mem l (u1 + 1 + 1) [0, 700, 1900] (by decide)
      obtain ⟨rt, hrt⟩ : ∃ y, y = pickM l (u1 + 1 + 1) [0, 700, 1900] := ⟨_, rfl⟩
      rw [← hrt] at hmm
      rw [← hrt]
      simp only [List.mem_cons, List.not_mem_nil, or_false] at hmm
      have TG7 := Lib.hid (gr_grown TG6.out tg7 (fun k e => by cases e; omega))
      clear hrt ts7 tg7 TG6 TS6
      have rt0 : 0 ≤ rt := by omega
      have rt1 : rt ≤ 10000 := by omega
      clear hmm
      obtain ⟨x0, x1⟩ := evenM_bd (sa * 10000) (10000 + rt) (by omega) (by omega)
      have ZN := Lib.hid (net_zero sa t7 sa0 (by omega))
      go_wp2_with (fail)
      refine (net_any sa rt t7 (by omega) (by omega) rt0 rt1).mono ?_
      rintro e t8 ⟨rfl, rfl⟩
      obtain ⟨X, hX⟩ : ∃ X, X = evenM (sa * 10000) (10000 + rt) := ⟨_, rfl⟩
      rw [← hX] at x0 x1
      rw [← hX]
      clear hX
      have eX : ((X + (sa - X)) == sa) = true := by simp; omega
      have eX2 : X + (sa - X) = sa := by omega
      obtain ⟨Y, hY⟩ : ∃ Y, Y = sa - X := ⟨_, rfl⟩
      rw [← hY] at eX eX2
      rw [← hY]
      have hY0 : -300000000 ≤ Y ∧ Y ≤ 300000000 := by omega
      clear hY
      go_wp2_with (fail)
      refine ZN.out.mono ?_
      rintro e t9 ⟨rfl, rfl⟩
      go_wp2_with (fail)
      refine (tills_any t7).mono ?_
      rintro e t9 ⟨rfl, rfl⟩
      go_wp2_with (fail)
      go_ret
      exact ⟨rfl, TG7.out⟩
    · have hrb : (r == 0) = false := beq_eq_false_iff_ne.2 hr
      clear hrT
      go_wp2_with (fail)
      refine (tills_any t3).mono ?_
      rintro e t9 ⟨rfl, rfl⟩
      go_wp2_with (fail)
      go_ret
      exact ⟨rfl, TG3.out⟩
  · obtain ⟨xa, xc, rfl, -, -, -, -⟩ := own_shape o3
    have OX3 := Lib.hid o3
    have HFIT := Lib.hid hfit
    have HPS := Lib.hid hP
    clear o3 hfit hP G2
    go_wp2_with (fail)
    refine (order_any l (q1 + 1) N.length _ w3 S3.out (by omega) (by omega)).mono ?_
    rintro e w4 ⟨v4, L, rfl, o4, hL, hs4, hg4⟩
    have hw3p : w.heap.size < w3.heap.size := S3.out.lt
    have G4 := Lib.hid (gr_grown G3.out hg4 (fun k e => by cases e; omega))
    have ON4 := Lib.hid (own_keepS ON3.out hg4 (by omega))
    have OX4 := Lib.hid (own_keepS OX3.out hg4 (by omega))
    have S4 := Lib.hid hs4
    obtain ⟨oa, oc, rfl, -, -, -, -⟩ := own_shape o4
    have OL4 := Lib.hid o4
    have hLp : L.Perm (placesL N.length) := hL
    have hLl : L.length = N.length := by rw [hLp.length_eq, places_len]
    have HLL := Lib.hid hLl
    have HOM := Lib.hid (order_at hLp)
    have HPM := Lib.hid (sortedN_perm hLp)
    obtain ⟨M, hM⟩ : ∃ M, M = sortedN N L := ⟨_, rfl⟩
    rw [← hM] at HPM
    have hMl : M.length = N.length := HPM.out.length_eq
    have HML := Lib.hid hMl
    have HME := Lib.hid hM
    clear o4 hL hs4 hg4 hLp hLl G3 ON3 OX3 S3 hM hMl
    go_wp2_with (fail)
    go_loopw [8, 49] (fun v i wr => ∃ k : Nat, k ≤ N.length ∧ i = .int .i64 k ∧ wr.ownsRow w4.heap.size 34 2 v k (flat encNm (M.take k)) ∧ w4.grownBy wr none) (fun _ i _ => N.length - (intOf i).toNat)
    case atStart => exact ⟨0, Nat.zero_le _, rfl, World.ownsRow_nil _ _ _ _, gr_refl _ _⟩
    case round =>
      rename_i v _ _
      obtain ⟨k, hk, rfl, hV, hgr⟩ := hrel
      obtain ⟨wi, rfl⟩ : ∃ wi : World, wi = wr := ⟨_, rfl⟩
      by_cases hlt : k < N.length
      · have htO : k < L.length := by rw [HLL.out]; exact hlt
        obtain ⟨t, ht, hOt⟩ := HOM.out k htO
        obtain ⟨ob, oo, rfl, d0⟩ := ((row_c OL4.out).keep0 hgr) k _ (by rw [show (ints L)[k]? = _ from ints_at L k htO])
        rw [getD_eq L k 0 htO, hOt] at d0
        obtain ⟨b, off, rfl, d1, d2⟩ := nm_cells ((row_c ON4.out).keep0 hgr) t ht
        have htp : (t : Int) < (N.length : Int) := by omega
        have ht0' : (0 : Int) ≤ (t : Int) := by omega
        have NX : Hid (M.take (k + 1) = M.take k ++ [N[t]]) := by
          show _ = _
          rw [nm_snoc M k (by rw [HML.out]; exact hlt)]
          congr 2
          have e := HME.out
          subst e
          simp only [sortedN, List.getElem_map, hOt, Int.toNat_natCast, nmN_get ht]
        obtain ⟨x, hx⟩ : ∃ x, x = N[t] := ⟨_, rfl⟩
        rw [← hx] at d1 d2 NX
        obtain ⟨s, m⟩ := x
        simp only at d1 d2
        have hsz := hgr.size
        have HV := Lib.hid hV
        have HGR := Lib.hid hgr
        clear hV hgr hOt hx
        go_wp2_with (at_builtin; refine wpList_app1F eNm rfl _ _ rfl w4.heap.size _ k _ rfl wi #[.string s, .int .i64 m] rfl HV.out _ rfl rfl rfl rfl ?_ ?_ ?_; (· omega); (· omega); intro v6 w6 hown6 hg6 hlt6 hfr6)
        have ho6 : w6.ownsRow w4.heap.size 34 2 v6 (k + 1) (flat encNm (M.take (k + 1))) := by rw [NX.out, flat_append, flat_one]; exact hown6
        have HO6 := Lib.hid ho6
        have HG6 : Hid (w4.grownBy w6 none) := gr_grown HGR.out hg6 (fun q hq => hlt6 q hq)
        clear hown6 hg6 hlt6 hfr6 ho6
        go_wp2_with (fail)
        go_roundw
        case rel => exact ⟨k + 1, by omega, by go_num, HO6.out, HG6.out⟩
        case measure => simp [intOf]; omega
      · obtain rfl : k = N.length := by omega
        rw [← HML.out, List.take_length] at hV
        obtain ⟨ma, mc, rfl, -, -, -, -⟩ := own_shape hV
        have SH := shares_any tot M ma mc wi (row_c hV) (by rw [HML.out]; omega) (row_cap hV) (fun x hx => HSM.out x (HPM.out.mem_iff.1 hx)) ht0 (by omega)
        have hml := HML.out
        rw [hml] at SH
        have SH := Lib.hid SH
        have HGR := Lib.hid hgr
        clear hV hgr
        go_wp2_with (fail)
        rw [hml]
        refine SH.out.mono ?_
        rintro e w7 ⟨hg7, h7⟩
        have HG47 := Lib.hid (gr_trans HGR.out hg7)
        rcases h7 with ⟨hnf, -⟩ | ⟨hfit2, v7, P2, rfl, o7, hP2⟩
        · exact absurd (HFIT.out.perm HPM.out.symm) hnf
        · rw [hml] at o7
          obtain ⟨ya, yc, rfl, -, -, -, -⟩ := own_shape o7
          have OY7 := Lib.hid o7
          have HPS2 := Lib.hid hP2
          have OX7 := Lib.hid (own_keep0 OX4.out HG47.out)
          have OL7 := Lib.hid (own_keep0 OL4.out HG47.out)
          have S7 := Lib.hid (S4.out.keep0 HG47.out)
          have G7 := Lib.hid (gr_trans G4.out HG47.out)
          have TT := total_any P xa xc w7 (fun i hi => by
            obtain ⟨b, o, e, hcell⟩ := (row_c OX7.out) i _ (by rw [show (ints P)[i]? = _ from ints_at P i hi])
            rw [getD_eq P i 0 hi] at hcell
            exact ⟨b, o, e, hcell⟩) (fun x hx => by have := HPS.out.bd HFIT.out ht0 x hx; omega) (by rw [HPS.out.len]; omega)
          rw [HPS.out.len, HPS.out.all] at TT
          have TT := Lib.hid TT
          have hn0 : (((N.length : Int)) == (N.length : Int)) = true := by simp
          clear SH hg7 o7 hP2 HG47 HGR OX4 OL4 S4 G4
          go_wp2_with (fail)
          refine TT.out.mono ?_
          rintro e w8 ⟨rfl, rfl⟩
          go_wp2_with (fail)
          go_loopw [91] (fun i wr => ∃ k : Nat, k ≤ N.length ∧ i = .int .i64 k ∧ w8.grownBy wr none) (fun i _ => N.length - (intOf i).toNat)
          case atStart => exact ⟨0, Nat.zero_le _, rfl, gr_refl _ _⟩
          case round =>
            obtain ⟨k, hk, rfl, hgr⟩ := hrel
            obtain ⟨wj, rfl⟩ : ∃ wj : World, wj = wr := ⟨_, rfl⟩
            by_cases hlt : k < N.length
            · have htO : k < L.length := by rw [HLL.out]; exact hlt
              obtain ⟨t, ht, hOt⟩ := HOM.out k htO
              obtain ⟨ob, oo, rfl, d0⟩ := ((row_c OL7.out).keep0 hgr) k _ (by rw [show (ints L)[k]? = _ from ints_at L k htO])
              rw [getD_eq L k 0 htO, hOt] at d0
              obtain ⟨yb, yo, rfl, d1⟩ := ((row_c OY7.out).keep0 hgr) k _ (by rw [show (ints P2)[k]? = _ from ints_at P2 k (by rw [HPS2.out.len, HML.out]; exact hlt)])
              obtain ⟨xb, xo, rfl, d2⟩ := ((row_c OX7.out).keep0 hgr) t _ (by rw [show (ints P)[t]? = _ from ints_at P t (by rw [HPS.out.len]; exact ht)])
              have hkM : k < M.length := by rw [HML.out]; exact hlt
              have eMN : M[k] = N[t] := by
                have e := HME.out
                subst e
                simp only [sortedN, List.getElem_map, hOt, Int.toNat_natCast, nmN_get ht]
              have eq := HPS.out.same HPS2.out HPM.out k t hkM ht eMN
              rw [eq] at d1
              obtain ⟨y, hy⟩ : ∃ y, y = P.getD t 0 := ⟨_, rfl⟩
              rw [← hy] at d1 d2
              have htp : (t : Int) < (N.length : Int) := by omega
              have ht0' : (0 : Int) ≤ (t : Int) := by omega
              have hkp : (k : Int) < (N.length : Int) := by omega
              have hk0' : (0 : Int) ≤ (k : Int) := by omega
              have HGR := Lib.hid hgr
              clear hgr hy eq eMN hOt
              go_wp2_with (fail)
              go_quiet (fail)
              go_wp2_with (fail)
              go_roundw
              case rel => exact ⟨k + 1, by omega, by go_num, gr_drewN HGR.out _⟩
              case measure => simp [intOf]; omega
            · obtain rfl : k = N.length := by omega
              have S9 := Lib.hid (S7.out.keep0 hgr)
              have G9 := Lib.hid (gr_trans G7.out hgr)
              clear hgr S7 G7 OX7 OY7 OL7 HPS HPS2 HFIT HSM HML HME HPM HOM HLL TT
              go_wp2_with (fail)
              refine (tiers_any l (q1 + 1 + (N.length - 1)) _ wj S9.out (by omega)).mono ?_
              rintro e t1 ⟨tv, T, rfl, ot1, hT5, ⟨u1, hu1, ts1⟩, tg1⟩
              have hzz := S9.out.lt
              have TG1 := Lib.hid (gr_grown G9.out tg1 (fun k e => by cases e; omega))
              obtain ⟨ta, tc, rfl, -, -, -, -⟩ := own_shape ot1
              go_wp2_with (fail)
              refine (next_any l u1 30000 _ t1 ts1 (by omega) (by omega)).mono ?_
              rintro e t2 ⟨rfl, ts2, tg2⟩
              have hsr := nxt_range l u1 30000 (by omega)
              obtain ⟨sa, hsa⟩ : ∃ y, y = nxt l u1 30000 := ⟨_, rfl⟩
              rw [← hsa] at hsr
              rw [← hsa]
              obtain ⟨sa0, sa1⟩ := hsr
              have TG2 := Lib.hid (gr_grown TG1.out tg2 (fun k e => by cases e; omega))
              have OT2 := Lib.hid (own_keepS ot1 tg2 (by omega))
              have TS2 := Lib.hid ts2
              clear hsa ot1 ts1 tg1 ts2 tg2 TG1
              go_wp2_with (fail)
              refine (tiersFault_any T ta tc t2 (row_c OT2.out) (by omega)).mono ?_
              rintro e t3 ⟨r, rfl, hrT, tg3⟩
              have TG3 := Lib.hid (gr_trans TG2.out tg3)
              have OT3 := Lib.hid (own_keep0 OT2.out tg3)
              have TS3 := Lib.hid (TS2.out.keep0 tg3)
              clear OT2 TS2 TG2 tg3
              by_cases hr : r = 0
              · have HTO := Lib.hid (hrT hr)
                subst hr
                clear hrT
                go_wp2_with (fail)
                refine (commission_ok T sa ta tc t3 (row_c OT3.out) HTO.out (by omega) (by omega)).mono ?_
                rintro e t4 ⟨rfl, tg4⟩
                have TG4 := Lib.hid (gr_trans TG3.out tg4)
                have OT4 := Lib.hid (own_keep0 OT3.out tg4)
                have TS4 := Lib.hid (TS3.out.keep0 tg4)
                clear TG3 OT3 TS3 tg4
                obtain ⟨A, hA⟩ : ∃ A, A = evenM (tierSum T sa T.length) 10000 := ⟨_, rfl⟩
                rw [← hA]
                have HA := Lib.hid hA
                clear hA
                go_wp2_with (fail)
                refine (next_any l (u1 + 1) 500 _ t4 TS4.out (by omega) (by omega)).mono ?_
                rintro e t5 ⟨rfl, ts5, tg5⟩
                have hsr := nxt_range l (u1 + 1) 500 (by omega)
                obtain ⟨sb, hsb⟩ : ∃ y, y = nxt l (u1 + 1) 500 := ⟨_, rfl⟩
                rw [← hsb] at hsr
                rw [← hsb]
                obtain ⟨sb0, sb1⟩ := hsr
                have TG5 := Lib.hid (gr_grown TG4.out tg5 (fun k e => by cases e; omega))
                have OT5 := Lib.hid (own_keepS OT4.out tg5 (by omega))
                have TS5 := Lib.hid ts5
                clear hsb ts5 tg5 TG4 OT4 TS4
                go_wp2_with (fail)
                refine (commission_ok T (sa + sb) ta tc t5 (row_c OT5.out) HTO.out (by omega) (by omega)).mono ?_
                rintro e t6 ⟨rfl, tg6⟩
                have TG6 := Lib.hid (gr_trans TG5.out tg6)
                have TS6 := Lib.hid (TS5.out.keep0 tg6)
                clear TG5 OT5 TS5 tg6
                obtain ⟨B, hB⟩ : ∃ B, B = evenM (tierSum T (sa + sb) T.length) 10000 := ⟨_, rfl⟩
                rw [← hB]
                have hAB : A ≤ B := by rw [HA.out, hB]; exact evenM_mono (tierSum_mono HTO.out.rate (by omega) _) (by decide)
                have dAB : decide (A ≤ B) = true := decide_eq_true hAB
                clear HA hB
                go_wp2_with (fail)
                refine (pick_any l (u1 + 1 + 1) [0, 700, 1900] _ t6 TS6.out (by omega) (by decide) (by decide)).mono ?_
                rintro e t7 ⟨rfl, ts7, tg7⟩
                have hmm := pickM_mem l (u1 + 1 + 1) [0, 700, 1900] (by decide)
                obtain ⟨rt, hrt⟩ : ∃ y, y = pickM l (u1 + 1 + 1) [0, 700, 1900] := ⟨_, rfl⟩
                rw [← hrt] at hmm
                rw [← hrt]
                simp only [List.mem_cons, List.not_mem_nil, or_false] at hmm
                have TG7 := Lib.hid (gr_grown TG6.out tg7 (fun k e => by cases e; omega))
                clear hrt ts7 tg7 TG6 TS6
                have rt0 : 0 ≤ rt := by omega
                have rt1 : rt ≤ 10000 := by omega
                clear hmm
                obtain ⟨x0, x1⟩ := evenM_bd (sa * 10000) (10000 + rt) (by omega) (by omega)
                have ZN := Lib.hid (net_zero sa t7 sa0 (by omega))
                go_wp2_with (fail)
                refine (net_any sa rt t7 (by omega) (by omega) rt0 rt1).mono ?_
                rintro e t8 ⟨rfl, rfl⟩
                obtain ⟨X, hX⟩ : ∃ X, X = evenM (sa * 10000) (10000 + rt) := ⟨_, rfl⟩
                rw [← hX] at x0 x1
                rw [← hX]
                clear hX
                have eX : ((X + (sa - X)) == sa) = true := by simp; omega
                have eX2 : X + (sa - X) = sa := by omega
                obtain ⟨Y, hY⟩ : ∃ Y, Y = sa - X := ⟨_, rfl⟩
                rw [← hY] at eX eX2
                rw [← hY]
                have hY0 : -300000000 ≤ Y ∧ Y ≤ 300000000 := by omega
                clear hY
                go_wp2_with (fail)
                refine ZN.out.mono ?_
                rintro e t9 ⟨rfl, rfl⟩
                go_wp2_with (fail)
                refine (tills_any t7).mono ?_
                rintro e t9 ⟨rfl, rfl⟩
                go_wp2_with (fail)
                go_ret
                exact ⟨rfl, TG7.out⟩
              · have hrb : (r == 0) = false := beq_eq_false_iff_ne.2 hr
                clear hrT
                go_wp2_with (fail)
                refine (tills_any t3).mono ?_
                rintro e t9 ⟨rfl, rfl⟩
                go_wp2_with (fail)
                go_ret
                exact ⟨rfl, TG3.out⟩
end Go.Proofs.Ytoiclngamaadgaa
