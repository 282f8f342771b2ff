/- The walk of CountsAreBest. -/
import Derived.Test.YtjhdngfliakidaaDoorPkCAy
import Derived.Test.YtjhdngfliakidaaDoorPkCBb
import Derived.Test.YtjhdngfliakidaaDoorPkCAs
import Derived.Test.YtjhdngfliakidaaDoorPkCBh
namespace Go.Proofs.YtjhdngfliakidaaDoor
open Go.RowKit
attribute [local go_sem ↓] Go.wp_at_zero Go.wp_at_succ

/-- What is known of what shelf.Best returned. -/
structure BestSaid (os : List Offer) (q : List Quo) (S : Nat) (C : List Int) (n ee : Int) : Prop where
  top : ∀ cs, CountsOk os cs → Keeps os q cs → cs.sum = S → ee = 0 ∧ (worthL os cs).sum ≤ n
  way : ee = 8 ∨ ee = 0 ∧ BestIs os q S C n
theorem BestPost.said {os : List Offer} {hok : OffersOk os} {q : List Quo} {S : Nat} {w w' : World} {e : Ending} (h : BestPost os hok q S w e w') : w.grownBy w' none ∧ ∃ v C n ee, e = .returned (.tuple #[v, .int .i64 n, .int .i64 ee]) ∧ w'.ownsRow w.heap.size 3 1 v C.length (ints C) ∧ BestSaid os q S C n ee := by
  obtain ⟨g, ⟨rfl, h1⟩ | ⟨v, C, n, rfl, h1, h2, h3, h4, h5⟩⟩ := h
  · exact ⟨g, _, [], 0, 8, rfl, World.ownsRow_nil _ _ _ _, fun cs a b c => absurd (okC_of os hok q cs a S b c) (h1 _), .inl rfl⟩
  · exact ⟨g, v, C, n, 0, rfl, h1, fun cs a b c => ⟨rfl, best_top os hok q cs a S b c n h3 h4⟩, .inr ⟨rfl, best_is os hok q C h2 S n h3 h5⟩⟩
set_option maxRecDepth 100000 in
set_option maxHeartbeats 8000000 in
theorem countsAreBest_any (l : List Int) (a : Option Addr) (cap : Nat) (w : World) (hc : CellsAt w a (ints l)) (hl : l.length ≤ 9223372036854775807) :
    Calls Tryd.prog 4 #[.slice a l.length cap] w fun e w' => e = .returned (.bool true) ∧ w.grownBy w' none := by
  have hg0 := gr_alloc (gr_refl w none) (.cells #[.slice a l.length cap, .int .i64 0] 25)
  have sa0 := StreamAt.made cap hc hl
  obtain ⟨w0, hw0⟩ : ∃ w0, w0 = w.alloc (.cells #[.slice a l.length cap, .int .i64 0] 25) := ⟨_, rfl⟩
  have hz0 : w0.heap.size = w.heap.size + 1 := by rw [hw0]; simp
  rw [← hw0] at sa0 hg0
  have hOK := offersM_ok l 0 5 (by omega)
  have hOl := (offersN_le l 0 5).1
  have hOl2 : (offersM l 0 5).length = offersN l 0 5 := offersTo_len _ _ _
  have hk1 : offersK l 0 5 ≤ 100 := by
    have := offersTo_k l (0 + 1) (offersN l 0 5)
    unfold offersK
    omega
  have OA := fun (p' : Nat) (w' : World) (h : StreamAt w' p' w.heap.size l 0) => offers_any l 0 5 p' w' h (by omega) (by omega)
  unfold OffersPost at OA
  obtain ⟨k1, hk1e⟩ : ∃ k1, k1 = offersK l 0 5 := ⟨_, rfl⟩
  obtain ⟨O, hO⟩ : ∃ O, O = offersM l 0 5 := ⟨_, rfl⟩
  rw [← hk1e, ← hO] at OA
  rw [← hk1e] at hk1
  rw [← hO] at hOK hOl2
  have hO5 : O.length ≤ 5 := by omega
  have HOA := Lib.hid OA
  have HOK := Lib.hid hOK
  clear OA hk1e hO hOK hOl hOl2 hc hl
  go_enter Tryd.func4, Tryd.ntmps4
  go_wp2_with (fail)
  rw [← hw0]
  have HW0 := Lib.hid hw0; clear hw0
  obtain ⟨p, hp⟩ : ∃ p, p = w.heap.size := ⟨_, rfl⟩
  rw [← hp] at sa0 hz0 HOA
  rw [← hp]
  have HP := Lib.hid hp
  clear hp
  refine (HOA.out _ w0 sa0).mono ?_
  rintro e w1 ⟨v1, rfl, o1, sa1, g1⟩
  have z1 := g1.size
  clear sa0
  obtain ⟨oa, oc, rfl, -, -, -, -⟩ := o1.shape
  go_wp2_with (fail)
  refine (quotas_any l k1 p w1 sa1 (by omega)).mono ?_
  rintro e w2 ⟨v2, Q, rfl, o2, hQl, hQs, ⟨k2, hk2, sa2⟩, g2⟩
  have z2 := g2.size
  have o1 := o1.keepS g2 (by omega) (OffR.keepS g2 (by omega))
  clear sa1
  obtain ⟨qa, qc, rfl, -, -, hqc, -⟩ := own_shape o2
  go_wp2_with (fail)
  refine (next_any l k2 7 p w2 sa2 (by omega) (by omega)).mono ?_
  rintro e w3 ⟨rfl, sa3, g3⟩
  have z3 := g3.size
  have hnr := nxt_range l k2 7 (by omega)
  obtain ⟨S, hS⟩ : ∃ S : Nat, nxt l k2 7 = S := ⟨(nxt l k2 7).toNat, by omega⟩
  rw [hS] at hnr
  rw [hS]
  have hS7 : S ≤ 7 := by omega
  have o1 := o1.keepS g3 (by omega) (OffR.keepS g3 (by omega))
  have o2 := own_keepS o2 g3 (by omega)
  have hGR3 := Lib.hid (gr_grown (gr_grown (gr_grown hg0 g1 (fun q e => by cases e; have := HP.out; omega)) g2 (fun q e => by cases e; have := HP.out; omega)) g3 (fun q e => by cases e; have := HP.out; omega))
  have HQS := Lib.hid hQs
  obtain ⟨_, _, he, _, _, hqc3, _⟩ := own_shape o2
  cases he
  have HO1 := Lib.hid o1
  have HO2 := Lib.hid o2
  have HQC3 := Lib.hid hqc3
  clear sa2 hqc hnr hS g1 g2 g3 hg0 o1 o2 hQs hqc3
  go_wp2_with (fail)
  refine (quotasFault_any Q qa qc w3 HQC3.out HQS.out (by omega)).mono ?_
  rintro e w4 ⟨r, rfl, hr, g4⟩
  have HG4 := Lib.hid g4
  have HR := Lib.hid hr
  clear g4 hr
  by_cases hr0 : r = 0
  · have HQO := Lib.hid (HR.out hr0)
    subst hr0
    have HO4 := Lib.hid (HO1.out.keep0 HG4.out (OffR.keep0 HG4.out))
    have HQ4 := Lib.hid (HQC3.out.keep0 HG4.out)
    obtain ⟨_, _, vs, he, hof, _, _⟩ := OffsAt.of HO4.out
    cases he
    have HOF := Lib.hid hof
    clear hof
    go_wp2_with (fail)
    refine (best_any O HOK.out Q HQO.out HQS.out (by omega) S (by omega) oa qa vs oc qc w4 HOF.out HQ4.out).mono ?_
    rintro e w5 hpost
    obtain ⟨g5, v5, C, n, ee, rfl, o5, hsaid⟩ := hpost.said
    have HSAID := Lib.hid hsaid
    have HG5 := Lib.hid (gr_trans (gr_trans hGR3.out HG4.out) g5)
    have HN5 := Lib.hid (HO4.out.keep0 g5 (OffR.keep0 g5))
    have HQ5 := Lib.hid (HQ4.out.keep0 g5)
    have HQR := Lib.hid (own_keep0 (own_keep0 HO2.out HG4.out) g5)
    have HC5 := Lib.hid o5
    have sa5 := (sa3.keep0 HG4.out).keep0 g5
    have z4 := HG4.out.size
    have z5 := g5.size
    have HE8 := Lib.hid hsaid.way
    obtain ⟨ca, cc, rfl, -, -, -, -⟩ := own_shape o5
    clear hsaid hpost g5 o5 sa3 HO1 HO4 HQ4 HQC3 HOF HR HO2
    have HGp : Hid (∀ W, w5.grownBy W (some p) → w.grownBy W none) := fun W g => gr_grown HG5.out g (fun q e => by cases e; have := HP.out; omega)
    go_wp2_with (fail)
    go_loopw [42] (fun i wr => ∃ (k q : Nat), k ≤ 12 ∧ i = .int .i64 k ∧ q ≤ 1000 + 20 * k ∧ StreamAt wr p p l q ∧ w5.grownBy wr (some p)) (fun i _ => 12 - (intOf i).toNat)
    case atStart => exact ⟨0, k2 + 1, by omega, rfl, by omega, sa5, gr_refl _ _⟩
    case round =>
      clear sa5
      obtain ⟨k, q, hk, rfl, hq, hst, hgr⟩ := hrel
      obtain ⟨wo, rfl⟩ : ∃ wo : World, wo = wr := ⟨_, rfl⟩
      by_cases hlt : k < 12
      · have hN := HN5.out.keepS hgr (by omega) (OffR.keepS hgr (by omega))
        have hkd : decide ((k : Int) < 12) = true := by simp; omega
        have CM := Lib.hid (cnts_any l q O oa oc w0.heap.size p wo hst (by omega) hN (by omega) (by omega) (fun o ho => (HOK.out.prof o ho).2.1))
        have HGR := Lib.hid hgr
        clear hN hgr hst
        go_wp2_with (fail)
        refine CM.out.mono ?_
        rintro e w6 ⟨v6, N, rfl, o6, hNl, hNb, ⟨q6, hq6, st6⟩, g6⟩
        have HG6 := Lib.hid (gr_trans HGR.out g6)
        have z6 := HGR.out.size
        have hN6 := HN5.out.keepS HG6.out (by omega) (OffR.keepS HG6.out (by omega))
        obtain ⟨_, _, vs6, he, hof6, _, _⟩ := OffsAt.of hN6
        cases he
        obtain ⟨xa, xc, rfl, _, _, hxc, _⟩ := own_shape o6
        have HOF6 := Lib.hid hof6
        have HXC := Lib.hid hxc
        have HNB := Lib.hid hNb
        obtain ⟨_, _, he, _, _, hqc6, _⟩ := own_shape (own_keepS HQR.out HG6.out (by omega))
        cases he
        have HQC6 := Lib.hid hqc6
        have REF := Lib.hid (refCountsFault_any O N oa xa vs6 oc xc w6 HOF6.out HXC.out hNb (by omega) (by omega))
        have TOT := Lib.hid (total_cnt N xa xc w6 HXC.out (by omega) (fun x hx => by have := hNb x hx; omega))
        obtain ⟨m, hm⟩ : ∃ m, m = N.length := ⟨_, rfl⟩
        rw [← hm] at REF TOT hNl
        rw [← hm]
        have HM := Lib.hid hm
        clear CM o6 hN6 hof6 hxc hNb hqc6 hm g6
        go_wp2_with (fail)
        refine REF.out.mono ?_
        rintro e w7 ⟨⟨r7, rfl, hr7⟩, rfl⟩
        have HR7 := Lib.hid hr7
        clear hr7 REF
        by_cases hr70 : r7 = 0
        · have HCO := Lib.hid (HR7.out hr70)
          subst hr70
          clear HR7
          go_wp2_with (fail)
          refine TOT.out.mono ?_
          rintro e w7 ⟨rfl, rfl⟩
          clear TOT
          obtain ⟨T, hT⟩ : ∃ T, T = N.sum := ⟨_, rfl⟩
          rw [← hT]
          have HT := Lib.hid hT
          clear hT
          by_cases hTS : T = (S : Int)
          · subst hTS
            obtain rfl : m = O.length := by rw [HM.out, HCO.out.len]
            go_wp2_with (fail)
            refine (fits_any O HOK.out Q HQO.out HQS.out (by omega) N HCO.out oa qa xa vs6 oc qc xc w7 HOF6.out HQC6.out HXC.out).mono ?_
            rintro e w8 ⟨⟨b, rfl, hb⟩, g8⟩
            have HB := Lib.hid hb
            have HG8 := Lib.hid g8
            clear hb g8
            go_wp2_with (fail)
            refine (worth_any O N oa xa vs6 oc xc w8 (HOF6.out.keep0 HG8.out) HOK.out (HXC.out.keep0 HG8.out) HCO.out).mono ?_
            rintro e w9 ⟨rfl, g9⟩
            have HG9 := Lib.hid (gr_trans HG8.out g9)
            have st9 := st6.keep0 HG9.out
            clear g9 HG8 st6
            obtain ⟨W, hW⟩ : ∃ W, W = (worthL O N).sum := ⟨_, rfl⟩
            rw [← hW]
            have HTOP : Hid (b = true → ee = 0 ∧ W ≤ n) := fun e => by
              rw [hW]
              exact HSAID.out.top N HCO.out (HB.out.1 e) HT.out.symm
            clear hW
            have HGF := Lib.hid (gr_trans HG6.out (gr_weak HG9.out (some p)))
            cases b with
            | false =>
              clear HTOP
              go_wp2_with (fail)
              go_roundw
              case rel => exact ⟨k + 1, q6, by omega, by go_num, by omega, st9, HGF.out⟩
              case measure => simp [intOf]; omega
            | true =>
              obtain ⟨rfl, hWn⟩ := HTOP.out rfl
              have hWn' : ¬ n < W := by omega
              clear HTOP HE8
              go_wp2_with (fail)
              go_roundw
              case rel => exact ⟨k + 1, q6, by omega, by go_num, by omega, st9, HGF.out⟩
              case measure => simp [intOf]; omega
          · go_wp2_with (fail)
            go_roundw
            case rel => exact ⟨k + 1, q6, by omega, by go_num, by omega, st6, HG6.out⟩
            case measure => simp [intOf]; omega
        · clear HR7 TOT
          go_wp2_with (fail)
          go_roundw
          case rel => exact ⟨k + 1, q6, by omega, by go_num, by omega, st6, HG6.out⟩
          case measure => simp [intOf]; omega
      · obtain rfl : k = 12 := by omega
        have HGR := Lib.hid hgr
        have HGW := Lib.hid (HGp.out wo hgr)
        have z6 := hgr.size
        clear hgr hst
        rcases HE8.out with rfl | ⟨rfl, hbest⟩
        · clear HE8
          go_wp2_with (fail)
          refine (shelves_any wo).mono ?_
          rintro e w6 ⟨rfl, g6⟩
          go_wp2_with (fail)
          go_ret
          exact ⟨rfl, gr_trans HGW.out g6⟩
        · have HB := Lib.hid hbest
          have hCl := hbest.ok.len
          clear HE8 hbest
          have hN6 := HN5.out.keepS HGR.out (by omega) (OffR.keepS HGR.out (by omega))
          obtain ⟨_, _, vs6, he, hof6, _, _⟩ := OffsAt.of hN6
          cases he
          have HOF6 := Lib.hid hof6
          obtain ⟨_, _, he, _, _, hqc6, _⟩ := own_shape (own_keepS HQR.out HGR.out (by omega))
          cases he
          have HQC6 := Lib.hid hqc6
          obtain ⟨_, _, he, _, _, hcc6, _⟩ := own_shape (own_keepS HC5.out HGR.out (by omega))
          cases he
          have HCC6 := Lib.hid hcc6
          clear hN6 hof6 hqc6 hcc6
          obtain ⟨m, hm⟩ : ∃ m, m = C.length := ⟨_, rfl⟩
          rw [← hm] at hCl
          rw [← hm]
          have HM := Lib.hid hm
          clear hm
          obtain rfl : m = O.length := hCl
          go_wp2_with (fail)
          refine (fits_any O HOK.out Q HQO.out HQS.out (by omega) C HB.out.ok oa qa ca vs6 oc qc cc wo HOF6.out HQC6.out HCC6.out).mono ?_
          rintro e w8 ⟨⟨b, rfl, hb⟩, g8⟩
          obtain rfl : b = true := hb.2 HB.out.keeps
          have HG8 := Lib.hid g8
          clear hb g8
          go_wp2_with (fail)
          refine (worth_any O C oa ca vs6 oc cc w8 (HOF6.out.keep0 HG8.out) HOK.out (HCC6.out.keep0 HG8.out) HB.out.ok).mono ?_
          rintro e w9 ⟨rfl, g9⟩
          rw [HB.out.worth]
          have HG9 := Lib.hid (gr_trans HG8.out g9)
          clear g9
          go_wp2_with (fail)
          refine (bound_any O HOK.out S (by omega) oa vs6 oc w9 (HOF6.out.keep0 HG9.out)).mono ?_
          rintro e w10 ⟨rfl, g10⟩
          have hbd : n ≤ boundM O S := HB.out.bound
          obtain ⟨bb, hbb⟩ : ∃ bb, bb = boundM O S := ⟨_, rfl⟩
          rw [← hbb] at hbd
          rw [← hbb]
          have HG10 := Lib.hid (gr_trans HG9.out g10)
          clear g10 hbb
          go_wp2_with (fail)
          refine (shelves_any w10).mono ?_
          rintro e w11 ⟨rfl, g11⟩
          have HG11 := Lib.hid (gr_trans HG10.out g11)
          clear g11
          have TOT := Lib.hid (total_cnt C ca cc w11 (HCC6.out.keep0 HG11.out) (by rw [← HM.out]; omega) (fun x hx => by
            obtain ⟨j, hj, rfl⟩ := List.mem_iff_getElem.1 hx
            have h1 := HB.out.ok.all j (by rw [← HB.out.ok.len]; exact hj)
            have h2 := (HOK.out.prof _ (List.getElem_mem (by rw [← HB.out.ok.len]; exact hj))).2.1
            rw [getD_eq C j 0 hj] at h1
            omega))
          rw [← HM.out, HB.out.sum] at TOT
          go_wp2_with (fail)
          refine TOT.out.mono ?_
          rintro e w12 ⟨rfl, rfl⟩
          go_wp2_with (fail)
          go_ret
          exact ⟨rfl, gr_trans HGW.out HG11.out⟩
  · have HR0 := Lib.hid hr0
    have hb0 : (r == 0) = false := by simpa using hr0
    have hb1 : (r != 0) = true := by simpa using hr0
    clear hr0
    go_wp2_with (fail)
    refine (shelves_any w4).mono ?_
    rintro e w5 ⟨rfl, g5⟩
    go_wp2_with (fail)
    go_ret
    exact ⟨rfl, gr_trans (gr_trans hGR3.out HG4.out) g5⟩
end Go.Proofs.YtjhdngfliakidaaDoor
