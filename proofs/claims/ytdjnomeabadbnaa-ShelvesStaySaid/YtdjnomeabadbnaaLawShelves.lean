/- The walk of ShelvesStay. -/
import Derived.Test.YtdjnomeabadbnaaShelfG
import Derived.Test.YtdjnomeabadbnaaEqualStr
import Derived.Deep.DeepCutAuto
import Derived.Deep.CutBlock
import Derived.Deep.CutRange
namespace Go.Proofs.Ytdjnomeabadbnaa
open Go.RowKit
attribute [local go_sem ↓] Go.wp_at_zero Go.wp_at_succ

theorem strs_set (l : List ByteArray) (k : Nat) (x : ByteArray) : (strs l).set k (.string x) = strs (l.set k x) := by simp [strs, List.map_set]
theorem own_str {w : World} {base e n cap g : Nat} {l : List ByteArray} (h : w.ownsRow base e 1 (.slice (some ⟨g, 0, none⟩) n cap) n (strs l)) (k : Nat) (hk : k < n) :
    w.cell? ⟨g, k, none⟩ = some (.string (l.getD k ⟨#[]⟩)) ∧ w.frozen? ⟨g, k, none⟩ = false ∧ ∀ x, (w.setCell ⟨g, k, none⟩ (.string x)).ownsRow base e 1 (.slice (some ⟨g, 0, none⟩) n cap) n (strs (l.set k x)) := by
  have hl : l.length = n := by have := h.1; simpa [strs] using this
  refine ⟨by rw [h.cellAt k (by omega)]; exact strs_get l k (by omega), h.frozenAt k, fun x => ?_⟩
  rw [← strs_set]
  exact (h.stored k _).1
theorem worth_zero (os : List Offer) : (worthL os (List.replicate os.length 0)).sum = 0 := by
  induction os with
  | nil => rfl
  | cons o os ih =>
    have e : worthL (o :: os) (List.replicate (o :: os).length 0) = usedM o 0 :: worthL os (List.replicate os.length 0) := by simp [worthL, List.replicate_succ]
    rw [e, List.sum_cons, ih]
    simp [usedM]
theorem zeros_ok (os : List Offer) : CountsOk os (List.replicate os.length 0) := by
  refine ⟨by simp, fun i hi => ?_⟩
  rw [List.getD_eq_getElem?_getD, List.getElem?_replicate, if_pos hi]
  simp only [Option.getD_some]
  omega
set_option maxRecDepth 100000 in
set_option maxHeartbeats 8000000 in
theorem shelvesStay_any (l : List Int) (a : Option Addr) (cap : Nat) (w : World) (hc : CellsAt w a (ints l)) (hl : l.length ≤ 9223372036854775807) :
    Calls Try.prog 4 #[.slice a l.length cap] w fun e w' => e = .returned (.bool true) ∧ w.grownBy w' none := by
  have hg0 := gr_alloc (gr_alloc (gr_refl w none) (.cells #[.slice a l.length cap, .int .i64 0] 25)) (.cells #[.slice a l.length cap, .int .i64 0] 25)
  have sa0 := (StreamAt.made cap hc hl).keep0 (gr_alloc (gr_refl _ _) (.cells #[.slice a l.length cap, .int .i64 0] 25))
  have sb0 := StreamAt.madeLow cap (gr_alloc (gr_refl w none) (.cells #[.slice a l.length cap, .int .i64 0] 25)) hc hl
  rw [show (w.alloc (.cells #[.slice a l.length cap, .int .i64 0] 25)).heap.size = w.heap.size + 1 by simp] at sb0
  obtain ⟨w0, hw0⟩ : ∃ w0, w0 = (w.alloc (.cells #[.slice a l.length cap, .int .i64 0] 25)).alloc (.cells #[.slice a l.length cap, .int .i64 0] 25) := ⟨_, rfl⟩
  have hz0 : w0.heap.size = w.heap.size + 2 := by rw [hw0]; simp
  rw [← hw0] at sa0 sb0 hg0
  have hOK := offersM_ok l 0 4 (by omega)
  have hOl := (offersN_le l 0 4).1
  have hOl2 : (offersM l 0 4).length = offersN l 0 4 := offersTo_len _ _ _
  have hk1 : offersK l 0 4 ≤ 100 := by
    have := offersTo_k l (0 + 1) (offersN l 0 4)
    unfold offersK
    omega
  have OA := fun (p' : Nat) (w' : World) (h : StreamAt w' p' w.heap.size l 0) => offers_any l 0 4 p' w' h (by omega) (by omega)
  unfold OffersPost at OA
  obtain ⟨k1, hk1e⟩ : ∃ k1, k1 = offersK l 0 4 := ⟨_, rfl⟩
  obtain ⟨O, hO⟩ : ∃ O, O = offersM l 0 4 := ⟨_, rfl⟩
  rw [← hk1e, ← hO] at OA
  rw [← hk1e] at hk1
  rw [← hO] at hOK hOl2
  have hO4 : O.length ≤ 4 := by omega
  have LA := fun (p' B : Nat) (la : Option Addr) (lc : Nat) (w' : World) (h : StreamAt w' p' w.heap.size l k1) (ho : OwnNest (OffR B) w' B 91 5 (.slice la O.length lc) O) (hp : p' < B) => layout_any l k1 6 O la lc B p' w' h (by omega) (by omega) ho hp (by omega)
  unfold LayoutPost at LA
  have hXl := layM_len l k1 6 (keysOf O)
  have hk2 := layK_le l k1 6 (keysOf O)
  obtain ⟨k2, hk2e⟩ : ∃ k2, k2 = layK l k1 6 (keysOf O) := ⟨_, rfl⟩
  obtain ⟨X, hX⟩ : ∃ X, X = layM l k1 6 (keysOf O) := ⟨_, rfl⟩
  rw [← hk2e, ← hX] at LA
  rw [← hk2e] at hk2
  rw [← hX] at hXl
  have VA := fun (p' : Nat) (w' : World) (h : StreamAt w' p' w.heap.size l k2) => vers_any l k2 p' w' h (by omega)
  unfold VersPost at VA
  obtain ⟨hVl, hVs⟩ := versM_small l k2
  obtain ⟨V, hV⟩ : ∃ V, V = versM l k2 := ⟨_, rfl⟩
  rw [← hV] at VA hVl hVs
  have hVs1 : ∀ v ∈ V, v.lay.length ≤ 100000 ∧ ∀ s ∈ v.lay, s.size ≤ 100000 := fun v hv => ⟨by have := (hVs v hv).1; omega, fun s hs => by have := (hVs v hv).2 s hs; omega⟩
  have hVs2 : ∀ i, (vLay V i).length ≤ 100000 := by
    intro i
    unfold vLay
    by_cases hi : i < V.length
    · rw [getD_eq V i _ hi]; have := (hVs _ (List.getElem_mem hi)).1; omega
    · rw [List.getD_eq_getElem?_getD, List.getElem?_eq_none (by omega)]; exact Nat.zero_le _
  have HOA := Lib.hid OA
  have HLA := Lib.hid LA
  have HVA := Lib.hid VA
  have HVS1 := Lib.hid hVs1
  have HVS2 := Lib.hid hVs2
  have HOK := Lib.hid hOK
  clear OA LA VA hk1e hO hX hk2e hV hVs hVs1 hVs2 hOK hOl hOl2 hc hl
  go_enter Try.func4, Try.ntmps4
  go_wp2_with (fail)
  rw [← hw0]
  have HW0 := Lib.hid hw0; clear hw0
  refine (HOA.out _ w0 sa0).mono ?_
  rintro e w1 ⟨v1, rfl, o1, sa1, g1⟩
  have z1 := g1.size
  have sb1 := sb0.keepNe g1 (fun q e => by cases e; omega)
  clear sa0 sb0
  obtain ⟨oa, oc, rfl, -, -, -, -⟩ := o1.shape
  go_wp2_with (fail)
  refine (HOA.out _ w1 sb1).mono ?_
  rintro e w2 ⟨v2, rfl, o2, sb2, g2⟩
  have z2 := g2.size
  have sa2 := sa1.keepNe g2 (fun q e => by cases e; omega)
  have o1 := o1.keepS g2 (by omega) (OffR.keepS g2 (by omega))
  clear sa1 sb1
  obtain ⟨pa, pc, rfl, -, -, -, -⟩ := o2.shape
  go_wp2_with (fail)
  refine (HLA.out _ _ _ _ w2 sa2 o1 (by omega)).mono ?_
  rintro e w3 ⟨v3, rfl, o3, sa3, g3⟩
  have z3 := g3.size
  have sb3 := sb2.keepNe g3 (fun q e => by cases e; omega)
  have o1 := o1.keepS g3 (by omega) (OffR.keepS g3 (by omega))
  have o2 := o2.keepS g3 (by omega) (OffR.keepS g3 (by omega))
  clear sa2 sb2
  obtain ⟨xa, xc, rfl, -, -, -, -⟩ := own_shape o3
  go_wp2_with (fail)
  refine (HLA.out _ _ _ _ w3 sb3 o2 (by omega)).mono ?_
  rintro e w4 ⟨v4, rfl, o4, sb4, g4⟩
  have z4 := g4.size
  have sa4 := sa3.keepNe g4 (fun q e => by cases e; omega)
  have o1 := o1.keepS g4 (by omega) (OffR.keepS g4 (by omega))
  have o2 := o2.keepS g4 (by omega) (OffR.keepS g4 (by omega))
  have o3 := own_keepS o3 g4 (by omega)
  clear sa3 sb3
  obtain ⟨ya, yc, rfl, -, -, -, -⟩ := own_shape o4
  go_wp2_with (fail)
  refine (HVA.out _ w4 sa4).mono ?_
  rintro e w5 ⟨v5, rfl, o5, sa5, g5⟩
  have z5 := g5.size
  have sb5 := sb4.keepNe g5 (fun q e => by cases e; omega)
  have o1 := o1.keepS g5 (by omega) (OffR.keepS g5 (by omega))
  have o2 := o2.keepS g5 (by omega) (OffR.keepS g5 (by omega))
  have o3 := own_keepS o3 g5 (by omega)
  have o4 := own_keepS o4 g5 (by omega)
  clear sa4 sb4 sa5
  obtain ⟨va, vc, rfl, -, -⟩ := o5.ex
  go_wp2_with (fail)
  refine (HVA.out _ w5 sb5).mono ?_
  rintro e w6 ⟨v6, rfl, o6, -, g6⟩
  have z6 := g6.size
  have o1 := o1.keepS g6 (by omega) (OffR.keepS g6 (by omega))
  have o2 := o2.keepS g6 (by omega) (OffR.keepS g6 (by omega))
  have o3 := own_keepS o3 g6 (by omega)
  have o4 := own_keepS o4 g6 (by omega)
  have o5 := o5.keepS g6 (by omega)
  clear sb5
  obtain ⟨ua, uc, rfl, cU, -⟩ := o6.ex
  obtain ⟨va', vc', ev, cV, -⟩ := o5.ex
  cases ev
  obtain ⟨_, _, ov, eo, cO, -, -⟩ := OffsAt.of o1
  cases eo
  obtain ⟨_, _, pv, ep, cP, -, -⟩ := OffsAt.of o2
  cases ep
  have xn := own_nil o3
  obtain ⟨_, _, ex, -, -, cX, -⟩ := own_shape o3
  cases ex
  obtain ⟨_, _, ey, -, -, cY, -⟩ := own_shape o4
  cases ey
  have hgr6 := gr_grown hg0 (gr_trans g1 (gr_refl _ _)) (fun k e => by cases e; omega)
  have hgr6 := gr_grown hgr6 g2 (fun k e => by cases e; omega)
  have hgr6 := gr_grown hgr6 g3 (fun k e => by cases e; omega)
  have hgr6 := gr_grown hgr6 g4 (fun k e => by cases e; omega)
  have hgr6 := gr_grown hgr6 g5 (fun k e => by cases e; omega)
  have hgr6 := gr_grown hgr6 g6 (fun k e => by cases e; omega)
  clear o1 o2 o3 o4 o5 o6 g1 g2 g3 g4 g5 g6 hg0 HOA HLA HVA
  have HX := Lib.hid cX
  have HY := Lib.hid cY
  have HO := Lib.hid cO
  have HP := Lib.hid cP
  have HV := Lib.hid cV
  have HU := Lib.hid cU
  have HN := Lib.hid xn
  have HG6 := Lib.hid hgr6
  clear cX cY cO cP cV cU xn hgr6 z1 z2 z3 z4 z5 z6 hz0 HW0
  go_wp2_with (refine wpList_mk w6 eInt rfl _ _ rfl w6.heap.size _ O.length rfl rfl rfl (by omega) (Nat.le_refl _) ?_)
  intro w7 ho7 g7
  have cn := own_nil ho7
  obtain ⟨_, _, ec, -, -, cC, -⟩ := own_shape ho7
  cases ec
  obtain ⟨C, hC⟩ : ∃ C, C = w6.heap.size := ⟨_, rfl⟩
  rw [← hC] at cn cC
  rw [← hC]
  have HC := Lib.hid cC
  have HCN := Lib.hid cn
  have HX := Lib.hid (HX.out.keep0 g7)
  have HY := Lib.hid (HY.out.keep0 g7)
  have HO := Lib.hid (HO.out.keep0 g7)
  have HP := Lib.hid (HP.out.keep0 g7)
  have HV := Lib.hid (HV.out.keep0 g7 (fun x c hx => VerC.keep0 g7 x c hx))
  have HU := Lib.hid (HU.out.keep0 g7 (fun x c hx => VerC.keep0 g7 x c hx))
  have HG7 := Lib.hid (gr_trans HG6.out g7)
  clear ho7 g7 cC cn hC HG6
  go_wp2_with (fail)
  refine (arrange_zero O X oa xa _ ov oc xc _ w7 HO.out HOK.out HX.out (by omega) HC.out HCN.out).mono ?_
  rintro e w8 ⟨v8, n8, L8, rfl, hn8, ho8, g8⟩
  obtain ⟨ba, bc, rfl, -, -, -, -⟩ := own_shape ho8
  go_wp2_with (fail)
  refine (arrangeFault_zero O X pa ya _ pv pc yc _ w8 (HP.out.keep0 g8) (by omega) (HY.out.keep0 g8) (by omega) (HC.out.keep0 g8)).mono ?_
  rintro e w9 ⟨rfl, g9⟩
  obtain ⟨r, hr⟩ : ∃ r, r = listF O X := ⟨_, rfl⟩
  rw [← hr]
  have hne : (r != r) = false := by simp
  have ho9 := own_keep0 ho8 g9
  have g79 := gr_trans g8 g9
  clear hr ho8 g8 g9
  go_wp2_with (fail)
  go_loopw [63] (fun i wr => ∃ (k : Nat) (M : List ByteArray), k ≤ n8 ∧ i = .int .i64 k ∧ wr.ownsRow w7.heap.size 9 1 (.slice ba n8 bc) n8 (strs M) ∧ w7.grownBy wr none) (fun i _ => n8 - (intOf i).toNat)
  case atStart => exact ⟨0, L8, Nat.zero_le _, rfl, ho9, g79⟩
  case round =>
    obtain ⟨k, M, hk, rfl, ox, g9⟩ := hrel
    obtain ⟨wo, rfl⟩ : ∃ wo : World, wo = wr := ⟨_, rfl⟩
    by_cases hlt : k < n8
    · obtain ⟨g, cg, he, hga, -, -, -⟩ := own_some ox (by omega)
      cases he
      obtain ⟨d1, d2, d3⟩ := own_str ox k hlt
      have D3 := Lib.hid (d3 ⟨#[115, 112, 111, 105, 108, 116]⟩)
      have G9 := Lib.hid (gr_new g9 hga (q := ⟨g, k, none⟩) (.string ⟨#[115, 112, 111, 105, 108, 116]⟩))
      clear d3 ox g9
      go_wp2_with (fail)
      go_roundw
      case rel => exact ⟨k + 1, _, by omega, by go_num, D3.out, G9.out⟩
      case measure => simp [intOf]; omega
    · have HG10 := Lib.hid g9
      have HD := Lib.hid (doNone_any X xa xc wo (HX.out.keep0 g9) HN.out (by omega))
      clear ox g9
      go_wp2_with (fail)
      refine HD.out.mono ?_
      rintro e w11 ⟨v11, n11, L11, rfl, hn11, ho11, g11⟩
      obtain ⟨da, dc, rfl, -, -, -, -⟩ := own_shape ho11
      have HG11 := Lib.hid (gr_trans HG10.out g11)
      obtain ⟨f, hf⟩ : ∃ f : Int, f = if 60 < X.length then 2 else 0 := ⟨_, rfl⟩
      rw [← hf]
      have hf0 : f = 0 := by rw [hf, if_neg (by omega)]
      clear hf HD
      subst hf0
      have hx60 : decide ((X.length : Int) ≤ 60) = true := by simp; omega
      go_wp2_with (fail)
      go_loopw [83] (fun i wr => ∃ (k : Nat) (M : List ByteArray), k ≤ n11 ∧ i = .int .i64 k ∧ wr.ownsRow wo.heap.size 9 1 (.slice da n11 dc) n11 (strs M) ∧ wo.grownBy wr none) (fun i _ => n11 - (intOf i).toNat)
      case atStart => exact ⟨0, L11, Nat.zero_le _, rfl, ho11, g11⟩
      case round =>
        obtain ⟨k2, M, hk2, rfl, ox, g9⟩ := hrel
        obtain ⟨wp, rfl⟩ : ∃ wp : World, wp = wr := ⟨_, rfl⟩
        by_cases hlt2 : k2 < n11
        · obtain ⟨g, cg, he, hga, -, -, -⟩ := own_some ox (by omega)
          cases he
          obtain ⟨d1, d2, d3⟩ := own_str ox k2 hlt2
          have D3 := Lib.hid (d3 ⟨#[115, 112, 111, 105, 108, 116]⟩)
          have G9 := Lib.hid (gr_new g9 hga (q := ⟨g, k2, none⟩) (.string ⟨#[115, 112, 111, 105, 108, 116]⟩))
          clear d3 ox g9
          go_wp2_with (fail)
          go_roundw
          case rel => exact ⟨k2 + 1, _, by omega, by go_num, D3.out, G9.out⟩
          case measure => simp [intOf]; omega
        · have g12 := gr_trans HG10.out g9
          have HG12 := Lib.hid g12
          have HA := Lib.hid (at_any _ V va vc 99 wp (HV.out.keep0 g12 (fun x c hx => VerC.keep0 g12 x c hx)) (by omega) HVS1.out)
          clear ox g9 g12 ho11 g11
          go_wp2_with (fail)
          refine HA.out.mono ?_
          rintro e w13 ⟨v13, n13, L13, r13, rfl, hn13, ho13, -, -, hb13⟩
          obtain ⟨ea, ec, rfl, -, -, -, -⟩ := own_shape ho13
          have g13 := gr_of_below hb13
          have HO13 := Lib.hid ho13
          clear HA hb13 ho13
          go_upto_if 96 with (fail)
          go_cut [19] (fun _ wx => wp.grownBy wx none)
          case first =>
            by_cases hr : r13 = 0
            · subst hr
              go_wp2_with (fail)
              go_loopw [99] (fun i wr => ∃ (k : Nat) (M : List ByteArray), k ≤ n13 ∧ i = .int .i64 k ∧ wr.ownsRow wp.heap.size 9 1 (.slice ea n13 ec) n13 (strs M) ∧ wp.grownBy wr none) (fun i _ => n13 - (intOf i).toNat)
              case atStart => exact ⟨0, L13, Nat.zero_le _, rfl, HO13.out, g13⟩
              case round =>
                obtain ⟨k3, M, hk3, rfl, ox, g9⟩ := hrel
                obtain ⟨wq, rfl⟩ : ∃ wq : World, wq = wr := ⟨_, rfl⟩
                by_cases hlt3 : k3 < n13
                · obtain ⟨g, cg, he, hga, -, -, -⟩ := own_some ox (by omega)
                  cases he
                  obtain ⟨d1, d2, d3⟩ := own_str ox k3 hlt3
                  have D3 := Lib.hid (d3 ⟨#[115, 112, 111, 105, 108, 116]⟩)
                  have G9 := Lib.hid (gr_new g9 hga (q := ⟨g, k3, none⟩) (.string ⟨#[115, 112, 111, 105, 108, 116]⟩))
                  clear d3 ox g9
                  go_wp2_with (fail)
                  go_roundw
                  case rel => exact ⟨k3 + 1, _, by omega, by go_num, D3.out, G9.out⟩
                  case measure => simp [intOf]; omega
                · clear ox
                  go_wp2_with (fail)
                  go_meet
                  exact g9
            · have hr1 : (r13 == 0) = false := by simpa using hr
              clear hr
              go_wp2_with (fail)
              go_meet
              exact g13
          case rest =>
          obtain ⟨w14, rfl⟩ : ∃ w14 : World, w14 = wc := ⟨_, rfl⟩
          have g14 := gr_trans HG12.out hcut
          have HG14 := Lib.hid g14
          have WA := Lib.hid (worth_any O (List.replicate O.length 0) oa _ ov oc O.length w14 (HO.out.keep0 g14) HOK.out (HC.out.keep0 g14) (zeros_ok O))
          clear g13 hcut g14 HO13
          go_wp2_with (fail)
          refine WA.out.mono ?_
          rintro e w15 ⟨rfl, g15⟩
          rw [worth_zero]
          have g15 := gr_trans HG14.out g15
          clear WA
          go_wp2_with (fail)
          refine (shelves_any w15).mono ?_
          rintro e w16 ⟨rfl, g16⟩
          have g16 := gr_trans g15 g16
          clear g15
          go_wp2_with (fail)
          refine (equal_str X xa ya xc yc w16 (HX.out.keep0 g16) (HY.out.keep0 g16) (by omega)).mono ?_
          rintro e w17 ⟨rfl, g17⟩
          have g17 := gr_trans g16 g17
          clear g16
          go_wp2_with (fail)
          refine (equalVers_any _ _ V va ua vc uc w17 (HV.out.keep0 g17 (fun x c hx => VerC.keep0 g17 x c hx)) (HU.out.keep0 g17 (fun x c hx => VerC.keep0 g17 x c hx)) (by omega) HVS2.out).mono ?_
          rintro e w18 ⟨rfl, g18⟩
          have g18 := gr_trans (gr_trans HG7.out g17) g18
          clear g17
          go_wp2_with (fail)
          go_ret
          exact ⟨rfl, g18⟩
end Go.Proofs.Ytdjnomeabadbnaa
