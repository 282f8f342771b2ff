/- Package meter's Diagnose. -/
import Derived.Test.YtehhmgbgkemidaaGreatDoorPkSAz
import Derived.Test.YtehhmgbgkemidaaGreatDoorPkSBi
import Derived.Test.YtehhmgbgkemidaaGreatDoorPkSBk
namespace Go.Proofs.YtehhmgbgkemidaaGreatDoor
open Go.RowKit
attribute [local go_sem ↓] Go.wp_at_zero Go.wp_at_succ

def DiagPost (l : List Cd) (R : List Rl) (w : World) (e : Ending) (w' : World) : Prop :=
  ∃ (v : Value) (F : List Fd), e = .returned (.tuple #[v, .int .i64 0]) ∧ w'.ownsRow w.heap.size 44 3 v F.length (flat encFd F) ∧ F.length ≤ 18 ∧ FdsOk endM l R F ∧ w.grownBy w' none
set_option maxRecDepth 100000 in
set_option maxHeartbeats 4000000 in
theorem diagnose_any (l : List Cd) (R : List Rl) (a : Option Addr) (c : Nat) (ra : Option Addr) (rc : Nat) (w : World) (h : CellsAt w a (flat encCd l)) (hr : RlsAt w ra R) (ok : CdsFull l) (hsm : ∀ x ∈ l, CdSm x) (hl : l.length ≤ 10) (okR : RlsOk R) (hsR : ∀ x ∈ R, RlSm x) (hR : R.length ≤ 3) :
    Calls Tryz.prog 13 #[.slice a l.length c, .slice ra R.length rc] w (DiagPost l R w) := by
  have H := Lib.hid h
  have HR := Lib.hid hr
  have CC := Lib.hid (checkCodes_ok l a c w h ok hsm (by omega))
  have CR := Lib.hid (fun (W : World) (g : w.grownBy W none) => checkRules_ok R ra rc W (hr.keep0 g) okR hsR hR)
  have HOK := Lib.hid ok.ok
  have HOR := Lib.hid okR
  have HSR := Lib.hid hsR
  have hE : Hid ((0 : Int) ≤ endM) := by show (0 : Int) ≤ endM; decide
  clear h hr ok hsm okR hsR
  go_enter Tryz.func13, Tryz.ntmps13
  go_wp2_with (fail)
  refine CC.out.mono ?_
  rintro e w1 ⟨rfl, g1⟩
  have G1 := Lib.hid g1
  clear g1 CC
  go_wp2_with (fail)
  refine (CR.out w1 G1.out).mono ?_
  rintro e w2 ⟨rfl, g2⟩
  have G2 := Lib.hid (gr_trans G1.out g2)
  clear g2 CR G1
  go_wp2_with (fail)
  go_loopw [8, 28] (fun v i wr => ∃ (k : Nat) (F : List Fd), k ≤ R.length ∧ i = .int .i64 k ∧ F.length ≤ 6 * k ∧ FdsOk endM l R F ∧ wr.ownsRow w.heap.size 44 3 v F.length (flat encFd F) ∧ w.grownBy wr none) (fun _ i _ => R.length - (intOf i).toNat)
  case atStart => exact ⟨0, [], Nat.zero_le _, rfl, by simp, (fun f hf => by cases hf), World.ownsRow_nil _ _ _ _, G2.out⟩
  case round =>
    clear G2
    obtain ⟨k, F, hk, rfl, hF, hFo, hown, hgr⟩ := hrel
    obtain ⟨wo, rfl⟩ : ∃ wo : World, wo = wr := ⟨_, rfl⟩
    by_cases hlt : k < R.length
    · obtain ⟨b, off, a1, c1, a2, c2, rfl, d0, d1, d2, d3, hA, hB, n1, n2, -⟩ := rl_cells (HR.out.keep0 hgr) k hlt
      obtain ⟨x, hx⟩ : ∃ x, x = R[k] := ⟨_, rfl⟩
      have hm : x ∈ R := by rw [hx]; exact List.getElem_mem hlt
      have hro := HOR.out k hlt
      have hsr := HSR.out _ hm
      rw [← hx] at d0 d1 d2 d3 hA hB hro
      have hw2 := hsr.without.1
      have hn2 := hsr.needs.1
      have hn0 := hro.n0
      have HFO := Lib.hid hFo
      have HOWN := Lib.hid hown
      have HGR := Lib.hid hgr
      have HM := Lib.hid hm
      have hV := heap_alloc_new wo (.cells #[.string x.fault, .slice a1 x.needs.length c1, .slice a2 x.without.length c2, .int .i64 x.long] 46)
      have hg2 := gr_alloc (gr_refl wo none) (.cells #[.string x.fault, .slice a1 x.needs.length c1, .slice a2 x.without.length c2, .int .i64 x.long] 46)
      obtain ⟨w3, hw3⟩ : ∃ w3, w3 = wo.alloc (.cells #[.string x.fault, .slice a1 x.needs.length c1, .slice a2 x.without.length c2, .int .i64 x.long] 46) := ⟨_, rfl⟩
      rw [← hw3] at hV hg2
      obtain ⟨V, hVe⟩ : ∃ V, V = wo.heap.size := ⟨_, rfl⟩
      rw [← hVe] at hV
      have HV := Lib.hid hV
      have HO3 := Lib.hid (own_keep0 hown hg2)
      have HG3 := Lib.hid (gr_trans hgr hg2)
      have HA := Lib.hid (hA.keep0 hg2)
      have SO := Lib.hid (someOn_any l x.without a c a2 c2 w3 (H.out.keep0 HG3.out) (hB.keep0 hg2) HOK.out hl hw2)
      have HW3 := Lib.hid hw3
      have HVE := Lib.hid hVe
      have hz3 := HG3.out.size
      clear hx hFo hown hgr hm hV hg2 hw3 hVe hA hB n1 n2 HOWN HGR hsr hro
      go_upto_region 11 with (fail)
      rw [← HW3.out, ← HVE.out]
      clear d0 d1 d2 d3 HW3 HVE
      have v2 : w3.cell? ⟨V, 2, none⟩ = some (.slice a2 x.without.length c2) := blkC HV.out 2 rfl
      go_wp2_with (fail)
      refine SO.out.mono ?_
      rintro e w4 ⟨v4, J, rfl, o4, hJ, g4⟩
      obtain ⟨a4, c4, rfl, -, -, hc4, -⟩ := own_shape o4
      have hjl := apart_few _ _ hJ.apart hJ.ends
      rw [momW_len] at hjl
      have OT := Lib.hid (others_any J a4 c4 w4 hc4 (by omega))
      have DI := Lib.hid (DgInv.start HOK.out hE.out x hJ)
      have HV4 := Lib.hid ((g4.block _ (lt_of_block HV.out) (by simp)).trans HV.out)
      have HO4 := Lib.hid (own_keep0 HO3.out g4)
      have HG4 := Lib.hid (gr_trans HG3.out g4)
      have HA4 := Lib.hid (HA.out.keep0 g4)
      clear o4 hJ g4 hc4 hjl HV HO3 HA HG3 SO v2
      go_wp2_with (fail)
      refine OT.out.mono ?_
      rintro e w5 ⟨v5, rfl, o5, g5⟩
      obtain ⟨W0, hW0⟩ : ∃ W0, W0 = othersG endM 0 J := ⟨_, rfl⟩
      rw [← hW0] at o5 DI
      have HV5 := Lib.hid ((g5.block _ (lt_of_block HV4.out) (by simp)).trans HV4.out)
      have HO5 := Lib.hid (own_keep0 HO4.out g5)
      have HG5 := Lib.hid (gr_trans HG4.out g5)
      have HA5 := Lib.hid (HA4.out.keep0 g5)
      have HR5 := Lib.hid o5
      have v1 : w5.cell? ⟨V, 1, none⟩ = some (.slice a1 x.needs.length c1) := blkC HV5.out 1 rfl
      have hz45 := HG4.out.size
      clear o5 g5 hW0 HV4 HO4 HG4 HA4 OT
      go_wp2_with (fail)
      go_loopw [11, 40] (fun v i wr => ∃ (j : Nat) (W : List Win), j ≤ x.needs.length ∧ i = .int .i64 j ∧ DgInv endM l x W j ∧ wr.ownsRow w.heap.size 39 2 v W.length (flat encWin W) ∧ w5.grownBy wr none) (fun _ i _ => x.needs.length - (intOf i).toNat)
      case atStart => exact ⟨0, W0, Nat.zero_le _, rfl, DI.out, own_base HR5.out (by omega), gr_refl _ _⟩
      case round =>
        clear DI HR5 v1
        obtain ⟨j, W, hj, rfl, hD, hOw, hgr⟩ := hrel
        obtain ⟨wi, rfl⟩ : ∃ wi : World, wi = wr := ⟨_, rfl⟩
        by_cases hjl : j < x.needs.length
        · have hng : (strs x.needs)[j]? = some (.string x.needs[j]) := by simp [strs, hjl]
          obtain ⟨nb, no, rfl, e0⟩ := (HA5.out.keep0 hgr) j _ hng
          have hD2 := hD.step HOK.out hE.out hjl
          have hWl := hD.len
          obtain ⟨K, hK⟩ : ∃ K, K = x.needs[j] := ⟨_, rfl⟩
          rw [← hK] at e0 hD2
          have LT := Lib.hid (lit_any l K a c wi (H.out.keep0 (gr_trans HG5.out hgr)) (by omega))
          have hLL := lit_len (K := K) HOK.out hE.out
          obtain ⟨N, hN⟩ : ∃ N, N = litM endM K l := ⟨_, rfl⟩
          rw [← hN] at hD2 LT hLL
          obtain ⟨wa, wcc, rfl, hw1, hw3, hwc, -⟩ := own_shape hOw
          have HD2 := Lib.hid hD2
          have HWC := Lib.hid hwc
          have HGI := Lib.hid hgr
          have hzi := hgr.size
          clear hng hK hN hD hD2 hwc hgr hOw
          go_wp2_with (fail)
          refine LT.out.mono ?_
          rintro e w7 ⟨v7, rfl, o7, g7⟩
          obtain ⟨na, nc, rfl, hn3, hn4, hnc, -⟩ := own_shape o7
          have BT := Lib.hid (both_any W N wa na wcc nc w7 (HWC.out.keep0 g7) hnc (by omega) (by omega) ⟨hw1, hw3⟩ ⟨hn3, hn4⟩)
          have HG7 := Lib.hid (gr_trans HGI.out g7)
          have hz7 := HG7.out.size
          have hz5 := HG5.out.size
          clear o7 g7 hnc LT e0
          go_wp2_with (fail)
          refine BT.out.mono ?_
          rintro e w8 ⟨v8, rfl, o8, g8⟩
          have HO8 := Lib.hid (own_base (base' := w.heap.size) o8 (by omega))
          have HG8 := Lib.hid (gr_trans HG7.out g8)
          clear o8 g8 BT
          go_wp2_with (fail)
          go_roundw
          case rel => exact ⟨j + 1, bothM W N, by omega, by go_num, HD2.out, HO8.out, HG8.out⟩
          case measure => simp [intOf]; omega
        · obtain rfl : j = x.needs.length := by omega
          have hWl := hD.len
          have hOF := own_keep0 HO5.out hgr
          have hVi := (hgr.block _ (lt_of_block HV5.out) (by simp)).trans HV5.out
          have hVn := own_ne hOw hVi (by decide)
          have JN := Lib.hid (joined_any W _ w.heap.size wi hOw (by omega))
          have HOF := Lib.hid hOF
          have HOW := Lib.hid hOw
          have HVI := Lib.hid hVi
          have HGI := Lib.hid (gr_trans HG5.out hgr)
          have hzi := HGI.out.size
          have HVN := Lib.hid hVn
          have HD := Lib.hid hD
          have HUL : Hid (∀ q, Value.ownBlock u11 = some q → w.heap.size ≤ q) := fun q e => (hOw.lt q e).1
          clear hOF hOw hVi hgr hVn hD HO5 HG5
          go_wp2_with (fail)
          refine JN.out.mono ?_
          rintro e w7 ⟨v7, O, rfl, o7, hp, hs, g7⟩
          have hJ := join_ok (momW endM l) W O hp hs HD.out.apart.pos HD.out.ends
          have hJl := apart_few _ _ hJ.apart hJ.ends
          rw [momW_len] at hJl
          obtain ⟨J2, hJ2⟩ : ∃ J2, J2 = O.foldl joinStep [] := ⟨_, rfl⟩
          rw [← hJ2] at o7 hJ hJl
          have FN : Hid (∀ z ∈ J2, x.long ≤ z.to - z.fr → FdOf endM l x ⟨x.fault, z.fr, z.to⟩) := fun z hz hl => HD.out.find HOK.out hE.out hn0 hJ hz hl
          have FB : Hid (∀ z ∈ J2, (0 ≤ z.fr ∧ z.fr ≤ 5761440) ∧ (0 ≤ z.to ∧ z.to ≤ 5761440)) := fun z hz => ⟨momW_bd HOK.out hE.out _ (hJ.ends z hz).1, momW_bd HOK.out hE.out _ (hJ.ends z hz).2⟩
          have HF7 := Lib.hid (own_keepU HOF.out HOW.out (by decide) g7)
          have HV7 := Lib.hid ((g7.block _ (lt_of_block HVI.out) (fun e => HVN.out e.symm)).trans HVI.out)
          have HG7 := Lib.hid (gr_grown HGI.out g7 HUL.out)
          have HJ7 := Lib.hid (own_base (base' := w.heap.size) o7 hzi)
          obtain ⟨ja, jc, rfl, -, -, -, -⟩ := own_shape o7
          clear o7 hp hs g7 hJ hJ2 JN HOF HOW HVI HGI HVN HUL HD
          go_wp2_with (fail)
          go_loopw [8, 53] (fun v i wr => ∃ (m : Nat) (F' : List Fd), m ≤ J2.length ∧ i = .int .i64 m ∧ F'.length ≤ 6 * k + m ∧ FdsOk endM l R F' ∧ wr.ownsRow w.heap.size 44 3 v F'.length (flat encFd F') ∧ wr.heap[V]? = some (.cells #[.string x.fault, .slice a1 x.needs.length c1, .slice a2 x.without.length c2, .int .i64 x.long] 46 (0, 0)) ∧ wr.ownsRow w.heap.size 39 2 (.slice ja J2.length jc) J2.length (flat encWin J2) ∧ w.grownBy wr none) (fun _ i _ => J2.length - (intOf i).toNat)
          case atStart => exact ⟨0, F, Nat.zero_le _, rfl, by omega, HFO.out, HF7.out, HV7.out, HJ7.out, HG7.out⟩
          case round =>
            clear HF7 HV7 HJ7 HG7
            obtain ⟨m, F', hm, rfl, hF', hFo, hOF, hVr, hOJ, hgr⟩ := hrel
            obtain ⟨wi, rfl⟩ : ∃ wi : World, wi = wr := ⟨_, rfl⟩
            have HFO2 := Lib.hid hFo
            have HOF := Lib.hid hOF
            have HVR := Lib.hid hVr
            have HOJ := Lib.hid hOJ
            have HGR := Lib.hid hgr
            have hzr := hgr.size
            by_cases hml : m < J2.length
            · obtain ⟨_, _, e, -, -, hcj, -⟩ := own_shape hOJ
              cases e
              obtain ⟨jb, jo, rfl, e0, e1⟩ := win_cells hcj m hml
              have fn := FN.out _ (List.getElem_mem hml)
              have fb := FB.out _ (List.getElem_mem hml)
              obtain ⟨z, hz⟩ : ∃ z, z = J2[m] := ⟨_, rfl⟩
              rw [← hz] at e0 e1 fn fb
              obtain ⟨z0, z1⟩ := z
              simp only at e0 e1 fn fb
              have FN1 := Lib.hid fn
              have hX := heap_alloc_new wi (.cells #[.int .i64 z0, .int .i64 z1] 39)
              have g2 := gr_alloc (gr_refl wi none) (.cells #[.int .i64 z0, .int .i64 z1] 39)
              obtain ⟨w9, hw9⟩ : ∃ w9, w9 = wi.alloc (.cells #[.int .i64 z0, .int .i64 z1] 39) := ⟨_, rfl⟩
              rw [← hw9] at hX g2
              obtain ⟨X, hXe⟩ : ∃ X, X = wi.heap.size := ⟨_, rfl⟩
              rw [← hXe] at hX
              have x0 : w9.cell? ⟨X, 0, none⟩ = some (.int .i64 z0) := blkC hX 0 rfl
              have x1 : w9.cell? ⟨X, 1, none⟩ = some (.int .i64 z1) := blkC hX 1 rfl
              have hV9 := (g2.block _ (lt_of_block hVr) (by simp)).trans hVr
              have y0 : w9.cell? ⟨V, 0, none⟩ = some (.string x.fault) := blkC hV9 0 rfl
              have y3 : w9.cell? ⟨V, 3, none⟩ = some (.int .i64 x.long) := blkC hV9 3 rfl
              have HV9 := Lib.hid hV9
              have HF9 := Lib.hid (own_keep0 hOF g2)
              have HJ9 := Lib.hid (own_keep0 hOJ g2)
              have HG9 := Lib.hid (gr_trans hgr g2)
              have HW9 := Lib.hid hw9
              have HXE := Lib.hid hXe
              have hz9 := HG9.out.size
              clear hz hcj fn hX g2 hw9 hXe hV9 hFo hOF hVr hOJ hgr HOF HVR HOJ HGR
              go_upto_region 20 with (fail)
              rw [← HW9.out, ← HXE.out]
              clear e0 e1 HW9 HXE
              by_cases hlong : x.long ≤ z1 - z0
              · have FD := Lib.hid (FN1.out hlong)
                clear FN1
                have hd : decide (x.long ≤ z1 - z0) = true := decide_eq_true hlong
                go_wp2_with (at_builtin; refine wpList_app1F eFd rfl _ _ rfl w.heap.size _ F'.length (flat encFd F') rfl w9 #[.string x.fault, .int .i64 z0, .int .i64 z1] rfl HF9.out _ rfl rfl rfl rfl (by omega) hz9 ?_; intro v10 w10 o10 g10 hl10 _; have O10 := Lib.hid o10; have G10 := Lib.hid g10; clear o10 g10)
                go_wp2_with (fail)
                go_roundw
                case rel =>
                  refine ⟨m + 1, F' ++ [⟨x.fault, z0, z1⟩], by omega, by go_num, by rw [List.length_append]; simp; omega, ?_, by rw [flatFd_snoc, List.length_append]; exact O10.out, (G10.out.block _ (lt_of_block HV9.out) (fun e => own_ne HF9.out HV9.out (by decide) e.symm)).trans HV9.out, own_keepU HJ9.out HF9.out (by decide) G10.out, gr_grown HG9.out G10.out hl10⟩
                  intro f hf
                  rcases List.mem_append.1 hf with hf | hf
                  · exact HFO2.out f hf
                  · have e : f = ⟨x.fault, z0, z1⟩ := by simpa using hf
                    rw [e]; exact ⟨x, HM.out, FD.out⟩
                case measure => simp [intOf]; omega
              · have hd : decide (x.long ≤ z1 - z0) = false := decide_eq_false hlong
                clear FN1
                go_wp2_with (fail)
                go_roundw
                case rel => exact ⟨m + 1, F', by omega, by go_num, by omega, HFO2.out, HF9.out, HV9.out, HJ9.out, HG9.out⟩
                case measure => simp [intOf]; omega
            · obtain rfl : m = J2.length := by omega
              clear hFo hOF hVr hOJ hgr
              go_wp2_with (fail)
              go_roundw
              case rel => exact ⟨k + 1, F', by omega, by go_num, by omega, HFO2.out, HOF.out, HGR.out⟩
              case measure => simp [intOf]; omega
    · obtain rfl : k = R.length := by omega
      have SF := Lib.hid (sortFd_any _ F.length w.heap.size F wo hown rfl (by omega))
      have HGR := Lib.hid hgr
      have HFO := Lib.hid hFo
      have HUL : Hid (∀ q, Value.ownBlock u8 = some q → w.heap.size ≤ q) := fun q e => (hown.lt q e).1
      clear hown hgr hFo
      go_wp2_with (fail)
      refine SF.out.mono ?_
      rintro e w3 ⟨O, rfl, o3, hp, g3⟩
      have hOl := hp.length_eq
      rw [← hOl] at o3
      have CM := Lib.hid (compactFd_any O _ O.length w.heap.size w3 o3 rfl (by omega))
      have HG3 := Lib.hid (gr_grown HGR.out g3 HUL.out)
      have HP := Lib.hid hp
      clear o3 hp g3 SF HGR
      go_wp2_with (fail)
      refine CM.out.mono ?_
      rintro e w4 ⟨v4, C, rfl, o4, hsub, hCl, g4⟩
      have HO4 := Lib.hid o4
      have HG4 := Lib.hid (gr_grown HG3.out g4 HUL.out)
      have HS := Lib.hid hsub
      clear o4 g4 CM HG3 hsub
      go_wp2_with (fail)
      go_ret2
      exact ⟨_, C, rfl, HO4.out, by omega, fun f hf => HFO.out f (HP.out.mem_iff.1 (HS.out f hf)), HG4.out⟩
end Go.Proofs.YtehhmgbgkemidaaGreatDoor
