/- The walk of DemandStays. -/
import Derived.Test.YtlpkancpjdihgaaTableMake
import Derived.Test.YtlpkancpjdihgaaHist
import Derived.Test.YtlpkancpjdihgaaDays
import Derived.Test.YtlpkancpjdihgaaInstFault
import Derived.Test.YtlpkancpjdihgaaInstead
import Derived.Test.YtlpkancpjdihgaaTogether
import Derived.Test.YtlpkancpjdihgaaEqual
import Derived.Test.YtlpkancpjdihgaaUncover
import Derived.Test.YtlpkancpjdihgaaDemands
import Derived.Deep.CutRange
import Derived.Deep.DeepFit
namespace Go.Proofs.Ytlpkancpjdihgaa
open Go.RowKit

theorem together_one (h : List Int) (a : Option Addr) (c : Nat) (w : World) (hc : CellsAt w a (ints h)) (hl : h.length ≤ 1000000) :
    Calls Try.prog 49 #[.slice a h.length c, .int .i64 1] w fun e w' => ∃ (v : Value) (N : List Int) (E : Int), e = .returned (.tuple #[v, .int .i64 E]) ∧ w'.ownsRow w.heap.size 3 1 v N.length (ints N) ∧ N.length ≤ 2001 ∧ (E = 0 ↔ histCode h = 0) ∧ w.grownBy w' none := by
  by_cases hk : histCode h = 0
  · refine (together_any h 1 a c w hc hk (by omega) (by omega)).mono ?_
    rintro e w1 (⟨h1, _, _⟩ | ⟨v, N, rfl, hN, _, _, hNl, hg⟩)
    · exact absurd rfl h1
    · exact ⟨v, N, 0, rfl, hN, hNl, ⟨fun _ => hk, fun _ => rfl⟩, hg⟩
  · refine (together_bad h 1 a c w hc hk hl).mono ?_
    rintro e w1 ⟨rfl, hg⟩
    exact ⟨_, [], _, rfl, World.ownsRow_nil _ _ _ _, by simp, Iff.rfl, hg⟩
theorem uncover_one (l : List Sale) (a : Option Addr) (c : Nat) (w : World) (hc : CellsAt w a (sales l)) (hl : l.length ≤ 1000) :
    Calls Try.prog 19 #[.slice a l.length c] w fun e w' => ∃ (v : Value) (r : Int), e = .returned (.tuple #[v, .int .i64 r]) ∧ w.grownBy w' none := by
  by_cases ho : OkDays l
  · refine (uncover_any l a c w hc ho).mono ?_
    rintro e w1 ⟨v, rfl, _, hg⟩
    exact ⟨v, 0, rfl, hg⟩
  · refine (uncover_bad l a c w hc ho hl).mono ?_
    rintro e w1 ⟨r, rfl, hg⟩
    exact ⟨_, r, rfl, hg⟩
theorem instead_one (T : List (List Int)) (W S : List Int) (a a1 a2 : Option Addr) (c c1 c2 : Nat) (w : World) (hT : RowsAt w a T) (hl : T.length ≤ 1000000) (hr : ∀ r ∈ T, r.length ≤ 1000000)
    (hW : CellsAt w a1 (ints W)) (hS : CellsAt w a2 (ints S)) (hn2 : a2 = none → c2 = 0) (hl1 : W.length ≤ 100000) (hl2 : S.length ≤ 100000) (hc2 : S.length ≤ c2) :
    Calls Try.prog 42 #[.agg #[.slice a T.length c], .slice a1 W.length c1, .slice a2 S.length c2] w fun e w' => ∃ (va vb : Value) (X Y : List Int) (m : Nat), e = .returned (.tuple #[va, vb, .int .i64 (insteadCode T W S)]) ∧
      w'.ownsRow w.heap.size 3 1 va m (ints X) ∧ w'.ownsRow w.heap.size 3 1 vb m (ints Y) ∧ (m = 0 ∨ ∃ ga gb, va = .slice (some ⟨ga, 0, none⟩) m m ∧ vb = .slice (some ⟨gb, 0, none⟩) m m ∧ ga ≠ gb) ∧ m ≤ 1000000 ∧ w.grownBy w' none := by
  refine (instead_any T W S a a1 a2 c c1 c2 w hT hl hr hW hS hn2 hl1 hl2 hc2).mono ?_
  rintro e w1 (⟨_, rfl, hg⟩ | ⟨h0, A, B, L, ga, gb, rfl, _, hA, hB, hne, hg⟩)
  · exact ⟨_, _, [], [], 0, rfl, World.ownsRow_nil _ _ _ _, World.ownsRow_nil _ _ _ _, .inl rfl, by omega, hg⟩
  · exact ⟨_, _, A, B, T.length, by rw [h0], hA, hB, .inr ⟨ga, gb, rfl, rfl, hne⟩, hl, hg⟩
theorem daysM_len (l : List Int) (k : Nat) : (daysM l k).length ≤ 100 := by
  have := daysN_lt l k
  unfold daysM daysHead
  split <;> simp [salesTo_length] <;> omega

set_option maxRecDepth 100000 in
set_option maxHeartbeats 4000000 in
theorem demandStays_any (l : List Int) (a : Option Addr) (cap : Nat) (w : World) (hc : CellsAt w a (ints l)) (hl : l.length ≤ 9223372036854775807) :
    Calls Try.prog 9 #[.slice a l.length cap] w fun e w' => e = .returned (.bool true) ∧ w.grownBy w' none := by
  have hg0 := gr_alloc (gr_alloc (gr_refl w none) (.cells #[.slice a l.length cap, .int .i64 0] 25)) (.cells #[.slice a l.length cap, .int .i64 0] 25)
  have sa0 := (StreamAt.made cap hc hl).keep0 (gr_alloc (gr_refl _ _) (.cells #[.slice a l.length cap, .int .i64 0] 25))
  have sb0 := StreamAt.madeLow cap (gr_alloc (gr_refl w none) (.cells #[.slice a l.length cap, .int .i64 0] 25)) hc hl
  rw [show (w.alloc (.cells #[.slice a l.length cap, .int .i64 0] 25)).heap.size = w.heap.size + 1 by simp] at sb0
  obtain ⟨w0, hw0⟩ : ∃ w0, w0 = (w.alloc (.cells #[.slice a l.length cap, .int .i64 0] 25)).alloc (.cells #[.slice a l.length cap, .int .i64 0] 25) := ⟨_, rfl⟩
  have hz0 : w0.heap.size = w.heap.size + 2 := by rw [hw0]; simp
  rw [← hw0] at sa0 sb0 hg0
  have hkd := daysK_le l 0
  have hkh := histM_k l (daysK l 0)
  have hDl := daysM_len l 0
  have hHl := histM_len l (daysK l 0)
  have hHm := histM_mem l (daysK l 0)
  have hTl := tableM_len l (histM l (daysK l 0)).2
  have hTr := tableM_row l (histM l (daysK l 0)).2
  obtain ⟨kd, hkde⟩ : ∃ kd, kd = daysK l 0 := ⟨_, rfl⟩
  rw [← hkde] at hkd hkh hHl hHm hTl hTr
  obtain ⟨kh, hkhe⟩ : ∃ kh, kh = (histM l kd).2 := ⟨_, rfl⟩
  rw [← hkhe] at hkh hTl hTr
  have DA := fun (p' : Nat) (w' : World) (h : StreamAt w' p' w.heap.size l 0) => days_any l 0 p' w' h (by omega)
  have HA := fun (p' : Nat) (w' : World) (h : StreamAt w' p' w.heap.size l kd) => histogram_any l kd p' w' h (by omega)
  have TA := fun (p' : Nat) (w' : World) (h : StreamAt w' p' w.heap.size l kh) => table_any l kh p' w' h (by omega)
  rw [← hkde] at DA
  rw [← hkhe] at HA
  obtain ⟨D, hD⟩ : ∃ D, D = daysM l 0 := ⟨_, rfl⟩
  obtain ⟨H, hH⟩ : ∃ H, H = (histM l kd).1 := ⟨_, rfl⟩
  obtain ⟨T, hT⟩ : ∃ T, T = (tableM l kh).1 := ⟨_, rfl⟩
  rw [← hD] at DA hDl
  rw [← hH] at HA hHl hHm
  rw [← hT] at TA hTl hTr
  have HD := Lib.hid DA
  have HH := Lib.hid HA
  have HT := Lib.hid TA
  have HHM := Lib.hid hHm
  have HTR := Lib.hid hTr
  clear DA HA TA hD hH hT hkde hkhe hHm hTr hkd hkh hc hl
  go_enter Try.func9, Try.ntmps9
  go_wp2_with (fail)
  rw [← hw0]
  have HW0 := Lib.hid hw0; clear hw0
  refine (HD.out _ w0 sa0).mono ?_
  rintro e w1 ⟨v1, rfl, o1, sa1, g1⟩
  have z1 := g1.size
  have sb1 := sb0.keepNe g1 (fun q e => by cases e; omega)
  clear sa0 sb0
  go_wp2_with (fail)
  refine (HD.out _ w1 sb1).mono ?_
  rintro e w2 ⟨v2, rfl, o2, sb2, g2⟩
  have z2 := g2.size
  have sa2 := sa1.keepNe g2 (fun q e => by cases e; omega)
  have o1 := own_keepS o1 g2 (by omega)
  clear sa1 sb1
  go_wp2_with (fail)
  refine (HH.out _ w2 sa2).mono ?_
  rintro e w3 ⟨v3, rfl, o3, sa3, g3⟩
  have z3 := g3.size
  have sb3 := sb2.keepNe g3 (fun q e => by cases e; omega)
  have o1 := own_keepS o1 g3 (by omega)
  have o2 := own_keepS o2 g3 (by omega)
  clear sa2 sb2
  go_wp2_with (fail)
  refine (HH.out _ w3 sb3).mono ?_
  rintro e w4 ⟨v4, rfl, o4, sb4, g4⟩
  have z4 := g4.size
  have sa4 := sa3.keepNe g4 (fun q e => by cases e; omega)
  have o1 := own_keepS o1 g4 (by omega)
  have o2 := own_keepS o2 g4 (by omega)
  have o3 := own_keepS o3 g4 (by omega)
  clear sa3 sb3
  go_wp2_with (fail)
  refine (HT.out _ w4 sa4).mono ?_
  rintro e w5 ⟨v5, vs5, rfl, o5, sa5, g5⟩
  have z5 := g5.size
  have sb5 := sb4.keepNe g5 (fun q e => by cases e; omega)
  have o1 := own_keepS o1 g5 (by omega)
  have o2 := own_keepS o2 g5 (by omega)
  have o3 := own_keepS o3 g5 (by omega)
  have o4 := own_keepS o4 g5 (by omega)
  clear sa4 sb4 sa5
  obtain ⟨ta, tc, rfl, _, _, _, _⟩ := own_shape o5.outer
  go_wp2_with (fail)
  refine (HT.out _ w5 sb5).mono ?_
  rintro e w6 ⟨v6, vs6, rfl, o6, _, g6⟩
  have z6 := g6.size
  have o1 := own_keepS o1 g6 (by omega)
  have o2 := own_keepS o2 g6 (by omega)
  have o3 := own_keepS o3 g6 (by omega)
  have o4 := own_keepS o4 g6 (by omega)
  have o5 := o5.keepS g6 (by omega)
  clear sb5
  obtain ⟨ua, uc, rfl, _, _, _, _⟩ := own_shape o6.outer
  obtain ⟨da, dc, rfl, _, _, cD, _⟩ := own_shape o1
  obtain ⟨ca, cc, rfl, _, _, cC, _⟩ := own_shape o2
  obtain ⟨ha, hc_, rfl, _, _, cH, _⟩ := own_shape o3
  obtain ⟨ga, gc, rfl, _, _, cG, _⟩ := own_shape o4
  have rT := o5.rows.2
  have rU := o6.rows.2
  have hgr6 := gr_grown hg0 (gr_trans g1 (gr_refl _ _)) (fun k e => by cases e; omega)
  have hgr6 := gr_grown hgr6 g2 (fun k e => by cases e; omega)
  have hgr6 := gr_grown hgr6 g3 (fun k e => by cases e; omega)
  have hgr6 := gr_grown hgr6 g4 (fun k e => by cases e; omega)
  have hgr6 := gr_grown hgr6 g5 (fun k e => by cases e; omega)
  have hgr6 := gr_grown hgr6 g6 (fun k e => by cases e; omega)
  clear o1 o2 o3 o4 o5 o6 g1 g2 g3 g4 g5 g6 hg0 HD HH HT
  go_wp2_with (fail)
  have hga := gr_alloc (gr_alloc (gr_refl w6 none) (.cells #[.slice ta T.length tc] 72)) (.cells #[.slice ua T.length uc] 72)
  have t7 := cell_of_row _ _ 0 _ _ _ (heap_alloc2_old w6 (.cells #[.slice ta T.length tc] 72) (.cells #[.slice ua T.length uc] 72))
  have u7 := cell_of_row _ _ 0 _ _ _ (heap_alloc2_new w6 (.cells #[.slice ta T.length tc] 72) (.cells #[.slice ua T.length uc] 72))
  obtain ⟨w7, hw7⟩ : ∃ w7, w7 = (w6.alloc (.cells #[.slice ta T.length tc] 72)).alloc (.cells #[.slice ua T.length uc] 72) := ⟨_, rfl⟩
  rw [← hw7] at hga t7 u7
  rw [← hw7]
  have HW7 := Lib.hid hw7; clear hw7
  replace t7 : w7.cell? ⟨w6.heap.size, 0, none⟩ = some (.slice ta T.length tc) := t7
  replace u7 : w7.cell? ⟨w6.heap.size + 1, 0, none⟩ = some (.slice ua T.length uc) := u7
  have cD := cD.keep0 hga
  have cC := cC.keep0 hga
  have cH := cH.keep0 hga
  have cG := cG.keep0 hga
  have rT := rT.keep0 hga
  have rU := rU.keep0 hga
  have hgr7 := gr_trans hgr6 hga
  clear hga hgr6
  refine (together_one H ha hc_ w7 cH (by omega)).mono ?_
  rintro e w8 ⟨x, N, E, rfl, ox, hNl, hE, g8⟩
  obtain ⟨xa, xc, rfl, _, _, _, _⟩ := own_shape ox
  have z8 := g8.size
  have b7 := lt_of_cell u7
  go_wp2_with (fail)
  obtain ⟨nx, hnx⟩ : ∃ nx, nx = N.length := ⟨_, rfl⟩
  rw [← hnx] at ox hNl
  rw [← hnx]
  clear hnx
  have HE := Lib.hid hE; clear hE
  go_loopw [49] (fun i wr => ∃ (k : Nat) (M : List Int), k ≤ nx ∧ i = .int .i64 k ∧ wr.ownsRow w7.heap.size 3 1 (.slice xa nx xc) nx (ints M) ∧ w7.grownBy wr none) (fun i _ => nx - (intOf i).toNat)
  case atStart => exact ⟨0, N, Nat.zero_le _, rfl, ox, g8⟩
  case round =>
    clear ox g8 z8
    obtain ⟨k, M, hk, rfl, ox, g9⟩ := hrel
    obtain ⟨w9, rfl⟩ : ∃ w9 : World, w9 = wr := ⟨_, rfl⟩
    by_cases hlt : k < nx
    · obtain ⟨g, cg, he, hga, _, _, _⟩ := own_some ox (by omega)
      cases he
      obtain ⟨d1, d2, d3⟩ := own_int ox k hlt
      have D3 := Lib.hid (d3 (-9))
      have G9 := Lib.hid (gr_new g9 hga (q := ⟨g, k, none⟩) (.int .i64 (-9)))
      clear d3 ox g9
      go_wp2_with (fail)
      go_roundw
      case rel => exact ⟨k + 1, _, by omega, by go_num, D3.out, G9.out⟩
      case measure => simp [intOf]; omega
    · have hkn : k = nx := by omega
      subst hkn
      have t9 := (gr_cell g9 (lt_of_cell t7)).trans t7
      clear hlt ox
      go_wp2_with (fail)
      obtain ⟨Z, hZ⟩ : ∃ Z, Z = madeCells #[Value.int .i64 0] T.length := ⟨_, rfl⟩
      have hmk : ∀ w' : World, (Instr.makeSlice 22 (.int .i64 (T.length : Int)) (.int .i64 (T.length : Int))).run Try.prog w' = .ok (.slice (some ⟨w'.heap.size, 0, none⟩) T.length T.length) (w'.alloc (.cells Z 3)) := by
        intro w'
        rw [hZ]
        exact run_make_row' 22 3 (.int .i64 0) 8 eInt.und eInt.info rfl .i64 .i64 T.length (by omega) (by omega) w'
      have hZl : Z.toList = ints (List.replicate T.length 0) := by rw [hZ, toList_madeCells_one]; simp [ints]
      have hZs : Z.size = T.length * 1 := by rw [← Array.length_toList, hZl]; simp [ints]
      have h1 := own_keep0 (World.ownsRow_lit (base := w7.heap.size) (e := 3) (size := 1) w9 Z T.length g9.size (by unfold maxLen; omega) hZs) (gr_drew (gr_alloc (gr_refl _ _) (.cells Z 3)))
      have h2 := own_keep0 (World.ownsRow_lit (base := w7.heap.size) (e := 3) (size := 1) (w9.alloc (.cells Z 3)) Z T.length (by have := g9.size; simp; omega) (by unfold maxLen; omega) hZs) (gr_drew (gr_refl _ _))
      rw [hZl] at h1 h2
      rw [show (w9.alloc (.cells Z 3)).heap.size = w9.heap.size + 1 by simp] at h2
      have hgz := gr_drew (gr_alloc (gr_alloc (gr_refl w9 none) (.cells Z 3)) (.cells Z 3))
      have H1 := Lib.hid h1
      have H2 := Lib.hid h2
      have HGZ := Lib.hid hgz
      clear h1 h2 hgz hZs hZl hZ
      go_cut [15, 16] from 59 to 62 (fun s b wx => ∃ gs gb, s = .slice (some ⟨gs, 0, none⟩) T.length T.length ∧ b = .slice (some ⟨gb, 0, none⟩) T.length T.length ∧ gs ≠ gb ∧
        wx.ownsRow w7.heap.size 3 1 (.slice (some ⟨gs, 0, none⟩) T.length T.length) T.length (ints (List.replicate T.length 0)) ∧
        wx.ownsRow w7.heap.size 3 1 (.slice (some ⟨gb, 0, none⟩) T.length T.length) T.length (ints (List.replicate T.length 0)) ∧ w9.grownBy wx none)
      case first =>
        go_region
        all_goals (go_wp2_with (fail); go_meet; first | exact ⟨_, _, rfl, rfl, by omega, H1.out, H2.out, HGZ.out⟩ | exact ⟨_, _, rfl, rfl, by omega, H2.out, H1.out, HGZ.out⟩)
      case rest =>
      obtain ⟨gs, gb, rfl, rfl, hsb, hA, hB, g10⟩ := hcut
      have g10 := gr_trans g9 g10
      clear H1 H2 HGZ hmk g9 t9
      go_wp2_with (fail)
      go_loopw [65] (fun i wr => ∃ (k : Nat) (A B : List Int), k ≤ T.length ∧ i = .int .i64 k ∧ wr.ownsRow w7.heap.size 3 1 (.slice (some ⟨gs, 0, none⟩) T.length T.length) T.length (ints A) ∧ wr.ownsRow w7.heap.size 3 1 (.slice (some ⟨gb, 0, none⟩) T.length T.length) T.length (ints B) ∧
        (∀ q, q < k → A.getD q 0 = 5 ∧ B.getD q 0 = 2) ∧ w7.grownBy wr none) (fun i _ => T.length - (intOf i).toNat)
      case atStart => exact ⟨0, _, _, Nat.zero_le _, rfl, hA, hB, fun q hq => absurd hq (Nat.not_lt_zero _), g10⟩
      case round =>
        clear hA hB g10
        obtain ⟨i, A, B, hi, rfl, hA, hB, hAB, g11⟩ := hrel
        obtain ⟨w11, rfl⟩ : ∃ w11 : World, w11 = wr := ⟨_, rfl⟩
        have HAB := Lib.hid hAB; clear hAB
        by_cases hlt : i < T.length
        · have hAl := own_len hA
          have hBl := own_len hB
          obtain ⟨d1, d2, d3⟩ := own_int hA i hlt
          have hB1 := own_keep hB (gr_set (gr_refl w11 (some gs)) (q := ⟨gs, i, none⟩) rfl (.int .i64 5)) (.inr (fun e => hsb (Option.some.inj e).symm))
          obtain ⟨f1, f2, f3⟩ := own_int hB i hlt
          obtain ⟨e1, e2, e3⟩ := own_int hB1 i hlt
          have hA2 := own_keep (d3 5) (gr_set (gr_refl _ (some gb)) (q := ⟨gb, i, none⟩) rfl (.int .i64 2)) (.inr (fun e => hsb (Option.some.inj e)))
          have HA2 := Lib.hid hA2
          have HB2 := Lib.hid (e3 2)
          have G2 := Lib.hid (gr_new (gr_new g11 (hA.lt gs rfl).1 (q := ⟨gs, i, none⟩) (.int .i64 5)) (hB.lt gb rfl).1 (q := ⟨gb, i, none⟩) (.int .i64 2))
          clear d3 f3 e3 hA2 hB1 hA hB g11
          go_wp2_with (fail)
          go_roundw
          case rel =>
            refine ⟨i + 1, _, _, by omega, by go_num, HA2.out, HB2.out, ?_, G2.out⟩
            intro q hq
            rw [getD_set _ _ _ _ (by omega), getD_set _ _ _ _ (by omega)]
            by_cases eq : q = i
            · rw [if_pos eq, if_pos eq]; exact ⟨rfl, rfl⟩
            · rw [if_neg eq, if_neg eq]; exact HAB.out q (by omega)
          case measure => simp [intOf]; omega
        · have hin : i = T.length := by omega
          have hAB := HAB.out
          rw [hin] at hAB
          have HAB2 := Lib.hid hAB
          have hAl := own_len hA
          have hBl := own_len hB
          have t11 := (gr_cell g11 (lt_of_cell t7)).trans t7
          have u11 := (gr_cell g11 (lt_of_cell u7)).trans u7
          obtain ⟨_, _, he, _, _, cA, _⟩ := own_shape hA
          cases he
          obtain ⟨_, _, he, _, _, cB, _⟩ := own_shape hB
          cases he
          have HIN := Lib.hid (instead_one T A B ta (some ⟨gs, 0, none⟩) (some ⟨gb, 0, none⟩) tc T.length T.length w11 (rT.keep0 g11) (by omega) (fun r hr => by have := HTR.out r hr; omega) cA cB (fun e => by cases e) (by omega) (by omega) (by omega))
          rw [hAl, hBl] at HIN
          have HAl := Lib.hid hAl
          have HBl := Lib.hid hBl
          clear hAB HAB hin hAl hBl
          go_wp2_with (fail)
          go_fit HIN.out
          rintro e w12 ⟨va, vb, X, Y, m, rfl, hX, hY, hva, hmb, g12⟩
          obtain ⟨xa2, xc2, rfl, _, _, _, _⟩ := own_shape hX
          obtain ⟨ya2, yc2, rfl, _, _, _, _⟩ := own_shape hY
          have HVA := Lib.hid hva
          obtain ⟨f, hf⟩ : ∃ f, f = insteadCode T A B := ⟨_, rfl⟩
          rw [← hf]
          have HFE := Lib.hid hf
          clear hva hf HIN t11
          go_wp2_with (fail)
          clear hlt
          go_loopw [85] (fun i wr => ∃ (k : Nat) (X Y : List Int), k ≤ m ∧ i = .int .i64 k ∧ wr.ownsRow w11.heap.size 3 1 (.slice xa2 m xc2) m (ints X) ∧ wr.ownsRow w11.heap.size 3 1 (.slice ya2 m yc2) m (ints Y) ∧ w11.grownBy wr none) (fun i _ => m - (intOf i).toNat)
          case atStart => exact ⟨0, X, Y, Nat.zero_le _, rfl, hX, hY, g12⟩
          case round =>
            clear hX hY g12
            obtain ⟨k2, X, Y, hk2, rfl, hX, hY, g13⟩ := hrel
            obtain ⟨w13, rfl⟩ : ∃ w13 : World, w13 = wr := ⟨_, rfl⟩
            by_cases hlt : k2 < m
            · rcases HVA.out with h0 | ⟨ga2, gb2, e1, e2, hne⟩
              · omega
              cases e1
              cases e2
              obtain ⟨d1, d2, d3⟩ := own_int hX k2 hlt
              have hB1 := own_keep hY (gr_set (gr_refl w13 (some ga2)) (q := ⟨ga2, k2, none⟩) rfl (.int .i64 (-1))) (.inr (fun e => hne (Option.some.inj e).symm))
              obtain ⟨f1, f2, f3⟩ := own_int hY k2 hlt
              obtain ⟨e1, e2, e3⟩ := own_int hB1 k2 hlt
              have hA2 := own_keep (d3 (-1)) (gr_set (gr_refl _ (some gb2)) (q := ⟨gb2, k2, none⟩) rfl (.int .i64 (-1))) (.inr (fun e => hne (Option.some.inj e)))
              have HA2 := Lib.hid hA2
              have HB2 := Lib.hid (e3 (-1))
              have G2 := Lib.hid (gr_new (gr_new g13 (hX.lt ga2 rfl).1 (q := ⟨ga2, k2, none⟩) (.int .i64 (-1))) (hY.lt gb2 rfl).1 (q := ⟨gb2, k2, none⟩) (.int .i64 (-1)))
              clear d3 f3 e3 hA2 hB1 hX hY g13
              go_wp2_with (fail)
              go_roundw
              case rel => exact ⟨k2 + 1, _, _, by omega, by go_num, HA2.out, HB2.out, G2.out⟩
              case measure => simp [intOf]; omega
            · have g7 := gr_trans g11 g13
              have hA := own_keep0 hA g13
              have hB := own_keep0 hB g13
              clear hX hY g11 g13
              go_wp2_with (fail)
              refine (uncover_one D da dc w13 (cD.keep0 g7) (by omega)).mono ?_
              rintro e w14 ⟨vu, r, rfl, g14⟩
              have g7 := gr_trans g7 g14
              have hA := own_keep0 hA g14
              have hB := own_keep0 hB g14
              clear g14
              go_wp2_with (fail)
              clear hlt
              go_loopw [102] (fun i wr => ∃ k : Nat, k ≤ T.length ∧ i = .int .i64 k ∧ wr = w14) (fun i _ => T.length - (intOf i).toNat)
              case atStart => exact ⟨0, Nat.zero_le _, rfl, rfl⟩
              case round =>
                obtain ⟨k3, hk3, rfl, hwe⟩ := hrel
                subst hwe
                obtain ⟨w15, rfl⟩ : ∃ w15 : World, w15 = wr := ⟨_, rfl⟩
                by_cases hlt : k3 < T.length
                · obtain ⟨d1, _, _⟩ := own_int hA k3 hlt
                  obtain ⟨f1, _, _⟩ := own_int hB k3 hlt
                  obtain ⟨q1, q2⟩ := HAB2.out k3 hlt
                  rw [q1] at d1
                  rw [q2] at f1
                  clear q1 q2
                  go_wp2_with (fail)
                  go_roundw
                  case rel => exact ⟨k3 + 1, by omega, by go_num, trivial⟩
                  case measure => simp [intOf]; omega
                · have HG := Lib.hid (fun (w' : World) (g : w15.grownBy w' none) => histFault_any H ga gc w' ((cG.keep0 g7).keep0 g) (by omega) (fun x hx => by have := HHM.out x hx; omega))
                  obtain ⟨_, _, he, _, _, cA, _⟩ := own_shape hA
                  cases he
                  obtain ⟨_, _, he, _, _, cB, _⟩ := own_shape hB
                  cases he
                  have hAl := HAl.out
                  have hBl := HBl.out
                  have HI := fun (w' : World) (g : w15.grownBy w' none) => instF_any T A B ua (some ⟨gs, 0, none⟩) (some ⟨gb, 0, none⟩) uc T.length T.length w' ((rU.keep0 g7).keep0 g) (by omega) (fun r hr => by have := HTR.out r hr; omega) (cA.keep0 g) (cB.keep0 g) (fun e => by cases e) (fun e => by cases e) (by omega) (by omega)
                  rw [hAl, hBl, ← HFE.out] at HI
                  have HI := Lib.hid HI
                  have u15 := (gr_cell g7 (lt_of_cell u7)).trans u7
                  have t15 := (gr_cell g7 (lt_of_cell t7)).trans t7
                  have E1 := Lib.hid (fun (w' : World) (g : w15.grownBy w' none) => equal_sales D da ca dc cc w' ((cD.keep0 g7).keep0 g) ((cC.keep0 g7).keep0 g) (by omega))
                  have E2 := Lib.hid (fun (w' : World) (g : w15.grownBy w' none) => equal_int H ha ga hc_ gc w' ((cH.keep0 g7).keep0 g) ((cG.keep0 g7).keep0 g) (by omega))
                  have E3 := Lib.hid (fun (w' : World) (g : w15.grownBy w' none) => equal_rows T ta ua tc uc w' ((rT.keep0 g7).keep0 g) ((rU.keep0 g7).keep0 g) (by omega) (fun r hr => by have := HTR.out r hr; omega))
                  have hgrA := gr_trans hgr7 g7
                  obtain ⟨hk, hhk⟩ : ∃ hk, hk = histCode H := ⟨_, rfl⟩
                  rw [← hhk] at HE HG
                  have hEh : ((E == 0) == (hk == 0)) = true := by
                    have := HE.out
                    by_cases e0 : hk = 0
                    · rw [e0, this.2 e0]; rfl
                    · rw [beq_eq_false_iff_ne.2 e0, beq_eq_false_iff_ne.2 (fun e => e0 (this.1 e))]; rfl
                  clear hA hB cA cB hAl hBl hhk t7 u7 rT rU cD cC cH cG hgr7
                  go_wp2_with (fail)
                  refine (HG.out w15 (gr_refl _ _)).mono ?_
                  rintro e w16 ⟨rfl, g16⟩
                  have u16 := (gr_cell g16 (lt_of_cell u15)).trans u15
                  have t16 := (gr_cell g16 (lt_of_cell t15)).trans t15
                  go_wp2_with (fail)
                  go_fit (HI.out w16 g16)
                  rintro e w17 ⟨rfl, g17⟩
                  have g17 := gr_trans g16 g17
                  have u17 := (gr_cell g17 (lt_of_cell u15)).trans u15
                  have t17 := (gr_cell g17 (lt_of_cell t15)).trans t15
                  clear u16 t16 g16 hEh
                  go_wp2_with (fail)
                  refine (demands_any _).mono ?_
                  rintro e w18 ⟨rfl, g18⟩
                  have g18 := gr_trans g17 g18
                  have u18 := (gr_cell g18 (lt_of_cell u15)).trans u15
                  have t18 := (gr_cell g18 (lt_of_cell t15)).trans t15
                  clear u17 t17 g17
                  go_wp2_with (fail)
                  go_fit (E1.out w18 g18)
                  rintro e w19 ⟨rfl, g19⟩
                  have g19 := gr_trans g18 g19
                  have u19 := (gr_cell g19 (lt_of_cell u15)).trans u15
                  have t19 := (gr_cell g19 (lt_of_cell t15)).trans t15
                  clear u18 t18 g18
                  go_wp2_with (fail)
                  go_fit (E2.out w19 g19)
                  rintro e w20 ⟨rfl, g20⟩
                  have g20 := gr_trans g19 g20
                  have u20 := (gr_cell g20 (lt_of_cell u15)).trans u15
                  have t20 := (gr_cell g20 (lt_of_cell t15)).trans t15
                  clear u19 t19 g19
                  go_wp2_with (fail)
                  go_fit (E3.out w20 g20)
                  rintro e w21 ⟨rfl, g21⟩
                  go_wp2_with (fail)
                  go_ret
                  exact ⟨rfl, gr_trans hgrA (gr_trans g20 g21)⟩
end Go.Proofs.Ytlpkancpjdihgaa
