/- The walk of RoundsStay. -/
import Derived.Test.YtdjnomeabadbnaaRdImprove
import Derived.Test.YtdjnomeabadbnaaEqualStop
import Derived.Test.YtdjnomeabadbnaaRdRoute
import Derived.Test.YtdjnomeabadbnaaWkMake
import Derived.Test.YtdjnomeabadbnaaWkFair
import Derived.Test.YtdjnomeabadbnaaEqualInt
import Derived.Test.YtdjnomeabadbnaaWkRounds
import Derived.Test.YtdjnomeabadbnaaWkLevel2
namespace Go.Proofs.Ytdjnomeabadbnaa
open Go.RowKit

theorem stopsM_key (l : List Int) (k most : Nat) : ∀ x ∈ stopsM l k most, x.key.size ≤ 100 := by
  have hto : ∀ (k i : Nat), ∀ x ∈ (stopsTo l k i).1, x.key.size ≤ 100 := by
    intro k i
    induction i with
    | zero => intro x hx; simp [stopsTo] at hx
    | succ i ih =>
      intro x hx
      simp only [stopsTo, List.mem_append, List.mem_cons, List.not_mem_nil, or_false] at hx
      rcases hx with hx | rfl
      · exact ih x hx
      · have h1 := encode_size_le (97 + (i : Int))
        show (stopKey i).size ≤ 100
        unfold stopKey
        rw [ByteArray.size_append]
        have : (⟨#[115]⟩ : ByteArray).size = 1 := rfl
        omega
  intro x hx
  unfold stopsM at hx
  split at hx
  · rcases List.mem_append.1 hx with hx | hx
    · exact hto _ _ x hx
    · simp only [List.mem_cons, List.not_mem_nil, or_false] at hx
      subst hx
      have := oneS_mem l (stopsJ l k most + 1) [⟨#[]⟩, ⟨#[115, 97]⟩, ⟨#[122, 122]⟩] (by decide)
      simp only [List.mem_cons, List.not_mem_nil, or_false] at this
      show (oneS l (stopsJ l k most + 1) [⟨#[]⟩, ⟨#[115, 97]⟩, ⟨#[122, 122]⟩]).size ≤ 100
      rcases this with h | h | h <;> rw [h] <;> decide
  · exact hto _ _ x hx
theorem routeM_len (l : List Int) (k n : Nat) (hn : n ≤ 100) : (routeM l k n).length ≤ 200 := by
  have h1 := routeC_le l k n
  unfold routeM
  split <;> simp <;> omega
theorem routeK_le (l : List Int) (k n : Nat) : routeK l k n ≤ k + n + 3 := by
  unfold routeK; split <;> omega

set_option maxRecDepth 100000 in
set_option maxHeartbeats 8000000 in
theorem roundsStay_any (l : List Int) (a : Option Addr) (cap : Nat) (w : World) (hc : CellsAt w a (ints l)) (hl : l.length ≤ 9223372036854775807) :
    Calls Try.prog 3 #[.slice a l.length cap] w fun e w' => e = .returned (.bool true) ∧ w.grownBy w' none := by
  have hg0 := gr_alloc (gr_alloc (gr_refl w none) (.cells #[.slice a l.length cap, .int .i64 0] 25)) (.cells #[.slice a l.length cap, .int .i64 0] 25)
  have sa0 := (StreamAt.made cap hc hl).keep0 (gr_alloc (gr_refl _ _) (.cells #[.slice a l.length cap, .int .i64 0] 25))
  have sb0 := StreamAt.madeLow cap (gr_alloc (gr_refl w none) (.cells #[.slice a l.length cap, .int .i64 0] 25)) hc hl
  rw [show (w.alloc (.cells #[.slice a l.length cap, .int .i64 0] 25)).heap.size = w.heap.size + 1 by simp] at sb0
  obtain ⟨w0, hw0⟩ : ∃ w0, w0 = (w.alloc (.cells #[.slice a l.length cap, .int .i64 0] 25)).alloc (.cells #[.slice a l.length cap, .int .i64 0] 25) := ⟨_, rfl⟩
  have hz0 : w0.heap.size = w.heap.size + 2 := by rw [hw0]; simp
  rw [← hw0] at sa0 sb0 hg0
  have hk1 := stopsK_le l 0 6
  have hXl := stopsM_len l 0 6
  have hXk := stopsM_key l 0 6
  obtain ⟨k1, hk1e⟩ : ∃ k1, k1 = stopsK l 0 6 := ⟨_, rfl⟩
  obtain ⟨X, hX⟩ : ∃ X, X = stopsM l 0 6 := ⟨_, rfl⟩
  have SA := fun (p' : Nat) (w' : World) (h : StreamAt w' p' w.heap.size l 0) => stops_any l 0 6 p' w' h (by omega) (by omega)
  unfold StopsPost at SA
  rw [← hk1e, ← hX] at SA
  rw [← hk1e] at hk1
  rw [← hX] at hXl hXk
  have hOl := routeM_len l k1 X.length (by omega)
  have hk2 := routeK_le l k1 X.length
  have RA := fun (p' : Nat) (w' : World) (h : StreamAt w' p' w.heap.size l k1) => route_any l k1 X.length p' w' h (by omega) (by omega)
  unfold RoutePost at RA
  obtain ⟨k2, hk2e⟩ : ∃ k2, k2 = routeK l k1 X.length := ⟨_, rfl⟩
  obtain ⟨O, hO⟩ : ∃ O, O = routeM l k1 X.length := ⟨_, rfl⟩
  rw [← hk2e, ← hO] at RA
  rw [← hk2e] at hk2
  rw [← hO] at hOl
  have WA := fun (p' : Nat) (w' : World) (h : StreamAt w' p' w.heap.size l k2) => wkWeek_any l k2 6 p' w' h (by omega) (by omega)
  unfold WkPost at WA
  have hJl := wkJ_len l k2 6
  have hDr := wkD_range l k2 6
  obtain ⟨J, hJ⟩ : ∃ J, J = wkJ l k2 6 := ⟨_, rfl⟩
  obtain ⟨D, hD⟩ : ∃ D, D = wkD l k2 6 := ⟨_, rfl⟩
  rw [← hJ, ← hD] at WA
  rw [← hJ] at hJl
  rw [← hD] at hDr
  have HS := Lib.hid SA
  have HR := Lib.hid RA
  have HW := Lib.hid WA
  have HXK := Lib.hid hXk
  clear SA RA WA hk1e hX hk2e hO hJ hD hXk hc hl
  go_enter Try.func3, Try.ntmps3
  go_wp2_with (fail)
  rw [← hw0]
  have HW0 := Lib.hid hw0; clear hw0
  refine (HS.out _ w0 sa0).mono ?_
  rintro e w1 ⟨v1, rfl, o1, sa1, g1⟩
  have z1 := g1.size
  have sb1 := sb0.keepNe g1 (fun q e => by cases e; omega)
  clear sa0 sb0
  go_wp2_with (fail)
  refine (HS.out _ w1 sb1).mono ?_
  rintro e w2 ⟨v2, rfl, o2, sb2, g2⟩
  have z2 := g2.size
  have sa2 := sa1.keepNe g2 (fun q e => by cases e; omega)
  have o1 := own_keepS o1 g2 (by omega)
  clear sa1 sb1
  obtain ⟨xa, xc, rfl, hxc, _, cX, _⟩ := own_shape o1
  obtain ⟨ya, yc, rfl, hyc, _, cY, _⟩ := own_shape o2
  go_wp2_with (fail)
  refine (HR.out _ w2 sa2).mono ?_
  rintro e w3 ⟨v3, rfl, o3, sa3, g3⟩
  have z3 := g3.size
  have sb3 := sb2.keepNe g3 (fun q e => by cases e; omega)
  have o1 := own_keepS o1 g3 (by omega)
  have o2 := own_keepS o2 g3 (by omega)
  clear sa2 sb2 cX cY
  go_wp2_with (fail)
  refine (HR.out _ w3 sb3).mono ?_
  rintro e w4 ⟨v4, rfl, o4, sb4, g4⟩
  have z4 := g4.size
  have sa4 := sa3.keepNe g4 (fun q e => by cases e; omega)
  have o1 := own_keepS o1 g4 (by omega)
  have o2 := own_keepS o2 g4 (by omega)
  have o3 := own_keepS o3 g4 (by omega)
  clear sa3 sb3
  go_wp2_with (fail)
  refine (HW.out _ w4 sa4).mono ?_
  rintro e w5 ⟨v5, rfl, o5, sa5, g5⟩
  have z5 := g5.size
  have sb5 := sb4.keepNe g5 (fun q e => by cases e; omega)
  have o1 := own_keepS o1 g5 (by omega)
  have o2 := own_keepS o2 g5 (by omega)
  have o3 := own_keepS o3 g5 (by omega)
  have o4 := own_keepS o4 g5 (by omega)
  clear sa4 sb4 sa5
  obtain ⟨ja, jc, rfl, hwc, _, _, _⟩ := own_shape o5
  go_wp2_with (fail)
  refine (HW.out _ w5 sb5).mono ?_
  rintro e w6 ⟨v6, rfl, o6, _, g6⟩
  have z6 := g6.size
  have o1 := own_keepS o1 g6 (by omega)
  have o2 := own_keepS o2 g6 (by omega)
  have o3 := own_keepS o3 g6 (by omega)
  have o4 := own_keepS o4 g6 (by omega)
  have o5 := own_keepS o5 g6 (by omega)
  clear sb5
  obtain ⟨va, vc, rfl, hvc, _, cV, _⟩ := own_shape o6
  obtain ⟨oa, oc, rfl, hoc, _, cO, _⟩ := own_shape o3
  obtain ⟨pa, pc, rfl, hpc, _, cP, _⟩ := own_shape o4
  have on := own_nil o3
  obtain ⟨xa', xc', ex, _, _, cX, _⟩ := own_shape o1
  cases ex
  obtain ⟨ya', yc', ey, _, _, cY, _⟩ := own_shape o2
  cases ey
  obtain ⟨ja', jc', ew, _, _, cW, _⟩ := own_shape o5
  cases ew
  have hgr6 := gr_grown hg0 (gr_trans g1 (gr_refl _ _)) (fun k e => by cases e; omega)
  have hgr6 := gr_grown hgr6 g2 (fun k e => by cases e; omega)
  have hgr6 := gr_grown hgr6 g3 (fun k e => by cases e; omega)
  have hgr6 := gr_grown hgr6 g4 (fun k e => by cases e; omega)
  have hgr6 := gr_grown hgr6 g5 (fun k e => by cases e; omega)
  have hgr6 := gr_grown hgr6 g6 (fun k e => by cases e; omega)
  clear o1 o2 o3 o4 o5 o6 g1 g2 g3 g4 g5 g6 hg0 HS HR HW
  go_wp2_with (fail)
  obtain ⟨P7, Q7⟩ := heap_2 w6 (.cells #[.slice ja J.length jc, .int .i64 D] 30) (.cells #[.slice va J.length vc, .int .i64 D] 30)
  have hga := gr_alloc (gr_alloc (gr_refl w6 none) (.cells #[.slice ja J.length jc, .int .i64 D] 30)) (.cells #[.slice va J.length vc, .int .i64 D] 30)
  obtain ⟨w7, hw7⟩ : ∃ w7, w7 = (w6.alloc (.cells #[.slice ja J.length jc, .int .i64 D] 30)).alloc (.cells #[.slice va J.length vc, .int .i64 D] 30) := ⟨_, rfl⟩
  rw [← hw7] at hga P7 Q7
  rw [← hw7]
  obtain ⟨P, hP⟩ : ∃ P, P = w6.heap.size := ⟨_, rfl⟩
  rw [← hP] at P7 Q7
  rw [← hP]
  obtain ⟨Q, hQ⟩ : ∃ Q, Q = P + 1 := ⟨_, rfl⟩
  rw [← hQ] at Q7
  rw [← hQ]
  have HP7 := Lib.hid P7
  have HQ7 := Lib.hid Q7
  have CX := Lib.hid (cX.keep0 hga)
  have CY := Lib.hid (cY.keep0 hga)
  have CO := Lib.hid (cO.keep0 hga)
  have CP := Lib.hid (cP.keep0 hga)
  have CW := Lib.hid (cW.keep0 hga)
  have CV := Lib.hid (cV.keep0 hga)
  have HG7 := Lib.hid (gr_trans hgr6 hga)
  have ON := Lib.hid on
  clear hw7 hP hQ P7 Q7 cX cY cO cP cW cV hgr6 hga on
  refine (improve_any 0 0 0 X xa xc O oa oc 5 w7 CX.out (by omega) hxc HXK.out CO.out (by omega) ON.out (by omega)).mono ?_
  rintro e w8 ⟨bv, n8, B8, y8, r8, rfl, hn8, ho8, hg8⟩
  have HB8 := Lib.hid (own_shape ho8)
  go_upto_if 52 with (fail)
  go_cut [14] (fun _ wx => w7.grownBy wx none)
  case first =>
    by_cases hr : r8 = 0
    · subst hr
      obtain ⟨ba, bc, rfl, _, _, _, _⟩ := HB8.out
      go_wp2_with (fail)
      go_loopw [55] (fun i wr => ∃ (k : Nat) (M : List Int), k ≤ n8 ∧ i = .int .i64 k ∧ wr.ownsRow w7.heap.size 3 1 (.slice ba n8 bc) n8 (ints M) ∧ w7.grownBy wr none) (fun i _ => n8 - (intOf i).toNat)
      case atStart => exact ⟨0, B8, Nat.zero_le _, rfl, ho8, hg8⟩
      case round =>
        clear ho8 hg8
        obtain ⟨k, M, hk, rfl, ox, g9⟩ := hrel
        obtain ⟨w9, rfl⟩ : ∃ w9 : World, w9 = wr := ⟨_, rfl⟩
        by_cases hlt : k < n8
        · obtain ⟨g, cg, he, hga, _, _, _⟩ := own_some ox (by omega)
          cases he
          obtain ⟨d1, d2, d3⟩ := own_int ox k hlt
          have D3 := Lib.hid (d3 (-9))
          have G9 := Lib.hid (gr_new g9 hga (q := ⟨g, k, none⟩) (.int .i64 (-9)))
          clear d3 ox g9
          go_wp2_with (fail)
          go_roundw
          case rel => exact ⟨k + 1, _, by omega, by go_num, D3.out, G9.out⟩
          case measure => simp [intOf]; omega
        · go_wp2_with (fail)
          go_meet
          exact g9
    · have hr1 : (r8 == 0) = false := by simpa using hr
      clear hr
      go_wp2_with (fail)
      go_meet
      exact hg8
  case rest =>
  obtain ⟨w9, rfl⟩ : ∃ w9 : World, w9 = wc := ⟨_, rfl⟩
  have HG9 := Lib.hid hcut
  have IN := Lib.hid (insertE_any 0 0 0 X xa xc O oa oc 0 w9 (CX.out.keep0 hcut) (by omega) hxc HXK.out (CO.out.keep0 hcut) (by omega) ON.out)
  clear hcut ho8 hg8 HB8
  go_wp2_with (fail)
  refine IN.out.mono ?_
  rintro e w10 ⟨bv2, n10, B10, r10, rfl, hn10, ho10, hg10⟩
  have HB10 := Lib.hid (own_shape ho10)
  clear IN
  go_upto_if 70 with (fail)
  go_cut [17] (fun _ wx => w9.grownBy wx none)
  case first =>
    by_cases hr : r10 = 0
    · subst hr
      obtain ⟨ba, bc, rfl, _, _, _, _⟩ := HB10.out
      go_wp2_with (fail)
      go_loopw [73] (fun i wr => ∃ (k : Nat) (M : List Int), k ≤ n10 ∧ i = .int .i64 k ∧ wr.ownsRow w9.heap.size 3 1 (.slice ba n10 bc) n10 (ints M) ∧ w9.grownBy wr none) (fun i _ => n10 - (intOf i).toNat)
      case atStart => exact ⟨0, B10, Nat.zero_le _, rfl, ho10, hg10⟩
      case round =>
        clear ho10 hg10
        obtain ⟨k, M, hk, rfl, ox, g9⟩ := hrel
        obtain ⟨wo, rfl⟩ : ∃ wo : World, wo = wr := ⟨_, rfl⟩
        by_cases hlt : k < n10
        · obtain ⟨g, cg, he, hga, _, _, _⟩ := own_some ox (by omega)
          cases he
          obtain ⟨d1, d2, d3⟩ := own_int ox k hlt
          have D3 := Lib.hid (d3 (-9))
          have G9 := Lib.hid (gr_new g9 hga (q := ⟨g, k, none⟩) (.int .i64 (-9)))
          clear d3 ox g9
          go_wp2_with (fail)
          go_roundw
          case rel => exact ⟨k + 1, _, by omega, by go_num, D3.out, G9.out⟩
          case measure => simp [intOf]; omega
        · go_wp2_with (fail)
          go_meet
          exact g9
    · have hr1 : (r10 == 0) = false := by simpa using hr
      clear hr
      go_wp2_with (fail)
      go_meet
      exact hg10
  case rest =>
  obtain ⟨w11, rfl⟩ : ∃ w11 : World, w11 = wc := ⟨_, rfl⟩
  have g11 := gr_trans HG9.out hcut
  have P11 := (g11.block P (lt_of_block HP7.out) (by simp)).trans HP7.out
  have Q11 := (g11.block Q (lt_of_block HQ7.out) (by simp)).trans HQ7.out
  have p0 : w11.cell? ⟨P, 0, none⟩ = some (.slice ja J.length jc) := blkC P11 0 rfl
  have p1 : w11.cell? ⟨P, 1, none⟩ = some (.int .i64 D) := blkC P11 1 rfl
  have HG11 := Lib.hid g11
  have HP11 := Lib.hid P11
  have HQ11 := Lib.hid Q11
  have FA : Hid (Calls Try.prog 10 #[.agg #[.slice ja J.length jc, .int .i64 D]] w11 fun e w' => ∃ v n Q', e = .returned (.tuple #[v, .int .i64 (badWeek D J)]) ∧ n ≤ 20 ∧ w'.ownsRow w11.heap.size 3 1 v n (ints Q') ∧ w11.grownBy w' none) := by
    show Calls _ _ _ _ _
    by_cases hb : badWeek D J = 0
    · obtain ⟨h1, h2, h3, h4⟩ := badWeek_ok hb
      obtain ⟨D', hD'⟩ : ∃ D' : Nat, D = (D' : Int) := ⟨D.toNat, by omega⟩
      subst hD'
      refine (fair_any J.length D' ja J jc 10000 w11 (CW.out.keep0 g11) rfl (by omega) h4 (by omega) (by omega) (by omega) (fun i => (job_ok h4 i).2)).mono ?_
      rintro e w' ⟨v, Q', rfl, ho, _, _, hg⟩
      exact ⟨v, J.length, Q', by rw [hb], by omega, ho, hg⟩
    · refine (fair_bad ja J jc D w11 (CW.out.keep0 g11) (by omega) hb).mono ?_
      rintro e w' ⟨rfl, hg⟩
      exact ⟨_, 0, [], rfl, by omega, World.ownsRow_nil _ _ _ _, hg⟩
  clear hcut ho10 hg10 HB10 g11 P11 Q11
  go_wp2_with (fail)
  refine FA.out.mono ?_
  rintro e w12 ⟨v12, n12, B12, rfl, hn12, ho12, hg12⟩
  obtain ⟨da, dc, rfl, _, _, _, _⟩ := own_shape ho12
  clear FA p0 p1
  have Q12 := (hg12.block Q (lt_of_block HQ11.out) (by simp)).trans HQ11.out
  have q0 : w12.cell? ⟨Q, 0, none⟩ = some (.slice va J.length vc) := blkC Q12 0 rfl
  have q1 : w12.cell? ⟨Q, 1, none⟩ = some (.int .i64 D) := blkC Q12 1 rfl
  have WF := Lib.hid (weekFault_any va J vc D w12 (CV.out.keep0 (gr_trans HG11.out hg12)) (by omega))
  clear Q12
  go_wp2_with (fail)
  refine WF.out.mono ?_
  rintro e w13 ⟨rfl, hg13⟩
  have hgd : w11.grownBy w13 none := gr_trans hg12 hg13
  have ho13 := own_keep0 ho12 hg13
  obtain ⟨bw, hbw⟩ : ∃ bw, bw = badWeek D J := ⟨_, rfl⟩
  rw [← hbw]
  have hne : (bw != bw) = false := by simp
  clear WF q0 q1 hg12 hg13 ho12 hbw
  go_wp2_with (fail)
  go_loopw [91] (fun i wr => ∃ (k : Nat) (M : List Int), k ≤ n12 ∧ i = .int .i64 k ∧ wr.ownsRow w11.heap.size 3 1 (.slice da n12 dc) n12 (ints M) ∧ w11.grownBy wr none) (fun i _ => n12 - (intOf i).toNat)
  case atStart => exact ⟨0, B12, Nat.zero_le _, rfl, ho13, hgd⟩
  case round =>
    clear ho13 hgd
    obtain ⟨k, M, hk, rfl, ox, g9⟩ := hrel
    obtain ⟨wo, rfl⟩ : ∃ wo : World, wo = wr := ⟨_, rfl⟩
    by_cases hlt : k < n12
    · obtain ⟨g, cg, he, hga, _, _, _⟩ := own_some ox (by omega)
      cases he
      obtain ⟨d1, d2, d3⟩ := own_int ox k hlt
      have D3 := Lib.hid (d3 (-9))
      have G9 := Lib.hid (gr_new g9 hga (q := ⟨g, k, none⟩) (.int .i64 (-9)))
      clear d3 ox g9
      go_wp2_with (fail)
      go_roundw
      case rel => exact ⟨k + 1, _, by omega, by go_num, D3.out, G9.out⟩
      case measure => simp [intOf]; omega
    · have g7 := gr_trans HG11.out g9
      clear ox
      go_wp2_with (fail)
      refine (rounds_any wo).mono ?_
      rintro e w14 ⟨rfl, hg14⟩
      have g14 := gr_trans g7 hg14
      go_wp2_with (fail)
      refine (equal_stops X xa ya xc yc w14 (CX.out.keep0 g14) (CY.out.keep0 g14) (by omega)).mono ?_
      rintro e w15 ⟨rfl, hg15⟩
      have g15 := gr_trans g14 hg15
      go_wp2_with (fail)
      refine (equal_int O oa pa oc pc w15 (CO.out.keep0 g15) (CP.out.keep0 g15) (by omega)).mono ?_
      rintro e w16 ⟨rfl, hg16⟩
      have g16 := gr_trans g15 hg16
      have P16 := (g16.block P (lt_of_block HP7.out) (by simp)).trans HP7.out
      have Q16 := (g16.block Q (lt_of_block HQ7.out) (by simp)).trans HQ7.out
      have p0 : w16.cell? ⟨P, 0, none⟩ = some (.slice ja J.length jc) := blkC P16 0 rfl
      have q0 : w16.cell? ⟨Q, 0, none⟩ = some (.slice va J.length vc) := blkC Q16 0 rfl
      go_wp2_with (fail)
      refine (equal_int J ja va jc vc w16 (CW.out.keep0 g16) (CV.out.keep0 g16) (by omega)).mono ?_
      rintro e w17 ⟨rfl, hg17⟩
      have g17 := gr_trans (gr_trans HG7.out g16) hg17
      go_wp2_with (fail)
      go_ret
      exact ⟨rfl, g17⟩
end Go.Proofs.Ytdjnomeabadbnaa
