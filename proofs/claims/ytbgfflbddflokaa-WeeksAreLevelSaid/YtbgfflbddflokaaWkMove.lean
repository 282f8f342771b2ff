/- round.Move. -/
import Derived.Test.YtbgfflbddflokaaWkRows
import Derived.Test.YtbgfflbddflokaaCloneInt
import Derived.Deep.CutRange
namespace Go.Proofs.Ytbgfflbddflokaa
open Go.RowKit

/-- What is known of the move that was found so far. -/
def MovePick (J Q' : List Int) (D n : Nat) (job day gain : Value) : Prop :=
  (job = .int .i64 (-1) ∧ day = .int .i64 0 ∧ gain = .int .i64 0) ∨
  ∃ (j d o : Nat) (g : Int), job = .int .i64 j ∧ day = .int .i64 d ∧ gain = .int .i64 g ∧ j < n ∧ d < D ∧ o < D ∧ Q'.getD j (-1) = (o : Int) ∧ d ≠ o ∧ g = 2 * J.getD j 0 * ((ldL J Q' D n).getD o 0 - (ldL J Q' D n).getD d 0 - J.getD j 0) ∧ 0 < g
theorem MovePick.gain {J Q' : List Int} {D n : Nat} {job day gain : Value} (h : MovePick J Q' D n job day gain) : ∃ (a b g : Int), job = .int .i64 a ∧ day = .int .i64 b ∧ gain = .int .i64 g ∧ 0 ≤ g := by
  rcases h with ⟨h1, h2, h3⟩ | ⟨j, d, o, g, h1, h2, h3, _, _, _, _, _, _, hg⟩
  · exact ⟨_, _, _, h1, h2, h3, Int.le_refl _⟩
  · exact ⟨_, _, _, h1, h2, h3, by omega⟩
theorem wkProd_bound {x y : Int} (h1 : 0 ≤ x) (h2 : x ≤ 20000) (h3 : -1300000 ≤ y) (h4 : y ≤ 1300000) : -26000000000 ≤ x * y ∧ x * y ≤ 26000000000 := by
  have a1 : x * y ≤ x * 1300000 := Int.mul_le_mul_of_nonneg_left h4 h1
  have a2 : x * (-1300000) ≤ x * y := Int.mul_le_mul_of_nonneg_left h3 h1
  omega
theorem getD_any (L : List Int) (k : Nat) (a b : Int) (h : k < L.length) : L.getD k a = L.getD k b := by
  rw [List.getD_eq_getElem?_getD, List.getD_eq_getElem?_getD, List.getElem?_eq_getElem h]; rfl
def MovePost (J Q : List Int) (D n : Nat) (w : World) (e : Ending) (w' : World) : Prop :=
  ∃ v Q' M, e = .returned (.tuple #[v, .int .i64 M, .int .i64 0]) ∧ w'.ownsRow w.heap.size 3 1 v n (ints Q') ∧ DaysOk D n Q' ∧ IsTop (ldL J Q' D n) M ∧ sq (ldL J Q' D n) ≤ sq (ldL J Q D n) ∧ w.grownBy w' none

set_option maxRecDepth 100000 in
set_option maxHeartbeats 8000000 in
theorem move_any (n D R : Nat) (ja : Option Addr) (J : List Int) (jc : Nat) (qa : Option Addr) (Q : List Int) (qc : Nat) (w : World) (hj : CellsAt w ja (ints J)) (hq : CellsAt w qa (ints Q)) (hqn : qa = none → n = 0 ∧ qc = 0) (hn : J.length = n) (hl : n ≤ 60) (hJ : JobsOk J) (hQ : DaysOk D n Q) (h1 : 1 ≤ D) (h2 : D ≤ 7) (hR : R ≤ 100) :
    Calls Try.prog 48 #[.agg #[.slice ja n jc, .int .i64 D], .slice qa n qc, .int .i64 R] w (MovePost J Q D n w) := by
  obtain ⟨w1, hw1⟩ : ∃ w1, w1 = w.alloc (.cells #[.slice ja n jc, .int .i64 D] 79) := ⟨_, rfl⟩
  have hg1 : w.grownBy w1 none := by rw [hw1]; exact gr_alloc (gr_refl w none) _
  have hP1 : w1.heap[w.heap.size]? = some (.cells #[.slice ja n jc, .int .i64 D] 79 (0, 0)) := by rw [hw1]; exact heap_alloc_new w _
  obtain ⟨b0, b1, _, _⟩ := blk2 hP1
  have hP := lt_of_block hP1
  have hbz := badDays_zero hn hQ
  have DF := Lib.hid (daysFault_n n n ja J jc D qa Q qc w1 hn hQ.len (hj.keep0 hg1) (hq.keep0 hg1) (by rw [hQ.len]; omega) (by omega) (by omega) (by omega) hJ)
  rw [hbz] at DF
  have HN := Lib.hid hn
  have HQ := Lib.hid hQ
  have hRd : (decide ((R : Int) < 0) || decide (100 < (R : Int))) = false := by simp; omega
  have HRD := Lib.hid hRd
  clear hP1 hbz hn hRd
  go_enter Try.func48, Try.ntmps48
  go_wp2_with (fail)
  rw [← hw1]
  clear hw1
  refine DF.out.mono ?_
  rintro e w2 ⟨rfl, hg2⟩
  have c0 := (gr_cell hg2 hP).trans b0
  have c1 := (gr_cell hg2 hP).trans b1
  have hP2 := lt_of_cell c0
  replace hg2 := gr_trans hg1 hg2
  clear b0 b1 hP hg1
  go_wp2_with (fail)
  refine (out_any R 0 100 w2).mono ?_
  rintro e w3 ⟨rfl, rfl⟩
  rw [HRD.out]
  have CL : Hid (∀ wq, w2.grownBy wq none → Calls Try.prog 81 #[.slice qa n qc] wq fun e w' => ∃ a c, e = .returned (.slice a n c) ∧ w'.ownsRow wq.heap.size 3 1 (.slice a n c) n (ints Q) ∧ w2.grownBy w' none ∧ wq.grownBy w' none) := fun wq hw => (cloneInt_any qa n qc (ints Q) wq (by rw [Nat.mul_one, ints_length]; exact HQ.out.len) ((hq.keep0 hg2).keep0 hw) hqn (ints_one Q) (by omega)).mono (by
    rintro e w' ⟨v, rfl, ho, hg⟩
    obtain ⟨a, c, rfl, _, _, _, _⟩ := own_shape ho
    exact ⟨a, c, rfl, ho, gr_trans hw hg, hg⟩)
  have LD : Hid (∀ wq, w2.grownBy wq none → Calls Try.prog 105 #[.agg #[.slice ja n jc, .int .i64 D], .slice qa n qc] wq fun e w' => ∃ g, e = .returned (.slice (some ⟨g, 0, none⟩) D D) ∧ w'.ownsRow wq.heap.size 3 1 (.slice (some ⟨g, 0, none⟩) D D) D (ints (ldL J Q D n)) ∧ w2.grownBy w' none ∧ wq.grownBy w' none) := fun wq hw => (loads0_any n D ja J jc qa Q qc wq ((hj.keep0 hg2).keep0 hw) ((hq.keep0 hg2).keep0 hw) HN.out hl hJ HQ.out h1 h2).mono (by
    rintro e w' ⟨g, rfl, ho, hg⟩
    exact ⟨g, rfl, ho, gr_trans hw hg, hg⟩)
  have hgd := gr_drew (gr_refl w2 none)
  go_wp2_with (fail)
  go_cut [10, 11] from 27 to 31 (fun s10 s11 wx => ∃ oa oc gl, s10 = .slice oa n oc ∧ s11 = .slice (some ⟨gl, 0, none⟩) D D ∧ wx.ownsRow w2.heap.size 3 1 (.slice oa n oc) n (ints Q) ∧ wx.ownsRow w2.heap.size 3 1 (.slice (some ⟨gl, 0, none⟩) D D) D (ints (ldL J Q D n)) ∧ (Value.slice oa n oc).ownBlock ≠ some gl ∧ w2.grownBy wx none)
  case first =>
    go_region_law (first | (go_simp; go_at_call 81; (with_reducible refine (CL.out _ ?_).mono ?_); (· first | exact hgd | exact hgl4); rintro e w5 ⟨a5, c5, rfl, ho5, hgl5, hq5⟩; have n0 := (gr_cell hgl5 hP2).trans c0; have n1 := (gr_cell hgl5 hP2).trans c1)
                         | (go_simp; go_at_call 105; (with_reducible refine (LD.out _ ?_).mono ?_); (· first | exact hgd | exact hgl5); rintro e w4 ⟨g4, rfl, ho4, hgl4, hq4⟩)
                         | fail)
    all_goals (go_wp2_with (fail))
    all_goals (try go_simp)
    all_goals go_meet
    all_goals first
      | exact ⟨a5, c5, g4, rfl, rfl, own_base (own_keep0 ho5 hq4) hgd.size, own_base ho4 hgl5.size, fun e => by have h7 := (ho5.lt g4 e).2; have h8 := (ho4.lt g4 rfl).1; omega, hgl4⟩
      | exact ⟨a5, c5, g4, rfl, rfl, own_base ho5 hgl4.size, own_base (own_keep0 ho4 hq5) hgd.size, fun e => by have h7 := (ho5.lt g4 e).1; have h8 := (ho4.lt g4 rfl).2; omega, hgl5⟩
  case rest =>
  obtain ⟨oa, oc, gl, rfl, rfl, hO, hL, hap, hgc⟩ := hcut
  have HAP := Lib.hid hap
  have HOC := Lib.hid hO
  have HLC := Lib.hid hL
  clear hap hO hL CL LD
  go_wp2_with (fail)
  go_loopw [33] (fun i wr => ∃ (t : Nat) (Q' : List Int), t ≤ R ∧ i = .int .i64 t ∧ wr.ownsRow w2.heap.size 3 1 (.slice oa n oc) n (ints Q') ∧ wr.ownsRow w2.heap.size 3 1 (.slice (some ⟨gl, 0, none⟩) D D) D (ints (ldL J Q' D n)) ∧ DaysOk D n Q' ∧ sq (ldL J Q' D n) ≤ sq (ldL J Q D n) ∧ w2.grownBy wr none) (fun i _ => R - (intOf i).toNat)
  case atStart => exact ⟨0, Q, by omega, rfl, HOC.out, HLC.out, HQ.out, Int.le_refl _, hgc⟩
  case round =>
    obtain ⟨t, Q', ht, rfl, hO', hL', hQ', hsq, hgr'⟩ := hrel
    obtain ⟨wo, rfl⟩ : ∃ wo : World, wo = wr := ⟨_, rfl⟩
    have HO' := Lib.hid hO'
    have HL' := Lib.hid hL'
    have HQ' := Lib.hid hQ'
    have HSQ := Lib.hid hsq
    have HGR' := Lib.hid hgr'
    have d0 := (gr_cell hgr' hP2).trans c0
    have d1 := (gr_cell hgr' hP2).trans c1
    have hPo := lt_of_cell d0
    have hjo := (hj.keep0 hg2).keep0 hgr'
    clear hO' hL' hQ' hsq hgr'
    by_cases htR : t < R
    · go_wp2_with (fail)
      go_loopw [12, 13, 14, 38] (fun s12 s13 s14 i wr => ∃ k : Nat, k ≤ n ∧ i = .int .i64 k ∧ MovePick J Q' D n s12 s13 s14 ∧ wo.grownBy wr none) (fun _ _ _ i _ => n - (intOf i).toNat)
      case atStart => exact ⟨0, by omega, rfl, .inl ⟨rfl, rfl, rfl⟩, gr_refl _ _⟩
      case round =>
        obtain ⟨k, hk, rfl, hpk, hgi⟩ := hrel
        obtain ⟨wi, rfl⟩ : ∃ wi : World, wi = wr := ⟨_, rfl⟩
        have e0 := (gr_cell hgi hPo).trans d0
        have e1 := (gr_cell hgi hPo).trans d1
        have hji := hjo.keep0 hgi
        have HPK := Lib.hid hpk
        obtain ⟨ja1, da1, ga1, rfl, rfl, rfl, hga⟩ := hpk.gain
        clear hpk
        by_cases hkn : k < n
        · obtain ⟨jb, jo, rfl, dj⟩ := hji k _ (ints_get J k (by rw [HN.out]; exact hkn))
          obtain ⟨og, oc', hoe, _, _, _, _⟩ := own_some HO'.out (by omega)
          cases hoe
          obtain ⟨o, hoD, hoe⟩ := day_ok HQ'.out k hkn 0
          obtain ⟨o2, hoD2, hoe2⟩ := day_ok HQ'.out k hkn (-1)
          have hoo : o2 = o := by
            have hlq := HQ'.out.len
            rw [List.getD_eq_getElem?_getD, List.getElem?_eq_getElem (by omega)] at hoe hoe2
            simp at hoe hoe2
            omega
          subst hoo
          have HOE := Lib.hid hoe2
          have HOE0 := Lib.hid hoe
          have hx := job_ok hJ k
          obtain ⟨x, hxe⟩ : ∃ x, x = J.getD k 0 := ⟨_, rfl⟩
          rw [← hxe] at dj hx
          have ha := ldL_bound hJ Q' D n _ (get_mem (ldL J Q' D n) o2 0 (by rw [ldL_len]; exact hoD2))
          obtain ⟨a, hae⟩ : ∃ a, a = (ldL J Q' D n).getD o2 0 := ⟨_, rfl⟩
          rw [← hae] at ha
          have HXE := Lib.hid hxe
          have HAE := Lib.hid hae
          clear hoe hoe2 hxe hae hga hoD
          go_wp2_with (fail)
          go_loopw [12, 13, 14, 45] (fun s12 s13 s14 i wr => ∃ d : Nat, d ≤ D ∧ i = .int .i64 d ∧ MovePick J Q' D n s12 s13 s14 ∧ wo.grownBy wr none) (fun _ _ _ i _ => D - (intOf i).toNat)
          case atStart => exact ⟨0, by omega, rfl, HPK.out, hgi⟩
          case round =>
            obtain ⟨d, hd, rfl, hpk2, hg3⟩ := hrel
            obtain ⟨w3, rfl⟩ : ∃ w3 : World, w3 = wr := ⟨_, rfl⟩
            have hO3 := own_keep0 HO'.out hg3
            have hL3 := own_keep0 HL'.out hg3
            obtain ⟨q0, _, _⟩ := own_int hO3 k hkn
            rw [HOE0.out] at q0
            obtain ⟨l0, _, _⟩ := own_int hL3 o2 hoD2
            rw [← HAE.out] at l0
            have HPK2 := Lib.hid hpk2
            obtain ⟨ja2, da2, g, rfl, rfl, rfl, hg0⟩ := hpk2.gain
            clear hpk2
            by_cases hdD : d < D
            · obtain ⟨m0, _, _⟩ := own_int hL3 d hdD
              have hb := ldL_bound hJ Q' D n _ (get_mem (ldL J Q' D n) d 0 (by rw [ldL_len]; exact hdD))
              obtain ⟨b, hbe⟩ : ∃ b, b = (ldL J Q' D n).getD d 0 := ⟨_, rfl⟩
              rw [← hbe] at m0 hb
              have HBE := Lib.hid hbe
              have hG := wkProd_bound (x := 2 * x) (y := a - b - x) (by omega) (by omega) (by omega) (by omega)
              clear hbe hO3 hL3
              by_cases hdo : d = o2
              · subst hdo
                go_wp2_with (fail)
                go_quiet (fail)
                go_wp2_with (fail)
                go_roundw
                case rel => exact ⟨d + 1, by omega, by go_num, HPK2.out, gr_drewN hg3 _⟩
                case measure => simp [intOf]; omega
              · have hdo2 : ¬ (d : Int) = o2 := by omega
                by_cases hgG : g < 2 * x * (a - b - x)
                · go_wp2_with (fail)
                  go_quiet (fail)
                  go_wp2_with (fail)
                  go_roundw
                  case rel => exact ⟨d + 1, by omega, by go_num, .inr ⟨k, d, o2, 2 * x * (a - b - x), rfl, rfl, rfl, hkn, hdD, hoD2, HOE.out, hdo, by rw [← HXE.out, ← HAE.out, ← HBE.out], by omega⟩, gr_drewN hg3 _⟩
                  case measure => simp [intOf]; omega
                · go_wp2_with (fail)
                  go_quiet (fail)
                  go_wp2_with (fail)
                  go_roundw
                  case rel => exact ⟨d + 1, by omega, by go_num, HPK2.out, gr_drewN hg3 _⟩
                  case measure => simp [intOf]; omega
            · obtain rfl : d = D := by omega
              go_wp2_with (fail)
              go_roundw
              case rel => exact ⟨k + 1, by omega, by go_num, HPK2.out, hg3⟩
              case measure => simp [intOf]; omega
        · obtain rfl : n = k := by omega
          have HO' := Lib.hid (own_keep0 HO'.out hgi)
          have HL' := Lib.hid (own_keep0 HL'.out hgi)
          have HGR' := Lib.hid (gr_trans HGR'.out hgi)
          have d0 := e0
          have d1 := e1
          have hjo := hji
          have hPo := lt_of_cell d0
          clear e0 e1 hji hgi
          obtain ⟨wo, rfl⟩ : ∃ wo : World, wo = wi := ⟨_, rfl⟩
          rcases HPK.out with ⟨hj1, hd1, hg1⟩ | ⟨j, d, o, g, hj1, hd1, hg1, hjn, hdD, hoD, hoe, hdo, hge, hgp⟩
          · cases hj1
            go_wp2_with (fail)
            refine (max_any _ (ldL J Q' D n) D D _ (by obtain ⟨_, _, he, _, _, hcc, _⟩ := own_shape HL'.out; cases he; exact hcc) (ldL_len J Q' D n) (by omega) (by omega)).mono ?_
            rintro e w9 ⟨⟨M, rfl, hM⟩, rfl⟩
            go_wp2_with (fail)
            go_ret3
            exact ⟨_, Q', M, rfl, own_base HO'.out hg2.size, HQ'.out, hM, HSQ.out, gr_trans hg2 HGR'.out⟩
          · cases hj1
            cases hd1
            obtain ⟨jb, jo, rfl, dj⟩ := hjo j _ (ints_get J j (by rw [HN.out]; exact hjn))
            obtain ⟨og, oc', hoe', hogl, _, _, _⟩ := own_some HO'.out (by omega)
            cases hoe'
            have hog : og ≠ gl := fun e => HAP.out (by rw [e]; rfl)
            have hjb : jb < w2.heap.size := by
              obtain ⟨_, _, hje, hjc⟩ := (hj.keep0 hg2) j _ (ints_get J j (by rw [HN.out]; exact hjn))
              cases hje
              exact lt_of_cell hjc
            have hgll := (HL'.out.lt gl rfl).1
            obtain ⟨q0, q1, _⟩ := own_int HO'.out j hjn
            rw [getD_any Q' j 0 (-1) (by rw [HQ'.out.len]; exact hjn), hoe] at q0
            obtain ⟨l0, l1, l2⟩ := own_int HL'.out o hoD
            have ha := ldL_bound hJ Q' D n _ (get_mem (ldL J Q' D n) o 0 (by rw [ldL_len]; exact hoD))
            have hb := ldL_bound hJ Q' D n _ (get_mem (ldL J Q' D n) d 0 (by rw [ldL_len]; exact hdD))
            have hx := job_ok hJ j
            obtain ⟨x, hxe⟩ : ∃ x, x = J.getD j 0 := ⟨_, rfl⟩
            obtain ⟨a, hae⟩ : ∃ a, a = (ldL J Q' D n).getD o 0 := ⟨_, rfl⟩
            obtain ⟨b, hbe⟩ : ∃ b, b = (ldL J Q' D n).getD d 0 := ⟨_, rfl⟩
            rw [← hae] at l0 ha
            rw [← hbe] at hb
            rw [← hxe] at dj hx
            have hLA := l2 (a - x)
            have HMV : Hid (ldL J (Q'.set j (d : Int)) D n = ((ldL J Q' D n).set o (a - x)).set d (b + x)) := by
              show _ = _
              rw [hae, hbe, hxe]
              exact ldL_move J Q' D n j o d hjn HQ'.out.len hoe hoD hdD hdo
            have HSQ2 : Hid (sq (ldL J (Q'.set j (d : Int)) D n) ≤ sq (ldL J Q D n)) := by
              show _ ≤ _
              rw [HMV.out]
              refine Int.le_trans ?_ HSQ.out
              rw [hae, hbe, hxe]
              exact sq_move _ o d _ (by rw [ldL_len]; exact hoD) (by rw [ldL_len]; exact hdD) hdo (by rw [← hge]; exact hgp)
            have HBE := Lib.hid hbe
            have HLA := Lib.hid hLA
            have hol := lt_of_cell q0
            have hgl2 := lt_of_cell l0
            have hj0 : ¬ (j : Int) < 0 := by omega
            clear hxe hae hbe l2 hge hoe hLA hg1
            go_wp2_with (fail)
            go_cut [] from 83 to 96 (fun wx => wx = (wo.setCell ⟨gl, o, none⟩ (.int .i64 (a - x))).drew)
            case first =>
              go_region
              all_goals (go_wp2_with (fail); go_meet; rfl)
            case rest =>
            obtain ⟨wA, hwA⟩ : ∃ wA, wA = wc := ⟨_, rfl⟩
            rw [← hwA] at hcut ⊢
            have hgA : wo.grownBy wA (some gl) := by rw [hcut]; exact gr_drew (gr_set (q := ⟨gl, o, none⟩) (gr_refl wo (some gl)) rfl _)
            have hownA : wA.ownsRow w2.heap.size 3 1 (.slice (some ⟨gl, 0, none⟩) D D) D (ints ((ldL J Q' D n).set o (a - x))) := by rw [hcut]; exact own_keep0 HLA.out (gr_drew (gr_refl _ _))
            clear hwA hcut
            have d0A := hgA.cell d0 (by simp; omega)
            have d1A := hgA.cell d1 (by simp; omega)
            have djA := hgA.cell dj (by simp; omega)
            have q0A := hgA.cell q0 (by simpa using fun e => hog e)
            have hoA := own_keep HO'.out hgA (.inr HAP.out)
            obtain ⟨m0, m1, m2⟩ := own_int hownA d hdD
            rw [set_get _ _ _ _ (by rw [ldL_len]; exact hoD), if_neg hdo, ← HBE.out] at m0
            have HM2 := Lib.hid (m2 (b + x))
            have hglA := lt_of_cell m0
            have hpA := lt_of_cell d0A
            have hjA := lt_of_cell djA
            have hgrA := gr_grown HGR'.out hgA (fun k e => by cases e; exact hgll)
            clear hownA m2 hgA l0 l1 q0 q1 dj d0 d1
            go_wp2_with (fail)
            go_cut [] from 97 to 107 (fun wx => wx = (wA.setCell ⟨gl, d, none⟩ (.int .i64 (b + x))).drew)
            case first =>
              go_region
              all_goals (go_wp2_with (fail); go_meet; rfl)
            case rest =>
            have hgB : wA.grownBy wc (some gl) := by rw [hcut]; exact gr_drew (gr_set (q := ⟨gl, d, none⟩) (gr_refl wA (some gl)) rfl _)
            have hownB : wc.ownsRow w2.heap.size 3 1 (.slice (some ⟨gl, 0, none⟩) D D) D (ints (((ldL J Q' D n).set o (a - x)).set d (b + x))) := by rw [hcut]; exact own_keep0 HM2.out (gr_drew (gr_refl _ _))
            clear hcut
            have hoB := own_keep hoA hgB (.inr HAP.out)
            have hgrB := gr_grown hgrA hgB (fun k e => by cases e; exact hgll)
            obtain ⟨r0, r1, r2⟩ := own_int hoB j hjn
            rw [getD_any Q' j 0 (-1) (by rw [HQ'.out.len]; exact hjn)] at r0
            have HOB := Lib.hid (r2 (d : Int))
            have HOWNB := Lib.hid hownB
            clear r2 hoA hoB hgB hownB m0 m1
            go_wp2_with (fail)
            go_roundw
            case rel =>
              have hgs : wc.grownBy (wc.setCell ⟨og, j, none⟩ (.int .i64 (d : Int))) (some og) := gr_set (q := ⟨og, j, none⟩) (gr_refl wc (some og)) rfl _
              exact ⟨t + 1, Q'.set j (d : Int), by omega, by go_num, HOB.out, by rw [HMV.out]; exact own_keep HOWNB.out hgs (.inr (fun e => hog (by simpa [Value.ownBlock] using e.symm))), days_set HQ'.out j d hdD, HSQ2.out, gr_grown hgrB hgs (fun k e => by cases e; exact hogl)⟩
            case measure => simp [intOf]; omega
    · obtain rfl : t = R := by omega
      go_wp2_with (fail)
      refine (max_any _ (ldL J Q' D n) D D _ (by obtain ⟨_, _, he, _, _, hcc, _⟩ := own_shape HL'.out; cases he; exact hcc) (ldL_len J Q' D n) (by omega) (by omega)).mono ?_
      rintro e w9 ⟨⟨M, rfl, hM⟩, rfl⟩
      go_wp2_with (fail)
      go_ret3
      exact ⟨_, Q', M, rfl, own_base HO'.out hg2.size, HQ'.out, hM, HSQ.out, gr_trans hg2 HGR'.out⟩
end Go.Proofs.Ytbgfflbddflokaa
