/- round.Improve: no panic; what comes out is new memory. -/
import Derived.Test.YtdjnomeabadbnaaRdInsert
import Derived.Test.YtdjnomeabadbnaaRdReverse
namespace Go.Proofs.Ytdjnomeabadbnaa
open Go.RowKit

theorem own_freshLe {w : World} {base e size n q : Nat} {v : Value} {xs : List Value} (h : w.ownsRow base e size v n xs) (hq : w.heap.size ≤ q) : v.ownBlock ≠ some q := by
  intro e
  have := (h.lt q e).2
  omega
def ImpOut (w : World) (e : Ending) (w' : World) : Prop :=
  ∃ (bv : Value) (n : Nat) (B : List Int) (y r : Int), e = .returned (.tuple #[bv, .int .i64 y, .int .i64 r]) ∧ n ≤ 1001 ∧ w'.ownsRow w.heap.size 3 1 bv n (ints B) ∧ w.grownBy w' none
set_option maxRecDepth 100000 in
set_option maxHeartbeats 8000000 in
theorem improve_any (hx hy st : Int) (xs : List Stop) (a : Option Addr) (c : Nat) (O : List Int) (ao : Option Addr) (co : Nat) (M : Nat) (w : World) (hc : CellsAt w a (flat encStop xs)) (hl : xs.length ≤ 1000) (hcap : xs.length ≤ c) (hk : ∀ x ∈ xs, x.key.size ≤ 100)
    (hco : CellsAt w ao (ints O)) (hlo : O.length ≤ 900) (hnil : ao = none → O.length = 0 ∧ co = 0) (hM : M ≤ 100) :
    Calls Try.prog 8 #[.agg #[.int .i64 hx, .int .i64 hy], .slice a xs.length c, .int .i64 st, .slice ao O.length co, .int .i64 M] w (ImpOut w) := by
  have b1 := heap_alloc_new w (.cells #[.int .i64 hx, .int .i64 hy] 36)
  have g1 := gr_alloc (gr_refl w none) (.cells #[.int .i64 hx, .int .i64 hy] 36)
  obtain ⟨w1, hw1⟩ : ∃ w1, w1 = w.alloc (.cells #[.int .i64 hx, .int .i64 hy] 36) := ⟨_, rfl⟩
  rw [← hw1] at b1 g1
  have HW1 := Lib.hid hw1
  obtain ⟨T, hT⟩ : ∃ T, T = w.heap.size := ⟨_, rfl⟩
  rw [← hT] at b1
  have HT := Lib.hid hT
  have HB1 := Lib.hid b1
  have HN := Lib.hid hnil
  have DR := Lib.hid (driveE_any hx hy st xs a c O ao co w1 (hc.keep0 g1) hl hcap hk (hco.keep0 g1) (by omega))
  clear hw1 hT b1 hnil hk hcap
  go_enter Try.func8, Try.ntmps8
  go_wp2_with (fail)
  rw [← HW1.out, ← HT.out]
  refine DR.out.mono ?_
  rintro e w2 ⟨⟨ba, bn, bc, x2, y2, z2, r, rfl, hr⟩, hg2⟩
  have HR := Lib.hid hr
  have hU3 := heap_alloc_new w2 (.cells #[.slice ba bn bc, .int .i64 x2, .int .i64 y2, .int .i64 z2] 72)
  have hgL := gr_alloc (gr_refl w2 none) (.cells #[.slice ba bn bc, .int .i64 x2, .int .i64 y2, .int .i64 z2] 72)
  obtain ⟨w3, hw3⟩ : ∃ w3, w3 = w2.alloc (.cells #[.slice ba bn bc, .int .i64 x2, .int .i64 y2, .int .i64 z2] 72) := ⟨_, rfl⟩
  rw [← hw3] at hgL hU3
  obtain ⟨U, hU⟩ : ∃ U, U = w2.heap.size := ⟨_, rfl⟩
  rw [← hU] at hU3
  have HU := Lib.hid hU
  have HW3 := Lib.hid hw3
  have hg13 := gr_trans hg2 hgL
  have hgr3 := gr_trans g1 hg13
  have hT3 := (hg13.block T (lt_of_block HB1.out) (by simp)).trans HB1.out
  have t0 : w3.cell? ⟨T, 0, none⟩ = some (.int .i64 hx) := blkC hT3 0 rfl
  have t1 : w3.cell? ⟨T, 1, none⟩ = some (.int .i64 hy) := blkC hT3 1 rfl
  have HU3 := Lib.hid hU3
  clear hw3 hg2 hgL hg13 hr DR hT3 hU hU3
  by_cases hr0 : r = 0
  · subst hr0
    have HO := Lib.hid (HR.out rfl)
    clear HR
    have hout : (decide ((M : Int) < 0) || decide ((100 : Int) < (M : Int))) = false := by simp; omega
    have HOUT := Lib.hid hout
    have hQ4 := heap_alloc_new w3 (.cells #[.int .i64 hx, .int .i64 hy, .slice a xs.length c, .int .i64 st] 77)
    have hgQ := gr_alloc (gr_refl w3 none) (.cells #[.int .i64 hx, .int .i64 hy, .slice a xs.length c, .int .i64 st] 77)
    clear hout
    go_wp2_with (fail)
    rw [← HW3.out, ← HU.out]
    refine (out_any (M : Int) 0 100 w3).mono ?_
    rintro e w4 ⟨rfl, rfl⟩
    rw [HOUT.out]
    go_wp2_with (fail)
    obtain ⟨w4, hw4⟩ : ∃ w4, w4 = w3.alloc (.cells #[.int .i64 hx, .int .i64 hy, .slice a xs.length c, .int .i64 st] 77) := ⟨_, rfl⟩
    rw [← hw4] at hQ4 hgQ
    rw [← hw4]
    obtain ⟨Q, hQ⟩ : ∃ Q, Q = w3.heap.size := ⟨_, rfl⟩
    rw [← hQ] at hQ4
    rw [← hQ]
    have hU4 := (hgQ.block U (lt_of_block HU3.out) (by simp)).trans HU3.out
    have hgr4 := gr_trans hgr3 hgQ
    have u2 : w4.cell? ⟨U, 2, none⟩ = some (.int .i64 y2) := blkC hU4 2 rfl
    have hsz4 := hgr4.size
    have HQ4 := Lib.hid hQ4
    have HGR4 := Lib.hid hgr4
    have hUl := lt_of_block hU4
    have CL := Lib.hid (fun (wx : World) (hx : w4.grownBy wx none) => cloneInt_any ao O.length co (ints O) wx (by rw [Nat.mul_one, ints_length]) (hco.keep0 (gr_trans hgr4 hx)) HN.out (ints_one _) (by omega))
    clear hw4 hQ hgQ hU4 hgr4 t0 t1 hgr3 hQ4
    have hgd := gr_drew (gr_refl w4 none)
    go_cut [16, 17] (fun s16 s17 wx => wx.ownsRow w.heap.size 3 1 s16 O.length (ints O) ∧ s17 = .int .i64 y2 ∧ w4.grownBy wx none)
    case first =>
      go_region_law (first | (go_simp; go_at_call 33; (with_reducible refine (CL.out _ ?_).mono ?_); (· first | exact hgd | exact gr_refl _ _); rintro e w5 ⟨v5, rfl, ho5, hg5⟩; have hg5' := gr_trans hgd hg5; have v2 := (gr_cell hg5' hUl).trans u2)
                           | fail)
      all_goals (go_wp2_with (fail))
      all_goals (try go_simp)
      all_goals go_meet
      all_goals exact ⟨own_base ho5 hsz4, rfl, hg5'⟩
    case rest =>
    obtain ⟨hown0, rfl, hg5⟩ := hcut
    obtain ⟨w5, rfl⟩ : ∃ w5 : World, w5 = wc := ⟨_, rfl⟩
    clear CL u2 hgd
    go_wp2_with (fail)
    go_loopw [16, 17, 46] (fun bv y i wr => ∃ (k : Nat) (y1 : Int) (L : List Int), k ≤ M ∧ i = .int .i64 k ∧ y = .int .i64 y1 ∧ (∀ x ∈ L, 0 ≤ x ∧ x < xs.length) ∧ wr.ownsRow w.heap.size 3 1 bv O.length (ints L) ∧ w4.grownBy wr none) (fun _ _ i _ => M - (intOf i).toNat)
    case atStart => exact ⟨0, y2, O, by omega, rfl, rfl, HO.out, hown0, hg5⟩
    case round =>
      clear hown0 hg5
      obtain ⟨k, y1, L, hk, rfl, rfl, hin, hown, hgr⟩ := hrel
      obtain ⟨wo, rfl⟩ : ∃ wo : World, wo = wr := ⟨_, rfl⟩
      have HIN := Lib.hid hin
      clear hin
      by_cases hlt : k < M
      · obtain ⟨va, vc, rfl, hvc, hvm, _, _⟩ := own_shape hown
        have hvm2 := hvm
        unfold maxLen at hvm2
        clear hvm
        go_wp2_with (fail)
        go_loopw [16, 17, 51] (fun bv y i wr => ∃ (p : Nat) (y1 : Int) (L' : List Int), p ≤ O.length ∧ i = .int .i64 p ∧ y = .int .i64 y1 ∧ (∀ x ∈ L', 0 ≤ x ∧ x < xs.length) ∧ wr.ownsRow w.heap.size 3 1 bv O.length (ints L') ∧ wr.ownsRow w.heap.size 3 1 (.slice va O.length vc) O.length (ints L) ∧ w4.grownBy wr none) (fun _ _ i _ => O.length - (intOf i).toNat)
        case atStart => exact ⟨0, y1, L, by omega, rfl, rfl, HIN.out, hown, hown, hgr⟩
        case round =>
          clear hown hgr
          obtain ⟨p, y3, L', hp, rfl, rfl, hin', hown', hownB, hgr⟩ := hrel
          obtain ⟨wi, rfl⟩ : ∃ wi : World, wi = wr := ⟨_, rfl⟩
          have HIN' := Lib.hid hin'
          clear hin'
          by_cases hpn : p < O.length
          · go_wp2_with (fail)
            go_loopw [16, 17, 20] (fun bv y j wr => ∃ (q : Nat) (y1 : Int) (L' : List Int), p + 1 ≤ q ∧ q ≤ O.length ∧ j = .int .i64 q ∧ y = .int .i64 y1 ∧ (∀ x ∈ L', 0 ≤ x ∧ x < xs.length) ∧ wr.ownsRow w.heap.size 3 1 bv O.length (ints L') ∧ wr.ownsRow w.heap.size 3 1 (.slice va O.length vc) O.length (ints L) ∧ w4.grownBy wr none) (fun _ _ j _ => O.length - (intOf j).toNat)
            case atStart => exact ⟨p + 1, y3, L', by omega, by omega, by go_num, rfl, HIN'.out, hown', hownB, hgr⟩
            case round =>
              clear hown' hownB hgr
              obtain ⟨q, y4, L4, hpq, hq, rfl, rfl, hin4, hown4, hownB, hgr⟩ := hrel
              obtain ⟨wj, rfl⟩ : ∃ wj : World, wj = wr := ⟨_, rfl⟩
              have HIN4 := Lib.hid hin4
              clear hin4
              by_cases hqn : q < O.length
              · have hcB : CellsAt wj va (ints L) := by
                  obtain ⟨_, _, he, _, _, hcc, _⟩ := own_shape hownB
                  cases he
                  exact hcc
                have hnb := own_nil hownB
                have CL := Lib.hid (cloneInt_any va O.length vc (ints L) wj (by have := hownB.1; omega) hcB hnb (ints_one _) (by omega))
                clear hcB hnb
                go_wp2_with (fail)
                refine CL.out.mono ?_
                rintro e w6 ⟨v6, rfl, ho6, hg6⟩
                obtain ⟨g, cg, rfl, hgb, hgl, hgc, hgm⟩ := own_some ho6 (by omega)
                unfold maxLen at hgm
                have RV := Lib.hid (reverse_any wj.heap.size g O.length cg p (q + 1 - p) (cg - p) L w6 ho6 (by omega) (by omega))
                have hown6 := own_keep0 hown4 hg6
                have hownB6 := own_keep0 hownB hg6
                have hgr6 := gr_trans hgr hg6
                have hjsz := HGR4.out.size
                have hjsz2 := hgr.size
                have hpcg : ¬ cg = p := by omega
                have hnat : ((q : Int) + 1).toNat = q + 1 := by omega
                have HV4 := Lib.hid (own_freshLe hown4 hgb)
                have HVB := Lib.hid (own_freshLe hownB hgb)
                clear CL ho6 hg6 hown4 hownB hgr
                go_wp2_with (fail)
                refine RV.out.mono ?_
                rintro e w7 ⟨rfl, ⟨L7, hm7, ho7⟩, hg7⟩
                have hll := own_len ho7
                have hgr7 := gr_grown hgr6 hg7 (fun r e => by cases e; omega)
                have hown7 := own_keep hown6 hg7 (.inr HV4.out)
                have hownB7 := own_keep hownB6 hg7 (.inr HVB.out)
                have hO7 : ∀ x ∈ L7, 0 ≤ x ∧ x < xs.length := fun x hx => HIN.out x (hm7 x hx)
                have hc7 : CellsAt w7 (some ⟨g, 0, none⟩) (ints L7) := by
                  obtain ⟨_, _, he, _, _, hcc, _⟩ := own_shape ho7
                  cases he
                  exact hcc
                have DR := Lib.hid (drive_any hx hy st xs a c L7 (some ⟨g, 0, none⟩) cg w7 (hc.keep0 (gr_trans HGR4.out hgr7)) hl hc7 (by omega) hO7)
                rw [hll] at DR
                have hQ7 := (hgr7.block Q (lt_of_block HQ4.out) (by simp)).trans HQ4.out
                obtain ⟨t0, t1, t2, t3⟩ := blk4 hQ7
                have HO7 := Lib.hid hO7
                have ho7b := own_base ho7 (show w.heap.size ≤ wj.heap.size by omega)
                clear RV hg7 hm7 hll hc7 hO7 hQ7 hpcg hnat hgr6 hown6 hownB6 ho7
                go_wp2_with (fail)
                refine DR.out.mono ?_
                rintro e w8 ⟨⟨ba8, bn8, bc8, x8, y8, z8, ok, rfl⟩, hg8⟩
                clear DR t0 t1 t2 t3
                have hgL := gr_trans hg8 (gr_alloc (gr_refl w8 none) (.cells #[.slice ba8 bn8 bc8, .int .i64 x8, .int .i64 y8, .int .i64 z8] 72))
                have HOV := Lib.hid (own_keep0 ho7b hgL)
                have HO4 := Lib.hid (own_keep0 hown7 hgL)
                have HOB := Lib.hid (own_keep0 hownB7 hgL)
                have HG9 := Lib.hid (gr_trans hgr7 hgL)
                clear hg8 hgL ho7b hown7 hownB7 hgr7
                cases ok with
                | false =>
                  go_wp2_with (fail)
                  go_roundw
                  case rel => exact ⟨q + 1, y4, L4, by omega, by omega, by go_num, rfl, HIN4.out, HO4.out, HOB.out, HG9.out⟩
                  case measure => simp [intOf]; omega
                | true =>
                  by_cases hyy : y8 < y4
                  · go_wp2_with (fail)
                    go_quiet (fail)
                    go_wp2_with (fail)
                    go_roundw
                    case rel => exact ⟨q + 1, y8, L7, by omega, by omega, by go_num, rfl, HO7.out, own_keep0 HOV.out (gr_drewN (gr_refl _ _) _), own_keep0 HOB.out (gr_drewN (gr_refl _ _) _), gr_drewN HG9.out _⟩
                    case measure => simp [intOf]; omega
                  · go_wp2_with (fail)
                    go_roundw
                    case rel => exact ⟨q + 1, y4, L4, by omega, by omega, by go_num, rfl, HIN4.out, HO4.out, HOB.out, HG9.out⟩
                    case measure => simp [intOf]; omega
              · go_wp2_with (fail)
                go_roundw
                case rel => exact ⟨p + 1, y4, L4, by omega, by go_num, rfl, HIN4.out, hown4, hownB, hgr⟩
                case measure => simp [intOf]; omega
          · have hll := own_len hownB
            have hll' := own_len hown'
            have hcB : CellsAt wi va (ints L) := by
              obtain ⟨_, _, he, _, _, hcc, _⟩ := own_shape hownB
              cases he
              exact hcc
            obtain ⟨va', vc', rfl, _, _, hcc', _⟩ := own_shape hown'
            have EQ := Lib.hid (equal_gen L L' va va' vc vc' wi hcB hcc' (by omega))
            rw [hll, hll'] at EQ
            clear hll hll' hcB hcc'
            go_wp2_with (fail)
            refine EQ.out.mono ?_
            rintro e w6 ⟨⟨b, rfl⟩, hg6⟩
            have hown6 := own_keep0 hown' hg6
            have hgr6 := gr_trans hgr hg6
            clear EQ hg6 hgr hown' hownB
            cases b with
            | true =>
              go_wp2_with (fail)
              go_ret3
              exact ⟨_, O.length, L', y3, 0, rfl, by omega, hown6, gr_trans HGR4.out hgr6⟩
            | false =>
              go_wp2_with (fail)
              go_roundw
              case rel => exact ⟨k + 1, y3, L', by omega, by go_num, rfl, HIN'.out, hown6, hgr6⟩
              case measure => simp [intOf]; omega
      · go_wp2_with (fail)
        go_ret3
        exact ⟨_, O.length, L, y1, 0, rfl, by omega, hown, gr_trans HGR4.out hgr⟩
  · have hr1 : (r != 0) = true := by simpa using hr0
    have hr2 : (r == 0) = false := by simpa using hr0
    clear hr0 HR
    go_wp2_with (fail)
    rw [← HW3.out]
    go_ret3
    exact ⟨_, 0, [], 0, r, rfl, by omega, World.ownsRow_nil _ _ _ _, hgr3⟩
end Go.Proofs.Ytdjnomeabadbnaa
