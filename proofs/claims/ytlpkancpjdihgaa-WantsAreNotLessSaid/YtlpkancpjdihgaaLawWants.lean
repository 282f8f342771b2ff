/- The walk of WantsAreNotLess. -/
import Derived.Test.YtlpkancpjdihgaaWantsPure
import Derived.Test.YtlpkancpjdihgaaAdd2
import Derived.Test.YtlpkancpjdihgaaDemands
namespace Go.Proofs.Ytlpkancpjdihgaa
open Go.RowKit

theorem tot_le9 (P : Sale → Bool) (A : List Sale) (h : ∀ s ∈ A, 0 ≤ s.sold ∧ s.sold ≤ 9) : tot P A ≤ 9 * A.length := by
  induction A with
  | nil => simp [tot]
  | cons s A ih =>
    have h1 := h s (by simp)
    have h2 := ih (fun x hx => h x (by simp [hx]))
    rw [tot_cons]
    simp only [List.length_cons]
    split <;> omega
theorem tot_append (P : Sale → Bool) (A B : List Sale) : tot P (A ++ B) = tot P A + tot P B := by simp [tot, List.filter_append]
theorem days_small (l : List Int) (k : Nat) (ho : OkDays (daysM l k)) (P : Sale → Bool) : (daysM l k).length ≤ 12 ∧ tot P (daysM l k) ≤ 1099 := by
  have hn := daysN_lt l k
  have hh : ∀ s ∈ daysHead l k, 0 ≤ s.sold ∧ s.sold ≤ 9 := by
    intro s hs
    simp only [daysHead, salesTo, List.mem_map] at hs
    obtain ⟨i, _, rfl⟩ := hs
    have := pickM_mem l (k + 2 + 3 * i) [0, 1, 2, 3, 5, 9] (by decide)
    simp only [List.mem_cons, List.not_mem_nil, or_false] at this
    simp only [saleAt]
    omega
  have h9 := tot_le9 P _ hh
  have hl : (daysHead l k).length = daysN l k := by simp [daysHead, salesTo]
  rw [hl] at h9
  unfold daysM at *
  split
  · rename_i hm
    rw [if_pos hm] at ho
    have hlast : tot P [daysLast l k] ≤ 1000 := by
      have := (ho.ok (daysHead l k).length (by simp)).s1
      have e : sAt (daysHead l k ++ [daysLast l k]) (daysHead l k).length = daysLast l k := by simp [sAt, List.getD_eq_getElem?_getD]
      rw [e] at this
      rw [tot_cons]
      simp only [tot, List.filter_nil, List.map_nil, List.sum_nil]
      split <;> omega
    rw [tot_append, List.length_append, hl]
    simp only [List.length_cons, List.length_nil]
    omega
  · rw [hl]; omega

theorem cnt_pos {P : Sale → Bool} {l : List Sale} {k : Nat} (h : k < l.length) (hp : takes P (sAt l k) = true) : 0 < cnt P l := by
  unfold cnt
  have : sAt l k ∈ l.filter (takes P) := by
    rw [List.mem_filter]
    refine ⟨?_, hp⟩
    rw [sAt, List.getD_eq_getElem?_getD, List.getElem?_eq_getElem h]
    exact List.getElem_mem h
  exact List.length_pos_of_mem this
theorem fracs_get (l : List (Int × Int)) (i : Nat) (h : i < l.length) : (fracs l)[i * 2]? = some (.int .i64 (l.getD i (0, 0)).1) ∧ (fracs l)[i * 2 + 1]? = some (.int .i64 (l.getD i (0, 0)).2) := by
  induction l generalizing i with
  | nil => simp at h
  | cons a l ih =>
    cases i with
    | zero => simp [fracs]
    | succ i =>
      have := ih i (by simpa using h)
      rw [show (i + 1) * 2 = i * 2 + 2 by omega]
      simpa [fracs] using this
theorem fracs_cells {w : World} {a : Option Addr} {l : List (Int × Int)} (hc : CellsAt w a (fracs l)) (i : Nat) (h : i < l.length) :
    ∃ b off, a = some ⟨b, off, none⟩ ∧ w.cell? ⟨b, off + i * 2, none⟩ = some (.int .i64 (l.getD i (0, 0)).1) ∧ w.cell? ⟨b, off + i * 2 + 1, none⟩ = some (.int .i64 (l.getD i (0, 0)).2) := by
  obtain ⟨g1, g2⟩ := fracs_get l i h
  obtain ⟨b1, o1, rfl, c1⟩ := hc _ _ g1
  obtain ⟨b2, o2, e2, c2⟩ := hc _ _ g2
  cases e2
  exact ⟨_, _, rfl, c1, c2⟩

set_option maxRecDepth 100000 in
set_option maxHeartbeats 4000000 in
theorem wants_any (l : List Int) (a : Option Addr) (cap : Nat) (w : World) (hc : CellsAt w a (ints l)) (hl : l.length ≤ 9223372036854775807) :
    Calls Try.prog 4 #[.slice a l.length cap] w fun e w' => e = .returned (.bool true) ∧ w.grownBy w' none := by
  have hs0 := StreamAt.made cap hc hl
  have hg0 : w.grownBy (w.alloc (.cells #[.slice a l.length cap, .int .i64 0] 25)) none := gr_alloc (gr_refl _ _) _
  go_enter Try.func4, Try.ntmps4
  go_wp2_with (fail)
  refine (days_any l 0 _ _ hs0 (by omega)).mono ?_
  rintro e w1 ⟨v, rfl, hown, _, hg1⟩
  replace hg1 := gr_grown hg0 hg1 (fun q hq => by cases hq; omega)
  clear hs0 hg0 hc
  have hsm := days_small l 0
  obtain ⟨d, hd⟩ : ∃ d, d = daysM l 0 := ⟨_, rfl⟩
  rw [← hd] at hown hsm
  have hdl : d.length ≤ 1000000 := by
    have := daysN_lt l 0
    rw [hd]; unfold daysM daysHead; split <;> simp [salesTo] <;> omega
  clear hd
  obtain ⟨da, dc, rfl, _, _, hcd, _⟩ := own_shape hown
  clear hown
  go_wp2_with (fail)
  refine (daysFault_any d da dc _ hcd hdl).mono ?_
  rintro e w2 ⟨r, rfl, hr, hg2⟩
  replace hcd := hcd.keep0 hg2
  replace hg2 := gr_trans hg1 hg2
  clear hg1
  by_cases ho : OkDays d
  · have hr0 := hr.2 ho
    subst hr0; clear hr
    go_wp2_with (fail)
    refine (uncover_any d da dc _ hcd ho).mono ?_
    rintro e w3 ⟨v3, rfl, hown3, hg3⟩
    have hsz3 := hg2.size
    obtain ⟨ua, uc, rfl, _, _, hcu, _⟩ := own_shape hown3
    clear hown3
    replace hcd := hcd.keep0 hg3
    replace hg3 := gr_trans hg2 hg3
    clear hg2 hsz3
    go_wp2_with (fail)
    go_loopw [46] (fun i wr => ∃ k : Nat, k ≤ d.length ∧ i = .int .i64 k ∧ w3.grownBy wr none) (fun i _ => d.length - (intOf i).toNat)
    case atStart => exact ⟨0, Nat.zero_le _, rfl, gr_refl _ _⟩
    case round =>
      obtain ⟨k, hk, rfl, hgr⟩ := hrel
      obtain ⟨wo, rfl⟩ : ∃ wo : World, wo = wr := ⟨_, rfl⟩
      by_cases hlt : k < d.length
      · obtain ⟨b, off, rfl, hcs⟩ := sales_cells (hcd.keep0 hgr) k hlt
        obtain ⟨c0, c1, c2⟩ := hcs k hlt
        have hbl := lt_of_cell c0
        have hwl : (wants d).length = d.length := by simp [wants]
        obtain ⟨ub, uo, rfl, cu⟩ := (hcu.keep0 hgr) k _ (ints_get (wants d) k (by omega))
        have hul := lt_of_cell cu
        have hge := wantOf_ge (tot allP d) (cnt allP d) (sAt d k)
        have hwk : (wants d).getD k 0 = wantOf (tot allP d) (cnt allP d) (sAt d k) := by
          rw [wants, sAt, List.getD_eq_getElem?_getD, List.getD_eq_getElem?_getD, List.getElem?_map, List.getElem?_eq_getElem hlt]
          rfl
        rw [hwk] at cu
        obtain ⟨x, hx⟩ : ∃ x, x = sAt d k := ⟨_, rfl⟩
        obtain ⟨y, hy⟩ : ∃ y, y = wantOf (tot allP d) (cnt allP d) (sAt d k) := ⟨_, rfl⟩
        rw [← hy] at cu hge
        rw [← hx] at c0 c1 c2 hge
        have HX := Lib.hid hx; clear hx
        have HY := Lib.hid hy; clear hy hcs hwl hwk
        obtain ⟨hge1, hge2⟩ := hge
        cases hxo : x.out with
        | true =>
          rw [hxo] at c2
          have HO := Lib.hid hxo; clear hxo hge2
          have hb1 : decide (y < x.sold) = false := by simp; omega
          go_wp2_with (fail)
          go_quiet (fail)
          go_wp2_with (fail)
          go_roundw
          case rel => exact ⟨k + 1, by omega, by go_num, gr_drewN (gr_alloc hgr _) _⟩
          case measure => simp [intOf]; omega
        | false =>
          rw [hxo] at c2
          have hys := hge2 hxo
          subst hys
          have HO := Lib.hid hxo; clear hxo hge1 hge2
          have hb1 : decide (x.sold < x.sold) = false := by simp
          have hb2 : (x.sold != x.sold) = false := by simp
          go_wp2_with (fail)
          go_quiet (fail)
          go_wp2_with (fail)
          go_roundw
          case rel => exact ⟨k + 1, by omega, by go_num, gr_drewN (gr_alloc hgr _) _⟩
          case measure => simp [intOf]; omega
      · replace hcd := hcd.keep0 hgr
        replace hg3 := gr_trans hg3 hgr
        clear hcu hgr hk
        go_wp2_with (fail)
        by_cases hcn : cnt allP d = 0
        · refine (rate_none d da dc _ hcd ho hcn).mono ?_
          rintro e w4 ⟨rfl, hg4⟩
          replace hcd := hcd.keep0 hg4
          replace hg4 := gr_trans hg3 hg4
          have HCN := Lib.hid hcn; clear hcn hsm
          go_wp2_with (fail)
          refine (week_any d da dc _ (hcd.alloc _) ho).mono ?_
          rintro e w5 ⟨v5, ps, rfl, hps, hown5, hg5⟩
          replace hg5 := gr_trans (gr_alloc hg4 _) hg5
          obtain ⟨wa, wc, rfl, _, _, hcw, _⟩ := own_shape hown5
          clear hown5 hcw hps
          go_wp2_with (go_at_call 18; refine (demands_any _).mono ?_; rintro e w6 ⟨rfl, hg6⟩)
          go_ret
          exact ⟨rfl, gr_trans hg5 hg6⟩
        · refine (rate_some d da dc _ hcd ho (by omega)).mono ?_
          rintro e w4 ⟨rN, rD, rfl, hf, hg4⟩
          replace hcd := hcd.keep0 hg4
          replace hg4 := gr_trans hg3 hg4
          clear hg3
          obtain ⟨hn12, ht12⟩ := hsm ho allP
          have hcl := cnt_le allP d
          go_wp2_with (fail)
          refine (week_any d da dc _ (hcd.alloc _) ho).mono ?_
          rintro e w5 ⟨v5, ps, rfl, hps, hown5, hg5⟩
          have q0 : w5.cell? ⟨w4.heap.size, 0, none⟩ = some (.int .i64 rN) := made_cell hg5 0 rfl
          have q1 : w5.cell? ⟨w4.heap.size, 1, none⟩ = some (.int .i64 rD) := made_cell hg5 1 rfl
          replace hcd := (hcd.alloc (.cells #[.int .i64 rN, .int .i64 rD] 28)).keep0 hg5
          replace hg5 := gr_trans (gr_alloc hg4 _) hg5
          clear hg4
          obtain ⟨wa, wc, rfl, _, _, hcw, _⟩ := own_shape hown5
          clear hown5
          have HF := Lib.hid hf
          have hf1 := hf.b1
          have hf2 := hf.bP
          have hf3 := hf.aH
          have hf4 := hf.a0
          clear hf
          by_cases hr0 : rN = 0
          · have hrb : (rN == 0) = true := by simp [hr0]
            clear hr0 hps hcw
            go_wp2_with (go_at_call 18; refine (demands_any _).mono ?_; rintro e w6 ⟨rfl, hg6⟩)
            go_ret
            exact ⟨rfl, gr_trans hg5 hg6⟩
          · have hrb : (rN == 0) = false := by simp [hr0]
            have htp : 1 ≤ tot allP d := by omega
            have hM := bigM_pos d
            go_wp2_with (fail)
            go_loopw [13, 14, 100] (fun s t i wr => ∃ (k : Nat) (L D : Int), k ≤ d.length ∧ i = .int .i64 k ∧ s = .int .i64 L ∧ t = .int .i64 D ∧ -1000000000 ≤ L ∧ L ≤ 1000000000 ∧ 1 ≤ D ∧ D ≤ 1000000000 ∧ L * bigM d = D * leftX d k ∧ w5.grownBy wr none) (fun _ _ i _ => d.length - (intOf i).toNat)
            case atStart => exact ⟨0, 0, 1, Nat.zero_le _, rfl, rfl, rfl, by omega, by omega, by omega, by omega, by rw [leftX_zero]; simp, gr_refl _ _⟩
            case round =>
              obtain ⟨k, L, D, hk, rfl, rfl, rfl, hL0, hL1, hD0, hD1, hLD, hgr⟩ := hrel
              obtain ⟨wo, rfl⟩ : ∃ wo : World, wo = wr := ⟨_, rfl⟩
              have HLD := Lib.hid hLD; clear hLD
              by_cases hlt2 : k < d.length
              · obtain ⟨b, off, rfl, hcs⟩ := sales_cells (hcd.keep0 hgr) k hlt2
                obtain ⟨c0, c1, c2⟩ := hcs k hlt2
                have hbl := lt_of_cell c0
                have ok := ho.ok k hlt2
                have ok0 := ok.s0
                have ok1 := ok.s1
                have ok2 := ok.d0
                clear ok hcs
                cases hxo : (sAt d k).out with
                | true =>
                  rw [hxo] at c2
                  have HNO := Lib.hid (leftX_no hlt2 hxo)
                  clear hxo
                  go_wp2_with (fail)
                  go_roundw
                  case rel => exact ⟨k + 1, L, D, by omega, by go_num, rfl, rfl, hL0, hL1, hD0, hD1, by rw [HNO.out]; exact HLD.out, gr_alloc hgr _⟩
                  case measure => simp [intOf]; omega
                | false =>
                  rw [hxo] at c2
                  obtain ⟨r, hr7, hr, hr2⟩ := week_of (sAt d k)
                  have HYES := Lib.hid (leftX_yes hlt2 hxo hr2)
                  have hcp0 : 0 < cnt (weekP r) d := cnt_pos hlt2 (by simp [takes, hxo, weekP, hr])
                  have hcp : 0 < cnt (weekP r) d := cnt_pos hlt2 (by simp [takes, hxo, weekP, hr])
                  have htot := (hsm ho (weekP r)).2
                  have hfr := (hps.2 r hr7).2 hcp htp
                  have hcr := cnt_le (weekP r) d
                  obtain ⟨wN, wD, hwp⟩ : ∃ wN wD, ps.getD r (0, 0) = (wN, wD) := ⟨_, _, rfl⟩
                  rw [hwp] at hfr
                  replace hfr : IsFrac wN wD (tot (weekP r) d * cnt allP d) (cnt (weekP r) d * tot allP d) := hfr
                  obtain ⟨wb, wf, rfl, e0, e1⟩ := fracs_cells (hcw.keep0 hgr) r (by rw [hps.1]; exact hr7)
                  rw [hwp] at e0 e1
                  replace e0 : wo.cell? ⟨wb, wf + r * 2, none⟩ = some (.int .i64 wN) := e0
                  replace e1 : wo.cell? ⟨wb, wf + r * 2 + 1, none⟩ = some (.int .i64 wD) := e1
                  have hwl := lt_of_cell e0
                  have k1 := hfr.a0
                  have k2 := hfr.b1
                  have k3 := hfr.aH
                  have k4 := hfr.bP
                  have hS0 : 0 ≤ tot (weekP r) d := by have := (tot_bound (weekP r) d ho d.length (Nat.le_refl _)).1; rwa [List.take_length] at this
                  have m1 := mul_bound hS0 (show (0 : Int) ≤ cnt allP d by omega) htot (show (cnt allP d : Int) ≤ 12 by omega)
                  have m2 := mul_bound (show (0 : Int) ≤ cnt (weekP r) d by omega) (show 0 ≤ tot allP d by omega) (show (cnt (weekP r) d : Int) ≤ 12 by omega) ht12
                  have HRS := Lib.hid (rate_step hfr.eq HF.out.eq (show (1 : Int) ≤ cnt allP d by omega) htp)
                  have k5 : wN ≤ 13188 := by omega
                  have k6 : wD ≤ 13188 := by omega
                  have k7 : rN ≤ 1099 := by omega
                  have k8 : rD ≤ 12 := by omega
                  clear m1 m2 k3 k4 hfr hcr htot hcp hwp hr2 hS0
                  obtain ⟨x, hx⟩ : ∃ x, x = sAt d k := ⟨_, rfl⟩
                  rw [← hx] at c0 c1 ok0 ok1 ok2 hr
                  have HX := Lib.hid hx; clear hx hxo
                  obtain ⟨a1, a2⟩ := mul_bound k1 hf4 k5 k7
                  obtain ⟨a3, a4⟩ := mul_bound a1 (show 0 ≤ D by omega) a2 hD1
                  obtain ⟨a5, a6⟩ := mul_bound ok0 (show 0 ≤ wD by omega) ok1 k6
                  obtain ⟨a7, a8⟩ := mul_bound a5 (show 0 ≤ rD by omega) a6 k8
                  obtain ⟨a9, a10⟩ := mul_bound a7 (show 0 ≤ D by omega) a8 hD1
                  obtain ⟨a11, a12⟩ := mul_sbound hL0 hL1 (show 0 ≤ wD by omega) k6 (by omega)
                  obtain ⟨a13, a14⟩ := mul_sbound a11 a12 (show 0 ≤ rD by omega) k8 (by omega)
                  obtain ⟨a15, a16⟩ := mul_bound (show 0 ≤ D by omega) (show 0 ≤ wD by omega) hD1 k6
                  obtain ⟨a17, a18⟩ := mul_bound a15 (show 0 ≤ rD by omega) a16 k8
                  have a19 : 1 ≤ D * wD * rD := mul_pos' (mul_pos' hD0 k2) hf1
                  have q0' := hgr.cell q0 (by simp)
                  have q1' := hgr.cell q1 (by simp)
                  have hql := lt_of_cell q0'
                  go_wp2_with (fail)
                  go_quiet (fail)
                  obtain ⟨num, hnum⟩ : ∃ num, num = L * wD * rD + (wN * rN * D - x.sold * wD * rD * D) := ⟨_, rfl⟩
                  obtain ⟨den, hden⟩ : ∃ den, den = D * wD * rD := ⟨_, rfl⟩
                  have n1 : -9223372036854775807 ≤ num := by omega
                  have n2 : num ≤ 9223372036854775807 := by omega
                  rw [← hden] at a17 a18 a19
                  rw [← hnum, ← hden]
                  have HNUM := Lib.hid hnum; clear hnum
                  have HDEN := Lib.hid hden; clear hden
                  clear a1 a2 a3 a4 a5 a6 a7 a8 a9 a10 a11 a12 a13 a14 a15 a16
                  have hgr1 := gr_alloc (gr_alloc hgr (.cells #[.int .i64 x.day, .int .i64 x.sold, .bool false] 40)) (.cells #[.int .i64 wN, .int .i64 wD] 28)
                  go_wp2_with (fail)
                  refine (lowest_any num den _ n1 n2 a19 (by omega)).mono ?_
                  rintro e w6 ⟨p, q, rfl, hlow, hg6⟩
                  have hgr6 := gr_trans (gr_drewN hgr1 _) hg6
                  clear hg6 hgr1
                  go_wp2_with (fail)
                  refine (add_any p q _ hlow.lo hlow.hi).mono ?_
                  rintro e w7 ⟨p', q', r', rfl, hadd, hg7⟩
                  have hgr7 := gr_trans hgr6 hg7
                  clear hg7 hgr6
                  have HADD := Lib.hid hadd; clear hadd
                  have HLOW := Lib.hid hlow; clear hlow
                  by_cases hr0' : r' = 0
                  · subst hr0'
                    obtain ⟨rfl, rfl, g1, g2, g3, g4⟩ := HADD.out rfl
                    clear HADD
                    go_wp2_with (fail)
                    go_quiet (fail)
                    go_wp2_with (fail)
                    go_roundw
                    case rel =>
                      refine ⟨k + 1, p', q', by omega, by go_num, rfl, rfl, g3, g4, g1, g2, ?_, gr_drewN (gr_alloc hgr7 _) _⟩
                      rw [HYES.out]
                      have hcc : cOf d r = cnt (weekP r) d := by unfold cOf; rw [if_neg (by omega)]
                      have hmm := mOf_eq d r hr7
                      rw [hcc] at hmm
                      refine left_step HLD.out hmm HRS.out ?_ hD0 (mul_pos' k2 hf1) (show (1 : Int) ≤ cnt (weekP r) d by omega)
                      have := HLOW.out.eq
                      rw [HNUM.out, HDEN.out] at this
                      rw [← HX.out]
                      have e1 : D * (wD * rD) = D * wD * rD := by grind
                      rw [e1, this]
                      grind
                    case measure => simp [intOf]; omega
                  · have hrb' : (r' != 0) = true := by simp [hr0']
                    clear HADD
                    go_wp2_with (go_at_call 18; refine (demands_any _).mono ?_; rintro e w8 ⟨rfl, hg8⟩)
                    go_ret
                    exact ⟨rfl, gr_trans (gr_trans hg5 (gr_alloc hgr7 _)) hg8⟩
              · have hke : k = d.length := by omega
                have hL : L = 0 := by
                  have := HLD.out
                  rw [hke, leftX_all, Int.mul_zero] at this
                  rcases Int.mul_eq_zero.1 this with h | h <;> omega
                subst hL
                have HK := Lib.hid hke; clear hke
                go_wp2_with (go_at_call 18; refine (demands_any _).mono ?_; rintro e w6 ⟨rfl, hg6⟩)
                go_ret
                exact ⟨rfl, gr_trans (gr_trans hg5 hgr) hg6⟩
  · have hrb : (r != 0) = true := by
      simp only [bne_iff_ne, ne_eq]
      exact fun h => ho (hr.1 h)
    clear hr hsm
    go_wp2_with (go_at_call 18; refine (demands_any _).mono ?_; rintro e w3 ⟨rfl, hg3⟩)
    go_ret
    exact ⟨rfl, gr_trans hg2 hg3⟩
end Go.Proofs.Ytlpkancpjdihgaa
