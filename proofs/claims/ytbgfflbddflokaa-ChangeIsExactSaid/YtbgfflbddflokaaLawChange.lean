/- The walk of ChangeIsExact. -/
import Derived.Test.YtbgfflbddflokaaFindWin
import Derived.Test.YtbgfflbddflokaaWindow
import Derived.Test.YtbgfflbddflokaaSame
import Derived.Test.YtbgfflbddflokaaTubesOk
import Derived.Test.YtbgfflbddflokaaGreedy
namespace Go.Proofs.Ytbgfflbddflokaa
open Go.RowKit

theorem change_fn : ∀ (args : Array Value) (w : World), (callFunc 15 args).run Try.prog w = .ok (.enter 15 args) w := by
  intro args w
  kernel_rfl
/-- What Change says, in one form. -/
theorem change_form {l : List Tube} {n : Nat} {w w' : World} {e : Ending} (h : ChangePost l n w e w') : ∃ (R : Nat → Int) (v : Value) (m : Nat) (c : Int) (f : List Int), RowOk (vT l) (cT l) l.length (n + 1) R ∧ w.grownBy w' none ∧ e = .returned (.tuple #[v, .int .i64 c]) ∧ w'.ownsRow w.heap.size 3 1 v m (ints f) ∧
    ((1073741824 ≤ R n ∧ c = 8) ∨ (R n < 1073741824 ∧ c = 0 ∧ m = l.length ∧ (∀ k, k < l.length → 0 ≤ f.getD k 0 ∧ f.getD k 0 ≤ (tubeAt l k).count) ∧ worthM l f = n ∧ f.sum = R n)) := by
  obtain ⟨R, hR, hg, (⟨h1, rfl⟩ | ⟨h1, v, f, rfl, ho, hb, hw, hs⟩)⟩ := h
  · exact ⟨R, _, 0, 8, [], hR, hg, rfl, World.ownsRow_nil _ _ _ _, .inl ⟨h1, rfl⟩⟩
  · exact ⟨R, v, _, 0, f, hR, hg, rfl, ho, .inr ⟨h1, rfl, rfl, hb, hw, hs⟩⟩
theorem wins_any {R : Nat → Int} {k n : Nat} {ws : List (Int × Int)} (h : WinsTo (fun a => decide (R a < 1073741824)) k ws) (hn : n < k) : ws.any (fun x => decide (x.1 ≤ (n : Int)) && decide ((n : Int) < x.2)) = decide (R n < 1073741824) := by
  rw [Bool.eq_iff_iff, List.any_eq_true]
  simp only [Bool.and_eq_true, decide_eq_true_eq]
  rw [h.cov n]
  simp [hn]
theorem coin_bound {t : List Tube} (ho : OkTubes t) {f : List Int} (hl : f.length = t.length) (hb : ∀ k, k < t.length → 0 ≤ f.getD k 0 ∧ f.getD k 0 ≤ (tubeAt t k).count) : ∀ x ∈ f, 0 ≤ x ∧ x ≤ 1000 := by
  intro x hx
  obtain ⟨k, hk, rfl⟩ := List.getElem_of_mem hx
  have h1 := hb k (by omega)
  have o := ho.ok k (by omega)
  have := o.c1
  have := o.m1
  rw [getD_eq _ _ _ hk] at h1
  omega

set_option maxRecDepth 100000 in
set_option maxHeartbeats 4000000 in
theorem changeIsExact_any (l : List Int) (a : Option Addr) (cap : Nat) (w : World) (hc : CellsAt w a (ints l)) (hl : l.length ≤ 9223372036854775807) :
    Calls Try.prog 3 #[.slice a l.length cap] w fun e w' => e = .returned (.bool true) ∧ w.grownBy w' none := by
  have hs0 := StreamAt.made cap hc hl
  have hg0 : w.grownBy (w.alloc (.cells #[.slice a l.length cap, .int .i64 0] 25)) none := gr_alloc (gr_refl _ _) _
  go_enter Try.func3, Try.ntmps3
  go_wp2_with (fail)
  refine (rightTubes_any l 0 _ _ hs0 (by omega)).mono ?_
  rintro e w1 ⟨v, rfl, hown, hs1, hg1⟩
  have hk1 := tubesTo_k l 0 5
  have ho := tubesM_ok l 0
  obtain ⟨q, hq⟩ : ∃ q, q = tubesK l 0 := ⟨_, rfl⟩
  have hq15 : q ≤ 15 := by rw [hq]; unfold tubesK; omega
  rw [← hq] at hs1
  clear hq hk1
  obtain ⟨t, ht⟩ : ∃ t, t = tubesM l 0 := ⟨_, rfl⟩
  rw [← ht] at hown ho
  clear ht hs0 hc
  have htl := ho.len
  have hbase : w.heap.size < (w.alloc (.cells #[.slice a l.length cap, .int .i64 0] 25)).heap.size := by simp
  obtain ⟨ta, tc, rfl, _, _, _, _⟩ := own_shape hown
  go_wp2_with (fail)
  refine (next_any l _ _ _ _ hs1 (by omega) (by omega)).mono ?_
  rintro e w2 ⟨rfl, hs2, hg2⟩
  have hr := nxt_range l q 400 (by omega)
  obtain ⟨n, hn⟩ : ∃ n : Nat, nxt l q 400 = n := ⟨(nxt l q 400).toNat, by omega⟩
  rw [hn] at hr ⊢
  have hn400 : n < 400 := by omega
  have hown2 := own_keepS hown hg2 hbase
  have hgr2 : w.grownBy w2 none := gr_grown hg0 (gr_trans hg1 hg2) (fun r hr => by cases hr; omega)
  clear hown hg1 hg2 hr hn hs1 hs2 hg0 hbase
  obtain ⟨w3, hw3⟩ : ∃ w3, w3 = w2.alloc (.cells #[.int .i64 n] 3) := ⟨_, rfl⟩
  have hg3 : w2.grownBy w3 none := by rw [hw3]; exact gr_alloc (gr_refl _ _) _
  have n3 : w3.cell? ⟨w2.heap.size, 0, none⟩ = some (.int .i64 n) := by rw [hw3]; exact made_cell (gr_refl _ _) 0 rfl
  obtain ⟨_, _, he, _, _, hct, _⟩ := own_shape (own_keep0 hown2 hg3)
  cases he
  have hgr3 := gr_trans hgr2 hg3
  clear hown2 hgr2 hg3
  go_wp2_with (fail)
  rw [← hw3]
  clear hw3
  refine ((change_any t n ta tc w3 hct ho (by omega)).mono fun _ _ h => change_form h).mono ?_
  rintro e w4 ⟨R1, v1, m1, c1, f1, hR1, hg4, rfl, hown4, hch⟩
  obtain ⟨ca, cc, rfl, _, _, hca, _⟩ := own_shape hown4
  have hfl1 := own_len hown4
  have n4 := (gr_cell hg4 (lt_of_cell n3)).trans n3
  replace hct := hct.keep0 hg4
  have hgr4 := gr_trans hgr3 hg4
  have HCH := Lib.hid hch
  have HFL1 := Lib.hid hfl1
  have HR1 := Lib.hid hR1
  clear hch hfl1 hR1 hown4 hg4 hgr3 n3
  go_wp2_with (fail)
  refine (greedy_any t n ta tc w4 hct ho (by omega) (by omega)).mono ?_
  rintro e w5 ⟨v2, g, rest, rfl, hown5, hg5, hgl, hgb, hrest, hgw⟩
  obtain ⟨ga, gc, rfl, _, _, hcg, _⟩ := own_shape hown5
  have n5 := (gr_cell hg5 (lt_of_cell n4)).trans n4
  replace hct := hct.keep0 hg5
  replace hca := hca.keep0 hg5
  have hgr5 := gr_trans hgr4 hg5
  have HGB := Lib.hid hgb
  have HGL := Lib.hid hgl
  have HGW := Lib.hid hgw
  clear hgl hgb hgw hown5 hg5 hgr4 n4
  go_wp2_with (fail)
  refine (reach_any t 400 ta tc w5 hct ho (by omega)).mono ?_
  rintro e w6 ⟨R2, v3, ws, hR2, hg6, rfl, hown6, hwl, hws⟩
  obtain ⟨wa, wc', rfl, _, _, hcw, _⟩ := own_shape hown6
  have n6 := (gr_cell hg6 (lt_of_cell n5)).trans n5
  replace hct := hct.keep0 hg6
  replace hca := hca.keep0 hg6
  replace hcg := hcg.keep0 hg6
  have hgr6 := gr_trans hgr5 hg6
  have hcan := wins_any (n := n) hws (by omega)
  have hsame := rows_same HR1.out hR2 (a := n) (by omega) (by omega)
  rw [← hsame] at hcan
  have HCAN := Lib.hid hcan
  clear hws hcan hsame hR2 hown6 hg6 hgr5 n5
  have hgbd := coin_bound ho HGL.out HGB.out
  have W1 := Lib.hid (fun (w' : World) (h1 : CellsAt w' ta (tubes t)) (h2 : CellsAt w' ga (ints g)) => worth_same t g ta tc ga gc w' h1 h2 (by rw [HGL.out]; exact Nat.le_refl _) ho (fun x hx => by have := hgbd x hx; omega))
  obtain ⟨W, hW⟩ : ∃ W, W = worthM t g := ⟨_, rfl⟩
  obtain ⟨pa, pm, hpa, hpm, hpay⟩ := pay_vec ho HGL.out HGB.out
  have hWb : (0 : Int) ≤ W ∧ W ≤ 400 := by have := HGW.out; rw [← hW] at hpa this; omega
  have HPAY := Lib.hid hpay
  have HPA := Lib.hid hpa
  have HPM := Lib.hid hpm
  clear hpay hpa hpm
  rw [HGL.out, ← hW] at W1
  have hsum := HGW.out
  rw [← hW] at hsum
  have hne : (W + rest != (n : Int)) = false := by simp [hsum]
  have hwr : IntKind.i64.wrap (W + rest) = W + rest := IntWalk.i64_in _ (by omega)
  have htt : ((t.length : Int) != (t.length : Int)) = false := by simp
  have HSUM := Lib.hid hsum
  have HWW := Lib.hid hW
  have HGBD := Lib.hid hgbd
  clear hsum hW hgbd
  go_wp2_with (fail)
  go_quiet ((go_at_call 13; exact Calls.quiet_of_same (W1.out _ (hct.keep0 (gr_drewN (gr_refl _ _) _)) (hcg.keep0 (gr_drewN (gr_refl _ _) _)))))
  go_wp2_with (fail)
  refine (containsFunc_win 15 w2.heap.size (fun x => decide (x.1 ≤ (n : Int)) && decide ((n : Int) < x.2)) ws wa wc' _ (hcw.keep0 (gr_drewN (gr_refl _ _) _)) (by omega) change_fn (fun x _ w1 h => inWin_any x.1 x.2 n w2.heap.size w1 ((gr_cell h (lt_of_cell (w := w6) n6)).trans n6))).mono ?_
  rintro e w7 ⟨rfl, hg7⟩
  rw [HCAN.out]
  have hg67 := gr_trans (gr_drewN (gr_refl w6 none) _) hg7
  have n7 := (gr_cell hg67 (lt_of_cell n6)).trans n6
  replace hct := hct.keep0 hg67
  replace hca := hca.keep0 hg67
  replace hcg := hcg.keep0 hg67
  have hgr7 := gr_trans hgr6 hg67
  clear hg7 hg67 n6 hgr6 hcw
  rcases HCH.out with ⟨hR, rfl⟩ | ⟨hR, rfl, rfl, hcb, hcwo, hcs⟩
  · have hb : decide (R1 n < 1073741824) = false := by simp; omega
    rw [hb]
    clear hb hR
    go_wp2_with (fail)
    refine (vends_any _).mono ?_
    rintro e w8 ⟨rfl, hg8⟩
    go_wp2_with (fail)
    go_ret
    exact ⟨rfl, gr_trans hgr7 hg8⟩
  · have hb : decide (R1 n < 1073741824) = true := by simp; omega
    rw [hb]
    have hcbd := coin_bound ho HFL1.out hcb
    have W2 := Lib.hid (fun (w' : World) (h1 : CellsAt w' ta (tubes t)) (h2 : CellsAt w' ca (ints f1)) => worth_same t f1 ta tc ca cc w' h1 h2 (by rw [HFL1.out]; exact Nat.le_refl _) ho (fun x hx => by have := hcbd x hx; omega))
    rw [hcwo, HFL1.out] at W2
    have T1 := Lib.hid (fun (w' : World) (h2 : CellsAt w' ca (ints f1)) => keepTotal_same f1 ca cc w' h2 (by rw [HFL1.out]; omega) (fun x hx => by have := hcbd x hx; omega))
    have T2 := Lib.hid (fun (w' : World) (h2 : CellsAt w' ga (ints g)) => keepTotal_same g ga gc w' h2 (by rw [HGL.out]; omega) (fun x hx => by have := HGBD.out x hx; omega))
    rw [HFL1.out] at T1
    rw [HGL.out] at T2
    have hle : rest = 0 → f1.sum ≤ g.sum := by
      intro h0
      have h1 := HSUM.out
      rw [h0] at h1
      have h2 := HPA.out
      rw [← HWW.out] at h2
      have h3 : pa = n := by omega
      have h4 := HPAY.out
      rw [h3] at h4
      have := (HR1.out n (by omega)).2.2 pm h4
      have := HPM.out
      omega
    obtain ⟨S1, hS1⟩ : ∃ S1, S1 = f1.sum := ⟨_, rfl⟩
    obtain ⟨S2, hS2⟩ : ∃ S2, S2 = g.sum := ⟨_, rfl⟩
    rw [← hS1] at T1 hle
    rw [← hS2] at T2 hle
    have hnn : ((n : Int) != (n : Int)) = false := by simp
    have HCB := Lib.hid hcb
    clear hb hcbd hcwo hcs hcb hS1 hS2 hR
    have hfin : ∀ (wx : World), CellsAt wx ta (tubes t) → True := fun _ _ => trivial
    clear hfin
    have hpart : (rest == 0) = false ∨ ((rest == 0) = true ∧ decide (S2 < S1) = false) := by
      by_cases e : rest = 0
      · exact .inr ⟨by simp [e], by have := hle e; simp; omega⟩
      · exact .inl (by simp [e])
    clear hle
    have HLE := Lib.hid hpart
    rcases hpart with hr0 | ⟨hr0, hlt0⟩
    all_goals
      go_wp2_with (fail)
      go_quiet ((first | (go_at_call 13; exact Calls.quiet_of_same (W2.out _ (hct.keep0 (gr_drewN (gr_refl _ _) _)) (hca.keep0 (gr_drewN (gr_refl _ _) _)))) | (go_at_call 17; (with_reducible refine Calls.quiet_of_same (T1.out _ ?_)); exact hca.keep0 (gr_drewN (gr_refl _ _) _)) | (go_at_call 17; (with_reducible refine Calls.quiet_of_same (T2.out _ ?_)); exact hcg.keep0 (gr_drewN (gr_refl _ _) _))))
      go_wp2_with (fail)
    all_goals
      have hgq := gr_drewN (gr_refl w7 none) nq
      replace hct := hct.keep0 hgq
      replace hca := hca.keep0 hgq
      have hgr8 := gr_trans hgr7 hgq
      clear hgq
      generalize w7.drewN nq = w8 at hct hca hgr8 ⊢
      go_loopw [102] (fun i wr => ∃ k : Nat, k ≤ t.length ∧ i = .int .i64 k ∧ w8.grownBy wr none) (fun i _ => t.length - (intOf i).toNat)
      case atStart => exact ⟨0, Nat.zero_le _, rfl, gr_refl _ _⟩
      case round =>
        obtain ⟨k, hk, rfl, hgo⟩ := hrel
        obtain ⟨wo, rfl⟩ : ∃ wo : World, wo = wr := ⟨_, rfl⟩
        by_cases hlt : k < t.length
        · obtain ⟨b, off, rfl, hcs⟩ := tubes_cells (hct.keep0 hgo) k hlt
          obtain ⟨_, d1, _⟩ := hcs k hlt
          obtain ⟨b2, o2, rfl, d2⟩ := (hca.keep0 hgo) k _ (ints_get f1 k (by rw [HFL1.out]; exact hlt))
          obtain ⟨x0, x1⟩ := HCB.out k hlt
          obtain ⟨x, hx⟩ : ∃ x, x = f1.getD k 0 := ⟨_, rfl⟩
          obtain ⟨y, hy⟩ : ∃ y, y = (tubeAt t k).count := ⟨_, rfl⟩
          rw [← hx] at d2 x0 x1
          rw [← hy] at d1 x1
          have b1 : decide (x < 0) = false := by simp; omega
          have b2 : decide (y < x) = false := by simp; omega
          clear hcs hx hy
          go_wp2_with (fail)
          go_roundw
          case rel => exact ⟨k + 1, by omega, by go_num, hgo⟩
          case measure => simp [intOf]; omega
        · go_wp2_with (fail)
          refine (vends_any _).mono ?_
          rintro e w9 ⟨rfl, hg9⟩
          go_wp2_with (fail)
          go_ret
          exact ⟨rfl, gr_trans (gr_trans hgr8 hgo) hg9⟩
end Go.Proofs.Ytbgfflbddflokaa
