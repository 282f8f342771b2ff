/- What is asked of trips and orders: no panic; an order that passes has places of stops. -/
import Derived.Test.YtdjnomeabadbnaaStopFault
namespace Go.Proofs.Ytdjnomeabadbnaa
open Go.RowKit

set_option maxRecDepth 100000 in
set_option maxHeartbeats 1000000 in
theorem tripFault_any (hx hy st : Int) (xs : List Stop) (a : Option Addr) (c : Nat) (w : World) (hc : CellsAt w a (flat encStop xs)) (hl : xs.length ≤ 1000) (hcap : xs.length ≤ c) (hk : ∀ x ∈ xs, x.key.size ≤ 100) :
    Calls Try.prog 67 #[.agg #[.int .i64 hx, .int .i64 hy, .slice a xs.length c, .int .i64 st]] w (AnErr w) := by
  have hq1 := heap_alloc_new w (.cells #[.int .i64 hx, .int .i64 hy, .slice a xs.length c, .int .i64 st] 77)
  have hg1 := gr_alloc (gr_refl w none) (.cells #[.int .i64 hx, .int .i64 hy, .slice a xs.length c, .int .i64 st] 77)
  obtain ⟨w1, hw1⟩ : ∃ w1, w1 = w.alloc (.cells #[.int .i64 hx, .int .i64 hy, .slice a xs.length c, .int .i64 st] 77) := ⟨_, rfl⟩
  rw [← hw1] at hq1 hg1
  obtain ⟨q, hq⟩ : ∃ q, q = w.heap.size := ⟨_, rfl⟩
  rw [← hq] at hq1
  have HW := Lib.hid hw1
  have HQ := Lib.hid hq
  have c2 : w1.cell? ⟨q, 2, none⟩ = some (.slice a xs.length c) := blkC hq1 2 rfl
  have hqlt := lt_of_block hq1
  have HQ1 := Lib.hid hq1
  have CS := Lib.hid (checkStops_any xs a c w1 (hc.keep0 hg1) hl hcap hk)
  clear hw1 hq hq1 hc hk
  go_enter Try.func67, Try.ntmps67
  go_wp2_with (fail)
  rw [← HW.out, ← HQ.out]
  refine CS.out.mono ?_
  rintro e w2 ⟨⟨r, rfl⟩, hg2⟩
  have hgr2 := gr_trans hg1 hg2
  by_cases hr : r = 0
  · subst hr
    have hq2 := (hg2.block q hqlt (by simp)).trans HQ1.out
    have d0 : w2.cell? ⟨q, 0, none⟩ = some (.int .i64 hx) := blkC hq2 0 rfl
    have d1 : w2.cell? ⟨q, 1, none⟩ = some (.int .i64 hy) := blkC hq2 1 rfl
    have hq2l := lt_of_block hq2
    have HQ2 := Lib.hid hq2
    clear hq2 hg2
    go_wp2_with (fail)
    refine (isSpot_val hx hy w2).mono ?_
    rintro e w3 ⟨rfl, hg3⟩
    obtain ⟨b3, hb3⟩ : ∃ b3, b3 = spotOk hx hy := ⟨_, rfl⟩
    rw [← hb3]
    clear hb3
    have hgr3 := gr_trans hgr2 hg3
    have hq3 := (hg3.block q hq2l (by simp)).trans HQ2.out
    have c3 : w3.cell? ⟨q, 3, none⟩ = some (.int .i64 st) := blkC hq3 3 rfl
    clear hq3 hg3
    cases b3 with
    | false =>
      go_wp2_with (fail)
      go_ret
      exact ⟨⟨_, rfl⟩, hgr3⟩
    | true =>
      go_wp2_with (fail)
      refine (out_any st 0 1440 w3).mono ?_
      rintro e w4 ⟨rfl, rfl⟩
      obtain ⟨b5, hb5⟩ : ∃ b5, b5 = (decide (st < 0) || decide (1440 < st)) := ⟨_, rfl⟩
      rw [← hb5]
      clear hb5
      cases b5 with
      | true =>
        go_wp2_with (fail)
        go_ret
        exact ⟨⟨_, rfl⟩, hgr3⟩
      | false =>
        go_wp2_with (fail)
        go_ret
        exact ⟨⟨_, rfl⟩, hgr3⟩
  · have hr0 : (r != 0) = true := by simpa using hr
    have hr1 : (r == 0) = false := by simpa using hr
    clear hr
    go_wp2_with (fail)
    go_ret
    exact ⟨⟨_, rfl⟩, hgr2⟩

def OrderErr (O : List Int) (n : Nat) (w : World) (e : Ending) (w' : World) : Prop := (∃ r : Int, e = .returned (.int .i64 r) ∧ (r = 0 → ∀ i ∈ O, 0 ≤ i ∧ i < n)) ∧ w.grownBy w' none
set_option maxRecDepth 100000 in
set_option maxHeartbeats 2000000 in
theorem orderFault_any (hx hy st : Int) (n c : Nat) (a : Option Addr) (O : List Int) (ao : Option Addr) (co : Nat) (w : World) (hn : n ≤ 1000) (hc : CellsAt w ao (ints O)) (hl : O.length ≤ 1000) :
    Calls Try.prog 68 #[.agg #[.int .i64 hx, .int .i64 hy, .slice a n c, .int .i64 st], .slice ao O.length co] w (OrderErr O n w) := by
  have hq1 := heap_alloc_new w (.cells #[.int .i64 hx, .int .i64 hy, .slice a n c, .int .i64 st] 77)
  have hg1 := gr_alloc (gr_refl w none) (.cells #[.int .i64 hx, .int .i64 hy, .slice a n c, .int .i64 st] 77)
  obtain ⟨w1, hw1⟩ : ∃ w1, w1 = w.alloc (.cells #[.int .i64 hx, .int .i64 hy, .slice a n c, .int .i64 st] 77) := ⟨_, rfl⟩
  rw [← hw1] at hq1 hg1
  obtain ⟨q, hq⟩ : ∃ q, q = w.heap.size := ⟨_, rfl⟩
  rw [← hq] at hq1
  have HW := Lib.hid hw1
  have HQ := Lib.hid hq
  have c2 : w1.cell? ⟨q, 2, none⟩ = some (.slice a n c) := blkC hq1 2 rfl
  have hqlt := lt_of_block hq1
  have HQ1 := Lib.hid hq1
  have hwq : w.heap.size ≤ q := by omega
  clear hw1 hq hq1
  go_enter Try.func68, Try.ntmps68
  go_wp2_with (refine wpList_mkZ _ eBool rfl (by decide) rfl _ _ rfl (w.heap.size + 1) _ n rfl rfl rfl (by omega) (by simp) ?_; intro w2 hown2 hg2)
  rw [← HW.out] at hg2
  have e1 : (w.alloc (.cells #[.int .i64 hx, .int .i64 hy, .slice a n c, .int .i64 st] 77)).heap.size = w.heap.size + 1 := by simp
  rw [e1, bools_rep] at hown2
  obtain ⟨g, hg⟩ : ∃ g, g = w.heap.size + 1 := ⟨_, rfl⟩
  rw [← hg] at hown2 ⊢
  have hqg : q < g := by have := HQ.out; omega
  have hw1g : w1.heap.size ≤ g := by rw [HW.out, e1, hg]; exact Nat.le_refl _
  rw [← HQ.out]
  clear hg e1
  go_loopw [14] (fun i wr => ∃ (k : Nat) (B : List Bool), k ≤ O.length ∧ i = .int .i64 k ∧ wr.ownsRow g 4 1 (.slice (some ⟨g, 0, none⟩) n n) n (bools B) ∧ (∀ j : Nat, j < k → 0 ≤ O.getD j 0 ∧ O.getD j 0 < n) ∧ w1.grownBy wr none) (fun i _ => O.length - (intOf i).toNat)
  case atStart => exact ⟨0, _, by omega, rfl, hown2, fun j hj => by omega, hg2⟩
  case round =>
    clear hown2 hg2
    obtain ⟨k, B, hk, rfl, hown, hall, hgr⟩ := hrel
    obtain ⟨wo, rfl⟩ : ∃ wo : World, wo = wr := ⟨_, rfl⟩
    have HA := Lib.hid hall
    clear hall
    have hgr0 := gr_trans hg1 hgr
    by_cases hlt : k < O.length
    · obtain ⟨b, off, rfl, d0⟩ := (hc.keep0 hgr0) k _ (ints_get O k hlt)
      obtain ⟨x, hx⟩ : ∃ x, x = O.getD k 0 := ⟨_, rfl⟩
      rw [← hx] at d0
      have HX := Lib.hid hx
      clear hx
      have c3 := (gr_cell hgr hqlt).trans c2
      go_wp2_with (fail)
      refine (out_any x 0 ((n : Int) - 1) wo).mono ?_
      rintro e w4 ⟨rfl, rfl⟩
      cases hb : (decide (x < 0) || decide ((n : Int) - 1 < x)) with
      | true =>
        have HB := Lib.hid hb
        clear hb
        go_wp2_with (fail)
        go_ret
        exact ⟨⟨1, rfl, fun h => absurd h (by decide)⟩, hgr0⟩
      | false =>
        simp only [Bool.or_eq_false_iff, decide_eq_false_iff_not] at hb
        obtain ⟨m, hm⟩ : ∃ m : Nat, x = (m : Int) := ⟨x.toNat, by omega⟩
        subst hm
        have hmn : m < n := by omega
        clear hb
        obtain ⟨s0, s1, s2⟩ := own_bool hown m hmn
        obtain ⟨v, hv⟩ : ∃ v, v = B.getD m false := ⟨_, rfl⟩
        rw [← hv] at s0
        have S2 := Lib.hid (s2 true)
        clear hv s2
        cases v with
        | true =>
          go_wp2_with (fail)
          go_ret
          exact ⟨⟨6, rfl, fun h => absurd h (by decide)⟩, hgr0⟩
        | false =>
          go_wp2_with (fail)
          go_roundw
          case rel =>
            refine ⟨k + 1, _, by omega, by go_num, S2.out, fun j hj => ?_, gr_new hgr hw1g _⟩
            by_cases hjk : j = k
            · rw [hjk, ← HX.out]; omega
            · exact HA.out j (by omega)
          case measure => simp [intOf]; omega
    · obtain rfl : k = O.length := by omega
      go_wp2_with (fail)
      go_ret
      refine ⟨⟨0, rfl, fun _ i hi => ?_⟩, hgr0⟩
      obtain ⟨j, hj, rfl⟩ := List.getElem_of_mem hi
      have := HA.out j hj
      rwa [getD_eq O j 0 hj] at this
end Go.Proofs.Ytdjnomeabadbnaa
