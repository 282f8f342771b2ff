/- What is asked of stops, trips and orders: no panic; an order that passes has places of stops. -/
import Derived.Test.YtehhmgbgkemidaaDoorPkSAj
import Derived.Test.YtehhmgbgkemidaaDoorPkSAk
import Derived.Test.YtehhmgbgkemidaaDoorPkSAm
import Derived.Test.YtehhmgbgkemidaaDoorPkSAc
namespace Go.Proofs.YtehhmgbgkemidaaDoor
open Go.RowKit

def AnErr (w : World) (e : Ending) (w' : World) : Prop := (∃ r : Int, e = .returned (.int .i64 r)) ∧ w.grownBy w' none
theorem flat_take {α : Type} {enc : α → List Value} {w : World} {a : Option Addr} {l : List α} (h : CellsAt w a (flat enc l)) (k : Nat) : CellsAt w a (flat enc (l.take k)) := by
  intro j x hx
  refine h j x ?_
  have : flat enc l = flat enc (l.take k) ++ flat enc (l.drop k) := by rw [← flat_append, List.take_append_drop]
  rw [this, List.getElem?_append_left (List.getElem?_eq_some_iff.1 hx).1]
  exact hx
theorem checkStop1_fn : ∀ (args : Array Value) (w : World), (callFunc 57 args).run Tryd.prog w = .ok (.enter 57 args) w := fun _ _ => by kernel_rfl
set_option maxRecDepth 100000 in
theorem checkStop1_any (x : Stop) (K : ByteArray) (q : Nat) (w : World) (hq : w.cell? ⟨q, 0, none⟩ = some (.string K)) :
    Calls Tryd.prog 57 #[.agg #[.string x.key, .int .i64 x.x, .int .i64 x.y, .int .i64 x.fr, .int .i64 x.tt, .int .i64 x.lo], .pointer (some ⟨q, 0, none⟩)] w fun e w' => e = .returned (.bool (x.key.toList == K.toList)) ∧ w.grownBy w' none := by
  have hqlt := lt_of_cell hq
  go_enter Tryd.func57, Tryd.ntmps57
  go_wp2_with (fail)
  go_ret
  exact ⟨rfl, gr_alloc (gr_refl _ _) _⟩
set_option maxRecDepth 100000 in
set_option maxHeartbeats 2000000 in
theorem checkStops_any (xs : List Stop) (a : Option Addr) (c : Nat) (w : World) (hc : CellsAt w a (flat encStop xs)) (hl : xs.length ≤ 1000) (hcap : xs.length ≤ c) (hk : ∀ x ∈ xs, x.key.size ≤ 100) :
    Calls Tryd.prog 40 #[.slice a xs.length c] w (AnErr w) := by
  have HKS := Lib.hid hk
  clear hk
  by_cases h60 : xs.length ≤ 60
  · go_enter Tryd.func40, Tryd.ntmps40
    go_wp2_with (fail)
    go_loopw [10] (fun i wr => ∃ k : Nat, k ≤ xs.length ∧ i = .int .i64 k ∧ w.grownBy wr none) (fun i _ => xs.length - (intOf i).toNat)
    case atStart => exact ⟨0, Nat.zero_le _, rfl, gr_refl _ _⟩
    case round =>
      obtain ⟨k, hkl, rfl, hgr⟩ := hrel
      obtain ⟨wo, rfl⟩ : ∃ wo : World, wo = wr := ⟨_, rfl⟩
      by_cases hlt : k < xs.length
      · obtain ⟨b, off, rfl, hcs⟩ := flat_cells encStop_len (by decide) (hc.keep0 hgr) (by omega)
        have hmem : xs[k] ∈ xs := List.getElem_mem hlt
        have hks := HKS.out _ hmem
        obtain ⟨x, hx⟩ : ∃ x, x = xs[k] := ⟨_, rfl⟩
        have d0 : wo.cell? ⟨b, off + k * 6, none⟩ = some (.string x.key) := by rw [hx]; exact hcs k hlt 0 _ rfl
        have d1 : wo.cell? ⟨b, off + k * 6 + 1, none⟩ = some (.int .i64 x.x) := by rw [hx]; exact hcs k hlt 1 _ rfl
        have d2 : wo.cell? ⟨b, off + k * 6 + 2, none⟩ = some (.int .i64 x.y) := by rw [hx]; exact hcs k hlt 2 _ rfl
        have d3 : wo.cell? ⟨b, off + k * 6 + 3, none⟩ = some (.int .i64 x.fr) := by rw [hx]; exact hcs k hlt 3 _ rfl
        have d4 : wo.cell? ⟨b, off + k * 6 + 4, none⟩ = some (.int .i64 x.tt) := by rw [hx]; exact hcs k hlt 4 _ rfl
        have d5 : wo.cell? ⟨b, off + k * 6 + 5, none⟩ = some (.int .i64 x.lo) := by rw [hx]; exact hcs k hlt 5 _ rfl
        rw [← hx] at hks
        clear hx hmem hcs
        go_wp2_with (fail)
        have hq1 := heap_alloc_new wo (.cells #[.string x.key, .int .i64 x.x, .int .i64 x.y, .int .i64 x.fr, .int .i64 x.tt, .int .i64 x.lo] 52)
        have hg1 := gr_alloc (gr_refl wo none) (.cells #[.string x.key, .int .i64 x.x, .int .i64 x.y, .int .i64 x.fr, .int .i64 x.tt, .int .i64 x.lo] 52)
        obtain ⟨w1, hw1⟩ : ∃ w1, w1 = wo.alloc (.cells #[.string x.key, .int .i64 x.x, .int .i64 x.y, .int .i64 x.fr, .int .i64 x.tt, .int .i64 x.lo] 52) := ⟨_, rfl⟩
        rw [← hw1] at hq1 hg1
        rw [← hw1]
        obtain ⟨q, hq⟩ : ∃ q, q = wo.heap.size := ⟨_, rfl⟩
        rw [← hq] at hq1
        rw [← hq]
        have hgr1 := gr_trans hgr hg1
        have hc1 := flat_take (hc.keep0 hgr1) k
        have hl1 : (xs.take k).length = k := by simp; omega
        have HC1 := Lib.hid hc1
        have HL1 := Lib.hid hl1
        clear hw1 hq hgr hc1 hl1 d0 d1 d2 d3 d4 d5
        have hqlt := lt_of_block hq1
        refine (key_any x.key w1 (by omega)).mono ?_
        rintro e w2 ⟨rfl, rfl⟩
        obtain ⟨b1, hb1⟩ : ∃ b1, b1 = keyB x.key := ⟨_, rfl⟩
        rw [← hb1]
        clear hb1
        cases b1 with
        | false =>
          go_wp2_with (fail)
          go_ret
          exact ⟨⟨_, rfl⟩, hgr1⟩
        | true =>
          have CF := Lib.hid (containsFunc_stop 57 q (fun z => z.key.toList == x.key.toList) (xs.take k) (some ⟨b, off, none⟩) c w1 HC1.out (by rw [HL1.out]; omega) checkStop1_fn (fun z _ w2 hg2 => checkStop1_any z x.key q w2 ((gr_cell hg2 hqlt).trans (blkC hq1 0 rfl))))
          rw [HL1.out] at CF
          have HQ1 := Lib.hid hq1
          clear hq1
          go_wp2_with (fail)
          refine CF.out.mono ?_
          rintro e w2 ⟨rfl, hg2⟩
          obtain ⟨b2, hb2⟩ : ∃ b2, b2 = (xs.take k).any (fun z => z.key.toList == x.key.toList) := ⟨_, rfl⟩
          rw [← hb2]
          clear hb2
          have hgr2 := gr_trans hgr1 hg2
          have hq2 := (hg2.block q hqlt (by simp)).trans HQ1.out
          cases b2 with
          | true =>
            go_wp2_with (fail)
            go_ret
            exact ⟨⟨_, rfl⟩, hgr2⟩
          | false =>
            have c1 : w2.cell? ⟨q, 1, none⟩ = some (.int .i64 x.x) := blkC hq2 1 rfl
            have c2 : w2.cell? ⟨q, 2, none⟩ = some (.int .i64 x.y) := blkC hq2 2 rfl
            have hq2l := lt_of_block hq2
            have HQ2 := Lib.hid hq2
            clear hq2 hg2 CF
            go_wp2_with (fail)
            refine (isSpot_val x.x x.y w2).mono ?_
            rintro e w3 ⟨rfl, hg3⟩
            obtain ⟨b3, hb3⟩ : ∃ b3, b3 = spotOk x.x x.y := ⟨_, rfl⟩
            rw [← hb3]
            clear hb3
            have hgr3 := gr_trans hgr2 hg3
            have hq3 := (hg3.block q hq2l (by simp)).trans HQ2.out
            have c3 : w3.cell? ⟨q, 3, none⟩ = some (.int .i64 x.fr) := blkC hq3 3 rfl
            have c4 : w3.cell? ⟨q, 4, none⟩ = some (.int .i64 x.tt) := blkC hq3 4 rfl
            have c5 : w3.cell? ⟨q, 5, none⟩ = some (.int .i64 x.lo) := blkC hq3 5 rfl
            clear c1 c2 hg3 hq3
            cases b3 with
            | false =>
              go_wp2_with (fail)
              go_ret
              exact ⟨⟨_, rfl⟩, hgr3⟩
            | true =>
              go_wp2_with (fail)
              refine (out_any x.fr 0 x.tt w3).mono ?_
              rintro e w4 ⟨rfl, rfl⟩
              obtain ⟨b4, hb4⟩ : ∃ b4, b4 = (decide (x.fr < 0) || decide (x.tt < x.fr)) := ⟨_, rfl⟩
              rw [← hb4]
              clear hb4
              cases b4 with
              | true =>
                go_wp2_with (fail)
                go_ret
                exact ⟨⟨_, rfl⟩, hgr3⟩
              | false =>
                by_cases ht : 1440 < x.tt
                · go_wp2_with (fail)
                  go_ret
                  exact ⟨⟨_, rfl⟩, hgr3⟩
                · go_wp2_with (fail)
                  refine (out_any x.lo 0 1440 w3).mono ?_
                  rintro e w4 ⟨rfl, rfl⟩
                  obtain ⟨b5, hb5⟩ : ∃ b5, b5 = (decide (x.lo < 0) || decide (1440 < x.lo)) := ⟨_, rfl⟩
                  rw [← hb5]
                  clear hb5
                  cases b5 with
                  | true =>
                    go_wp2_with (fail)
                    go_ret
                    exact ⟨⟨_, rfl⟩, hgr3⟩
                  | false =>
                    go_wp2_with (fail)
                    go_roundw
                    case rel => exact ⟨k + 1, by omega, by go_num, hgr3⟩
                    case measure => simp [intOf]; omega
      · obtain rfl : k = xs.length := by omega
        go_wp2_with (fail)
        go_ret
        exact ⟨⟨_, rfl⟩, hgr⟩
  · go_enter Tryd.func40, Tryd.ntmps40
    have h61 : 60 < xs.length := by omega
    go_wp2_with (fail)
    go_ret
    exact ⟨⟨_, rfl⟩, gr_refl _ _⟩
end Go.Proofs.YtehhmgbgkemidaaDoor

/-! What is asked of trips and orders: no panic; an order that passes has places of stops. -/
namespace Go.Proofs.YtehhmgbgkemidaaDoor
open Go.RowKit

set_option maxRecDepth 100000 in
set_option maxHeartbeats 1000000 in
theorem tripFault_any (hx hy st : Int) (xs : List Stop) (a : Option Addr) (c : Nat) (w : World) (hc : CellsAt w a (flat encStop xs)) (hl : xs.length ≤ 1000) (hcap : xs.length ≤ c) (hk : ∀ x ∈ xs, x.key.size ≤ 100) :
    Calls Tryd.prog 23 #[.agg #[.int .i64 hx, .int .i64 hy, .slice a xs.length c, .int .i64 st]] w (AnErr w) := by
  have hq1 := heap_alloc_new w (.cells #[.int .i64 hx, .int .i64 hy, .slice a xs.length c, .int .i64 st] 60)
  have hg1 := gr_alloc (gr_refl w none) (.cells #[.int .i64 hx, .int .i64 hy, .slice a xs.length c, .int .i64 st] 60)
  obtain ⟨w1, hw1⟩ : ∃ w1, w1 = w.alloc (.cells #[.int .i64 hx, .int .i64 hy, .slice a xs.length c, .int .i64 st] 60) := ⟨_, rfl⟩
  rw [← hw1] at hq1 hg1
  obtain ⟨q, hq⟩ : ∃ q, q = w.heap.size := ⟨_, rfl⟩
  rw [← hq] at hq1
  have HW := Lib.hid hw1
  have HQ := Lib.hid hq
  have c2 : w1.cell? ⟨q, 2, none⟩ = some (.slice a xs.length c) := blkC hq1 2 rfl
  have hqlt := lt_of_block hq1
  have HQ1 := Lib.hid hq1
  have CS := Lib.hid (checkStops_any xs a c w1 (hc.keep0 hg1) hl hcap hk)
  clear hw1 hq hq1 hc hk
  go_enter Tryd.func23, Tryd.ntmps23
  go_wp2_with (fail)
  rw [← HW.out, ← HQ.out]
  refine CS.out.mono ?_
  rintro e w2 ⟨⟨r, rfl⟩, hg2⟩
  have hgr2 := gr_trans hg1 hg2
  by_cases hr : r = 0
  · subst hr
    have hq2 := (hg2.block q hqlt (by simp)).trans HQ1.out
    have d0 : w2.cell? ⟨q, 0, none⟩ = some (.int .i64 hx) := blkC hq2 0 rfl
    have d1 : w2.cell? ⟨q, 1, none⟩ = some (.int .i64 hy) := blkC hq2 1 rfl
    have hq2l := lt_of_block hq2
    have HQ2 := Lib.hid hq2
    clear hq2 hg2
    go_wp2_with (fail)
    refine (isSpot_val hx hy w2).mono ?_
    rintro e w3 ⟨rfl, hg3⟩
    obtain ⟨b3, hb3⟩ : ∃ b3, b3 = spotOk hx hy := ⟨_, rfl⟩
    rw [← hb3]
    clear hb3
    have hgr3 := gr_trans hgr2 hg3
    have hq3 := (hg3.block q hq2l (by simp)).trans HQ2.out
    have c3 : w3.cell? ⟨q, 3, none⟩ = some (.int .i64 st) := blkC hq3 3 rfl
    clear hq3 hg3
    cases b3 with
    | false =>
      go_wp2_with (fail)
      go_ret
      exact ⟨⟨_, rfl⟩, hgr3⟩
    | true =>
      go_wp2_with (fail)
      refine (out_any st 0 1440 w3).mono ?_
      rintro e w4 ⟨rfl, rfl⟩
      obtain ⟨b5, hb5⟩ : ∃ b5, b5 = (decide (st < 0) || decide (1440 < st)) := ⟨_, rfl⟩
      rw [← hb5]
      clear hb5
      cases b5 with
      | true =>
        go_wp2_with (fail)
        go_ret
        exact ⟨⟨_, rfl⟩, hgr3⟩
      | false =>
        go_wp2_with (fail)
        go_ret
        exact ⟨⟨_, rfl⟩, hgr3⟩
  · have hr0 : (r != 0) = true := by simpa using hr
    have hr1 : (r == 0) = false := by simpa using hr
    clear hr
    go_wp2_with (fail)
    go_ret
    exact ⟨⟨_, rfl⟩, hgr2⟩

def OrderErr (O : List Int) (n : Nat) (w : World) (e : Ending) (w' : World) : Prop := (∃ r : Int, e = .returned (.int .i64 r) ∧ (r = 0 → ∀ i ∈ O, 0 ≤ i ∧ i < n)) ∧ w.grownBy w' none
set_option maxRecDepth 100000 in
set_option maxHeartbeats 2000000 in
theorem orderFault_any (hx hy st : Int) (n c : Nat) (a : Option Addr) (O : List Int) (ao : Option Addr) (co : Nat) (w : World) (hn : n ≤ 1000) (hc : CellsAt w ao (ints O)) (hl : O.length ≤ 1000) :
    Calls Tryd.prog 27 #[.agg #[.int .i64 hx, .int .i64 hy, .slice a n c, .int .i64 st], .slice ao O.length co] w (OrderErr O n w) := by
  have hq1 := heap_alloc_new w (.cells #[.int .i64 hx, .int .i64 hy, .slice a n c, .int .i64 st] 60)
  have hg1 := gr_alloc (gr_refl w none) (.cells #[.int .i64 hx, .int .i64 hy, .slice a n c, .int .i64 st] 60)
  obtain ⟨w1, hw1⟩ : ∃ w1, w1 = w.alloc (.cells #[.int .i64 hx, .int .i64 hy, .slice a n c, .int .i64 st] 60) := ⟨_, rfl⟩
  rw [← hw1] at hq1 hg1
  obtain ⟨q, hq⟩ : ∃ q, q = w.heap.size := ⟨_, rfl⟩
  rw [← hq] at hq1
  have HW := Lib.hid hw1
  have HQ := Lib.hid hq
  have c2 : w1.cell? ⟨q, 2, none⟩ = some (.slice a n c) := blkC hq1 2 rfl
  have hqlt := lt_of_block hq1
  have HQ1 := Lib.hid hq1
  have hwq : w.heap.size ≤ q := by omega
  clear hw1 hq hq1
  go_enter Tryd.func27, Tryd.ntmps27
  go_wp2_with (refine wpList_mkZ _ eBool rfl (by decide) rfl _ _ rfl (w.heap.size + 1) _ n rfl rfl rfl (by omega) (by simp) ?_; intro w2 hown2 hg2)
  rw [← HW.out] at hg2
  have e1 : (w.alloc (.cells #[.int .i64 hx, .int .i64 hy, .slice a n c, .int .i64 st] 60)).heap.size = w.heap.size + 1 := by simp
  rw [e1, bools_rep] at hown2
  obtain ⟨g, hg⟩ : ∃ g, g = w.heap.size + 1 := ⟨_, rfl⟩
  rw [← hg] at hown2 ⊢
  have hqg : q < g := by have := HQ.out; omega
  have hw1g : w1.heap.size ≤ g := by rw [HW.out, e1, hg]; exact Nat.le_refl _
  rw [← HQ.out]
  clear hg e1
  go_loopw [14] (fun i wr => ∃ (k : Nat) (B : List Bool), k ≤ O.length ∧ i = .int .i64 k ∧ wr.ownsRow g 4 1 (.slice (some ⟨g, 0, none⟩) n n) n (bools B) ∧ (∀ j : Nat, j < k → 0 ≤ O.getD j 0 ∧ O.getD j 0 < n) ∧ w1.grownBy wr none) (fun i _ => O.length - (intOf i).toNat)
  case atStart => exact ⟨0, _, by omega, rfl, hown2, fun j hj => by omega, hg2⟩
  case round =>
    clear hown2 hg2
    obtain ⟨k, B, hk, rfl, hown, hall, hgr⟩ := hrel
    obtain ⟨wo, rfl⟩ : ∃ wo : World, wo = wr := ⟨_, rfl⟩
    have HA := Lib.hid hall
    clear hall
    have hgr0 := gr_trans hg1 hgr
    by_cases hlt : k < O.length
    · obtain ⟨b, off, rfl, d0⟩ := (hc.keep0 hgr0) k _ (ints_get O k hlt)
      obtain ⟨x, hx⟩ : ∃ x, x = O.getD k 0 := ⟨_, rfl⟩
      rw [← hx] at d0
      have HX := Lib.hid hx
      clear hx
      have c3 := (gr_cell hgr hqlt).trans c2
      go_wp2_with (fail)
      refine (out_any x 0 ((n : Int) - 1) wo).mono ?_
      rintro e w4 ⟨rfl, rfl⟩
      cases hb : (decide (x < 0) || decide ((n : Int) - 1 < x)) with
      | true =>
        have HB := Lib.hid hb
        clear hb
        go_wp2_with (fail)
        go_ret
        exact ⟨⟨1, rfl, fun h => absurd h (by decide)⟩, hgr0⟩
      | false =>
        simp only [Bool.or_eq_false_iff, decide_eq_false_iff_not] at hb
        obtain ⟨m, hm⟩ : ∃ m : Nat, x = (m : Int) := ⟨x.toNat, by omega⟩
        subst hm
        have hmn : m < n := by omega
        clear hb
        obtain ⟨s0, s1, s2⟩ := own_bool hown m hmn
        obtain ⟨v, hv⟩ : ∃ v, v = B.getD m false := ⟨_, rfl⟩
        rw [← hv] at s0
        have S2 := Lib.hid (s2 true)
        clear hv s2
        cases v with
        | true =>
          go_wp2_with (fail)
          go_ret
          exact ⟨⟨6, rfl, fun h => absurd h (by decide)⟩, hgr0⟩
        | false =>
          go_wp2_with (fail)
          go_roundw
          case rel =>
            refine ⟨k + 1, _, by omega, by go_num, S2.out, fun j hj => ?_, gr_new hgr hw1g _⟩
            by_cases hjk : j = k
            · rw [hjk, ← HX.out]; omega
            · exact HA.out j (by omega)
          case measure => simp [intOf]; omega
    · obtain rfl : k = O.length := by omega
      go_wp2_with (fail)
      go_ret
      refine ⟨⟨0, rfl, fun _ i hi => ?_⟩, hgr0⟩
      obtain ⟨j, hj, rfl⟩ := List.getElem_of_mem hi
      have := HA.out j hj
      rwa [getD_eq O j 0 hj] at this
end Go.Proofs.YtehhmgbgkemidaaDoor

/-! What is wrong with a trip: the document's answer, and the program's. -/
namespace Go.Proofs.YtehhmgbgkemidaaDoor
open Go.RowKit

def StAt (xs : List Stop) (j : Nat) (hj : j < xs.length) : Prop := keyB xs[j].key = true ∧ (xs.take j).any (fun z => z.key.toList == xs[j].key.toList) = false ∧ StopOk xs[j]
def StopsOk (xs : List Stop) : Prop := ∀ j (hj : j < xs.length), StAt xs j hj
theorem StopsOk.all {xs : List Stop} (h : StopsOk xs) : ∀ s ∈ xs, StopOk s := fun s hs => by
  obtain ⟨j, hj, rfl⟩ := List.getElem_of_mem hs
  exact (h j hj).2.2
theorem stopsF1_fn : ∀ (args : Array Value) (w : World), (callFunc 38 args).run Tryd.prog w = .ok (.enter 38 args) w := fun _ _ => by kernel_rfl
set_option maxRecDepth 100000 in
theorem stopsF1_any (x : Stop) (K : ByteArray) (q : Nat) (w : World) (hq : w.cell? ⟨q, 0, none⟩ = some (.string K)) :
    Calls Tryd.prog 38 #[.agg #[.string x.key, .int .i64 x.x, .int .i64 x.y, .int .i64 x.fr, .int .i64 x.tt, .int .i64 x.lo], .pointer (some ⟨q, 0, none⟩)] w fun e w' => e = .returned (.bool (x.key.toList == K.toList)) ∧ w.grownBy w' none := by
  have hqlt := lt_of_cell hq
  go_enter Tryd.func38, Tryd.ntmps38
  go_wp2_with (fail)
  go_ret
  exact ⟨rfl, gr_alloc (gr_refl _ _) _⟩
theorem spotOk_no {x y : Int} (h : ¬ (-10000 ≤ x ∧ x ≤ 10000 ∧ -10000 ≤ y ∧ y ≤ 10000)) : spotOk x y = false := by
  unfold spotOk
  cases hh : (!(decide (x < -10000) || decide (10000 < x)) && !(decide (y < -10000) || decide (10000 < y))) with
  | false => rfl
  | true => simp at hh; omega
set_option maxRecDepth 100000 in
theorem spotRight_any (x y : Int) (w : World) : Calls Tryd.prog 21 #[.agg #[.int .i64 x, .int .i64 y]] w fun e w' => e = .returned (.bool (spotOk x y)) ∧ w.grownBy w' none := by
  have hg1 := gr_alloc (gr_refl w none) (.cells #[.int .i64 x, .int .i64 y] 29)
  have HG := Lib.hid hg1
  clear hg1
  by_cases h1 : -10000 ≤ x
  · by_cases h2 : x ≤ 10000
    · by_cases h3 : -10000 ≤ y
      · by_cases h4 : y ≤ 10000
        · have E : Hid (spotOk x y = true) := by show _ = _; unfold spotOk; simp; omega
          go_enter Tryd.func21, Tryd.ntmps21
          go_wp2_with (fail)
          go_ret
          exact ⟨ret_bool E.out.symm, HG.out⟩
        · have E := Lib.hid (spotOk_no (x := x) (y := y) (by omega))
          go_enter Tryd.func21, Tryd.ntmps21
          go_wp2_with (fail)
          go_ret
          exact ⟨ret_bool E.out.symm, HG.out⟩
      · have E := Lib.hid (spotOk_no (x := x) (y := y) (by omega))
        go_enter Tryd.func21, Tryd.ntmps21
        go_wp2_with (fail)
        go_ret
        exact ⟨ret_bool E.out.symm, HG.out⟩
    · have E := Lib.hid (spotOk_no (x := x) (y := y) (by omega))
      go_enter Tryd.func21, Tryd.ntmps21
      go_wp2_with (fail)
      go_ret
      exact ⟨ret_bool E.out.symm, HG.out⟩
  · have E := Lib.hid (spotOk_no (x := x) (y := y) (by omega))
    go_enter Tryd.func21, Tryd.ntmps21
    go_wp2_with (fail)
    go_ret
    exact ⟨ret_bool E.out.symm, HG.out⟩
set_option maxRecDepth 100000 in
set_option maxHeartbeats 2000000 in
theorem stopsFault_any (xs : List Stop) (a : Option Addr) (c : Nat) (w : World) (hc : CellsAt w a (flat encStop xs)) (hl : xs.length ≤ 60) (hcap : xs.length ≤ c) (hk : ∀ x ∈ xs, x.key.size ≤ 100) :
    Calls Tryd.prog 20 #[.slice a xs.length c] w fun e w' => ∃ r : Int, e = .returned (.int .i64 r) ∧ (r = 0 → StopsOk xs) ∧ w.grownBy w' none := by
  have HKS := Lib.hid hk
  have HC := Lib.hid hc
  clear hk hc
  go_enter Tryd.func20, Tryd.ntmps20
  go_wp2_with (fail)
  go_loopw [10] (fun i wr => ∃ k : Nat, k ≤ xs.length ∧ i = .int .i64 k ∧ (∀ j (hj : j < xs.length), j < k → StAt xs j hj) ∧ w.grownBy wr none) (fun i _ => xs.length - (intOf i).toNat)
  case atStart => exact ⟨0, Nat.zero_le _, rfl, fun j _ h => absurd h (Nat.not_lt_zero _), gr_refl _ _⟩
  case round =>
    obtain ⟨k, hkl, rfl, hok, hgr⟩ := hrel
    obtain ⟨wo, rfl⟩ : ∃ wo : World, wo = wr := ⟨_, rfl⟩
    by_cases hlt : k < xs.length
    · obtain ⟨b, off, rfl, hcs⟩ := flat_cells encStop_len (by decide) (HC.out.keep0 hgr) (by omega)
      have hks := HKS.out _ (List.getElem_mem hlt)
      have MK : Hid (keyB xs[k].key = true → (xs.take k).any (fun z => z.key.toList == xs[k].key.toList) = false → StopOk xs[k] → ∀ j (hj : j < xs.length), j < k + 1 → StAt xs j hj) := fun h1 h2 h3 j hj hjk => by
        by_cases e : j = k
        · subst e; exact ⟨h1, h2, h3⟩
        · exact hok j hj (by omega)
      obtain ⟨x, hx⟩ : ∃ x, x = xs[k] := ⟨_, rfl⟩
      have d0 : wo.cell? ⟨b, off + k * 6, none⟩ = some (.string x.key) := by rw [hx]; exact hcs k hlt 0 _ rfl
      have d1 : wo.cell? ⟨b, off + k * 6 + 1, none⟩ = some (.int .i64 x.x) := by rw [hx]; exact hcs k hlt 1 _ rfl
      have d2 : wo.cell? ⟨b, off + k * 6 + 2, none⟩ = some (.int .i64 x.y) := by rw [hx]; exact hcs k hlt 2 _ rfl
      have d3 : wo.cell? ⟨b, off + k * 6 + 3, none⟩ = some (.int .i64 x.fr) := by rw [hx]; exact hcs k hlt 3 _ rfl
      have d4 : wo.cell? ⟨b, off + k * 6 + 4, none⟩ = some (.int .i64 x.tt) := by rw [hx]; exact hcs k hlt 4 _ rfl
      have d5 : wo.cell? ⟨b, off + k * 6 + 5, none⟩ = some (.int .i64 x.lo) := by rw [hx]; exact hcs k hlt 5 _ rfl
      rw [← hx] at hks MK
      obtain ⟨any, hany⟩ : ∃ any, any = (xs.take k).any (fun z => z.key.toList == x.key.toList) := ⟨_, rfl⟩
      rw [← hany] at MK
      have HANY := Lib.hid hany
      have HGR := Lib.hid hgr
      have hq1 := heap_alloc_new wo (.cells #[.string x.key, .int .i64 x.x, .int .i64 x.y, .int .i64 x.fr, .int .i64 x.tt, .int .i64 x.lo] 52)
      have hg1 := gr_alloc (gr_refl wo none) (.cells #[.string x.key, .int .i64 x.x, .int .i64 x.y, .int .i64 x.fr, .int .i64 x.tt, .int .i64 x.lo] 52)
      obtain ⟨w1, hw1⟩ : ∃ w1, w1 = wo.alloc (.cells #[.string x.key, .int .i64 x.x, .int .i64 x.y, .int .i64 x.fr, .int .i64 x.tt, .int .i64 x.lo] 52) := ⟨_, rfl⟩
      rw [← hw1] at hq1 hg1
      obtain ⟨q, hq⟩ : ∃ q, q = wo.heap.size := ⟨_, rfl⟩
      rw [← hq] at hq1
      have HC1 := Lib.hid (flat_take (HC.out.keep0 (gr_trans hgr hg1)) k)
      have HL1 : Hid ((xs.take k).length = k) := by show _ = _; simp; omega
      have HQ1 := Lib.hid hq1
      have HG1 := Lib.hid hg1
      have HW1 := Lib.hid hw1
      have HQ := Lib.hid hq
      clear hx hany hcs hgr hq1 hg1 hw1 hq hok
      go_upto_region 6 with (fail)
      rw [← HW1.out, ← HQ.out]
      clear d0 d1 d2 d3 d4 d5 HW1 HQ
      have v0 : w1.cell? ⟨q, 0, none⟩ = some (.string x.key) := blkC HQ1.out 0 rfl
      go_wp2_with (fail)
      refine (keyOf_any x.key w1 (by omega)).mono ?_
      rintro e w2 ⟨rfl, g2⟩
      have HQ2 := Lib.hid ((g2.block q (lt_of_block HQ1.out) (by simp)).trans HQ1.out)
      have HG2 := Lib.hid (gr_trans HG1.out g2)
      have HC2 := Lib.hid (HC1.out.keep0 g2)
      clear v0 g2 HQ1 HC1 HG1
      cases hk1 : keyB x.key with
      | false =>
        go_wp2_with (fail)
        go_ret
        exact ⟨5, rfl, (fun e => by cases e), gr_trans HGR.out HG2.out⟩
      | true =>
        have MK2 := Lib.hid (MK.out hk1)
        clear hk1 MK
        have CF := Lib.hid (containsFunc_stop 38 q (fun z => z.key.toList == x.key.toList) (xs.take k) (some ⟨b, off, none⟩) c w2 HC2.out (by rw [HL1.out]; omega) stopsF1_fn (fun z _ w3 hg3 => stopsF1_any z x.key q w3 ((gr_cell hg3 (lt_of_block HQ2.out)).trans (blkC HQ2.out 0 rfl))))
        rw [HL1.out, ← HANY.out] at CF
        go_wp2_with (fail)
        refine CF.out.mono ?_
        rintro e w3 ⟨rfl, g3⟩
        have HQ3 := Lib.hid ((g3.block q (lt_of_block HQ2.out) (by simp)).trans HQ2.out)
        have HG3 := Lib.hid (gr_trans HG2.out g3)
        clear CF g3 HQ2 HG2 HC2 HANY
        cases any with
        | true =>
          go_wp2_with (fail)
          go_ret
          exact ⟨6, rfl, (fun e => by cases e), gr_trans HGR.out HG3.out⟩
        | false =>
          have MK3 := Lib.hid (MK2.out rfl)
          clear MK2
          have c1 : w3.cell? ⟨q, 1, none⟩ = some (.int .i64 x.x) := blkC HQ3.out 1 rfl
          have c2 : w3.cell? ⟨q, 2, none⟩ = some (.int .i64 x.y) := blkC HQ3.out 2 rfl
          go_wp2_with (fail)
          refine (spotRight_any x.x x.y w3).mono ?_
          rintro e w4 ⟨rfl, g4⟩
          have HQ4 := Lib.hid ((g4.block q (lt_of_block HQ3.out) (by simp)).trans HQ3.out)
          have HG4 := Lib.hid (gr_trans HGR.out (gr_trans HG3.out g4))
          clear c1 c2 g4 HQ3 HG3
          have c3 : w4.cell? ⟨q, 3, none⟩ = some (.int .i64 x.fr) := blkC HQ4.out 3 rfl
          have c4 : w4.cell? ⟨q, 4, none⟩ = some (.int .i64 x.tt) := blkC HQ4.out 4 rfl
          have c5 : w4.cell? ⟨q, 5, none⟩ = some (.int .i64 x.lo) := blkC HQ4.out 5 rfl
          cases hsp : spotOk x.x x.y with
          | false =>
            go_wp2_with (fail)
            go_ret
            exact ⟨1, rfl, (fun e => by cases e), HG4.out⟩
          | true =>
            have SP := Lib.hid (spotOk_yes hsp)
            clear hsp
            by_cases h1 : x.fr < 0
            · go_wp2_with (fail)
              go_ret
              exact ⟨1, rfl, (fun e => by cases e), HG4.out⟩
            · by_cases h2 : x.tt < x.fr
              · go_wp2_with (fail)
                go_ret
                exact ⟨1, rfl, (fun e => by cases e), HG4.out⟩
              · by_cases h3 : 1440 < x.tt
                · go_wp2_with (fail)
                  go_ret
                  exact ⟨1, rfl, (fun e => by cases e), HG4.out⟩
                · by_cases h4 : x.lo < 0
                  · go_wp2_with (fail)
                    go_ret
                    exact ⟨1, rfl, (fun e => by cases e), HG4.out⟩
                  · by_cases h5 : 1440 < x.lo
                    · go_wp2_with (fail)
                      go_ret
                      exact ⟨1, rfl, (fun e => by cases e), HG4.out⟩
                    · have MK4 := Lib.hid (MK3.out ⟨SP.out.1.1, SP.out.1.2, SP.out.2.1, SP.out.2.2, by omega, by omega, by omega, by omega, by omega⟩)
                      clear MK3 SP
                      go_wp2_with (fail)
                      go_roundw
                      case rel => exact ⟨k + 1, by omega, by go_num, MK4.out, HG4.out⟩
                      case measure => simp [intOf]; omega
    · obtain rfl : k = xs.length := by omega
      have HOK : Hid (StopsOk xs) := fun j hj => hok j hj hj
      clear hok
      go_wp2_with (fail)
      go_ret
      exact ⟨0, rfl, fun _ => HOK.out, hgr⟩
set_option maxRecDepth 100000 in
set_option maxHeartbeats 2000000 in
theorem checkStops_ok (xs : List Stop) (a : Option Addr) (c : Nat) (w : World) (hc : CellsAt w a (flat encStop xs)) (hl : xs.length ≤ 60) (hcap : xs.length ≤ c) (hk : ∀ x ∈ xs, x.key.size ≤ 100) (hok : StopsOk xs) :
    Calls Tryd.prog 40 #[.slice a xs.length c] w fun e w' => e = .returned (.int .i64 0) ∧ w.grownBy w' none := by
  have HOK := Lib.hid hok
  clear hok
  have HKS := Lib.hid hk
  have HC := Lib.hid hc
  clear hk hc
  go_enter Tryd.func40, Tryd.ntmps40
  go_wp2_with (fail)
  go_loopw [10] (fun i wr => ∃ k : Nat, k ≤ xs.length ∧ i = .int .i64 k ∧ w.grownBy wr none) (fun i _ => xs.length - (intOf i).toNat)
  case atStart => exact ⟨0, Nat.zero_le _, rfl, gr_refl _ _⟩
  case round =>
    obtain ⟨k, hkl, rfl, hgr⟩ := hrel
    obtain ⟨wo, rfl⟩ : ∃ wo : World, wo = wr := ⟨_, rfl⟩
    by_cases hlt : k < xs.length
    · obtain ⟨b, off, rfl, hcs⟩ := flat_cells encStop_len (by decide) (HC.out.keep0 hgr) (by omega)
      have hks := HKS.out _ (List.getElem_mem hlt)
      obtain ⟨o1, o2, o3⟩ := HOK.out k hlt
      obtain ⟨x, hx⟩ : ∃ x, x = xs[k] := ⟨_, rfl⟩
      have d0 : wo.cell? ⟨b, off + k * 6, none⟩ = some (.string x.key) := by rw [hx]; exact hcs k hlt 0 _ rfl
      have d1 : wo.cell? ⟨b, off + k * 6 + 1, none⟩ = some (.int .i64 x.x) := by rw [hx]; exact hcs k hlt 1 _ rfl
      have d2 : wo.cell? ⟨b, off + k * 6 + 2, none⟩ = some (.int .i64 x.y) := by rw [hx]; exact hcs k hlt 2 _ rfl
      have d3 : wo.cell? ⟨b, off + k * 6 + 3, none⟩ = some (.int .i64 x.fr) := by rw [hx]; exact hcs k hlt 3 _ rfl
      have d4 : wo.cell? ⟨b, off + k * 6 + 4, none⟩ = some (.int .i64 x.tt) := by rw [hx]; exact hcs k hlt 4 _ rfl
      have d5 : wo.cell? ⟨b, off + k * 6 + 5, none⟩ = some (.int .i64 x.lo) := by rw [hx]; exact hcs k hlt 5 _ rfl
      rw [← hx] at hks o1 o2 o3
      obtain ⟨any, hany⟩ : ∃ any, any = (xs.take k).any (fun z => z.key.toList == x.key.toList) := ⟨_, rfl⟩
      rw [← hany] at o2
      have HANY := Lib.hid hany
      have HGR := Lib.hid hgr
      have hq1 := heap_alloc_new wo (.cells #[.string x.key, .int .i64 x.x, .int .i64 x.y, .int .i64 x.fr, .int .i64 x.tt, .int .i64 x.lo] 52)
      have hg1 := gr_alloc (gr_refl wo none) (.cells #[.string x.key, .int .i64 x.x, .int .i64 x.y, .int .i64 x.fr, .int .i64 x.tt, .int .i64 x.lo] 52)
      obtain ⟨w1, hw1⟩ : ∃ w1, w1 = wo.alloc (.cells #[.string x.key, .int .i64 x.x, .int .i64 x.y, .int .i64 x.fr, .int .i64 x.tt, .int .i64 x.lo] 52) := ⟨_, rfl⟩
      rw [← hw1] at hq1 hg1
      obtain ⟨q, hq⟩ : ∃ q, q = wo.heap.size := ⟨_, rfl⟩
      rw [← hq] at hq1
      have HC1 := Lib.hid (flat_take (HC.out.keep0 (gr_trans hgr hg1)) k)
      have HL1 : Hid ((xs.take k).length = k) := by show _ = _; simp; omega
      have HQ1 := Lib.hid hq1
      have HG1 := Lib.hid hg1
      have HW1 := Lib.hid hw1
      have HQ := Lib.hid hq
      clear hx hany hcs hgr hq1 hg1 hw1 hq
      go_upto_region 6 with (fail)
      rw [← HW1.out, ← HQ.out]
      clear d0 d1 d2 d3 d4 d5 HW1 HQ
      have v0 : w1.cell? ⟨q, 0, none⟩ = some (.string x.key) := blkC HQ1.out 0 rfl
      go_wp2_with (fail)
      refine (key_any x.key w1 (by omega)).mono ?_
      rintro e w2 ⟨rfl, rfl⟩
      rw [o1]
      obtain ⟨w2, rfl⟩ : ∃ w2 : World, w2 = w1 := ⟨_, rfl⟩
      have HQ2 := HQ1
      have HG2 := HG1
      have HC2 := HC1
      clear v0 o1
      have CF := Lib.hid (containsFunc_stop 57 q (fun z => z.key.toList == x.key.toList) (xs.take k) (some ⟨b, off, none⟩) c w2 HC2.out (by rw [HL1.out]; omega) checkStop1_fn (fun z _ w3 hg3 => checkStop1_any z x.key q w3 ((gr_cell hg3 (lt_of_block HQ2.out)).trans (blkC HQ2.out 0 rfl))))
      rw [HL1.out, ← HANY.out] at CF
      go_wp2_with (fail)
      refine CF.out.mono ?_
      rintro e w3 ⟨rfl, g3⟩
      have HQ3 := Lib.hid ((g3.block q (lt_of_block HQ2.out) (by simp)).trans HQ2.out)
      have HG3 := Lib.hid (gr_trans HG2.out g3)
      clear CF g3 HQ2 HG2 HC2 HANY
      rw [o2]
      clear o2
      obtain ⟨p1, p2, p3, p4, p5, p6, p7, p8, p9⟩ := o3
      have c1 : w3.cell? ⟨q, 1, none⟩ = some (.int .i64 x.x) := blkC HQ3.out 1 rfl
      have c2 : w3.cell? ⟨q, 2, none⟩ = some (.int .i64 x.y) := blkC HQ3.out 2 rfl
      have s1 : spotOk x.x x.y = true := by unfold spotOk; simp; omega
      have s2 : (decide (x.fr < 0) || decide (x.tt < x.fr)) = false := by simp; omega
      have s3 : decide (1440 < x.tt) = false := decide_eq_false (by omega)
      have s4 : (decide (x.lo < 0) || decide (1440 < x.lo)) = false := by simp; omega
      go_wp2_with (fail)
      refine (isSpot_val x.x x.y w3).mono ?_
      rintro e w4 ⟨rfl, g4⟩
      rw [s1]
      have HQ4 := Lib.hid ((g4.block q (lt_of_block HQ3.out) (by simp)).trans HQ3.out)
      have HG4 := Lib.hid (gr_trans HGR.out (gr_trans HG3.out g4))
      clear c1 c2 g4 HQ3 HG3 s1
      have c3 : w4.cell? ⟨q, 3, none⟩ = some (.int .i64 x.fr) := blkC HQ4.out 3 rfl
      have c4 : w4.cell? ⟨q, 4, none⟩ = some (.int .i64 x.tt) := blkC HQ4.out 4 rfl
      have c5 : w4.cell? ⟨q, 5, none⟩ = some (.int .i64 x.lo) := blkC HQ4.out 5 rfl
      go_wp2_with (fail)
      refine (out_any x.fr 0 x.tt w4).mono ?_
      rintro e w5 ⟨rfl, rfl⟩
      rw [s2]
      go_wp2_with (fail)
      refine (out_any x.lo 0 1440 w4).mono ?_
      rintro e w5 ⟨rfl, rfl⟩
      rw [s4]
      go_wp2_with (fail)
      go_roundw
      case rel => exact ⟨k + 1, by omega, by go_num, HG4.out⟩
      case measure => simp [intOf]; omega
    · obtain rfl : k = xs.length := by omega
      go_wp2_with (fail)
      go_ret
      exact ⟨rfl, hgr⟩
set_option maxRecDepth 100000 in
set_option maxHeartbeats 2000000 in
theorem routeFault_any (hx hy st : Int) (xs : List Stop) (a : Option Addr) (c : Nat) (w : World) (hc : CellsAt w a (flat encStop xs)) (hl : xs.length ≤ 60) (hcap : xs.length ≤ c) (hk : ∀ x ∈ xs, x.key.size ≤ 100) :
    Calls Tryd.prog 7 #[.agg #[.int .i64 hx, .int .i64 hy], .slice a xs.length c, .int .i64 st] w fun e w' => ∃ r : Int, e = .returned (.int .i64 r) ∧ (r = 0 → StopsOk xs ∧ TripOk hx hy st xs) ∧ w.grownBy w' none := by
  have hq1 := heap_alloc_new w (.cells #[.int .i64 hx, .int .i64 hy] 29)
  have hg1 := gr_alloc (gr_refl w none) (.cells #[.int .i64 hx, .int .i64 hy] 29)
  obtain ⟨w1, hw1⟩ : ∃ w1, w1 = w.alloc (.cells #[.int .i64 hx, .int .i64 hy] 29) := ⟨_, rfl⟩
  rw [← hw1] at hq1 hg1
  obtain ⟨q, hq⟩ : ∃ q, q = w.heap.size := ⟨_, rfl⟩
  rw [← hq] at hq1
  have SF := Lib.hid (stopsFault_any xs a c w1 (hc.keep0 hg1) hl hcap hk)
  have HQ1 := Lib.hid hq1
  have HG1 := Lib.hid hg1
  have HW1 := Lib.hid hw1
  have HQ := Lib.hid hq
  clear hc hk hq1 hg1 hw1 hq
  go_enter Tryd.func7, Tryd.ntmps7
  go_wp2_with (fail)
  rw [← HW1.out, ← HQ.out]
  refine SF.out.mono ?_
  rintro e w2 ⟨r, rfl, hr, g2⟩
  have HR := Lib.hid hr
  have HQ2 := Lib.hid ((g2.block q (lt_of_block HQ1.out) (by simp)).trans HQ1.out)
  have HG2 := Lib.hid (gr_trans HG1.out g2)
  clear hr g2 SF HQ1 HG1 HW1 HQ
  by_cases hr0 : r = 0
  case neg =>
    have hb : (r != 0) = true := by simpa using hr0
    have HN0 := Lib.hid hr0
    clear hr0
    go_wp2_with (fail)
    go_ret
    exact ⟨r, rfl, (fun e => absurd e HN0.out), HG2.out⟩
  have HOK := Lib.hid (HR.out hr0)
  subst hr0
  clear HR
  have c1 : w2.cell? ⟨q, 0, none⟩ = some (.int .i64 hx) := blkC HQ2.out 0 rfl
  have c2 : w2.cell? ⟨q, 1, none⟩ = some (.int .i64 hy) := blkC HQ2.out 1 rfl
  go_wp2_with (fail)
  refine (spotRight_any hx hy w2).mono ?_
  rintro e w3 ⟨rfl, g3⟩
  have HG3 := Lib.hid (gr_trans HG2.out g3)
  clear c1 c2 g3 HG2 HQ2
  cases hsp : spotOk hx hy with
  | false =>
    go_wp2_with (fail)
    go_ret
    exact ⟨1, rfl, (fun e => by cases e), HG3.out⟩
  | true =>
    have SP := Lib.hid (spotOk_yes hsp)
    clear hsp
    by_cases h1 : st < 0
    · go_wp2_with (fail)
      go_ret
      exact ⟨1, rfl, (fun e => by cases e), HG3.out⟩
    · by_cases h2 : 1440 < st
      · go_wp2_with (fail)
        go_ret
        exact ⟨1, rfl, (fun e => by cases e), HG3.out⟩
      · go_wp2_with (fail)
        go_ret
        exact ⟨0, rfl, (fun _ => ⟨HOK.out, SP.out.1.1, SP.out.1.2, SP.out.2.1, SP.out.2.2, by omega, by omega, HOK.out.all⟩), HG3.out⟩
end Go.Proofs.YtehhmgbgkemidaaDoor

/-! A trip and an order that are right pass. -/
namespace Go.Proofs.YtehhmgbgkemidaaDoor
open Go.RowKit

set_option maxRecDepth 100000 in
set_option maxHeartbeats 1000000 in
theorem tripFault_ok (hx hy st : Int) (xs : List Stop) (a : Option Addr) (c : Nat) (w : World) (hc : CellsAt w a (flat encStop xs)) (hl : xs.length ≤ 60) (hcap : xs.length ≤ c) (hk : ∀ x ∈ xs, x.key.size ≤ 100) (hok : StopsOk xs) (ht : TripOk hx hy st xs) :
    Calls Tryd.prog 23 #[.agg #[.int .i64 hx, .int .i64 hy, .slice a xs.length c, .int .i64 st]] w fun e w' => e = .returned (.int .i64 0) ∧ w.grownBy w' none := by
  have hq1 := heap_alloc_new w (.cells #[.int .i64 hx, .int .i64 hy, .slice a xs.length c, .int .i64 st] 60)
  have hg1 := gr_alloc (gr_refl w none) (.cells #[.int .i64 hx, .int .i64 hy, .slice a xs.length c, .int .i64 st] 60)
  obtain ⟨w1, hw1⟩ : ∃ w1, w1 = w.alloc (.cells #[.int .i64 hx, .int .i64 hy, .slice a xs.length c, .int .i64 st] 60) := ⟨_, rfl⟩
  rw [← hw1] at hq1 hg1
  obtain ⟨q, hq⟩ : ∃ q, q = w.heap.size := ⟨_, rfl⟩
  rw [← hq] at hq1
  have HW := Lib.hid hw1
  have HQ := Lib.hid hq
  have c2 : w1.cell? ⟨q, 2, none⟩ = some (.slice a xs.length c) := blkC hq1 2 rfl
  have hqlt := lt_of_block hq1
  have HQ1 := Lib.hid hq1
  have CS := Lib.hid (checkStops_ok xs a c w1 (hc.keep0 hg1) hl hcap hk hok)
  have s1 : spotOk hx hy = true := by
    have := ht.hx0; have := ht.hx1; have := ht.hy0; have := ht.hy1
    unfold spotOk; simp; omega
  have s2 : (decide (st < 0) || decide (1440 < st)) = false := by
    have := ht.s0; have := ht.s1
    simp; omega
  clear hw1 hq hq1 hc hk hok ht
  go_enter Tryd.func23, Tryd.ntmps23
  go_wp2_with (fail)
  rw [← HW.out, ← HQ.out]
  refine CS.out.mono ?_
  rintro e w2 ⟨rfl, hg2⟩
  have hgr2 := gr_trans hg1 hg2
  have hq2 := (hg2.block q hqlt (by simp)).trans HQ1.out
  have d0 : w2.cell? ⟨q, 0, none⟩ = some (.int .i64 hx) := blkC hq2 0 rfl
  have d1 : w2.cell? ⟨q, 1, none⟩ = some (.int .i64 hy) := blkC hq2 1 rfl
  have hq2l := lt_of_block hq2
  have HQ2 := Lib.hid hq2
  clear hq2 hg2
  go_wp2_with (fail)
  refine (isSpot_val hx hy w2).mono ?_
  rintro e w3 ⟨rfl, hg3⟩
  rw [s1]
  have hgr3 := gr_trans hgr2 hg3
  have hq3 := (hg3.block q hq2l (by simp)).trans HQ2.out
  have c3 : w3.cell? ⟨q, 3, none⟩ = some (.int .i64 st) := blkC hq3 3 rfl
  clear hq3 hg3
  go_wp2_with (fail)
  refine (out_any st 0 1440 w3).mono ?_
  rintro e w4 ⟨rfl, rfl⟩
  rw [s2]
  go_wp2_with (fail)
  go_ret
  exact ⟨rfl, hgr3⟩
theorem seen_set {B : List Bool} {m j : Nat} (h : (B.set m true).getD j false = true) : j = m ∨ B.getD j false = true := by
  rw [List.getD_eq_getElem?_getD, List.getElem?_set] at h
  by_cases e : m = j
  · exact .inl e.symm
  · rw [if_neg e, ← List.getD_eq_getElem?_getD] at h
    exact .inr h
set_option maxRecDepth 100000 in
set_option maxHeartbeats 2000000 in
theorem orderFault_ok (hx hy st : Int) (n c : Nat) (a : Option Addr) (O : List Int) (ao : Option Addr) (co : Nat) (w : World) (hn : n ≤ 1000) (hc : CellsAt w ao (ints O)) (hl : O.length ≤ 1000) (ho : OrdOk O n) :
    Calls Tryd.prog 27 #[.agg #[.int .i64 hx, .int .i64 hy, .slice a n c, .int .i64 st], .slice ao O.length co] w fun e w' => e = .returned (.int .i64 0) ∧ w.grownBy w' none := by
  have HO := Lib.hid ho
  clear ho
  have hq1 := heap_alloc_new w (.cells #[.int .i64 hx, .int .i64 hy, .slice a n c, .int .i64 st] 60)
  have hg1 := gr_alloc (gr_refl w none) (.cells #[.int .i64 hx, .int .i64 hy, .slice a n c, .int .i64 st] 60)
  obtain ⟨w1, hw1⟩ : ∃ w1, w1 = w.alloc (.cells #[.int .i64 hx, .int .i64 hy, .slice a n c, .int .i64 st] 60) := ⟨_, rfl⟩
  rw [← hw1] at hq1 hg1
  obtain ⟨q, hq⟩ : ∃ q, q = w.heap.size := ⟨_, rfl⟩
  rw [← hq] at hq1
  have HW := Lib.hid hw1
  have HQ := Lib.hid hq
  have c2 : w1.cell? ⟨q, 2, none⟩ = some (.slice a n c) := blkC hq1 2 rfl
  have hqlt := lt_of_block hq1
  have HQ1 := Lib.hid hq1
  have hwq : w.heap.size ≤ q := by omega
  clear hw1 hq hq1
  go_enter Tryd.func27, Tryd.ntmps27
  go_wp2_with (refine wpList_mkZ _ eBool rfl (by decide) rfl _ _ rfl (w.heap.size + 1) _ n rfl rfl rfl (by omega) (by simp) ?_; intro w2 hown2 hg2)
  rw [← HW.out] at hg2
  have e1 : (w.alloc (.cells #[.int .i64 hx, .int .i64 hy, .slice a n c, .int .i64 st] 60)).heap.size = w.heap.size + 1 := by simp
  rw [e1, bools_rep] at hown2
  obtain ⟨g, hg⟩ : ∃ g, g = w.heap.size + 1 := ⟨_, rfl⟩
  rw [← hg] at hown2 ⊢
  have hqg : q < g := by have := HQ.out; omega
  have hw1g : w1.heap.size ≤ g := by rw [HW.out, e1, hg]; exact Nat.le_refl _
  rw [← HQ.out]
  clear hg e1
  go_loopw [14] (fun i wr => ∃ (k : Nat) (B : List Bool), k ≤ O.length ∧ i = .int .i64 k ∧ wr.ownsRow g 4 1 (.slice (some ⟨g, 0, none⟩) n n) n (bools B) ∧ (∀ j : Nat, B.getD j false = true → (j : Int) ∈ O.take k) ∧ w1.grownBy wr none) (fun i _ => O.length - (intOf i).toNat)
  case atStart => exact ⟨0, _, by omega, rfl, hown2, fun j hj => by (simp [List.getD_eq_getElem?_getD, List.getElem?_replicate] at hj; split at hj <;> cases hj), hg2⟩
  case round =>
    clear hown2 hg2
    obtain ⟨k, B, hk, rfl, hown, hall, hgr⟩ := hrel
    obtain ⟨wo, rfl⟩ : ∃ wo : World, wo = wr := ⟨_, rfl⟩
    have HA := Lib.hid hall
    clear hall
    have hgr0 := gr_trans hg1 hgr
    by_cases hlt : k < O.length
    · obtain ⟨b, off, rfl, d0⟩ := (hc.keep0 hgr0) k _ (ints_get O k hlt)
      obtain ⟨x, hx⟩ : ∃ x, x = O.getD k 0 := ⟨_, rfl⟩
      rw [← hx] at d0
      have HX := Lib.hid hx
      have hxm : x ∈ O := by rw [HX.out, getD_eq O k 0 hlt]; exact List.getElem_mem hlt
      have hxr := HO.out.rng x hxm
      have hnt : x ∉ O.take k := fun hm => by
        have h1 := HO.out.nd
        rw [← List.take_append_drop k O, List.drop_eq_getElem_cons hlt] at h1
        exact (List.nodup_append.1 h1).2.2 x hm x (by rw [HX.out, getD_eq O k 0 hlt]; exact List.mem_cons_self ..) rfl
      have HNX : Hid (O.take (k + 1) = O.take k ++ [x]) := by show _ = _; rw [HX.out, getD_eq O k 0 hlt, List.take_succ_eq_append_getElem hlt]
      clear hx hxm
      have c3 := (gr_cell hgr hqlt).trans c2
      obtain ⟨m, hm⟩ : ∃ m : Nat, x = (m : Int) := ⟨x.toNat, by omega⟩
      subst hm
      have hmn : m < n := by omega
      have hb : (decide ((m : Int) < 0) || decide ((n : Int) - 1 < (m : Int))) = false := by simp; omega
      obtain ⟨s0, s1, s2⟩ := own_bool hown m hmn
      have hv : B.getD m false = false := by
        cases e : B.getD m false with
        | false => rfl
        | true => exact absurd (HA.out m e) hnt
      rw [hv] at s0
      have S2 := Lib.hid (s2 true)
      have HNT := Lib.hid hnt
      clear s2 hv hxr hnt HX
      go_wp2_with (fail)
      refine (out_any (m : Int) 0 ((n : Int) - 1) wo).mono ?_
      rintro e w4 ⟨rfl, rfl⟩
      rw [hb]
      clear hb
      go_wp2_with (fail)
      go_roundw
      case rel =>
        refine ⟨k + 1, _, by omega, by go_num, S2.out, fun j hj => ?_, gr_new hgr hw1g _⟩
        rw [HNX.out]
        rcases seen_set hj with e | e
        · subst e; exact List.mem_append_right _ (by simp)
        · exact List.mem_append_left _ (HA.out j e)
      case measure => simp [intOf]; omega
    · obtain rfl : k = O.length := by omega
      go_wp2_with (fail)
      go_ret
      exact ⟨rfl, hgr0⟩
end Go.Proofs.YtehhmgbgkemidaaDoor
