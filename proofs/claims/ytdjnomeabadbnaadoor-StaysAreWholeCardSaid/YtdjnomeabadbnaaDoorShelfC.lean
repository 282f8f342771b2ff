/- Package shelf: counts that are right; what they are worth. -/
import Derived.Test.YtdjnomeabadbnaaDoorShelfB
import Derived.Test.YtdjnomeabadbnaaDoorSum
namespace Go.Proofs.YtdjnomeabadbnaaDoor
open Go.RowKit
attribute [local go_sem ↓] Go.wp_at_zero Go.wp_at_succ

structure CountsOk (os : List Offer) (cs : List Int) : Prop where
  len : cs.length = os.length
  all : ∀ i (h : i < os.length), 0 ≤ cs.getD i 0 ∧ cs.getD i 0 ≤ os[i].profits.length
set_option maxRecDepth 100000 in
set_option maxHeartbeats 1000000 in
theorem countsFault_ok (os : List Offer) (cs : List Int) (a ca : Option Addr) (vs : List OV) (c cc : Nat) (w : World) (h : OffsAt w a vs os) (hc : CellsAt w ca (ints cs)) (hok : CountsOk os cs) (hl : os.length ≤ 100000) :
    Calls Tryd.prog 141 #[.slice a os.length c, .slice ca os.length cc] w fun e w' => e = .returned (.int .i64 0) ∧ w = w' := by
  have H := Lib.hid h
  have HK := Lib.hid hok
  have HC := Lib.hid hc
  clear h hok hc
  go_enter Tryd.func141, Tryd.ntmps141
  go_wp2_with (fail)
  go_loop [14] (fun i => ∃ k : Nat, k ≤ os.length ∧ i = .int .i64 k) (fun i => os.length - (intOf i).toNat)
  case atStart => exact ⟨0, Nat.zero_le _, rfl⟩
  case round =>
    obtain ⟨k, hk, rfl⟩ := hrel
    by_cases hlt : k < os.length
    · obtain ⟨b, off, v, rfl, hr, _, _, d2, _⟩ := H.out.at k hlt
      obtain ⟨n0, n1⟩ := HK.out.all k hlt
      obtain ⟨b', off', rfl, d0⟩ := HC.out k _ (ints_get cs k (by rw [HK.out.len]; exact hlt))
      have hpn := hr.pn
      obtain ⟨pa, hpa⟩ : ∃ x, x = v.pa := ⟨_, rfl⟩
      obtain ⟨pc, hpc⟩ : ∃ x, x = v.pc := ⟨_, rfl⟩
      obtain ⟨pn, hp⟩ : ∃ x, x = v.pn := ⟨_, rfl⟩
      obtain ⟨n, hn⟩ : ∃ n, n = cs.getD k 0 := ⟨_, rfl⟩
      rw [← hn] at n0 n1 d0
      rw [← hpa, ← hpc, ← hp] at d2
      rw [← hp] at hpn
      rw [← hpn] at n1
      clear hr hpn hpa hpc hp hn
      go_wp2_with (fail)
      refine (out_any n 0 pn w).mono ?_
      rintro e w2 ⟨rfl, rfl⟩
      have e1 : (decide (n < 0) || decide ((pn : Int) < n)) = false := by simp; omega
      rw [e1]
      go_wp2_with (fail)
      go_round
      case rel => exact ⟨k + 1, by omega, by go_num⟩
      case measure => simp [intOf]; omega
    · obtain rfl : k = os.length := by omega
      go_wp2_with (fail)
      go_ret
      exact ⟨rfl, rfl⟩
/-- What the first n profits of an offer add up to. -/
def usedM (o : Offer) (n : Int) : Int := (o.profits.take n.toNat).sum
set_option maxRecDepth 100000 in
set_option maxHeartbeats 1000000 in
theorem used_any (key group : ByteArray) (ps : List Int) (pa ha ta : Option Addr) (pc hm hc tn tc n : Nat) (w : World) (h : CellsAt w pa (ints ps)) (hl : ps.length ≤ 10) (hc1 : ps.length ≤ pc) (hc2 : pc ≤ maxLen) (hb : ∀ x ∈ ps, -1000000 ≤ x ∧ x ≤ 1000000) (hn : n ≤ ps.length) :
    Calls Tryd.prog 142 #[.agg #[.string key, .string group, .slice pa ps.length pc, .slice ha hm hc, .slice ta tn tc], .int .i64 n] w fun e w' => e = .returned (.int .i64 (ps.take n).sum) ∧ w.grownBy w' none := by
  have hO := heap_alloc_new w (.cells #[.string key, .string group, .slice pa ps.length pc, .slice ha hm hc, .slice ta tn tc] 157)
  have hg1 := gr_alloc (gr_refl w none) (.cells #[.string key, .string group, .slice pa ps.length pc, .slice ha hm hc, .slice ta tn tc] 157)
  obtain ⟨w1, hw1⟩ : ∃ w1, w1 = w.alloc (.cells #[.string key, .string group, .slice pa ps.length pc, .slice ha hm hc, .slice ta tn tc] 157) := ⟨_, rfl⟩
  rw [← hw1] at hO hg1
  have HW := Lib.hid hw1
  have H := Lib.hid (h.keep0 hg1)
  have HB := Lib.hid (sum_bound ps (-1000000) 1000000 (by omega) (by omega) hb)
  unfold maxLen at hc2
  have c2 := blkC hO 2 rfl
  clear h hb hw1
  go_enter Tryd.func142, Tryd.ntmps142
  go_wp2_with (fail)
  rw [← HW.out]
  go_wp2_with (fail)
  go_loop [5, 13] (fun s i => ∃ k : Nat, k ≤ n ∧ i = .int .i64 k ∧ s = .int .i64 (ps.take k).sum) (fun _ i => n - (intOf i).toNat)
  case atStart => exact ⟨0, Nat.zero_le _, rfl, rfl⟩
  case round =>
    obtain ⟨k, hk, rfl, rfl⟩ := hrel
    by_cases hlt : k < n
    · obtain ⟨b, off, rfl, d0⟩ := H.out k _ (ints_get ps k (by omega))
      obtain ⟨b0, b1⟩ := HB.out k
      obtain ⟨b2, b3⟩ := HB.out (k + 1)
      have hnx := sum_next ps k (by omega)
      obtain ⟨x, hx⟩ : ∃ x, x = ps.getD k 0 := ⟨_, rfl⟩
      obtain ⟨s, hs⟩ : ∃ s, s = (ps.take k).sum := ⟨_, rfl⟩
      rw [← hx] at d0 hnx
      rw [← hs] at hnx b0 b1
      rw [← hs]
      rw [hnx] at b2 b3
      have HNX := Lib.hid hnx; clear hnx
      have HX := Lib.hid hx; clear hx
      have HS := Lib.hid hs; clear hs
      go_wp2_with (fail)
      go_round
      case rel => exact ⟨k + 1, by omega, by go_num, by rw [HNX.out]⟩
      case measure => simp [intOf]; omega
    · obtain rfl : k = n := by omega
      go_wp2_with (fail)
      go_ret
      exact ⟨rfl, hg1⟩
/-- What counts are worth. -/
def worthL (os : List Offer) (cs : List Int) : List Int := (os.zip cs).map fun p => usedM p.1 p.2
theorem worthL_len (os : List Offer) (cs : List Int) (h : cs.length = os.length) : (worthL os cs).length = os.length := by simp [worthL, h]
theorem worthL_get (os : List Offer) (cs : List Int) (h : cs.length = os.length) (k : Nat) (hk : k < os.length) : (worthL os cs).getD k 0 = usedM os[k] (cs.getD k 0) := by
  rw [List.getD_eq_getElem?_getD, List.getD_eq_getElem?_getD, List.getElem?_eq_getElem (by rw [worthL_len os cs h]; exact hk), List.getElem?_eq_getElem (by omega)]
  simp [worthL]
theorem usedM_bd (o : Offer) (n : Int) (h : o.profits.length ≤ 10) (hb : ∀ x ∈ o.profits, -1000000 ≤ x ∧ x ≤ 1000000) : -10000000 ≤ usedM o n ∧ usedM o n ≤ 10000000 := by
  have h1 : (o.profits.take n.toNat).length ≤ 10 := by rw [List.length_take]; omega
  have := sum_bound_all (o.profits.take n.toNat) (-1000000) 1000000 (by omega) (by omega) (fun x hx => hb x (List.mem_of_mem_take hx))
  unfold usedM
  omega
theorem worthL_bd (os : List Offer) (cs : List Int) (hok : OffersOk os) : ∀ x ∈ worthL os cs, -10000000 ≤ x ∧ x ≤ 10000000 := by
  intro x hx
  unfold worthL at hx
  obtain ⟨p, hp, rfl⟩ := List.mem_map.1 hx
  obtain ⟨_, q2, q3⟩ := hok.prof p.1 (List.of_mem_zip hp).1
  exact usedM_bd _ _ q2 q3
set_option maxRecDepth 100000 in
set_option maxHeartbeats 1000000 in
theorem worth_any (os : List Offer) (cs : List Int) (a ca : Option Addr) (vs : List OV) (c cc : Nat) (w : World) (h : OffsAt w a vs os) (hok : OffersOk os) (hc : CellsAt w ca (ints cs)) (hco : CountsOk os cs) :
    Calls Tryd.prog 88 #[.slice a os.length c, .slice ca os.length cc] w fun e w' => e = .returned (.tuple #[.int .i64 (worthL os cs).sum, .int .i64 0]) ∧ w.grownBy w' none := by
  have hl := hok.len
  have H := Lib.hid h
  have HC := Lib.hid hc
  have HK := Lib.hid hok
  have HCO := Lib.hid hco
  have HB := Lib.hid (sum_bound (worthL os cs) (-10000000) 10000000 (by omega) (by omega) (worthL_bd os cs hok))
  clear h hc hok hco
  go_enter Tryd.func88, Tryd.ntmps88
  go_wp2_with (fail)
  refine (checkOffers_ok os a vs c w H.out HK.out).mono ?_
  rintro e w1 ⟨rfl, g1⟩
  go_wp2_with (fail)
  have g1a := gr_alloc g1 (.cells #[.int .i64 0] 31)
  refine (or_zeros2 1 w1.heap.size _ _ (by decide) (fun j hj => ?_)).mono ?_
  · obtain rfl : j = 0 := by omega
    exact made_cell (gr_refl _ _) _ rfl
  rintro e w2 ⟨rfl, rfl⟩
  go_wp2_with (fail)
  refine (countsFault_ok os cs a ca vs c cc _ (H.out.keep0 g1a) (HC.out.keep0 g1a) HCO.out (by omega)).mono ?_
  rintro e w2 ⟨rfl, rfl⟩
  obtain ⟨w3, hw3⟩ : ∃ w3, w3 = w1.alloc (.cells #[.int .i64 0] 31) := ⟨_, rfl⟩
  rw [← hw3] at g1a
  rw [← hw3]
  clear hw3 g1
  go_wp2_with (fail)
  go_loopw [8, 26] (fun s i wr => ∃ k : Nat, k ≤ os.length ∧ i = .int .i64 k ∧ s = .int .i64 ((worthL os cs).take k).sum ∧ w.grownBy wr none) (fun _ i _ => os.length - (intOf i).toNat)
  case atStart => exact ⟨0, Nat.zero_le _, rfl, rfl, g1a⟩
  case round =>
    obtain ⟨k, hk, rfl, rfl, hgr⟩ := hrel
    obtain ⟨wo, rfl⟩ : ∃ wo : World, wo = wr := ⟨_, rfl⟩
    by_cases hlt : k < os.length
    · obtain ⟨b, off, v, rfl, hr, d0, d1, d2, d3, d4⟩ := (H.out.keep0 hgr).at k hlt
      obtain ⟨p1, p2, p3⟩ := HK.out.prof os[k] (List.getElem_mem hlt)
      obtain ⟨n0, n1⟩ := HCO.out.all k hlt
      obtain ⟨b', off', rfl, f0⟩ := (HC.out.keep0 hgr) k _ (ints_get cs k (by rw [HCO.out.len]; exact hlt))
      obtain ⟨b0, b1⟩ := HB.out k
      obtain ⟨b2, b3⟩ := HB.out (k + 1)
      have hnx := sum_next (worthL os cs) k (by rw [worthL_len _ _ HCO.out.len]; exact hlt)
      rw [worthL_get os cs HCO.out.len k hlt] at hnx
      obtain ⟨s, hs⟩ : ∃ s, s = ((worthL os cs).take k).sum := ⟨_, rfl⟩
      obtain ⟨n, hn⟩ : ∃ n : Nat, cs.getD k 0 = (n : Int) := ⟨(cs.getD k 0).toNat, by omega⟩
      rw [hn] at n1 f0 hnx
      obtain ⟨x, hx⟩ : ∃ x, x = usedM os[k] n := ⟨_, rfl⟩
      have hx2 : (os[k].profits.take n).sum = x := by rw [hx]; simp [usedM]
      rw [← hx, ← hs] at hnx
      rw [hnx] at b2 b3
      rw [← hs] at b0 b1
      rw [← hs]
      have hpn := hr.pn
      have hcap := hr.cap
      have CP := Lib.hid hr.pr
      obtain ⟨o, ho⟩ : ∃ o, o = os[k] := ⟨_, rfl⟩
      rw [← ho] at hpn CP p1 p2 p3 n1 hx2
      obtain ⟨vk, vg, pa, pn, pc, ha, hn', hc, ta, tn, tc⟩ := v
      simp only at hpn hcap CP d0 d1 d2 d3 d4
      subst hpn
      have hn2 : n ≤ o.profits.length := by omega
      have UA : Hid (∀ W, wo.grownBy W none → Calls Tryd.prog 142 #[.agg #[.string vk, .string vg, .slice pa o.profits.length pc, .slice ha hn' hc, .slice ta tn tc], .int .i64 n] W fun e w' => e = .returned (.int .i64 x) ∧ W.grownBy w' none) := fun W g => by
        have := used_any vk vg o.profits pa ha ta pc hn' hc tn tc n W (CP.out.keep0 g) p2 hcap.1 hcap.2 p3 hn2
        rw [hx2] at this
        exact this
      have HNX := Lib.hid hnx
      have HGR := Lib.hid hgr
      clear hr ho hx hx2 hs hnx hn p3 hgr n0 n1
      go_wp2_with (fail)
      have hO := heap_alloc_new wo (.cells #[.string vk, .string vg, .slice pa o.profits.length pc, .slice ha hn' hc, .slice ta tn tc] 157)
      have hg1 := gr_alloc (gr_refl wo none) (.cells #[.string vk, .string vg, .slice pa o.profits.length pc, .slice ha hn' hc, .slice ta tn tc] 157)
      obtain ⟨w1', hw1⟩ : ∃ w1', w1' = wo.alloc (.cells #[.string vk, .string vg, .slice pa o.profits.length pc, .slice ha hn' hc, .slice ta tn tc] 157) := ⟨_, rfl⟩
      rw [← hw1] at hO hg1
      rw [← hw1]
      obtain ⟨O, hOe⟩ : ∃ O, O = wo.heap.size := ⟨_, rfl⟩
      rw [← hOe] at hO
      rw [← hOe]
      have f1 := (gr_cell hg1 (lt_of_cell f0)).trans f0
      have hgd := gr_drew (gr_refl w1' none)
      clear hw1 hOe d0 d1 d2 d3 d4 f0
      obtain ⟨c0, c1, c2, c3, c4⟩ := blk5 hO
      have hnlt : (n : Int) ≤ 10 := by omega
      have hl9 := HCO.out.len
      have HC1 : w.grownBy w1' none := gr_trans HGR.out hg1
      go_region_law (first
        | (go_simp; go_at_call 142; (with_reducible refine (UA.out _ ?_).mono ?_); (· exact gr_trans hg1 hgd); rintro e w4 ⟨rfl, g4⟩)
        | fail)
      all_goals
        go_wp2_with (fail)
        go_roundw
        case rel => exact ⟨k + 1, by omega, by go_num, by rw [HNX.out], gr_trans (gr_trans HC1 hgd) g4⟩
        case measure => simp [intOf]; omega
    · obtain rfl : k = os.length := by omega
      have hfin : Hid (((worthL os cs).take os.length).sum = (worthL os cs).sum) := by show _ = _; rw [List.take_of_length_le (by rw [worthL_len _ _ HCO.out.len]; exact Nat.le_refl _)]
      go_wp2_with (fail)
      go_ret2
      exact ⟨by rw [hfin.out] <;> rfl, hgr⟩
end Go.Proofs.YtdjnomeabadbnaaDoor
