/- Package shelf: counts that are right; what they are worth. -/
import Derived.Test.YthikknnadmebgaaGreatDoorPkSAk
import Derived.Test.YthikknnadmebgaaGreatDoorPkSAl
import Derived.Test.YthikknnadmebgaaGreatDoorPkSAe
import Derived.Test.YthikknnadmebgaaGreatDoorPkSAb
namespace Go.Proofs.YthikknnadmebgaaGreatDoor
open Go.RowKit
attribute [local go_sem ↓] Go.wp_at_zero Go.wp_at_succ

structure CountsOk (os : List Offer) (cs : List Int) : Prop where
  len : cs.length = os.length
  all : ∀ i (h : i < os.length), 0 ≤ cs.getD i 0 ∧ cs.getD i 0 ≤ os[i].profits.length
set_option maxRecDepth 100000 in
set_option maxHeartbeats 1000000 in
theorem countsFault_ok (os : List Offer) (cs : List Int) (a ca : Option Addr) (vs : List OV) (c cc : Nat) (w : World) (h : OffsAt w a vs os) (hc : CellsAt w ca (ints cs)) (hok : CountsOk os cs) (hl : os.length ≤ 100000) :
    Calls Tryz.prog 67 #[.slice a os.length c, .slice ca os.length cc] w fun e w' => e = .returned (.int .i64 0) ∧ w = w' := by
  have H := Lib.hid h
  have HK := Lib.hid hok
  have HC := Lib.hid hc
  clear h hok hc
  go_enter Tryz.func67, Tryz.ntmps67
  go_wp2_with (fail)
  go_loop [14] (fun i => ∃ k : Nat, k ≤ os.length ∧ i = .int .i64 k) (fun i => os.length - (intOf i).toNat)
  case atStart => exact ⟨0, Nat.zero_le _, rfl⟩
  case round =>
    obtain ⟨k, hk, rfl⟩ := hrel
    by_cases hlt : k < os.length
    · obtain ⟨b, off, v, rfl, hr, _, _, d2, _⟩ := H.out.at k hlt
      obtain ⟨n0, n1⟩ := HK.out.all k hlt
      obtain ⟨b', off', rfl, d0⟩ := HC.out k _ (ints_get cs k (by rw [HK.out.len]; exact hlt))
      have hpn := hr.pn
      obtain ⟨pa, hpa⟩ : ∃ x, x = v.pa := ⟨_, rfl⟩
      obtain ⟨pc, hpc⟩ : ∃ x, x = v.pc := ⟨_, rfl⟩
      obtain ⟨pn, hp⟩ : ∃ x, x = v.pn := ⟨_, rfl⟩
      obtain ⟨n, hn⟩ : ∃ n, n = cs.getD k 0 := ⟨_, rfl⟩
      rw [← hn] at n0 n1 d0
      rw [← hpa, ← hpc, ← hp] at d2
      rw [← hp] at hpn
      rw [← hpn] at n1
      clear hr hpn hpa hpc hp hn
      go_wp2_with (fail)
      refine (out_any n 0 pn w).mono ?_
      rintro e w2 ⟨rfl, rfl⟩
      have e1 : (decide (n < 0) || decide ((pn : Int) < n)) = false := by simp; omega
      rw [e1]
      go_wp2_with (fail)
      go_round
      case rel => exact ⟨k + 1, by omega, by go_num⟩
      case measure => simp [intOf]; omega
    · obtain rfl : k = os.length := by omega
      go_wp2_with (fail)
      go_ret
      exact ⟨rfl, rfl⟩
set_option maxRecDepth 100000 in
set_option maxHeartbeats 1000000 in
theorem refCountsFault_ok (os : List Offer) (cs : List Int) (a ca : Option Addr) (vs : List OV) (c cc : Nat) (w : World) (h : OffsAt w a vs os) (hc : CellsAt w ca (ints cs)) (hok : CountsOk os cs) (hl : os.length ≤ 100000) :
    Calls Tryz.prog 64 #[.slice a os.length c, .slice ca os.length cc] w fun e w' => e = .returned (.int .i64 0) ∧ w = w' := by
  have H := Lib.hid h
  have HK := Lib.hid hok
  have HC := Lib.hid hc
  clear h hok hc
  go_enter Tryz.func64, Tryz.ntmps64
  go_wp2_with (fail)
  go_loop [14] (fun i => ∃ k : Nat, k ≤ os.length ∧ i = .int .i64 k) (fun i => os.length - (intOf i).toNat)
  case atStart => exact ⟨0, Nat.zero_le _, rfl⟩
  case round =>
    obtain ⟨k, hk, rfl⟩ := hrel
    by_cases hlt : k < os.length
    · obtain ⟨b, off, v, rfl, hr, _, _, d2, _⟩ := H.out.at k hlt
      obtain ⟨n0, n1⟩ := HK.out.all k hlt
      obtain ⟨b', off', rfl, d0⟩ := HC.out k _ (ints_get cs k (by rw [HK.out.len]; exact hlt))
      have hpn := hr.pn
      obtain ⟨pa, hpa⟩ : ∃ x, x = v.pa := ⟨_, rfl⟩
      obtain ⟨pc, hpc⟩ : ∃ x, x = v.pc := ⟨_, rfl⟩
      obtain ⟨pn, hp⟩ : ∃ x, x = v.pn := ⟨_, rfl⟩
      obtain ⟨n, hn⟩ : ∃ n, n = cs.getD k 0 := ⟨_, rfl⟩
      rw [← hn] at n0 n1 d0
      rw [← hpa, ← hpc, ← hp] at d2
      rw [← hp] at hpn
      rw [← hpn] at n1
      have q1 : ¬ n < 0 := by omega
      have q2 : ¬ (pn : Int) < n := by omega
      clear hr hpn hpa hpc hp hn
      go_wp2_with (fail)
      go_round
      case rel => exact ⟨k + 1, by omega, by go_num⟩
      case measure => simp [intOf]; omega
    · obtain rfl : k = os.length := by omega
      go_wp2_with (fail)
      go_ret
      exact ⟨rfl, rfl⟩
/-- What the first n profits of an offer add up to. -/
def usedM (o : Offer) (n : Int) : Int := (o.profits.take n.toNat).sum
set_option maxRecDepth 100000 in
set_option maxHeartbeats 1000000 in
theorem used_any (key group : ByteArray) (ps : List Int) (pa ha ta : Option Addr) (pc hm hc tn tc n : Nat) (w : World) (h : CellsAt w pa (ints ps)) (hl : ps.length ≤ 10) (hc1 : ps.length ≤ pc) (hc2 : pc ≤ maxLen) (hb : ∀ x ∈ ps, -1000000 ≤ x ∧ x ≤ 1000000) (hn : n ≤ ps.length) :
    Calls Tryz.prog 108 #[.agg #[.string key, .string group, .slice pa ps.length pc, .slice ha hm hc, .slice ta tn tc], .int .i64 n] w fun e w' => e = .returned (.int .i64 (ps.take n).sum) ∧ w.grownBy w' none := by
  have hO := heap_alloc_new w (.cells #[.string key, .string group, .slice pa ps.length pc, .slice ha hm hc, .slice ta tn tc] 119)
  have hg1 := gr_alloc (gr_refl w none) (.cells #[.string key, .string group, .slice pa ps.length pc, .slice ha hm hc, .slice ta tn tc] 119)
  obtain ⟨w1, hw1⟩ : ∃ w1, w1 = w.alloc (.cells #[.string key, .string group, .slice pa ps.length pc, .slice ha hm hc, .slice ta tn tc] 119) := ⟨_, rfl⟩
  rw [← hw1] at hO hg1
  have HW := Lib.hid hw1
  have H := Lib.hid (h.keep0 hg1)
  have HB := Lib.hid (sum_bound ps (-1000000) 1000000 (by omega) (by omega) hb)
  unfold maxLen at hc2
  have c2 := blkC hO 2 rfl
  clear h hb hw1
  go_enter Tryz.func108, Tryz.ntmps108
  go_wp2_with (fail)
  rw [← HW.out]
  go_wp2_with (fail)
  go_loop [5, 13] (fun s i => ∃ k : Nat, k ≤ n ∧ i = .int .i64 k ∧ s = .int .i64 (ps.take k).sum) (fun _ i => n - (intOf i).toNat)
  case atStart => exact ⟨0, Nat.zero_le _, rfl, rfl⟩
  case round =>
    obtain ⟨k, hk, rfl, rfl⟩ := hrel
    by_cases hlt : k < n
    · obtain ⟨b, off, rfl, d0⟩ := H.out k _ (ints_get ps k (by omega))
      obtain ⟨b0, b1⟩ := HB.out k
      obtain ⟨b2, b3⟩ := HB.out (k + 1)
      have hnx := sum_next ps k (by omega)
      obtain ⟨x, hx⟩ : ∃ x, x = ps.getD k 0 := ⟨_, rfl⟩
      obtain ⟨s, hs⟩ : ∃ s, s = (ps.take k).sum := ⟨_, rfl⟩
      rw [← hx] at d0 hnx
      rw [← hs] at hnx b0 b1
      rw [← hs]
      rw [hnx] at b2 b3
      have HNX := Lib.hid hnx; clear hnx
      have HX := Lib.hid hx; clear hx
      have HS := Lib.hid hs; clear hs
      go_wp2_with (fail)
      go_round
      case rel => exact ⟨k + 1, by omega, by go_num, by rw [HNX.out]⟩
      case measure => simp [intOf]; omega
    · obtain rfl : k = n := by omega
      go_wp2_with (fail)
      go_ret
      exact ⟨rfl, hg1⟩
/-- What counts are worth. -/
def worthL (os : List Offer) (cs : List Int) : List Int := (os.zip cs).map fun p => usedM p.1 p.2
theorem worthL_len (os : List Offer) (cs : List Int) (h : cs.length = os.length) : (worthL os cs).length = os.length := by simp [worthL, h]
theorem worthL_get (os : List Offer) (cs : List Int) (h : cs.length = os.length) (k : Nat) (hk : k < os.length) : (worthL os cs).getD k 0 = usedM os[k] (cs.getD k 0) := by
  rw [List.getD_eq_getElem?_getD, List.getD_eq_getElem?_getD, List.getElem?_eq_getElem (by rw [worthL_len os cs h]; exact hk), List.getElem?_eq_getElem (by omega)]
  simp [worthL]
theorem usedM_bd (o : Offer) (n : Int) (h : o.profits.length ≤ 10) (hb : ∀ x ∈ o.profits, -1000000 ≤ x ∧ x ≤ 1000000) : -10000000 ≤ usedM o n ∧ usedM o n ≤ 10000000 := by
  have h1 : (o.profits.take n.toNat).length ≤ 10 := by rw [List.length_take]; omega
  have := sum_bound_all (o.profits.take n.toNat) (-1000000) 1000000 (by omega) (by omega) (fun x hx => hb x (List.mem_of_mem_take hx))
  unfold usedM
  omega
theorem worthL_bd (os : List Offer) (cs : List Int) (hok : OffersOk os) : ∀ x ∈ worthL os cs, -10000000 ≤ x ∧ x ≤ 10000000 := by
  intro x hx
  unfold worthL at hx
  obtain ⟨p, hp, rfl⟩ := List.mem_map.1 hx
  obtain ⟨_, q2, q3⟩ := hok.prof p.1 (List.of_mem_zip hp).1
  exact usedM_bd _ _ q2 q3
set_option maxRecDepth 100000 in
set_option maxHeartbeats 1000000 in
theorem worth_any (os : List Offer) (cs : List Int) (a ca : Option Addr) (vs : List OV) (c cc : Nat) (w : World) (h : OffsAt w a vs os) (hok : OffersOk os) (hc : CellsAt w ca (ints cs)) (hco : CountsOk os cs) :
    Calls Tryz.prog 66 #[.slice a os.length c, .slice ca os.length cc] w fun e w' => e = .returned (.tuple #[.int .i64 (worthL os cs).sum, .int .i64 0]) ∧ w.grownBy w' none := by
  have hl := hok.len
  have H := Lib.hid h
  have HC := Lib.hid hc
  have HK := Lib.hid hok
  have HCO := Lib.hid hco
  have HB := Lib.hid (sum_bound (worthL os cs) (-10000000) 10000000 (by omega) (by omega) (worthL_bd os cs hok))
  clear h hc hok hco
  go_enter Tryz.func66, Tryz.ntmps66
  go_wp2_with (fail)
  refine (checkOffers_ok os a vs c w H.out HK.out).mono ?_
  rintro e w1 ⟨rfl, g1⟩
  go_wp2_with (fail)
  have g1a := gr_alloc g1 (.cells #[.int .i64 0] 29)
  refine (or_zeros2 1 w1.heap.size _ _ (by decide) (fun j hj => ?_)).mono ?_
  · obtain rfl : j = 0 := by omega
    exact made_cell (gr_refl _ _) _ rfl
  rintro e w2 ⟨rfl, rfl⟩
  go_wp2_with (fail)
  refine (countsFault_ok os cs a ca vs c cc _ (H.out.keep0 g1a) (HC.out.keep0 g1a) HCO.out (by omega)).mono ?_
  rintro e w2 ⟨rfl, rfl⟩
  obtain ⟨w3, hw3⟩ : ∃ w3, w3 = w1.alloc (.cells #[.int .i64 0] 29) := ⟨_, rfl⟩
  rw [← hw3] at g1a
  rw [← hw3]
  clear hw3 g1
  go_wp2_with (fail)
  go_loopw [8, 26] (fun s i wr => ∃ k : Nat, k ≤ os.length ∧ i = .int .i64 k ∧ s = .int .i64 ((worthL os cs).take k).sum ∧ w.grownBy wr none) (fun _ i _ => os.length - (intOf i).toNat)
  case atStart => exact ⟨0, Nat.zero_le _, rfl, rfl, g1a⟩
  case round =>
    obtain ⟨k, hk, rfl, rfl, hgr⟩ := hrel
    obtain ⟨wo, rfl⟩ : ∃ wo : World, wo = wr := ⟨_, rfl⟩
    by_cases hlt : k < os.length
    · obtain ⟨b, off, v, rfl, hr, d0, d1, d2, d3, d4⟩ := (H.out.keep0 hgr).at k hlt
      obtain ⟨p1, p2, p3⟩ := HK.out.prof os[k] (List.getElem_mem hlt)
      obtain ⟨n0, n1⟩ := HCO.out.all k hlt
      obtain ⟨b', off', rfl, f0⟩ := (HC.out.keep0 hgr) k _ (ints_get cs k (by rw [HCO.out.len]; exact hlt))
      obtain ⟨b0, b1⟩ := HB.out k
      obtain ⟨b2, b3⟩ := HB.out (k + 1)
      have hnx := sum_next (worthL os cs) k (by rw [worthL_len _ _ HCO.out.len]; exact hlt)
      rw [worthL_get os cs HCO.out.len k hlt] at hnx
      obtain ⟨s, hs⟩ : ∃ s, s = ((worthL os cs).take k).sum := ⟨_, rfl⟩
      obtain ⟨n, hn⟩ : ∃ n : Nat, cs.getD k 0 = (n : Int) := ⟨(cs.getD k 0).toNat, by omega⟩
      rw [hn] at n1 f0 hnx
      obtain ⟨x, hx⟩ : ∃ x, x = usedM os[k] n := ⟨_, rfl⟩
      have hx2 : (os[k].profits.take n).sum = x := by rw [hx]; simp [usedM]
      rw [← hx, ← hs] at hnx
      rw [hnx] at b2 b3
      rw [← hs] at b0 b1
      rw [← hs]
      have hpn := hr.pn
      have hcap := hr.cap
      have CP := Lib.hid hr.pr
      obtain ⟨o, ho⟩ : ∃ o, o = os[k] := ⟨_, rfl⟩
      rw [← ho] at hpn CP p1 p2 p3 n1 hx2
      obtain ⟨vk, vg, pa, pn, pc, ha, hn', hc, ta, tn, tc⟩ := v
      simp only at hpn hcap CP d0 d1 d2 d3 d4
      subst hpn
      have hn2 : n ≤ o.profits.length := by omega
      have UA : Hid (∀ W, wo.grownBy W none → Calls Tryz.prog 108 #[.agg #[.string vk, .string vg, .slice pa o.profits.length pc, .slice ha hn' hc, .slice ta tn tc], .int .i64 n] W fun e w' => e = .returned (.int .i64 x) ∧ W.grownBy w' none) := fun W g => by
        have := used_any vk vg o.profits pa ha ta pc hn' hc tn tc n W (CP.out.keep0 g) p2 hcap.1 hcap.2 p3 hn2
        rw [hx2] at this
        exact this
      have HNX := Lib.hid hnx
      have HGR := Lib.hid hgr
      clear hr ho hx hx2 hs hnx hn p3 hgr n0 n1
      go_wp2_with (fail)
      have hO := heap_alloc_new wo (.cells #[.string vk, .string vg, .slice pa o.profits.length pc, .slice ha hn' hc, .slice ta tn tc] 119)
      have hg1 := gr_alloc (gr_refl wo none) (.cells #[.string vk, .string vg, .slice pa o.profits.length pc, .slice ha hn' hc, .slice ta tn tc] 119)
      obtain ⟨w1', hw1⟩ : ∃ w1', w1' = wo.alloc (.cells #[.string vk, .string vg, .slice pa o.profits.length pc, .slice ha hn' hc, .slice ta tn tc] 119) := ⟨_, rfl⟩
      rw [← hw1] at hO hg1
      rw [← hw1]
      obtain ⟨O, hOe⟩ : ∃ O, O = wo.heap.size := ⟨_, rfl⟩
      rw [← hOe] at hO
      rw [← hOe]
      have f1 := (gr_cell hg1 (lt_of_cell f0)).trans f0
      have hgd := gr_drew (gr_refl w1' none)
      clear hw1 hOe d0 d1 d2 d3 d4 f0
      obtain ⟨c0, c1, c2, c3, c4⟩ := blk5 hO
      have hnlt : (n : Int) ≤ 10 := by omega
      have hl9 := HCO.out.len
      have HC1 : w.grownBy w1' none := gr_trans HGR.out hg1
      go_region_law (first
        | (go_simp; go_at_call 108; (with_reducible refine (UA.out _ ?_).mono ?_); (· exact gr_trans hg1 hgd); rintro e w4 ⟨rfl, g4⟩)
        | fail)
      all_goals
        go_wp2_with (fail)
        go_roundw
        case rel => exact ⟨k + 1, by omega, by go_num, by rw [HNX.out], gr_trans (gr_trans HC1 hgd) g4⟩
        case measure => simp [intOf]; omega
    · obtain rfl : k = os.length := by omega
      have hfin : Hid (((worthL os cs).take os.length).sum = (worthL os cs).sum) := by show _ = _; rw [List.take_of_length_le (by rw [worthL_len _ _ HCO.out.len]; exact Nat.le_refl _)]
      go_wp2_with (fail)
      go_ret2
      exact ⟨by rw [hfin.out] <;> rfl, hgr⟩
end Go.Proofs.YthikknnadmebgaaGreatDoor

/-! Package shelf: counts of a layout; arranging for counts that are all zero; doing nothing. -/
namespace Go.Proofs.YthikknnadmebgaaGreatDoor
open Go.RowKit
attribute [local go_sem ↓] Go.wp_at_zero Go.wp_at_succ

/-- What is wrong with a layout of right offers. -/
def listF (os : List Offer) (xs : List ByteArray) : Int := if 60 < xs.length then 2 else if xs.any (strangeB os) then 8 else 0
def cntTo (os : List Offer) (xs : List ByteArray) : Nat → List Int
  | 0 => List.replicate os.length 0
  | k + 1 => if (xs.getD k ⟨#[]⟩).toList.isEmpty then cntTo os xs k else (cntTo os xs k).set (offIx os (xs.getD k ⟨#[]⟩)).toNat ((cntTo os xs k).getD (offIx os (xs.getD k ⟨#[]⟩)).toNat 0 + 1)
theorem cntTo_len (os : List Offer) (xs : List ByteArray) (k : Nat) : (cntTo os xs k).length = os.length := by
  induction k with
  | zero => simp [cntTo]
  | succ k ih => simp only [cntTo]; split <;> simp [ih]
theorem cntTo_bd (os : List Offer) (xs : List ByteArray) (k : Nat) : ∀ j, 0 ≤ (cntTo os xs k).getD j 0 ∧ (cntTo os xs k).getD j 0 ≤ k := by
  induction k with
  | zero => intro j; simp [cntTo, List.getD_eq_getElem?_getD, List.getElem?_replicate]; split <;> simp
  | succ k ih =>
    intro j
    have h1 := ih j
    simp only [cntTo]
    split
    · omega
    · have h2 := ih (offIx os (xs.getD k ⟨#[]⟩)).toNat
      by_cases hj : (offIx os (xs.getD k ⟨#[]⟩)).toNat = j
      · subst hj
        by_cases hl : (offIx os (xs.getD k ⟨#[]⟩)).toNat < (cntTo os xs k).length
        · rw [List.getD_eq_getElem?_getD, List.getElem?_set_self hl]
          simp only [Option.getD_some]
          omega
        · rw [List.getD_eq_getElem?_getD, List.getElem?_eq_none (by rw [List.length_set]; omega)]
          simp only [Option.getD_none]
          omega
      · rw [List.getD_eq_getElem?_getD, List.getElem?_set_ne hj, ← List.getD_eq_getElem?_getD]
        omega
theorem offIx_lt (os : List Offer) (k : ByteArray) : offIx os k < os.length := by
  unfold offIx findA; split <;> omega
theorem strange_off {os : List Offer} {xs : List ByteArray} (h : xs.any (strangeB os) = false) (k : Nat) (hk : k < xs.length) (he : (xs.getD k ⟨#[]⟩).toList.isEmpty = false) : 0 ≤ offIx os (xs.getD k ⟨#[]⟩) := by
  have h1 := List.any_eq_false.1 h (xs.getD k ⟨#[]⟩) (by rw [getD_eq xs k _ hk]; exact List.getElem_mem hk)
  unfold strangeB at h1
  rw [he] at h1
  simp at h1
  exact h1
def CountsPost (os : List Offer) (xs : List ByteArray) (w : World) (e : Ending) (w' : World) : Prop :=
  ∃ v n L, e = .returned (.tuple #[v, .int .i64 (listF os xs)]) ∧ w'.ownsRow w.heap.size 3 1 v n (ints L) ∧ (listF os xs = 0 → n = os.length ∧ L = cntTo os xs xs.length) ∧ w.grownBy w' none
set_option maxRecDepth 100000 in
set_option maxHeartbeats 2000000 in
theorem counts_any (os : List Offer) (xs : List ByteArray) (a xa : Option Addr) (vs : List OV) (c xc : Nat) (w : World) (h : OffsAt w a vs os) (hok : OffersOk os) (hx : CellsAt w xa (strs xs)) (hl : xs.length ≤ 1000) :
    Calls Tryz.prog 29 #[.slice a os.length c, .slice xa xs.length xc] w (CountsPost os xs w) := by
  have hol := hok.len
  have H := Lib.hid h
  have HX := Lib.hid hx
  have HK := Lib.hid hok
  have HS : Hid (listF os xs = if 60 < xs.length then 2 else if xs.any (strangeB os) then 8 else 0) := rfl
  clear h hx hok
  by_cases h60 : 60 < xs.length
  · have HE : Hid (listF os xs = 2) := by show _ = _; rw [HS.out, if_pos h60]
    go_enter Tryz.func29, Tryz.ntmps29
    go_wp2_with (fail)
    refine (checkOffers_ok os a vs c w H.out HK.out).mono ?_
    rintro e w1 ⟨rfl, g1⟩
    go_wp2_with (fail)
    go_ret2
    exact ⟨_, 0, [], by rw [HE.out] <;> rfl, World.ownsRow_nil _ _ _ _, fun e => absurd e (by rw [HE.out]; decide), g1⟩
  · obtain ⟨s, hs⟩ : ∃ s, s = xs.any (strangeB os) := ⟨_, rfl⟩
    cases s with
    | true =>
      have HE : Hid (listF os xs = 8) := by show _ = _; rw [HS.out, if_neg h60, ← hs]; rfl
      have HSS := Lib.hid hs
      clear hs
      go_enter Tryz.func29, Tryz.ntmps29
      go_wp2_with (fail)
      refine (checkOffers_ok os a vs c w H.out HK.out).mono ?_
      rintro e w1 ⟨rfl, g1⟩
      go_wp2_with (fail)
      refine (unknown_any xs os a xa vs c xc w1 (H.out.keep0 g1) (by omega) (HX.out.keep0 g1) (by omega)).mono ?_
      rintro e w2 ⟨rfl, g2⟩
      rw [← HSS.out]
      go_wp2_with (fail)
      go_ret2
      exact ⟨_, 0, [], by rw [HE.out] <;> rfl, World.ownsRow_nil _ _ _ _, fun e => absurd e (by rw [HE.out]; decide), gr_trans g1 g2⟩
    | false =>
      have HE : Hid (listF os xs = 0) := by show _ = _; rw [HS.out, if_neg h60, ← hs]; rfl
      have HSS := Lib.hid hs
      clear hs
      go_enter Tryz.func29, Tryz.ntmps29
      go_wp2_with (fail)
      refine (checkOffers_ok os a vs c w H.out HK.out).mono ?_
      rintro e w1 ⟨rfl, g1⟩
      go_wp2_with (fail)
      refine (unknown_any xs os a xa vs c xc w1 (H.out.keep0 g1) (by omega) (HX.out.keep0 g1) (by omega)).mono ?_
      rintro e w2 ⟨rfl, g2⟩
      rw [← HSS.out]
      have g2 := gr_trans g1 g2
      have hz2 := g2.size
      clear g1
      go_wp2_with (refine wpList_mk w2 eInt rfl _ _ rfl w.heap.size _ os.length rfl rfl rfl (by omega) hz2 ?_)
      intro w3 ho3 g3
      have g3 := gr_trans g2 g3
      have hb0 : w.heap.size ≤ w2.heap.size := hz2
      obtain ⟨B, hB⟩ : ∃ B, B = w2.heap.size := ⟨_, rfl⟩
      rw [← hB] at ho3 hb0
      rw [← hB]
      have ho3' : w3.ownsRow w.heap.size 3 1 (.slice (some ⟨B, 0, none⟩) os.length os.length) os.length (ints (cntTo os xs 0)) := ho3
      clear g2 hz2 ho3 hB
      go_wp2_with (fail)
      go_loopw [28] (fun i wr => ∃ k : Nat, k ≤ xs.length ∧ i = .int .i64 k ∧ wr.ownsRow w.heap.size 3 1 (.slice (some ⟨B, 0, none⟩) os.length os.length) os.length (ints (cntTo os xs k)) ∧ w.grownBy wr none) (fun i _ => xs.length - (intOf i).toNat)
      case atStart => exact ⟨0, Nat.zero_le _, rfl, ho3', g3⟩
      case round =>
        clear ho3' g3
        obtain ⟨k, hk, rfl, ho, hgr⟩ := hrel
        obtain ⟨wo, rfl⟩ : ∃ wo : World, wo = wr := ⟨_, rfl⟩
        by_cases hlt : k < xs.length
        · obtain ⟨b, off, rfl, d0⟩ := str_cell (HX.out.keep0 hgr) k hlt
          have hst := strange_off HSS.out.symm k hlt
          have hol2 := offIx_lt os (xs.getD k ⟨#[]⟩)
          have HN : Hid (cntTo os xs (k + 1) = if (xs.getD k ⟨#[]⟩).toList.isEmpty then cntTo os xs k else (cntTo os xs k).set (offIx os (xs.getD k ⟨#[]⟩)).toNat ((cntTo os xs k).getD (offIx os (xs.getD k ⟨#[]⟩)).toNat 0 + 1)) := rfl
          obtain ⟨x, hx⟩ : ∃ x, x = xs.getD k ⟨#[]⟩ := ⟨_, rfl⟩
          rw [← hx] at d0 hst hol2 HN
          clear hx
          cases he : x.toList.isEmpty with
          | true =>
            have he2 : x.toList = [] := by simpa using he
            rw [he] at HN
            have HOk := Lib.hid ho
            have HG := Lib.hid hgr
            clear ho hgr hst he
            go_wp2_with (fail)
            go_roundw
            case rel => exact ⟨k + 1, by omega, by go_num, by rw [HN.out]; exact HOk.out, HG.out⟩
            case measure => simp [intOf]; omega
          | false =>
            have he2 : (!x.toList.isEmpty) = true := by rw [he]; rfl
            have he3 : ¬ x.toList = [] := by intro e; rw [e] at he; cases he
            have h0 := hst he
            obtain ⟨j, hj⟩ : ∃ j : Nat, offIx os x = (j : Int) := ⟨(offIx os x).toNat, by omega⟩
            rw [he, hj] at HN
            simp only [Bool.false_eq_true, if_false, Int.toNat_natCast] at HN
            have hjl : j < os.length := by omega
            have hbd := cntTo_bd os xs k j
            have HJ := Lib.hid hj
            have HG := Lib.hid hgr
            have HOk := Lib.hid ho
            clear hst he hj ho hgr
            go_wp2_with (fail)
            refine (offer_any x os a vs c wo (H.out.keep0 HG.out) (by omega)).mono ?_
            rintro e w4 ⟨rfl, g4⟩
            rw [HJ.out]
            have ho4 := own_keep0 HOk.out g4
            obtain ⟨d1, d2, d3⟩ := own_int ho4 j hjl
            obtain ⟨y, hy⟩ : ∃ y, y = (cntTo os xs k).getD j 0 := ⟨_, rfl⟩
            rw [← hy] at d1 hbd HN
            have D3 := Lib.hid (d3 (y + 1))
            have HG4 := Lib.hid (gr_new (gr_trans HG.out g4) hb0 (q := ⟨B, j, none⟩) (.int .i64 (y + 1)))
            clear d3 hy ho4 g4 he2 he3
            go_wp2_with (fail)
            go_roundw
            case rel => exact ⟨k + 1, by omega, by go_num, by rw [HN.out]; exact D3.out, HG4.out⟩
            case measure => simp [intOf]; omega
        · obtain rfl : k = xs.length := by omega
          go_wp2_with (fail)
          go_ret2
          exact ⟨_, _, _, by rw [HE.out] <;> rfl, ho, fun _ => ⟨rfl, rfl⟩, hgr⟩
theorem sum_rep (n : Nat) : (List.replicate n (0 : Int)).sum = 0 := by
  induction n with
  | zero => rfl
  | succ n ih => rw [List.replicate_succ, List.sum_cons, ih]; rfl
set_option maxRecDepth 100000 in
theorem shelfTotal_any (xs : List Int) (a : Option Addr) (c : Nat) (w : World) (hc : CellsAt w a (ints xs)) (hl : xs.length ≤ 1000000) (hb : ∀ x ∈ xs, -1000000000000 ≤ x ∧ x ≤ 1000000000000) :
    Calls Tryz.prog 68 #[.slice a xs.length c] w fun e w' => e = .returned (.int .i64 xs.sum) ∧ w.grownBy w' none := by
  have HB := Lib.hid (sum_bound xs (-1000000000000) 1000000000000 (by omega) (by omega) hb); clear hb
  go_enter Tryz.func68, Tryz.ntmps68
  go_wp2_with (fail)
  go_loopw [3, 8] (fun s i wr => ∃ k : Nat, k ≤ xs.length ∧ i = .int .i64 k ∧ s = .int .i64 (xs.take k).sum ∧ w.grownBy wr none) (fun _ i _ => xs.length - (intOf i).toNat)
  case atStart => exact ⟨0, Nat.zero_le _, rfl, rfl, gr_refl _ _⟩
  case round =>
    obtain ⟨k, hk, rfl, rfl, hgr⟩ := hrel
    obtain ⟨wo, rfl⟩ : ∃ wo : World, wo = wr := ⟨_, rfl⟩
    by_cases hlt : k < xs.length
    · obtain ⟨b, off, rfl, d0⟩ := (hc.keep0 hgr) k _ (ints_get xs k hlt)
      obtain ⟨b0, b1⟩ := HB.out k
      obtain ⟨b2, b3⟩ := HB.out (k + 1)
      have hnx := sum_next xs k hlt
      obtain ⟨x, hx⟩ : ∃ x, x = xs.getD k 0 := ⟨_, rfl⟩
      obtain ⟨s, hs⟩ : ∃ s, s = (xs.take k).sum := ⟨_, rfl⟩
      rw [← hx] at d0 hnx
      rw [← hs] at hnx b0 b1
      rw [← hs]
      rw [hnx] at b2 b3
      have HNX := Lib.hid hnx; clear hnx
      have HX := Lib.hid hx; clear hx
      have HS := Lib.hid hs; clear hs
      go_wp2_with (fail)
      go_roundw
      case rel => exact ⟨k + 1, by omega, by go_num, by rw [HNX.out], hgr⟩
      case measure => simp [intOf]; omega
    · have hkl : k = xs.length := by omega
      have hfin : Hid ((xs.take k).sum = xs.sum) := by show _ = _; rw [hkl, List.take_length]
      have HK := Lib.hid hkl; clear hkl
      go_wp2_with (fail)
      go_ret
      exact ⟨ret_int hfin.out, hgr⟩
def ArrPost (os : List Offer) (xs : List ByteArray) (w : World) (e : Ending) (w' : World) : Prop :=
  ∃ v n L, e = .returned (.tuple #[v, .int .i64 (listF os xs)]) ∧ n ≤ 60 ∧ w'.ownsRow w.heap.size 9 1 v n (strs L) ∧ w.grownBy w' none
set_option maxRecDepth 100000 in
set_option maxHeartbeats 4000000 in
theorem arrange_zero (os : List Offer) (xs : List ByteArray) (a xa ca : Option Addr) (vs : List OV) (c xc cc : Nat) (w : World) (h : OffsAt w a vs os) (hok : OffersOk os) (hx : CellsAt w xa (strs xs)) (hl : xs.length ≤ 1000) (hc : CellsAt w ca (ints (List.replicate os.length 0))) (hcn : ca = none → os.length = 0 ∧ cc = 0) :
    Calls Tryz.prog 27 #[.slice a os.length c, .slice xa xs.length xc, .slice ca os.length cc] w (ArrPost os xs w) := by
  have hol := hok.len
  have hco : CountsOk os (List.replicate os.length 0) := by
    refine ⟨by simp, fun i hi => ?_⟩
    rw [List.getD_eq_getElem?_getD, List.getElem?_replicate, if_pos hi]
    simp only [Option.getD_some]
    omega
  have HCN := Lib.hid hcn
  have HC := Lib.hid hc
  have HCO := Lib.hid hco
  have H := Lib.hid h
  have HX := Lib.hid hx
  have HK := Lib.hid hok
  have HS : Hid (listF os xs = if 60 < xs.length then 2 else if xs.any (strangeB os) then 8 else 0) := rfl
  clear h hx hok hc hcn hco
  go_enter Tryz.func27, Tryz.ntmps27
  go_wp2_with (fail)
  refine (counts_any os xs a xa vs c xc w H.out HK.out HX.out hl).mono ?_
  rintro e w1 ⟨v1, n1, L1, rfl, ho1, _, g1⟩
  obtain ⟨a1, c1, rfl, _, _, _, _⟩ := own_shape ho1
  obtain ⟨r, hr⟩ : ∃ r, r = listF os xs := ⟨_, rfl⟩
  rw [← hr]
  have HR := Lib.hid hr
  clear hr ho1
  by_cases hr0 : r = 0
  · subst hr0
    have h60 : xs.length ≤ 60 := by
      have h1 := HR.out
      rw [HS.out] at h1
      split at h1
      · cases h1
      · omega
    have hst : xs.any (strangeB os) = false := by
      have h1 := HR.out
      rw [HS.out, if_neg (by omega)] at h1
      cases hb : xs.any (strangeB os) with
      | true => rw [hb] at h1; cases h1
      | false => rfl
    have HST := Lib.hid hst
    clear hst
    go_wp2_with (fail)
    refine (countsFault_ok os _ a ca vs c cc w1 (H.out.keep0 g1) (HC.out.keep0 g1) HCO.out (by omega)).mono ?_
    rintro e w2 ⟨rfl, rfl⟩
    go_wp2_with (fail)
    have ht := shelfTotal_any (List.replicate os.length 0) ca cc w1 (HC.out.keep0 g1) (by simp; omega) (fun x hx => by have := (List.mem_replicate.1 hx).2; omega)
    rw [List.length_replicate, sum_rep] at ht
    refine ht.mono ?_
    rintro e w2 ⟨rfl, g2⟩
    have g2 := gr_trans g1 g2
    clear g1 ht
    go_wp2_with (fail)
    refine (cloneInt_any ca os.length cc (ints (List.replicate os.length 0)) w2 (by simp [ints]) (HC.out.keep0 g2) HCN.out (ints_one _) (by omega)).mono ?_
    rintro e w3 ⟨v3, rfl, ho3, g3⟩
    have hz := g3.size
    have hz2 := g2.size
    have g3 := gr_trans g2 g3
    have HO3 := Lib.hid (own_base ho3 hz2)
    obtain ⟨la, lc, rfl, _, _, cL, _⟩ := own_shape ho3
    clear ho3 cL
    have hle : w.heap.size ≤ w3.heap.size := by omega
    clear g2 hz hz2
    go_wp2_with (refine wpList_mkZ w3 eStr rfl (by decide) rfl _ _ rfl w.heap.size _ xs.length rfl rfl rfl (by omega) hle ?_)
    intro w4 ho4 g4
    have HO4 := Lib.hid ho4
    have HO3 := Lib.hid (own_keep0 HO3.out g4)
    have g4 := gr_trans g3 g4
    obtain ⟨B, hB⟩ : ∃ B, B = w3.heap.size := ⟨_, rfl⟩
    rw [← hB] at HO4 hle
    rw [← hB]
    clear g3 hB ho4
    go_wp2_with (fail)
    go_loopw [13, 48] (fun f i wr => ∃ (k : Nat) (F : List Int), k ≤ xs.length ∧ i = .int .i64 k ∧ F.length ≤ k ∧ wr.ownsRow w4.heap.size 3 1 f F.length (ints F) ∧ w4.grownBy wr none) (fun _ i _ => xs.length - (intOf i).toNat)
    case atStart => exact ⟨0, [], Nat.zero_le _, rfl, Nat.le_refl _, World.ownsRow_nil _ _ _ _, gr_refl _ _⟩
    case round =>
      obtain ⟨k, F, hk, rfl, hF, hof, hgr⟩ := hrel
      obtain ⟨wo, rfl⟩ : ∃ wo : World, wo = wr := ⟨_, rfl⟩
      by_cases hlt : k < xs.length
      · have g4o := gr_trans g4 hgr
        obtain ⟨b, off, rfl, d0⟩ := str_cell (HX.out.keep0 g4o) k hlt
        have hst := strange_off HST.out k hlt
        have hol2 := offIx_lt os (xs.getD k ⟨#[]⟩)
        obtain ⟨x, hx⟩ : ∃ x, x = xs.getD k ⟨#[]⟩ := ⟨_, rfl⟩
        rw [← hx] at d0 hst hol2
        obtain ⟨fa, fc, rfl, _, _, _, _⟩ := own_shape hof
        clear hx
        cases he : x.toList.isEmpty with
        | true =>
          have he2 : x.toList = [] := by simpa using he
          have HOf := Lib.hid hof
          have HG := Lib.hid hgr
          clear hof hgr hst he g4o
          go_wp2_with (fail)
          go_roundw
          case rel => exact ⟨k + 1, F, by omega, by go_num, by omega, HOf.out, HG.out⟩
          case measure => simp [intOf]; omega
        | false =>
          have he2 : (!x.toList.isEmpty) = true := by rw [he]; rfl
          have he3 : ¬ x.toList = [] := by intro e; rw [e] at he; cases he
          have h0 := hst he
          obtain ⟨j, hj⟩ : ∃ j : Nat, offIx os x = (j : Int) := ⟨(offIx os x).toNat, by omega⟩
          have hjl : j < os.length := by omega
          have HJ := Lib.hid hj
          have HG := Lib.hid hgr
          have HOf := Lib.hid hof
          have HOL := Lib.hid (own_keep0 HO3.out hgr)
          have OA := Lib.hid (offer_any x os a vs c wo (H.out.keep0 g4o) (by omega))
          clear hst hj hgr hof g4o
          go_wp2_with (fail)
          refine OA.out.mono ?_
          rintro e w5 ⟨rfl, g5⟩
          rw [HJ.out]
          have HO5 := Lib.hid (own_keep0 HOf.out g5)
          have HG5 := Lib.hid (gr_trans HG.out g5)
          have ho5 := own_keep0 HOL.out g5
          obtain ⟨lg, lcc, he5, _, _, _, _⟩ := own_some ho5 (by omega)
          cases he5
          obtain ⟨d1, _, _⟩ := own_int ho5 j hjl
          rw [List.getD_eq_getElem?_getD, List.getElem?_replicate, if_pos hjl] at d1
          simp only [Option.getD_some] at d1
          have hz5 := HG5.out.size
          clear ho5 he2 he3 OA g5
          go_wp2_with (at_builtin; refine wpList_app1 eInt rfl _ _ rfl w4.heap.size _ F.length (ints F) rfl w5 #[.int .i64 k] rfl HO5.out _ rfl rfl rfl rfl (by omega) hz5 ?_)
          intro v6 w6 ho6 g6 hlt6
          have HO6 := Lib.hid ho6
          have HG6 := Lib.hid (gr_grown HG5.out g6 (fun q e => hlt6 q e))
          clear ho6 g6 hlt6 hz5
          go_wp2_with (fail)
          go_roundw
          case rel => exact ⟨k + 1, F ++ [(k : Int)], by omega, by go_num, by simp; omega, by simpa [ints] using HO6.out, HG6.out⟩
          case measure => simp [intOf]; omega
      · have HOf := Lib.hid hof
        have HG := Lib.hid hgr
        have hFl : F.length ≤ 60 := by omega
        clear hof hgr
        go_wp2_with (fail)
        go_loopw [13, 80] (fun f i wr => ∃ (k : Nat) (F : List Int), k ≤ xs.length ∧ i = .int .i64 k ∧ F.length ≤ 60 + k ∧ wr.ownsRow w4.heap.size 3 1 f F.length (ints F) ∧ w4.grownBy wr none) (fun _ i _ => xs.length - (intOf i).toNat)
        case atStart => exact ⟨0, F, Nat.zero_le _, rfl, by omega, HOf.out, HG.out⟩
        case round =>
          clear HOf HG hF
          obtain ⟨k, F, hk, rfl, hF, hof, hgr⟩ := hrel
          obtain ⟨wo, rfl⟩ : ∃ wo : World, wo = wr := ⟨_, rfl⟩
          by_cases hlt : k < xs.length
          · have g4o := gr_trans g4 hgr
            obtain ⟨b, off, rfl, d0⟩ := str_cell (HX.out.keep0 g4o) k hlt
            obtain ⟨x, hx⟩ : ∃ x, x = xs.getD k ⟨#[]⟩ := ⟨_, rfl⟩
            rw [← hx] at d0
            obtain ⟨fa, fc, rfl, _, _, _, _⟩ := own_shape hof
            have hzo := hgr.size
            have HOf := Lib.hid hof
            have HG := Lib.hid hgr
            clear hx hof hgr g4o
            cases he : x.toList.isEmpty with
            | false =>
              have he3 : ¬ x.toList = [] := by intro e; rw [e] at he; cases he
              go_wp2_with (fail)
              go_roundw
              case rel => exact ⟨k + 1, F, by omega, by go_num, by omega, HOf.out, HG.out⟩
              case measure => simp [intOf]; omega
            | true =>
              have he2 : x.toList = [] := by simpa using he
              go_wp2_with (at_builtin; refine wpList_app1 eInt rfl _ _ rfl w4.heap.size _ F.length (ints F) rfl wo #[.int .i64 k] rfl HOf.out _ rfl rfl rfl rfl (by omega) hzo ?_)
              intro v6 w6 ho6 g6 hlt6
              have HO6 := Lib.hid ho6
              have HG6 := Lib.hid (gr_grown HG.out g6 (fun q e => hlt6 q e))
              clear ho6 g6 hlt6
              go_wp2_with (fail)
              go_roundw
              case rel => exact ⟨k + 1, F ++ [(k : Int)], by omega, by go_num, by simp; omega, by simpa [ints] using HO6.out, HG6.out⟩
              case measure => simp [intOf]; omega
          · have HG := Lib.hid hgr
            clear hgr hof
            go_wp2_with (fail)
            go_loopw [94] (fun i wr => ∃ k : Nat, k ≤ os.length ∧ i = .int .i64 k ∧ w4.grownBy wr none) (fun i _ => os.length - (intOf i).toNat)
            case atStart => exact ⟨0, Nat.zero_le _, rfl, HG.out⟩
            case round =>
              clear HG hF
              obtain ⟨k, hk, rfl, hgr⟩ := hrel
              obtain ⟨wo, rfl⟩ : ∃ wo : World, wo = wr := ⟨_, rfl⟩
              by_cases hlt : k < os.length
              · have ho5 := own_keep0 HO3.out hgr
                obtain ⟨lg, lcc, he5, _, _, _, _⟩ := own_some ho5 (by omega)
                cases he5
                obtain ⟨d1, _, _⟩ := own_int ho5 k hlt
                rw [List.getD_eq_getElem?_getD, List.getElem?_replicate, if_pos hlt] at d1
                simp only [Option.getD_some] at d1
                have HG := Lib.hid hgr
                clear ho5 hgr
                go_wp2_with (fail)
                go_loopw [100] (fun i wx => i = .int .i64 0 ∧ wx = wo) (fun _ _ => 0)
                case atStart => exact ⟨rfl, rfl⟩
                case round =>
                  obtain ⟨rfl, rfl⟩ := hrel
                  go_wp2_with (fail)
                  go_roundw
                  case rel => exact ⟨k + 1, by omega, by go_num, HG.out⟩
                  case measure => simp [intOf]; omega
              · have HG := Lib.hid hgr
                clear hgr
                go_wp2_with (fail)
                go_ret2
                exact ⟨_, xs.length, List.replicate xs.length ⟨#[]⟩, by rw [HR.out] <;> rfl, h60, by have := own_keep0 HO4.out HG.out; simpa [strs] using this, gr_trans g4 HG.out⟩
  · have h1 : (r != 0) = true := by simpa using hr0
    have h2 : (r == 0) = false := by simpa using hr0
    clear hr0
    go_wp2_with (fail)
    go_ret2
    exact ⟨_, 0, [], by rw [HR.out] <;> rfl, by omega, World.ownsRow_nil _ _ _ _, g1⟩
end Go.Proofs.YthikknnadmebgaaGreatDoor
