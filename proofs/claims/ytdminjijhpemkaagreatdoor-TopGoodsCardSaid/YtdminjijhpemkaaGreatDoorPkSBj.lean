/- Package shelf: right offers pass CheckOffers. -/
import Derived.Test.YtdminjijhpemkaaGreatDoorPkSBh
import Derived.Test.YtdminjijhpemkaaGreatDoorPkSAc
import Derived.Test.YtdminjijhpemkaaGreatDoorPkSBi
import Derived.Deep.DrawnRows
import Derived.IntWalk
import Derived.Deep.QuietTactic
import Derived.BigQuiet
import Derived.Deep.RegionLaw
import Derived.Deep.CutRange
import Derived.Test.YtdminjijhpemkaaGreatDoorPkSAk
namespace Go.Proofs.YtdminjijhpemkaaGreatDoor
open Go.RowKit
attribute [local go_sem ↓] Go.wp_at_zero Go.wp_at_succ

set_option maxRecDepth 100000 in
theorem or_zeros2 (n g c : Nat) (w : World) (hn : n ≤ 2) (h0 : ∀ k, k < n → w.cell? ⟨g, k, none⟩ = some (.int .i64 0)) :
    Calls Tryz.prog 110 #[.slice (some ⟨g, 0, none⟩) n c] w fun e w' => e = .returned (.int .i64 0) ∧ w = w' := by
  have H := Lib.hid h0
  clear h0
  go_enter Tryz.func110, Tryz.ntmps110
  go_wp2_with (fail)
  go_loop [8] (fun i => ∃ k : Nat, k ≤ n ∧ i = .int .i64 k) (fun i => n - (intOf i).toNat)
  case atStart => exact ⟨0, by omega, rfl⟩
  case round =>
    obtain ⟨k, hk, rfl⟩ := hrel
    by_cases hlt : k < n
    · have d0 := H.out k hlt
      go_wp2_with (fail)
      go_round
      case rel => exact ⟨k + 1, by omega, by go_num⟩
      case measure => simp [intOf]; omega
    · go_wp2_with (fail)
      go_ret
      exact ⟨rfl, rfl⟩
def leB (a b : ByteArray) : Bool := Op.bytesLess a.toList b.toList || a.toList == b.toList
structure KeysOk (xs : List ByteArray) : Prop where
  len : xs.length ≤ 10
  key : ∀ x ∈ xs, keyB x = true ∧ x.size ≤ 100
  up : ∀ i, 0 < i → i < xs.length → leB (xs.getD i ⟨#[]⟩) (xs.getD (i - 1) ⟨#[]⟩) = false
theorem str_cell {w : World} {a : Option Addr} {xs : List ByteArray} (h : CellsAt w a (strs xs)) (k : Nat) (hk : k < xs.length) : ∃ b off, a = some ⟨b, off, none⟩ ∧ w.cell? ⟨b, off + k, none⟩ = some (.string (xs.getD k ⟨#[]⟩)) := h k _ (strs_get xs k hk)
set_option maxRecDepth 100000 in
set_option maxHeartbeats 1000000 in
theorem keysFault_ok (xs : List ByteArray) (a : Option Addr) (c : Nat) (w : World) (h : CellsAt w a (strs xs)) (hok : KeysOk xs) :
    Calls Tryz.prog 151 #[.slice a xs.length c] w fun e w' => e = .returned (.int .i64 0) ∧ w = w' := by
  have hl := hok.len
  have HK := Lib.hid hok
  have H := Lib.hid h
  clear hok h
  go_enter Tryz.func151, Tryz.ntmps151
  go_wp2_with (fail)
  go_loop [10] (fun i => ∃ k : Nat, k ≤ xs.length ∧ i = .int .i64 k) (fun i => xs.length - (intOf i).toNat)
  case atStart => exact ⟨0, Nat.zero_le _, rfl⟩
  case round =>
    obtain ⟨k, hk, rfl⟩ := hrel
    by_cases hlt : k < xs.length
    · obtain ⟨b, off, rfl, d0⟩ := str_cell H.out k hlt
      obtain ⟨kx, ksz⟩ := HK.out.key (xs.getD k ⟨#[]⟩) (by rw [getD_eq xs k _ hlt]; exact List.getElem_mem hlt)
      by_cases h0 : 0 < k
      · have hup := HK.out.up k h0 hlt
        obtain ⟨b', off', he, d1⟩ := str_cell H.out (k - 1) (by omega)
        cases he
        obtain ⟨x, hx⟩ : ∃ x, x = xs.getD k ⟨#[]⟩ := ⟨_, rfl⟩
        obtain ⟨y, hy⟩ : ∃ y, y = xs.getD (k - 1) ⟨#[]⟩ := ⟨_, rfl⟩
        rw [← hx] at kx ksz hup d0
        rw [← hy] at hup d1
        have hup2 : (Op.bytesLess x.toList y.toList || x.toList == y.toList) = false := hup
        have d2 : w.cell? ⟨b, off + k - 1, none⟩ = some (.string y) := by rw [show off + k - 1 = off + (k - 1) by omega]; exact d1
        have hk1 : (((k - 1 : Nat)) : Int) = (k : Int) - 1 := by omega
        have HK1 := Lib.hid hk1
        have HKX := Lib.hid kx
        clear hx hy hup kx hk1
        have hint : (1 : Int) ≤ (k : Int) := by omega
        go_wp2_with (fail)
        refine (key_any x w (by omega)).mono ?_
        rintro e w2 ⟨rfl, rfl⟩
        rw [HKX.out]
        go_wp2_with (fail)
        go_round
        case rel => exact ⟨k + 1, by omega, by go_num⟩
        case measure => simp [intOf]; omega
      · obtain rfl : k = 0 := by omega
        obtain ⟨x, hx⟩ : ∃ x, x = xs.getD 0 ⟨#[]⟩ := ⟨_, rfl⟩
        rw [← hx] at kx ksz d0
        simp only [Nat.add_zero] at d0
        have HKX := Lib.hid kx
        clear hx kx
        go_wp2_with (fail)
        refine (key_any x w (by omega)).mono ?_
        rintro e w2 ⟨rfl, rfl⟩
        rw [HKX.out]
        go_wp2_with (fail)
        go_round
        case rel => exact ⟨1, by omega, by go_num⟩
        case measure => simp [intOf]; omega
    · obtain rfl : k = xs.length := by omega
      go_wp2_with (fail)
      go_ret
      exact ⟨rfl, rfl⟩

structure OffersOk (os : List Offer) : Prop where
  len : os.length ≤ 30
  key : ∀ o ∈ os, keyB o.key = true ∧ keyB o.group = true ∧ o.key.size ≤ 100 ∧ o.group.size ≤ 100
  prof : ∀ o ∈ os, 0 < o.profits.length ∧ o.profits.length ≤ 10 ∧ ∀ n ∈ o.profits, -1000000 ≤ n ∧ n ≤ 1000000
  sub : ∀ o ∈ os, KeysOk o.has ∧ KeysOk o.hates
  up : ∀ i (h0 : 0 < i) (h : i < os.length), leB os[i].key (os[i - 1]'(by omega)).key = false
theorem checkOffers1_fn : IsFn 150 := fun _ _ => by kernel_rfl
set_option maxRecDepth 100000 in
theorem checkOffers1_any (xs : List Int) (w : World) (h : ∀ n ∈ xs, -1000000 ≤ n ∧ n ≤ 1000000) : Answers 150 #[] (fun _ => false) xs w := by
  intro x hx w1 hg
  obtain ⟨h1, h2⟩ := h x hx
  clear h
  show Calls _ _ #[.int .i64 x] w1 _
  go_enter Tryz.func150, Tryz.ntmps150
  go_wp2_with (fail)
  refine (out_any x (-1000000) 1000000 w1).mono ?_
  rintro e w2 ⟨rfl, rfl⟩
  have e1 : (decide (x < -1000000) || decide (1000000 < x)) = false := by simp; omega
  rw [e1]
  go_wp2_with (fail)
  go_ret
  exact ⟨rfl, gr_refl _ _⟩
set_option maxRecDepth 100000 in
set_option maxHeartbeats 2000000 in
theorem checkOffers_ok (os : List Offer) (a : Option Addr) (vs : List OV) (c : Nat) (w : World) (h : OffsAt w a vs os) (hok : OffersOk os) :
    Calls Tryz.prog 111 #[.slice a os.length c] w fun e w' => e = .returned (.int .i64 0) ∧ w.grownBy w' none := by
  have hl := hok.len
  have HK := Lib.hid hok
  have H := Lib.hid h
  clear hok h
  go_enter Tryz.func111, Tryz.ntmps111
  go_wp2_with (fail)
  go_loopw [11] (fun i wr => ∃ k : Nat, k ≤ os.length ∧ i = .int .i64 k ∧ w.grownBy wr none) (fun i _ => os.length - (intOf i).toNat)
  case atStart => exact ⟨0, Nat.zero_le _, rfl, gr_refl _ _⟩
  case round =>
    obtain ⟨k, hk, rfl, hgr⟩ := hrel
    obtain ⟨wo, rfl⟩ : ∃ wo : World, wo = wr := ⟨_, rfl⟩
    by_cases hlt : k < os.length
    · obtain ⟨b, off, v, rfl, hr, d0, d1, d2, d3, d4⟩ := (H.out.keep0 hgr).at k hlt
      obtain ⟨k1, k2, k3, k4⟩ := HK.out.key os[k] (List.getElem_mem hlt)
      obtain ⟨p1, p2, p3⟩ := HK.out.prof os[k] (List.getElem_mem hlt)
      obtain ⟨s1, s2⟩ := HK.out.sub os[k] (List.getElem_mem hlt)
      have e1 := hr.key
      have e2 := hr.group
      have hpn := hr.pn
      have hhn := hr.hn
      have htn := hr.tn
      have CP := Lib.hid hr.pr
      have CH := Lib.hid hr.has
      have CT := Lib.hid hr.hat
      have hul := HK.out.up k
      obtain ⟨o, ho⟩ : ∃ o, o = os[k] := ⟨_, rfl⟩
      rw [← ho] at e1 e2 hpn hhn htn CP CH CT k1 k2 k3 k4 p1 p2 p3 s1 s2
      obtain ⟨vk, vg, pa, pn, pc, ha, hn, hc, ta, tn, tc⟩ := v
      simp only at e1 e2 hpn hhn htn CP CH CT d0 d1 d2 d3 d4
      subst e1 e2 hpn hhn htn
      have HO := Lib.hid ho
      have K1 := Lib.hid k1; have K2 := Lib.hid k2; have P3 := Lib.hid p3; have S1 := Lib.hid s1; have S2 := Lib.hid s2
      have HUL := Lib.hid hul
      clear hr ho k1 k2 p3 s1 s2 hul
      go_wp2_with (fail)
      have hO := heap_alloc_new wo (.cells #[.string o.key, .string o.group, .slice pa o.profits.length pc, .slice ha o.has.length hc, .slice ta o.hates.length tc] 132)
      have hg1 := gr_alloc (gr_refl wo none) (.cells #[.string o.key, .string o.group, .slice pa o.profits.length pc, .slice ha o.has.length hc, .slice ta o.hates.length tc] 132)
      obtain ⟨w1, hw1⟩ : ∃ w1, w1 = wo.alloc (.cells #[.string o.key, .string o.group, .slice pa o.profits.length pc, .slice ha o.has.length hc, .slice ta o.hates.length tc] 132) := ⟨_, rfl⟩
      rw [← hw1] at hO hg1
      rw [← hw1]
      obtain ⟨O, hOe⟩ : ∃ O, O = wo.heap.size := ⟨_, rfl⟩
      rw [← hOe] at hO
      rw [← hOe]
      have q0 := (gr_cell hg1 (lt_of_cell d0)).trans d0
      have hgr1 := gr_trans hgr hg1
      clear hw1 hOe d0 d1 d2 d3 d4
      obtain ⟨c0, c1, c2, c3, c4⟩ := blk5 hO
      refine (key_any o.key w1 (by omega)).mono ?_
      rintro e w2 ⟨rfl, rfl⟩
      rw [K1.out]
      have hint : ((os.length : Nat) : Int) ≤ 30 := by omega
      have HO1 := Lib.hid hO
      clear hO
      by_cases h0 : 0 < k
      · have hul := HUL.out h0 hlt
        rw [← HO.out] at hul
        obtain ⟨b', off', v', he, hr', m0, _⟩ := ((H.out.keep0 hgr1)).at (k - 1) (by omega)
        cases he
        have ek := hr'.key
        obtain ⟨y, hy⟩ : ∃ y, y = v'.key := ⟨_, rfl⟩
        rw [← hy] at m0 ek
        rw [← ek] at hul
        have hup2 : (Op.bytesLess o.key.toList y.toList || o.key.toList == y.toList) = false := hul
        have m1 : w1.cell? ⟨b, off + (k - 1) * 5, none⟩ = some (.string y) := m0
        have hkc : (((k - 1 : Nat)) : Int) = (k : Int) - 1 := by omega
        have hint1 : (0 : Int) ≤ (k : Int) - 1 := by omega
        have hint2 : (k : Int) - 1 < (os.length : Int) := by omega
        have hint3 : (0 : Int) < (k : Int) := by omega
        have htn : ((k : Int) - 1).toNat = k - 1 := by omega
        have hwr : IntKind.i64.wrap ((k : Int) - 1) = (k : Int) - 1 := IntWalk.i64_in _ (by omega)
        clear hr' hy ek hul m0 hkc
        go_wp2_with (fail)
        go_quiet (fail)
        go_wp2_with (fail)
        refine (key_any o.group (w1.drewN nq) (by omega)).mono ?_
        rintro e w2 ⟨rfl, rfl⟩
        rw [K2.out]
        go_wp2_with (fail)
        have hgd1 := gr_drewN (gr_refl w1 none) nq
        have hgq := gr_trans hgr1 hgd1
        refine (containsFunc_int _ (fun _ => false) o.profits pa pc (w1.drewN nq) (CP.out.keep0 (gr_trans hg1 hgd1)) (by omega) checkOffers1_fn (checkOffers1_any o.profits _ P3.out)).mono ?_
        rintro e w3 ⟨rfl, hg3⟩
        have hany : o.profits.any (fun _ => false) = false := by simp
        rw [hany]
        have hg13 := gr_trans hgd1 hg3
        have hO3 := (hg13.block O (lt_of_block HO1.out) (by simp)).trans HO1.out
        have g03 := gr_trans hg1 hg13
        have hgd := gr_drew (gr_refl w3 none)
        have KF1 : Hid (∀ W, w3.grownBy W none → Calls Tryz.prog 151 #[.slice ha o.has.length hc] W fun e w' => e = .returned (.int .i64 0) ∧ W = w') := fun W g => keysFault_ok o.has ha hc W (CH.out.keep0 (gr_trans g03 g)) S1.out
        have KF2 : Hid (∀ W, w3.grownBy W none → Calls Tryz.prog 151 #[.slice ta o.hates.length tc] W fun e w' => e = .returned (.int .i64 0) ∧ W = w') := fun W g => keysFault_ok o.hates ta tc W (CT.out.keep0 (gr_trans g03 g)) S2.out
        have hgr3 := gr_trans hgr1 hg13
        clear c0 c1 c2 c3 c4
        obtain ⟨c0, c1, c2, c3, c4⟩ := blk5 hO3
        clear hO3 hg13 g03 hg3 hgd1 hany c0 c1 c2
        go_wp2_with (fail)
        go_cut [5] from 54 to 61 (fun s wx => s = .int .i64 0 ∧ w3.grownBy wx none)
        case first =>
          go_region_law (first
            | (go_simp; go_at_call 151; (first | (with_reducible refine (KF1.out _ ?_).mono ?_) | (with_reducible refine (KF2.out _ ?_).mono ?_)); (· exact hgd); rintro e w4 ⟨rfl, rfl⟩)
            | (go_simp; go_at_call 110; (with_reducible refine (or_zeros2 2 w3.heap.size 2 _ (by decide) ?_).mono ?_); (· intro j hj; have : j = 0 ∨ j = 1 := (by omega); rcases this with rfl | rfl <;> exact made_cell (gr_drew (gr_refl _ _)) _ rfl); rintro e w5 ⟨rfl, rfl⟩)
            | fail)
          all_goals (go_wp2_with (fail); go_meet; exact ⟨rfl, gr_drew (gr_alloc (gr_refl _ _) _)⟩)
        case rest =>
        obtain ⟨rfl, hgc⟩ := hcut
        go_wp2_with (fail)
        go_roundw
        case rel => exact ⟨k + 1, by omega, by go_num, gr_trans hgr3 hgc⟩
        case measure => simp [intOf]; omega
      · obtain rfl : k = 0 := by omega
        have hdf : decide ((0 : Int) < 0) = false := by decide
        go_wp2_with (fail)
        go_quiet (fail)
        go_wp2_with (fail)
        refine (key_any o.group (w1.drewN nq) (by omega)).mono ?_
        rintro e w2 ⟨rfl, rfl⟩
        rw [K2.out]
        go_wp2_with (fail)
        have hgd1 := gr_drewN (gr_refl w1 none) nq
        have hgq := gr_trans hgr1 hgd1
        refine (containsFunc_int _ (fun _ => false) o.profits pa pc (w1.drewN nq) (CP.out.keep0 (gr_trans hg1 hgd1)) (by omega) checkOffers1_fn (checkOffers1_any o.profits _ P3.out)).mono ?_
        rintro e w3 ⟨rfl, hg3⟩
        have hany : o.profits.any (fun _ => false) = false := by simp
        rw [hany]
        have hg13 := gr_trans hgd1 hg3
        have hO3 := (hg13.block O (lt_of_block HO1.out) (by simp)).trans HO1.out
        have g03 := gr_trans hg1 hg13
        have hgd := gr_drew (gr_refl w3 none)
        have KF1 : Hid (∀ W, w3.grownBy W none → Calls Tryz.prog 151 #[.slice ha o.has.length hc] W fun e w' => e = .returned (.int .i64 0) ∧ W = w') := fun W g => keysFault_ok o.has ha hc W (CH.out.keep0 (gr_trans g03 g)) S1.out
        have KF2 : Hid (∀ W, w3.grownBy W none → Calls Tryz.prog 151 #[.slice ta o.hates.length tc] W fun e w' => e = .returned (.int .i64 0) ∧ W = w') := fun W g => keysFault_ok o.hates ta tc W (CT.out.keep0 (gr_trans g03 g)) S2.out
        have hgr3 := gr_trans hgr1 hg13
        clear c0 c1 c2 c3 c4
        obtain ⟨c0, c1, c2, c3, c4⟩ := blk5 hO3
        clear hO3 hg13 g03 hg3 hgd1 hany c0 c1 c2
        go_wp2_with (fail)
        go_cut [5] from 54 to 61 (fun s wx => s = .int .i64 0 ∧ w3.grownBy wx none)
        case first =>
          go_region_law (first
            | (go_simp; go_at_call 151; (first | (with_reducible refine (KF1.out _ ?_).mono ?_) | (with_reducible refine (KF2.out _ ?_).mono ?_)); (· exact hgd); rintro e w4 ⟨rfl, rfl⟩)
            | (go_simp; go_at_call 110; (with_reducible refine (or_zeros2 2 w3.heap.size 2 _ (by decide) ?_).mono ?_); (· intro j hj; have : j = 0 ∨ j = 1 := (by omega); rcases this with rfl | rfl <;> exact made_cell (gr_drew (gr_refl _ _)) _ rfl); rintro e w5 ⟨rfl, rfl⟩)
            | fail)
          all_goals (go_wp2_with (fail); go_meet; exact ⟨rfl, gr_drew (gr_alloc (gr_refl _ _) _)⟩)
        case rest =>
        obtain ⟨rfl, hgc⟩ := hcut
        go_wp2_with (fail)
        go_roundw
        case rel => exact ⟨1, by omega, by go_num, gr_trans hgr3 hgc⟩
        case measure => simp [intOf]; omega
    · obtain rfl : k = os.length := by omega
      go_wp2_with (fail)
      go_ret
      exact ⟨rfl, hgr⟩
end Go.Proofs.YtdminjijhpemkaaGreatDoor

/-! Package shelf: counts that are right; what they are worth. -/
namespace Go.Proofs.YtdminjijhpemkaaGreatDoor
open Go.RowKit
attribute [local go_sem ↓] Go.wp_at_zero Go.wp_at_succ

structure CountsOk (os : List Offer) (cs : List Int) : Prop where
  len : cs.length = os.length
  all : ∀ i (h : i < os.length), 0 ≤ cs.getD i 0 ∧ cs.getD i 0 ≤ os[i].profits.length
set_option maxRecDepth 100000 in
set_option maxHeartbeats 1000000 in
theorem countsFault_ok (os : List Offer) (cs : List Int) (a ca : Option Addr) (vs : List OV) (c cc : Nat) (w : World) (h : OffsAt w a vs os) (hc : CellsAt w ca (ints cs)) (hok : CountsOk os cs) (hl : os.length ≤ 100000) :
    Calls Tryz.prog 112 #[.slice a os.length c, .slice ca os.length cc] w fun e w' => e = .returned (.int .i64 0) ∧ w = w' := by
  have H := Lib.hid h
  have HK := Lib.hid hok
  have HC := Lib.hid hc
  clear h hok hc
  go_enter Tryz.func112, Tryz.ntmps112
  go_wp2_with (fail)
  go_loop [14] (fun i => ∃ k : Nat, k ≤ os.length ∧ i = .int .i64 k) (fun i => os.length - (intOf i).toNat)
  case atStart => exact ⟨0, Nat.zero_le _, rfl⟩
  case round =>
    obtain ⟨k, hk, rfl⟩ := hrel
    by_cases hlt : k < os.length
    · obtain ⟨b, off, v, rfl, hr, _, _, d2, _⟩ := H.out.at k hlt
      obtain ⟨n0, n1⟩ := HK.out.all k hlt
      obtain ⟨b', off', rfl, d0⟩ := HC.out k _ (ints_get cs k (by rw [HK.out.len]; exact hlt))
      have hpn := hr.pn
      obtain ⟨pa, hpa⟩ : ∃ x, x = v.pa := ⟨_, rfl⟩
      obtain ⟨pc, hpc⟩ : ∃ x, x = v.pc := ⟨_, rfl⟩
      obtain ⟨pn, hp⟩ : ∃ x, x = v.pn := ⟨_, rfl⟩
      obtain ⟨n, hn⟩ : ∃ n, n = cs.getD k 0 := ⟨_, rfl⟩
      rw [← hn] at n0 n1 d0
      rw [← hpa, ← hpc, ← hp] at d2
      rw [← hp] at hpn
      rw [← hpn] at n1
      clear hr hpn hpa hpc hp hn
      go_wp2_with (fail)
      refine (out_any n 0 pn w).mono ?_
      rintro e w2 ⟨rfl, rfl⟩
      have e1 : (decide (n < 0) || decide ((pn : Int) < n)) = false := by simp; omega
      rw [e1]
      go_wp2_with (fail)
      go_round
      case rel => exact ⟨k + 1, by omega, by go_num⟩
      case measure => simp [intOf]; omega
    · obtain rfl : k = os.length := by omega
      go_wp2_with (fail)
      go_ret
      exact ⟨rfl, rfl⟩
/-- What the first n profits of an offer add up to. -/
def usedM (o : Offer) (n : Int) : Int := (o.profits.take n.toNat).sum
set_option maxRecDepth 100000 in
set_option maxHeartbeats 1000000 in
theorem used_any (key group : ByteArray) (ps : List Int) (pa ha ta : Option Addr) (pc hm hc tn tc n : Nat) (w : World) (h : CellsAt w pa (ints ps)) (hl : ps.length ≤ 10) (hc1 : ps.length ≤ pc) (hc2 : pc ≤ maxLen) (hb : ∀ x ∈ ps, -1000000 ≤ x ∧ x ≤ 1000000) (hn : n ≤ ps.length) :
    Calls Tryz.prog 113 #[.agg #[.string key, .string group, .slice pa ps.length pc, .slice ha hm hc, .slice ta tn tc], .int .i64 n] w fun e w' => e = .returned (.int .i64 (ps.take n).sum) ∧ w.grownBy w' none := by
  have hO := heap_alloc_new w (.cells #[.string key, .string group, .slice pa ps.length pc, .slice ha hm hc, .slice ta tn tc] 132)
  have hg1 := gr_alloc (gr_refl w none) (.cells #[.string key, .string group, .slice pa ps.length pc, .slice ha hm hc, .slice ta tn tc] 132)
  obtain ⟨w1, hw1⟩ : ∃ w1, w1 = w.alloc (.cells #[.string key, .string group, .slice pa ps.length pc, .slice ha hm hc, .slice ta tn tc] 132) := ⟨_, rfl⟩
  rw [← hw1] at hO hg1
  have HW := Lib.hid hw1
  have H := Lib.hid (h.keep0 hg1)
  have HB := Lib.hid (sum_bound ps (-1000000) 1000000 (by omega) (by omega) hb)
  unfold maxLen at hc2
  have c2 := blkC hO 2 rfl
  clear h hb hw1
  go_enter Tryz.func113, Tryz.ntmps113
  go_wp2_with (fail)
  rw [← HW.out]
  go_wp2_with (fail)
  go_loop [5, 13] (fun s i => ∃ k : Nat, k ≤ n ∧ i = .int .i64 k ∧ s = .int .i64 (ps.take k).sum) (fun _ i => n - (intOf i).toNat)
  case atStart => exact ⟨0, Nat.zero_le _, rfl, rfl⟩
  case round =>
    obtain ⟨k, hk, rfl, rfl⟩ := hrel
    by_cases hlt : k < n
    · obtain ⟨b, off, rfl, d0⟩ := H.out k _ (ints_get ps k (by omega))
      obtain ⟨b0, b1⟩ := HB.out k
      obtain ⟨b2, b3⟩ := HB.out (k + 1)
      have hnx := sum_next ps k (by omega)
      obtain ⟨x, hx⟩ : ∃ x, x = ps.getD k 0 := ⟨_, rfl⟩
      obtain ⟨s, hs⟩ : ∃ s, s = (ps.take k).sum := ⟨_, rfl⟩
      rw [← hx] at d0 hnx
      rw [← hs] at hnx b0 b1
      rw [← hs]
      rw [hnx] at b2 b3
      have HNX := Lib.hid hnx; clear hnx
      have HX := Lib.hid hx; clear hx
      have HS := Lib.hid hs; clear hs
      go_wp2_with (fail)
      go_round
      case rel => exact ⟨k + 1, by omega, by go_num, by rw [HNX.out]⟩
      case measure => simp [intOf]; omega
    · obtain rfl : k = n := by omega
      go_wp2_with (fail)
      go_ret
      exact ⟨rfl, hg1⟩
/-- What counts are worth. -/
def worthS (os : List Offer) (cs : List Int) : List Int := (os.zip cs).map fun p => usedM p.1 p.2
theorem worthS_len (os : List Offer) (cs : List Int) (h : cs.length = os.length) : (worthS os cs).length = os.length := by simp [worthS, h]
theorem worthS_get (os : List Offer) (cs : List Int) (h : cs.length = os.length) (k : Nat) (hk : k < os.length) : (worthS os cs).getD k 0 = usedM os[k] (cs.getD k 0) := by
  rw [List.getD_eq_getElem?_getD, List.getD_eq_getElem?_getD, List.getElem?_eq_getElem (by rw [worthS_len os cs h]; exact hk), List.getElem?_eq_getElem (by omega)]
  simp [worthS]
theorem usedM_bd (o : Offer) (n : Int) (h : o.profits.length ≤ 10) (hb : ∀ x ∈ o.profits, -1000000 ≤ x ∧ x ≤ 1000000) : -10000000 ≤ usedM o n ∧ usedM o n ≤ 10000000 := by
  have h1 : (o.profits.take n.toNat).length ≤ 10 := by rw [List.length_take]; omega
  have := sum_bound_all (o.profits.take n.toNat) (-1000000) 1000000 (by omega) (by omega) (fun x hx => hb x (List.mem_of_mem_take hx))
  unfold usedM
  omega
theorem worthS_bd (os : List Offer) (cs : List Int) (hok : OffersOk os) : ∀ x ∈ worthS os cs, -10000000 ≤ x ∧ x ≤ 10000000 := by
  intro x hx
  unfold worthS at hx
  obtain ⟨p, hp, rfl⟩ := List.mem_map.1 hx
  obtain ⟨_, q2, q3⟩ := hok.prof p.1 (List.of_mem_zip hp).1
  exact usedM_bd _ _ q2 q3
set_option maxRecDepth 100000 in
set_option maxHeartbeats 1000000 in
theorem worthS_any (os : List Offer) (cs : List Int) (a ca : Option Addr) (vs : List OV) (c cc : Nat) (w : World) (h : OffsAt w a vs os) (hok : OffersOk os) (hc : CellsAt w ca (ints cs)) (hco : CountsOk os cs) :
    Calls Tryz.prog 61 #[.slice a os.length c, .slice ca os.length cc] w fun e w' => e = .returned (.tuple #[.int .i64 (worthS os cs).sum, .int .i64 0]) ∧ w.grownBy w' none := by
  have hl := hok.len
  have H := Lib.hid h
  have HC := Lib.hid hc
  have HK := Lib.hid hok
  have HCO := Lib.hid hco
  have HB := Lib.hid (sum_bound (worthS os cs) (-10000000) 10000000 (by omega) (by omega) (worthS_bd os cs hok))
  clear h hc hok hco
  go_enter Tryz.func61, Tryz.ntmps61
  go_wp2_with (fail)
  refine (checkOffers_ok os a vs c w H.out HK.out).mono ?_
  rintro e w1 ⟨rfl, g1⟩
  go_wp2_with (fail)
  have g1a := gr_alloc g1 (.cells #[.int .i64 0] 34)
  refine (or_zeros2 1 w1.heap.size _ _ (by decide) (fun j hj => ?_)).mono ?_
  · obtain rfl : j = 0 := by omega
    exact made_cell (gr_refl _ _) _ rfl
  rintro e w2 ⟨rfl, rfl⟩
  go_wp2_with (fail)
  refine (countsFault_ok os cs a ca vs c cc _ (H.out.keep0 g1a) (HC.out.keep0 g1a) HCO.out (by omega)).mono ?_
  rintro e w2 ⟨rfl, rfl⟩
  obtain ⟨w3, hw3⟩ : ∃ w3, w3 = w1.alloc (.cells #[.int .i64 0] 34) := ⟨_, rfl⟩
  rw [← hw3] at g1a
  rw [← hw3]
  clear hw3 g1
  go_wp2_with (fail)
  go_loopw [8, 26] (fun s i wr => ∃ k : Nat, k ≤ os.length ∧ i = .int .i64 k ∧ s = .int .i64 ((worthS os cs).take k).sum ∧ w.grownBy wr none) (fun _ i _ => os.length - (intOf i).toNat)
  case atStart => exact ⟨0, Nat.zero_le _, rfl, rfl, g1a⟩
  case round =>
    obtain ⟨k, hk, rfl, rfl, hgr⟩ := hrel
    obtain ⟨wo, rfl⟩ : ∃ wo : World, wo = wr := ⟨_, rfl⟩
    by_cases hlt : k < os.length
    · obtain ⟨b, off, v, rfl, hr, d0, d1, d2, d3, d4⟩ := (H.out.keep0 hgr).at k hlt
      obtain ⟨p1, p2, p3⟩ := HK.out.prof os[k] (List.getElem_mem hlt)
      obtain ⟨n0, n1⟩ := HCO.out.all k hlt
      obtain ⟨b', off', rfl, f0⟩ := (HC.out.keep0 hgr) k _ (ints_get cs k (by rw [HCO.out.len]; exact hlt))
      obtain ⟨b0, b1⟩ := HB.out k
      obtain ⟨b2, b3⟩ := HB.out (k + 1)
      have hnx := sum_next (worthS os cs) k (by rw [worthS_len _ _ HCO.out.len]; exact hlt)
      rw [worthS_get os cs HCO.out.len k hlt] at hnx
      obtain ⟨s, hs⟩ : ∃ s, s = ((worthS os cs).take k).sum := ⟨_, rfl⟩
      obtain ⟨n, hn⟩ : ∃ n : Nat, cs.getD k 0 = (n : Int) := ⟨(cs.getD k 0).toNat, by omega⟩
      rw [hn] at n1 f0 hnx
      obtain ⟨x, hx⟩ : ∃ x, x = usedM os[k] n := ⟨_, rfl⟩
      have hx2 : (os[k].profits.take n).sum = x := by rw [hx]; simp [usedM]
      rw [← hx, ← hs] at hnx
      rw [hnx] at b2 b3
      rw [← hs] at b0 b1
      rw [← hs]
      have hpn := hr.pn
      have hcap := hr.cap
      have CP := Lib.hid hr.pr
      obtain ⟨o, ho⟩ : ∃ o, o = os[k] := ⟨_, rfl⟩
      rw [← ho] at hpn CP p1 p2 p3 n1 hx2
      obtain ⟨vk, vg, pa, pn, pc, ha, hn', hc, ta, tn, tc⟩ := v
      simp only at hpn hcap CP d0 d1 d2 d3 d4
      subst hpn
      have hn2 : n ≤ o.profits.length := by omega
      have UA : Hid (∀ W, wo.grownBy W none → Calls Tryz.prog 113 #[.agg #[.string vk, .string vg, .slice pa o.profits.length pc, .slice ha hn' hc, .slice ta tn tc], .int .i64 n] W fun e w' => e = .returned (.int .i64 x) ∧ W.grownBy w' none) := fun W g => by
        have := used_any vk vg o.profits pa ha ta pc hn' hc tn tc n W (CP.out.keep0 g) p2 hcap.1 hcap.2 p3 hn2
        rw [hx2] at this
        exact this
      have HNX := Lib.hid hnx
      have HGR := Lib.hid hgr
      clear hr ho hx hx2 hs hnx hn p3 hgr n0 n1
      go_wp2_with (fail)
      have hO := heap_alloc_new wo (.cells #[.string vk, .string vg, .slice pa o.profits.length pc, .slice ha hn' hc, .slice ta tn tc] 132)
      have hg1 := gr_alloc (gr_refl wo none) (.cells #[.string vk, .string vg, .slice pa o.profits.length pc, .slice ha hn' hc, .slice ta tn tc] 132)
      obtain ⟨w1', hw1⟩ : ∃ w1', w1' = wo.alloc (.cells #[.string vk, .string vg, .slice pa o.profits.length pc, .slice ha hn' hc, .slice ta tn tc] 132) := ⟨_, rfl⟩
      rw [← hw1] at hO hg1
      rw [← hw1]
      obtain ⟨O, hOe⟩ : ∃ O, O = wo.heap.size := ⟨_, rfl⟩
      rw [← hOe] at hO
      rw [← hOe]
      have f1 := (gr_cell hg1 (lt_of_cell f0)).trans f0
      have hgd := gr_drew (gr_refl w1' none)
      clear hw1 hOe d0 d1 d2 d3 d4 f0
      obtain ⟨c0, c1, c2, c3, c4⟩ := blk5 hO
      have hnlt : (n : Int) ≤ 10 := by omega
      have hl9 := HCO.out.len
      have HC1 : w.grownBy w1' none := gr_trans HGR.out hg1
      go_region_law (first
        | (go_simp; go_at_call 113; (with_reducible refine (UA.out _ ?_).mono ?_); (· exact gr_trans hg1 hgd); rintro e w4 ⟨rfl, g4⟩)
        | fail)
      all_goals
        go_wp2_with (fail)
        go_roundw
        case rel => exact ⟨k + 1, by omega, by go_num, by rw [HNX.out], gr_trans (gr_trans HC1 hgd) g4⟩
        case measure => simp [intOf]; omega
    · obtain rfl : k = os.length := by omega
      have hfin : Hid (((worthS os cs).take os.length).sum = (worthS os cs).sum) := by show _ = _; rw [List.take_of_length_le (by rw [worthS_len _ _ HCO.out.len]; exact Nat.le_refl _)]
      go_wp2_with (fail)
      go_ret2
      exact ⟨by rw [hfin.out] <;> rfl, hgr⟩
end Go.Proofs.YtdminjijhpemkaaGreatDoor

/-! The one offer that the statements ask the worth of. -/
namespace Go.Proofs.YtdminjijhpemkaaGreatDoor
open Go.RowKit

def oneOffer : List Offer := [⟨⟨#[97]⟩, ⟨#[103]⟩, [5], [], []⟩]
theorem oneOffer_ok : OffersOk oneOffer := by
  refine ⟨by decide, fun o ho => ?_, fun o ho => ?_, fun o ho => ?_, fun i h0 h => ?_⟩
  · simp only [oneOffer, List.mem_cons, List.not_mem_nil, or_false] at ho; subst ho; decide
  · simp only [oneOffer, List.mem_cons, List.not_mem_nil, or_false] at ho; subst ho; decide
  · simp only [oneOffer, List.mem_cons, List.not_mem_nil, or_false] at ho; subst ho
    exact ⟨⟨by decide, fun x hx => by simp at hx, fun i _ hi => by simp at hi⟩, ⟨by decide, fun x hx => by simp at hx, fun i _ hi => by simp at hi⟩⟩
  · simp [oneOffer] at h; omega
theorem oneCount_ok : CountsOk oneOffer [1] := by
  refine ⟨by decide, fun i hi => ?_⟩
  simp [oneOffer] at hi
  subst hi
  simp [oneOffer]
end Go.Proofs.YtdminjijhpemkaaGreatDoor

/-! slices.Index and slices.Contains at strings. -/
namespace Go.Proofs.YtdminjijhpemkaaGreatDoor
open Go.RowKit
attribute [local go_sem ↓] Go.wp_at_zero Go.wp_at_succ

theorem indexStr_any (xs : List ByteArray) (v : ByteArray) (a : Option Addr) (c : Nat) (w : World) (hc : CellsAt w a (strs xs)) (hl : xs.length ≤ 100000) :
    Calls Tryz.prog 168 #[.slice a xs.length c, .string v] w fun e w' => e = .returned (.int .i64 (findA (fun s => v.toList == s.toList) xs)) ∧ w.grownBy w' none := by
  have HC := Lib.hid hc
  clear hc
  go_enter Tryz.func168, Tryz.ntmps168
  go_wp2_with (fail)
  go_loopw [8] (fun i wr => ∃ k : Nat, k ≤ xs.length ∧ i = .int .i64 k ∧ (∀ j (hj : j < xs.length), j < k → (v.toList == xs[j].toList) = false) ∧ w.grownBy wr none) (fun i _ => xs.length - (intOf i).toNat)
  case atStart => exact ⟨0, Nat.zero_le _, rfl, fun j _ hj => absurd hj (Nat.not_lt_zero _), gr_refl _ _⟩
  case round =>
    obtain ⟨k, hk, rfl, hno, hgr⟩ := hrel
    obtain ⟨wo, rfl⟩ : ∃ wo : World, wo = wr := ⟨_, rfl⟩
    have HNO := Lib.hid hno
    have HG := Lib.hid hgr
    by_cases hlt : k < xs.length
    · obtain ⟨b, off, rfl, d0⟩ := str_cell (HC.out.keep0 hgr) k hlt
      rw [getD_eq xs k _ hlt] at d0
      obtain ⟨x, hx⟩ : ∃ x, x = xs[k] := ⟨_, rfl⟩
      rw [← hx] at d0
      have HX := Lib.hid hx
      clear hno hgr hx
      obtain ⟨bb, hbb⟩ : ∃ bb, bb = (v.toList == x.toList) := ⟨_, rfl⟩
      have hE : (v.toList == x.toList) = bb := hbb.symm
      clear hbb
      cases bb with
      | true =>
        have HE := Lib.hid hE
        go_wp2_with (fail)
        go_ret
        exact ⟨ret_int (findA_at hlt (by rw [← HX.out]; exact HE.out) (fun j hj => HNO.out j (by omega) hj)).symm, HG.out⟩
      | false =>
        have HE := Lib.hid hE
        go_wp2_with (fail)
        go_roundw
        case rel =>
          refine ⟨k + 1, by omega, by go_num, fun j hjl hj => ?_, HG.out⟩
          by_cases hjk : j = k
          · subst hjk; rw [← HX.out]; exact HE.out
          · exact HNO.out j hjl (by omega)
        case measure => simp [intOf]; omega
    · have hkl : k = xs.length := by omega
      have HK := Lib.hid hkl
      clear hkl hno hgr
      go_wp2_with (fail)
      go_ret
      exact ⟨ret_int (findA_none (fun j hj => HNO.out j hj (by rw [HK.out]; exact hj))).symm, HG.out⟩
theorem containsStr_any (xs : List ByteArray) (v : ByteArray) (a : Option Addr) (c : Nat) (w : World) (hc : CellsAt w a (strs xs)) (hl : xs.length ≤ 100000) :
    Calls Tryz.prog 134 #[.slice a xs.length c, .string v] w fun e w' => e = .returned (.bool (xs.any (fun s => v.toList == s.toList))) ∧ w.grownBy w' none := by
  have HA := Lib.hid (any_findA (fun s : ByteArray => v.toList == s.toList) xs)
  go_enter Tryz.func134, Tryz.ntmps134
  go_wp2_with (fail)
  refine (indexStr_any xs v a c w hc hl).mono ?_
  rintro e w1 ⟨rfl, hg1⟩
  go_wp2_with (fail)
  go_ret
  exact ⟨ret_bool (by rw [HA.out]), hg1⟩
end Go.Proofs.YtdminjijhpemkaaGreatDoor
