/- Package shelf: right offers pass CheckOffers. -/
import Derived.Test.YtjhdngfliakidaaDoorPkCAt
import Derived.Test.YtjhdngfliakidaaDoorPkCAd
import Derived.Test.YtjhdngfliakidaaDoorPkCAu
import Derived.Deep.DrawnRows
import Derived.IntWalk
import Derived.Deep.QuietTactic
import Derived.BigQuiet
import Derived.Deep.RegionLaw
import Derived.Deep.CutRange
import Derived.Test.YtjhdngfliakidaaDoorPkCAm
import Derived.Test.YtjhdngfliakidaaDoorPkCAr
import Derived.Test.YtjhdngfliakidaaDoorPkCAc
import Derived.Test.YtjhdngfliakidaaDoorPkCAb
namespace Go.Proofs.YtjhdngfliakidaaDoor
open Go.RowKit
attribute [local go_sem ↓] Go.wp_at_zero Go.wp_at_succ

set_option maxRecDepth 100000 in
theorem or_zeros2 (n g c : Nat) (w : World) (hn : n ≤ 2) (h0 : ∀ k, k < n → w.cell? ⟨g, k, none⟩ = some (.int .i64 0)) :
    Calls Tryd.prog 61 #[.slice (some ⟨g, 0, none⟩) n c] w fun e w' => e = .returned (.int .i64 0) ∧ w = w' := by
  have H := Lib.hid h0
  clear h0
  go_enter Tryd.func61, Tryd.ntmps61
  go_wp2_with (fail)
  go_loop [8] (fun i => ∃ k : Nat, k ≤ n ∧ i = .int .i64 k) (fun i => n - (intOf i).toNat)
  case atStart => exact ⟨0, by omega, rfl⟩
  case round =>
    obtain ⟨k, hk, rfl⟩ := hrel
    by_cases hlt : k < n
    · have d0 := H.out k hlt
      go_wp2_with (fail)
      go_round
      case rel => exact ⟨k + 1, by omega, by go_num⟩
      case measure => simp [intOf]; omega
    · go_wp2_with (fail)
      go_ret
      exact ⟨rfl, rfl⟩
def leB (a b : ByteArray) : Bool := Op.bytesLess a.toList b.toList || a.toList == b.toList
structure KeysOk (xs : List ByteArray) : Prop where
  len : xs.length ≤ 10
  key : ∀ x ∈ xs, keyB x = true ∧ x.size ≤ 100
  up : ∀ i, 0 < i → i < xs.length → leB (xs.getD i ⟨#[]⟩) (xs.getD (i - 1) ⟨#[]⟩) = false
theorem str_cell {w : World} {a : Option Addr} {xs : List ByteArray} (h : CellsAt w a (strs xs)) (k : Nat) (hk : k < xs.length) : ∃ b off, a = some ⟨b, off, none⟩ ∧ w.cell? ⟨b, off + k, none⟩ = some (.string (xs.getD k ⟨#[]⟩)) := h k _ (strs_get xs k hk)
set_option maxRecDepth 100000 in
set_option maxHeartbeats 1000000 in
theorem keysFault_ok (xs : List ByteArray) (a : Option Addr) (c : Nat) (w : World) (h : CellsAt w a (strs xs)) (hok : KeysOk xs) :
    Calls Tryd.prog 94 #[.slice a xs.length c] w fun e w' => e = .returned (.int .i64 0) ∧ w = w' := by
  have hl := hok.len
  have HK := Lib.hid hok
  have H := Lib.hid h
  clear hok h
  go_enter Tryd.func94, Tryd.ntmps94
  go_wp2_with (fail)
  go_loop [10] (fun i => ∃ k : Nat, k ≤ xs.length ∧ i = .int .i64 k) (fun i => xs.length - (intOf i).toNat)
  case atStart => exact ⟨0, Nat.zero_le _, rfl⟩
  case round =>
    obtain ⟨k, hk, rfl⟩ := hrel
    by_cases hlt : k < xs.length
    · obtain ⟨b, off, rfl, d0⟩ := str_cell H.out k hlt
      obtain ⟨kx, ksz⟩ := HK.out.key (xs.getD k ⟨#[]⟩) (by rw [getD_eq xs k _ hlt]; exact List.getElem_mem hlt)
      by_cases h0 : 0 < k
      · have hup := HK.out.up k h0 hlt
        obtain ⟨b', off', he, d1⟩ := str_cell H.out (k - 1) (by omega)
        cases he
        obtain ⟨x, hx⟩ : ∃ x, x = xs.getD k ⟨#[]⟩ := ⟨_, rfl⟩
        obtain ⟨y, hy⟩ : ∃ y, y = xs.getD (k - 1) ⟨#[]⟩ := ⟨_, rfl⟩
        rw [← hx] at kx ksz hup d0
        rw [← hy] at hup d1
        have hup2 : (Op.bytesLess x.toList y.toList || x.toList == y.toList) = false := hup
        have d2 : w.cell? ⟨b, off + k - 1, none⟩ = some (.string y) := by rw [show off + k - 1 = off + (k - 1) by omega]; exact d1
        have hk1 : (((k - 1 : Nat)) : Int) = (k : Int) - 1 := by omega
        have HK1 := Lib.hid hk1
        have HKX := Lib.hid kx
        clear hx hy hup kx hk1
        have hint : (1 : Int) ≤ (k : Int) := by omega
        go_wp2_with (fail)
        refine (key_any x w (by omega)).mono ?_
        rintro e w2 ⟨rfl, rfl⟩
        rw [HKX.out]
        go_wp2_with (fail)
        go_round
        case rel => exact ⟨k + 1, by omega, by go_num⟩
        case measure => simp [intOf]; omega
      · obtain rfl : k = 0 := by omega
        obtain ⟨x, hx⟩ : ∃ x, x = xs.getD 0 ⟨#[]⟩ := ⟨_, rfl⟩
        rw [← hx] at kx ksz d0
        simp only [Nat.add_zero] at d0
        have HKX := Lib.hid kx
        clear hx kx
        go_wp2_with (fail)
        refine (key_any x w (by omega)).mono ?_
        rintro e w2 ⟨rfl, rfl⟩
        rw [HKX.out]
        go_wp2_with (fail)
        go_round
        case rel => exact ⟨1, by omega, by go_num⟩
        case measure => simp [intOf]; omega
    · obtain rfl : k = xs.length := by omega
      go_wp2_with (fail)
      go_ret
      exact ⟨rfl, rfl⟩

structure OffersOk (os : List Offer) : Prop where
  len : os.length ≤ 30
  key : ∀ o ∈ os, keyB o.key = true ∧ keyB o.group = true ∧ o.key.size ≤ 100 ∧ o.group.size ≤ 100
  prof : ∀ o ∈ os, 0 < o.profits.length ∧ o.profits.length ≤ 10 ∧ ∀ n ∈ o.profits, -1000000 ≤ n ∧ n ≤ 1000000
  sub : ∀ o ∈ os, KeysOk o.has ∧ KeysOk o.hates
  up : ∀ i (h0 : 0 < i) (h : i < os.length), leB os[i].key (os[i - 1]'(by omega)).key = false
theorem checkOffers1_fn : IsFn 93 := fun _ _ => by kernel_rfl
set_option maxRecDepth 100000 in
theorem checkOffers1_any (xs : List Int) (w : World) (h : ∀ n ∈ xs, -1000000 ≤ n ∧ n ≤ 1000000) : Answers 93 #[] (fun _ => false) xs w := by
  intro x hx w1 hg
  obtain ⟨h1, h2⟩ := h x hx
  clear h
  show Calls _ _ #[.int .i64 x] w1 _
  go_enter Tryd.func93, Tryd.ntmps93
  go_wp2_with (fail)
  refine (out_any x (-1000000) 1000000 w1).mono ?_
  rintro e w2 ⟨rfl, rfl⟩
  have e1 : (decide (x < -1000000) || decide (1000000 < x)) = false := by simp; omega
  rw [e1]
  go_wp2_with (fail)
  go_ret
  exact ⟨rfl, gr_refl _ _⟩
set_option maxRecDepth 100000 in
set_option maxHeartbeats 2000000 in
theorem checkOffers_ok (os : List Offer) (a : Option Addr) (vs : List OV) (c : Nat) (w : World) (h : OffsAt w a vs os) (hok : OffersOk os) :
    Calls Tryd.prog 62 #[.slice a os.length c] w fun e w' => e = .returned (.int .i64 0) ∧ w.grownBy w' none := by
  have hl := hok.len
  have HK := Lib.hid hok
  have H := Lib.hid h
  clear hok h
  go_enter Tryd.func62, Tryd.ntmps62
  go_wp2_with (fail)
  go_loopw [11] (fun i wr => ∃ k : Nat, k ≤ os.length ∧ i = .int .i64 k ∧ w.grownBy wr none) (fun i _ => os.length - (intOf i).toNat)
  case atStart => exact ⟨0, Nat.zero_le _, rfl, gr_refl _ _⟩
  case round =>
    obtain ⟨k, hk, rfl, hgr⟩ := hrel
    obtain ⟨wo, rfl⟩ : ∃ wo : World, wo = wr := ⟨_, rfl⟩
    by_cases hlt : k < os.length
    · obtain ⟨b, off, v, rfl, hr, d0, d1, d2, d3, d4⟩ := (H.out.keep0 hgr).at k hlt
      obtain ⟨k1, k2, k3, k4⟩ := HK.out.key os[k] (List.getElem_mem hlt)
      obtain ⟨p1, p2, p3⟩ := HK.out.prof os[k] (List.getElem_mem hlt)
      obtain ⟨s1, s2⟩ := HK.out.sub os[k] (List.getElem_mem hlt)
      have e1 := hr.key
      have e2 := hr.group
      have hpn := hr.pn
      have hhn := hr.hn
      have htn := hr.tn
      have CP := Lib.hid hr.pr
      have CH := Lib.hid hr.has
      have CT := Lib.hid hr.hat
      have hul := HK.out.up k
      obtain ⟨o, ho⟩ : ∃ o, o = os[k] := ⟨_, rfl⟩
      rw [← ho] at e1 e2 hpn hhn htn CP CH CT k1 k2 k3 k4 p1 p2 p3 s1 s2
      obtain ⟨vk, vg, pa, pn, pc, ha, hn, hc, ta, tn, tc⟩ := v
      simp only at e1 e2 hpn hhn htn CP CH CT d0 d1 d2 d3 d4
      subst e1 e2 hpn hhn htn
      have HO := Lib.hid ho
      have K1 := Lib.hid k1; have K2 := Lib.hid k2; have P3 := Lib.hid p3; have S1 := Lib.hid s1; have S2 := Lib.hid s2
      have HUL := Lib.hid hul
      clear hr ho k1 k2 p3 s1 s2 hul
      go_wp2_with (fail)
      have hO := heap_alloc_new wo (.cells #[.string o.key, .string o.group, .slice pa o.profits.length pc, .slice ha o.has.length hc, .slice ta o.hates.length tc] 106)
      have hg1 := gr_alloc (gr_refl wo none) (.cells #[.string o.key, .string o.group, .slice pa o.profits.length pc, .slice ha o.has.length hc, .slice ta o.hates.length tc] 106)
      obtain ⟨w1, hw1⟩ : ∃ w1, w1 = wo.alloc (.cells #[.string o.key, .string o.group, .slice pa o.profits.length pc, .slice ha o.has.length hc, .slice ta o.hates.length tc] 106) := ⟨_, rfl⟩
      rw [← hw1] at hO hg1
      rw [← hw1]
      obtain ⟨O, hOe⟩ : ∃ O, O = wo.heap.size := ⟨_, rfl⟩
      rw [← hOe] at hO
      rw [← hOe]
      have q0 := (gr_cell hg1 (lt_of_cell d0)).trans d0
      have hgr1 := gr_trans hgr hg1
      clear hw1 hOe d0 d1 d2 d3 d4
      obtain ⟨c0, c1, c2, c3, c4⟩ := blk5 hO
      refine (key_any o.key w1 (by omega)).mono ?_
      rintro e w2 ⟨rfl, rfl⟩
      rw [K1.out]
      have hint : ((os.length : Nat) : Int) ≤ 30 := by omega
      have HO1 := Lib.hid hO
      clear hO
      by_cases h0 : 0 < k
      · have hul := HUL.out h0 hlt
        rw [← HO.out] at hul
        obtain ⟨b', off', v', he, hr', m0, _⟩ := ((H.out.keep0 hgr1)).at (k - 1) (by omega)
        cases he
        have ek := hr'.key
        obtain ⟨y, hy⟩ : ∃ y, y = v'.key := ⟨_, rfl⟩
        rw [← hy] at m0 ek
        rw [← ek] at hul
        have hup2 : (Op.bytesLess o.key.toList y.toList || o.key.toList == y.toList) = false := hul
        have m1 : w1.cell? ⟨b, off + (k - 1) * 5, none⟩ = some (.string y) := m0
        have hkc : (((k - 1 : Nat)) : Int) = (k : Int) - 1 := by omega
        have hint1 : (0 : Int) ≤ (k : Int) - 1 := by omega
        have hint2 : (k : Int) - 1 < (os.length : Int) := by omega
        have hint3 : (0 : Int) < (k : Int) := by omega
        have htn : ((k : Int) - 1).toNat = k - 1 := by omega
        have hwr : IntKind.i64.wrap ((k : Int) - 1) = (k : Int) - 1 := IntWalk.i64_in _ (by omega)
        clear hr' hy ek hul m0 hkc
        go_wp2_with (fail)
        go_quiet (fail)
        go_wp2_with (fail)
        refine (key_any o.group (w1.drewN nq) (by omega)).mono ?_
        rintro e w2 ⟨rfl, rfl⟩
        rw [K2.out]
        go_wp2_with (fail)
        have hgd1 := gr_drewN (gr_refl w1 none) nq
        have hgq := gr_trans hgr1 hgd1
        refine (containsFunc_int _ (fun _ => false) o.profits pa pc (w1.drewN nq) (CP.out.keep0 (gr_trans hg1 hgd1)) (by omega) checkOffers1_fn (checkOffers1_any o.profits _ P3.out)).mono ?_
        rintro e w3 ⟨rfl, hg3⟩
        have hany : o.profits.any (fun _ => false) = false := by simp
        rw [hany]
        have hg13 := gr_trans hgd1 hg3
        have hO3 := (hg13.block O (lt_of_block HO1.out) (by simp)).trans HO1.out
        have g03 := gr_trans hg1 hg13
        have hgd := gr_drew (gr_refl w3 none)
        have KF1 : Hid (∀ W, w3.grownBy W none → Calls Tryd.prog 94 #[.slice ha o.has.length hc] W fun e w' => e = .returned (.int .i64 0) ∧ W = w') := fun W g => keysFault_ok o.has ha hc W (CH.out.keep0 (gr_trans g03 g)) S1.out
        have KF2 : Hid (∀ W, w3.grownBy W none → Calls Tryd.prog 94 #[.slice ta o.hates.length tc] W fun e w' => e = .returned (.int .i64 0) ∧ W = w') := fun W g => keysFault_ok o.hates ta tc W (CT.out.keep0 (gr_trans g03 g)) S2.out
        have hgr3 := gr_trans hgr1 hg13
        clear c0 c1 c2 c3 c4
        obtain ⟨c0, c1, c2, c3, c4⟩ := blk5 hO3
        clear hO3 hg13 g03 hg3 hgd1 hany c0 c1 c2
        go_wp2_with (fail)
        go_cut [5] from 54 to 61 (fun s wx => s = .int .i64 0 ∧ w3.grownBy wx none)
        case first =>
          go_region_law (first
            | (go_simp; go_at_call 94; (first | (with_reducible refine (KF1.out _ ?_).mono ?_) | (with_reducible refine (KF2.out _ ?_).mono ?_)); (· exact hgd); rintro e w4 ⟨rfl, rfl⟩)
            | (go_simp; go_at_call 61; (with_reducible refine (or_zeros2 2 w3.heap.size 2 _ (by decide) ?_).mono ?_); (· intro j hj; have : j = 0 ∨ j = 1 := (by omega); rcases this with rfl | rfl <;> exact made_cell (gr_drew (gr_refl _ _)) _ rfl); rintro e w5 ⟨rfl, rfl⟩)
            | fail)
          all_goals (go_wp2_with (fail); go_meet; exact ⟨rfl, gr_drew (gr_alloc (gr_refl _ _) _)⟩)
        case rest =>
        obtain ⟨rfl, hgc⟩ := hcut
        go_wp2_with (fail)
        go_roundw
        case rel => exact ⟨k + 1, by omega, by go_num, gr_trans hgr3 hgc⟩
        case measure => simp [intOf]; omega
      · obtain rfl : k = 0 := by omega
        have hdf : decide ((0 : Int) < 0) = false := by decide
        go_wp2_with (fail)
        go_quiet (fail)
        go_wp2_with (fail)
        refine (key_any o.group (w1.drewN nq) (by omega)).mono ?_
        rintro e w2 ⟨rfl, rfl⟩
        rw [K2.out]
        go_wp2_with (fail)
        have hgd1 := gr_drewN (gr_refl w1 none) nq
        have hgq := gr_trans hgr1 hgd1
        refine (containsFunc_int _ (fun _ => false) o.profits pa pc (w1.drewN nq) (CP.out.keep0 (gr_trans hg1 hgd1)) (by omega) checkOffers1_fn (checkOffers1_any o.profits _ P3.out)).mono ?_
        rintro e w3 ⟨rfl, hg3⟩
        have hany : o.profits.any (fun _ => false) = false := by simp
        rw [hany]
        have hg13 := gr_trans hgd1 hg3
        have hO3 := (hg13.block O (lt_of_block HO1.out) (by simp)).trans HO1.out
        have g03 := gr_trans hg1 hg13
        have hgd := gr_drew (gr_refl w3 none)
        have KF1 : Hid (∀ W, w3.grownBy W none → Calls Tryd.prog 94 #[.slice ha o.has.length hc] W fun e w' => e = .returned (.int .i64 0) ∧ W = w') := fun W g => keysFault_ok o.has ha hc W (CH.out.keep0 (gr_trans g03 g)) S1.out
        have KF2 : Hid (∀ W, w3.grownBy W none → Calls Tryd.prog 94 #[.slice ta o.hates.length tc] W fun e w' => e = .returned (.int .i64 0) ∧ W = w') := fun W g => keysFault_ok o.hates ta tc W (CT.out.keep0 (gr_trans g03 g)) S2.out
        have hgr3 := gr_trans hgr1 hg13
        clear c0 c1 c2 c3 c4
        obtain ⟨c0, c1, c2, c3, c4⟩ := blk5 hO3
        clear hO3 hg13 g03 hg3 hgd1 hany c0 c1 c2
        go_wp2_with (fail)
        go_cut [5] from 54 to 61 (fun s wx => s = .int .i64 0 ∧ w3.grownBy wx none)
        case first =>
          go_region_law (first
            | (go_simp; go_at_call 94; (first | (with_reducible refine (KF1.out _ ?_).mono ?_) | (with_reducible refine (KF2.out _ ?_).mono ?_)); (· exact hgd); rintro e w4 ⟨rfl, rfl⟩)
            | (go_simp; go_at_call 61; (with_reducible refine (or_zeros2 2 w3.heap.size 2 _ (by decide) ?_).mono ?_); (· intro j hj; have : j = 0 ∨ j = 1 := (by omega); rcases this with rfl | rfl <;> exact made_cell (gr_drew (gr_refl _ _)) _ rfl); rintro e w5 ⟨rfl, rfl⟩)
            | fail)
          all_goals (go_wp2_with (fail); go_meet; exact ⟨rfl, gr_drew (gr_alloc (gr_refl _ _) _)⟩)
        case rest =>
        obtain ⟨rfl, hgc⟩ := hcut
        go_wp2_with (fail)
        go_roundw
        case rel => exact ⟨1, by omega, by go_num, gr_trans hgr3 hgc⟩
        case measure => simp [intOf]; omega
    · obtain rfl : k = os.length := by omega
      go_wp2_with (fail)
      go_ret
      exact ⟨rfl, hgr⟩
end Go.Proofs.YtjhdngfliakidaaDoor

/-! Package shelf: counts that are right; what they are worth. -/
namespace Go.Proofs.YtjhdngfliakidaaDoor
open Go.RowKit
attribute [local go_sem ↓] Go.wp_at_zero Go.wp_at_succ

structure CountsOk (os : List Offer) (cs : List Int) : Prop where
  len : cs.length = os.length
  all : ∀ i (h : i < os.length), 0 ≤ cs.getD i 0 ∧ cs.getD i 0 ≤ os[i].profits.length
set_option maxRecDepth 100000 in
set_option maxHeartbeats 1000000 in
theorem countsFault_ok (os : List Offer) (cs : List Int) (a ca : Option Addr) (vs : List OV) (c cc : Nat) (w : World) (h : OffsAt w a vs os) (hc : CellsAt w ca (ints cs)) (hok : CountsOk os cs) (hl : os.length ≤ 100000) :
    Calls Tryd.prog 60 #[.slice a os.length c, .slice ca os.length cc] w fun e w' => e = .returned (.int .i64 0) ∧ w = w' := by
  have H := Lib.hid h
  have HK := Lib.hid hok
  have HC := Lib.hid hc
  clear h hok hc
  go_enter Tryd.func60, Tryd.ntmps60
  go_wp2_with (fail)
  go_loop [14] (fun i => ∃ k : Nat, k ≤ os.length ∧ i = .int .i64 k) (fun i => os.length - (intOf i).toNat)
  case atStart => exact ⟨0, Nat.zero_le _, rfl⟩
  case round =>
    obtain ⟨k, hk, rfl⟩ := hrel
    by_cases hlt : k < os.length
    · obtain ⟨b, off, v, rfl, hr, _, _, d2, _⟩ := H.out.at k hlt
      obtain ⟨n0, n1⟩ := HK.out.all k hlt
      obtain ⟨b', off', rfl, d0⟩ := HC.out k _ (ints_get cs k (by rw [HK.out.len]; exact hlt))
      have hpn := hr.pn
      obtain ⟨pa, hpa⟩ : ∃ x, x = v.pa := ⟨_, rfl⟩
      obtain ⟨pc, hpc⟩ : ∃ x, x = v.pc := ⟨_, rfl⟩
      obtain ⟨pn, hp⟩ : ∃ x, x = v.pn := ⟨_, rfl⟩
      obtain ⟨n, hn⟩ : ∃ n, n = cs.getD k 0 := ⟨_, rfl⟩
      rw [← hn] at n0 n1 d0
      rw [← hpa, ← hpc, ← hp] at d2
      rw [← hp] at hpn
      rw [← hpn] at n1
      clear hr hpn hpa hpc hp hn
      go_wp2_with (fail)
      refine (out_any n 0 pn w).mono ?_
      rintro e w2 ⟨rfl, rfl⟩
      have e1 : (decide (n < 0) || decide ((pn : Int) < n)) = false := by simp; omega
      rw [e1]
      go_wp2_with (fail)
      go_round
      case rel => exact ⟨k + 1, by omega, by go_num⟩
      case measure => simp [intOf]; omega
    · obtain rfl : k = os.length := by omega
      go_wp2_with (fail)
      go_ret
      exact ⟨rfl, rfl⟩
set_option maxRecDepth 100000 in
set_option maxHeartbeats 1000000 in
theorem refCountsFault_ok (os : List Offer) (cs : List Int) (a ca : Option Addr) (vs : List OV) (c cc : Nat) (w : World) (h : OffsAt w a vs os) (hc : CellsAt w ca (ints cs)) (hok : CountsOk os cs) (hl : os.length ≤ 100000) :
    Calls Tryd.prog 25 #[.slice a os.length c, .slice ca os.length cc] w fun e w' => e = .returned (.int .i64 0) ∧ w = w' := by
  have H := Lib.hid h
  have HK := Lib.hid hok
  have HC := Lib.hid hc
  clear h hok hc
  go_enter Tryd.func25, Tryd.ntmps25
  go_wp2_with (fail)
  go_loop [14] (fun i => ∃ k : Nat, k ≤ os.length ∧ i = .int .i64 k) (fun i => os.length - (intOf i).toNat)
  case atStart => exact ⟨0, Nat.zero_le _, rfl⟩
  case round =>
    obtain ⟨k, hk, rfl⟩ := hrel
    by_cases hlt : k < os.length
    · obtain ⟨b, off, v, rfl, hr, _, _, d2, _⟩ := H.out.at k hlt
      obtain ⟨n0, n1⟩ := HK.out.all k hlt
      obtain ⟨b', off', rfl, d0⟩ := HC.out k _ (ints_get cs k (by rw [HK.out.len]; exact hlt))
      have hpn := hr.pn
      obtain ⟨pa, hpa⟩ : ∃ x, x = v.pa := ⟨_, rfl⟩
      obtain ⟨pc, hpc⟩ : ∃ x, x = v.pc := ⟨_, rfl⟩
      obtain ⟨pn, hp⟩ : ∃ x, x = v.pn := ⟨_, rfl⟩
      obtain ⟨n, hn⟩ : ∃ n, n = cs.getD k 0 := ⟨_, rfl⟩
      rw [← hn] at n0 n1 d0
      rw [← hpa, ← hpc, ← hp] at d2
      rw [← hp] at hpn
      rw [← hpn] at n1
      have q1 : ¬ n < 0 := by omega
      have q2 : ¬ (pn : Int) < n := by omega
      clear hr hpn hpa hpc hp hn
      go_wp2_with (fail)
      go_round
      case rel => exact ⟨k + 1, by omega, by go_num⟩
      case measure => simp [intOf]; omega
    · obtain rfl : k = os.length := by omega
      go_wp2_with (fail)
      go_ret
      exact ⟨rfl, rfl⟩
/-- What the first n profits of an offer add up to. -/
def usedM (o : Offer) (n : Int) : Int := (o.profits.take n.toNat).sum
set_option maxRecDepth 100000 in
set_option maxHeartbeats 1000000 in
theorem used_any (key group : ByteArray) (ps : List Int) (pa ha ta : Option Addr) (pc hm hc tn tc n : Nat) (w : World) (h : CellsAt w pa (ints ps)) (hl : ps.length ≤ 10) (hc1 : ps.length ≤ pc) (hc2 : pc ≤ maxLen) (hb : ∀ x ∈ ps, -1000000 ≤ x ∧ x ≤ 1000000) (hn : n ≤ ps.length) :
    Calls Tryd.prog 63 #[.agg #[.string key, .string group, .slice pa ps.length pc, .slice ha hm hc, .slice ta tn tc], .int .i64 n] w fun e w' => e = .returned (.int .i64 (ps.take n).sum) ∧ w.grownBy w' none := by
  have hO := heap_alloc_new w (.cells #[.string key, .string group, .slice pa ps.length pc, .slice ha hm hc, .slice ta tn tc] 106)
  have hg1 := gr_alloc (gr_refl w none) (.cells #[.string key, .string group, .slice pa ps.length pc, .slice ha hm hc, .slice ta tn tc] 106)
  obtain ⟨w1, hw1⟩ : ∃ w1, w1 = w.alloc (.cells #[.string key, .string group, .slice pa ps.length pc, .slice ha hm hc, .slice ta tn tc] 106) := ⟨_, rfl⟩
  rw [← hw1] at hO hg1
  have HW := Lib.hid hw1
  have H := Lib.hid (h.keep0 hg1)
  have HB := Lib.hid (sum_bound ps (-1000000) 1000000 (by omega) (by omega) hb)
  unfold maxLen at hc2
  have c2 := blkC hO 2 rfl
  clear h hb hw1
  go_enter Tryd.func63, Tryd.ntmps63
  go_wp2_with (fail)
  rw [← HW.out]
  go_wp2_with (fail)
  go_loop [5, 13] (fun s i => ∃ k : Nat, k ≤ n ∧ i = .int .i64 k ∧ s = .int .i64 (ps.take k).sum) (fun _ i => n - (intOf i).toNat)
  case atStart => exact ⟨0, Nat.zero_le _, rfl, rfl⟩
  case round =>
    obtain ⟨k, hk, rfl, rfl⟩ := hrel
    by_cases hlt : k < n
    · obtain ⟨b, off, rfl, d0⟩ := H.out k _ (ints_get ps k (by omega))
      obtain ⟨b0, b1⟩ := HB.out k
      obtain ⟨b2, b3⟩ := HB.out (k + 1)
      have hnx := sum_next ps k (by omega)
      obtain ⟨x, hx⟩ : ∃ x, x = ps.getD k 0 := ⟨_, rfl⟩
      obtain ⟨s, hs⟩ : ∃ s, s = (ps.take k).sum := ⟨_, rfl⟩
      rw [← hx] at d0 hnx
      rw [← hs] at hnx b0 b1
      rw [← hs]
      rw [hnx] at b2 b3
      have HNX := Lib.hid hnx; clear hnx
      have HX := Lib.hid hx; clear hx
      have HS := Lib.hid hs; clear hs
      go_wp2_with (fail)
      go_round
      case rel => exact ⟨k + 1, by omega, by go_num, by rw [HNX.out]⟩
      case measure => simp [intOf]; omega
    · obtain rfl : k = n := by omega
      go_wp2_with (fail)
      go_ret
      exact ⟨rfl, hg1⟩
/-- What counts are worth. -/
def worthL (os : List Offer) (cs : List Int) : List Int := (os.zip cs).map fun p => usedM p.1 p.2
theorem worthL_len (os : List Offer) (cs : List Int) (h : cs.length = os.length) : (worthL os cs).length = os.length := by simp [worthL, h]
theorem worthL_get (os : List Offer) (cs : List Int) (h : cs.length = os.length) (k : Nat) (hk : k < os.length) : (worthL os cs).getD k 0 = usedM os[k] (cs.getD k 0) := by
  rw [List.getD_eq_getElem?_getD, List.getD_eq_getElem?_getD, List.getElem?_eq_getElem (by rw [worthL_len os cs h]; exact hk), List.getElem?_eq_getElem (by omega)]
  simp [worthL]
theorem usedM_bd (o : Offer) (n : Int) (h : o.profits.length ≤ 10) (hb : ∀ x ∈ o.profits, -1000000 ≤ x ∧ x ≤ 1000000) : -10000000 ≤ usedM o n ∧ usedM o n ≤ 10000000 := by
  have h1 : (o.profits.take n.toNat).length ≤ 10 := by rw [List.length_take]; omega
  have := sum_bound_all (o.profits.take n.toNat) (-1000000) 1000000 (by omega) (by omega) (fun x hx => hb x (List.mem_of_mem_take hx))
  unfold usedM
  omega
theorem worthL_bd (os : List Offer) (cs : List Int) (hok : OffersOk os) : ∀ x ∈ worthL os cs, -10000000 ≤ x ∧ x ≤ 10000000 := by
  intro x hx
  unfold worthL at hx
  obtain ⟨p, hp, rfl⟩ := List.mem_map.1 hx
  obtain ⟨_, q2, q3⟩ := hok.prof p.1 (List.of_mem_zip hp).1
  exact usedM_bd _ _ q2 q3
set_option maxRecDepth 100000 in
set_option maxHeartbeats 1000000 in
theorem worth_any (os : List Offer) (cs : List Int) (a ca : Option Addr) (vs : List OV) (c cc : Nat) (w : World) (h : OffsAt w a vs os) (hok : OffersOk os) (hc : CellsAt w ca (ints cs)) (hco : CountsOk os cs) :
    Calls Tryd.prog 28 #[.slice a os.length c, .slice ca os.length cc] w fun e w' => e = .returned (.tuple #[.int .i64 (worthL os cs).sum, .int .i64 0]) ∧ w.grownBy w' none := by
  have hl := hok.len
  have H := Lib.hid h
  have HC := Lib.hid hc
  have HK := Lib.hid hok
  have HCO := Lib.hid hco
  have HB := Lib.hid (sum_bound (worthL os cs) (-10000000) 10000000 (by omega) (by omega) (worthL_bd os cs hok))
  clear h hc hok hco
  go_enter Tryd.func28, Tryd.ntmps28
  go_wp2_with (fail)
  refine (checkOffers_ok os a vs c w H.out HK.out).mono ?_
  rintro e w1 ⟨rfl, g1⟩
  go_wp2_with (fail)
  have g1a := gr_alloc g1 (.cells #[.int .i64 0] 34)
  refine (or_zeros2 1 w1.heap.size _ _ (by decide) (fun j hj => ?_)).mono ?_
  · obtain rfl : j = 0 := by omega
    exact made_cell (gr_refl _ _) _ rfl
  rintro e w2 ⟨rfl, rfl⟩
  go_wp2_with (fail)
  refine (countsFault_ok os cs a ca vs c cc _ (H.out.keep0 g1a) (HC.out.keep0 g1a) HCO.out (by omega)).mono ?_
  rintro e w2 ⟨rfl, rfl⟩
  obtain ⟨w3, hw3⟩ : ∃ w3, w3 = w1.alloc (.cells #[.int .i64 0] 34) := ⟨_, rfl⟩
  rw [← hw3] at g1a
  rw [← hw3]
  clear hw3 g1
  go_wp2_with (fail)
  go_loopw [8, 26] (fun s i wr => ∃ k : Nat, k ≤ os.length ∧ i = .int .i64 k ∧ s = .int .i64 ((worthL os cs).take k).sum ∧ w.grownBy wr none) (fun _ i _ => os.length - (intOf i).toNat)
  case atStart => exact ⟨0, Nat.zero_le _, rfl, rfl, g1a⟩
  case round =>
    obtain ⟨k, hk, rfl, rfl, hgr⟩ := hrel
    obtain ⟨wo, rfl⟩ : ∃ wo : World, wo = wr := ⟨_, rfl⟩
    by_cases hlt : k < os.length
    · obtain ⟨b, off, v, rfl, hr, d0, d1, d2, d3, d4⟩ := (H.out.keep0 hgr).at k hlt
      obtain ⟨p1, p2, p3⟩ := HK.out.prof os[k] (List.getElem_mem hlt)
      obtain ⟨n0, n1⟩ := HCO.out.all k hlt
      obtain ⟨b', off', rfl, f0⟩ := (HC.out.keep0 hgr) k _ (ints_get cs k (by rw [HCO.out.len]; exact hlt))
      obtain ⟨b0, b1⟩ := HB.out k
      obtain ⟨b2, b3⟩ := HB.out (k + 1)
      have hnx := sum_next (worthL os cs) k (by rw [worthL_len _ _ HCO.out.len]; exact hlt)
      rw [worthL_get os cs HCO.out.len k hlt] at hnx
      obtain ⟨s, hs⟩ : ∃ s, s = ((worthL os cs).take k).sum := ⟨_, rfl⟩
      obtain ⟨n, hn⟩ : ∃ n : Nat, cs.getD k 0 = (n : Int) := ⟨(cs.getD k 0).toNat, by omega⟩
      rw [hn] at n1 f0 hnx
      obtain ⟨x, hx⟩ : ∃ x, x = usedM os[k] n := ⟨_, rfl⟩
      have hx2 : (os[k].profits.take n).sum = x := by rw [hx]; simp [usedM]
      rw [← hx, ← hs] at hnx
      rw [hnx] at b2 b3
      rw [← hs] at b0 b1
      rw [← hs]
      have hpn := hr.pn
      have hcap := hr.cap
      have CP := Lib.hid hr.pr
      obtain ⟨o, ho⟩ : ∃ o, o = os[k] := ⟨_, rfl⟩
      rw [← ho] at hpn CP p1 p2 p3 n1 hx2
      obtain ⟨vk, vg, pa, pn, pc, ha, hn', hc, ta, tn, tc⟩ := v
      simp only at hpn hcap CP d0 d1 d2 d3 d4
      subst hpn
      have hn2 : n ≤ o.profits.length := by omega
      have UA : Hid (∀ W, wo.grownBy W none → Calls Tryd.prog 63 #[.agg #[.string vk, .string vg, .slice pa o.profits.length pc, .slice ha hn' hc, .slice ta tn tc], .int .i64 n] W fun e w' => e = .returned (.int .i64 x) ∧ W.grownBy w' none) := fun W g => by
        have := used_any vk vg o.profits pa ha ta pc hn' hc tn tc n W (CP.out.keep0 g) p2 hcap.1 hcap.2 p3 hn2
        rw [hx2] at this
        exact this
      have HNX := Lib.hid hnx
      have HGR := Lib.hid hgr
      clear hr ho hx hx2 hs hnx hn p3 hgr n0 n1
      go_wp2_with (fail)
      have hO := heap_alloc_new wo (.cells #[.string vk, .string vg, .slice pa o.profits.length pc, .slice ha hn' hc, .slice ta tn tc] 106)
      have hg1 := gr_alloc (gr_refl wo none) (.cells #[.string vk, .string vg, .slice pa o.profits.length pc, .slice ha hn' hc, .slice ta tn tc] 106)
      obtain ⟨w1', hw1⟩ : ∃ w1', w1' = wo.alloc (.cells #[.string vk, .string vg, .slice pa o.profits.length pc, .slice ha hn' hc, .slice ta tn tc] 106) := ⟨_, rfl⟩
      rw [← hw1] at hO hg1
      rw [← hw1]
      obtain ⟨O, hOe⟩ : ∃ O, O = wo.heap.size := ⟨_, rfl⟩
      rw [← hOe] at hO
      rw [← hOe]
      have f1 := (gr_cell hg1 (lt_of_cell f0)).trans f0
      have hgd := gr_drew (gr_refl w1' none)
      clear hw1 hOe d0 d1 d2 d3 d4 f0
      obtain ⟨c0, c1, c2, c3, c4⟩ := blk5 hO
      have hnlt : (n : Int) ≤ 10 := by omega
      have hl9 := HCO.out.len
      have HC1 : w.grownBy w1' none := gr_trans HGR.out hg1
      go_region_law (first
        | (go_simp; go_at_call 63; (with_reducible refine (UA.out _ ?_).mono ?_); (· exact gr_trans hg1 hgd); rintro e w4 ⟨rfl, g4⟩)
        | fail)
      all_goals
        go_wp2_with (fail)
        go_roundw
        case rel => exact ⟨k + 1, by omega, by go_num, by rw [HNX.out], gr_trans (gr_trans HC1 hgd) g4⟩
        case measure => simp [intOf]; omega
    · obtain rfl : k = os.length := by omega
      have hfin : Hid (((worthL os cs).take os.length).sum = (worthL os cs).sum) := by show _ = _; rw [List.take_of_length_le (by rw [worthL_len _ _ HCO.out.len]; exact Nat.le_refl _)]
      go_wp2_with (fail)
      go_ret2
      exact ⟨by rw [hfin.out] <;> rfl, hgr⟩
end Go.Proofs.YtjhdngfliakidaaDoor

/-! shelf.newTable, shelf.table.with, shelf.worths. -/
namespace Go.Proofs.YtjhdngfliakidaaDoor
open Go.RowKit

theorem eTab : ElemT Tryd.prog 135 3 (.int .i64 0) 1 8 := ⟨by kernel_rfl, by kernel_rfl, by decide, by decide, by decide⟩
theorem fillN (n k : Nat) (x : Int) (h : k < n) : (List.replicate k x ++ List.replicate (n - k) 0).set k x = List.replicate (k + 1) x ++ List.replicate (n - (k + 1)) 0 := by
  obtain ⟨m, rfl⟩ : ∃ m, n = k + 1 + m := ⟨n - (k + 1), by omega⟩
  rw [show k + 1 + m - k = m + 1 by omega, show k + 1 + m - (k + 1) = m by omega, List.replicate_succ (n := m), List.set_append_right _ _ (by simp)]
  simp [List.replicate_succ']
set_option maxRecDepth 100000 in
theorem newTable_any (S : Nat) (w : World) (hS : S ≤ 1000) :
    Calls Tryd.prog 90 #[.int .i64 S] w fun e w' => e = .returned (.slice (some ⟨w.heap.size, 0, none⟩) (S + 1) (S + 1)) ∧ w'.ownsRow w.heap.size 3 1 (.slice (some ⟨w.heap.size, 0, none⟩) (S + 1) (S + 1)) (S + 1) (ints (List.replicate (S + 1) nothingT)) ∧ w.grownBy w' none := by
  have hwr : IntKind.i64.wrap ((S : Int) + 1) = (S : Int) + 1 := IntWalk.i64_in _ (by omega)
  obtain ⟨g, hg⟩ : ∃ g, g = w.heap.size := ⟨_, rfl⟩
  have HGE := Lib.hid hg
  go_enter Tryd.func90, Tryd.ntmps90
  go_wp2_with (at_make; refine wpList_mk _ eTab rfl _ _ rfl w.heap.size _ (S + 1) rfl rfl (by push_cast; rfl) ?_ ?_ ?_; (· omega); (· omega); intro w2 o2 g2)
  rw [← hg] at o2
  rw [← hg]
  have HO2 := Lib.hid o2
  have HG2 := Lib.hid g2
  clear hg o2 g2 hwr
  go_loopw [10] (fun i wr => ∃ k : Nat, k ≤ S + 1 ∧ i = .int .i64 k ∧ wr.ownsRow g 3 1 (.slice (some ⟨g, 0, none⟩) (S + 1) (S + 1)) (S + 1) (ints (List.replicate k nothingT ++ List.replicate (S + 1 - k) 0)) ∧ w.grownBy wr none) (fun i _ => S + 1 - (intOf i).toNat)
  case atStart => exact ⟨0, Nat.zero_le _, rfl, by simpa using HO2.out, HG2.out⟩
  case round =>
    clear HO2 HG2
    obtain ⟨k, hk, rfl, hO, hgr⟩ := hrel
    obtain ⟨wo, rfl⟩ : ∃ wo : World, wo = wr := ⟨_, rfl⟩
    by_cases hlt : k < S + 1
    · obtain ⟨d0, f0, st⟩ := own_int hO k hlt
      have hkS : (k : Int) < (S : Int) + 1 := by omega
      have HS := Lib.hid (st nothingT)
      rw [fillN (S + 1) k nothingT hlt] at HS
      have HG := Lib.hid (gr_new hgr (q := ⟨g, k, none⟩) (by rw [HGE.out]; exact Nat.le_refl _) (.int .i64 nothingT))
      clear hO hgr st
      go_wp2_with (fail)
      go_roundw
      case rel => exact ⟨k + 1, by omega, by go_num, HS.out, HG.out⟩
      case measure => simp [intOf]; omega
    · obtain rfl : k = S + 1 := by omega
      have HO : Hid (wo.ownsRow g 3 1 (.slice (some ⟨g, 0, none⟩) (S + 1) (S + 1)) (S + 1) (ints (List.replicate (S + 1) nothingT))) := by show World.ownsRow _ _ _ _ _ _ _; simpa using hO
      have HG := Lib.hid hgr
      clear hO hgr
      go_wp2_with (fail)
      go_ret
      obtain rfl := HGE.out
      exact ⟨rfl, HO.out, HG.out⟩
theorem getD_bd {l : List Int} {a b : Int} (h : ∀ x ∈ l, a ≤ x ∧ x ≤ b) (k : Nat) (hk : k < l.length) : a ≤ l.getD k 0 ∧ l.getD k 0 ≤ b := by
  rw [getD_eq l k 0 hk]
  exact h _ (List.getElem_mem hk)
set_option maxRecDepth 100000 in
set_option maxHeartbeats 2000000 in
theorem with_any (t ws : List Int) (ta wa : Option Addr) (tc wc : Nat) (S : Nat) (w : World) (ht : CellsAt w ta (ints t)) (hw : CellsAt w wa (ints ws)) (hl : t.length = S + 1) (hS : S ≤ 100) (hwl : ws.length ≤ 100)
    (tb : ∀ x ∈ t, -10000000000000 ≤ x ∧ x ≤ 10000000000000) (wb : ∀ x ∈ ws, -10000000000000 ≤ x ∧ x ≤ 10000000000000) :
    Calls Tryd.prog 91 #[.slice ta t.length tc, .slice wa ws.length wc] w fun e w' => e = .returned (.slice (some ⟨w.heap.size, 0, none⟩) (S + 1) (S + 1)) ∧ w'.ownsRow w.heap.size 3 1 (.slice (some ⟨w.heap.size, 0, none⟩) (S + 1) (S + 1)) (S + 1) (ints (withT t ws)) ∧ w.grownBy w' none := by
  have NT := Lib.hid (newTable_any S w (by omega))
  have HT := Lib.hid ht
  have HW := Lib.hid hw
  have HTB := Lib.hid tb
  have HWB := Lib.hid wb
  have hwr : IntKind.i64.wrap ((t.length : Int) - 1) = (S : Int) := by rw [hl]; push_cast; rw [IntWalk.i64_in _ (by omega)]; omega
  obtain ⟨g, hg⟩ : ∃ g, g = w.heap.size := ⟨_, rfl⟩
  have HGE := Lib.hid hg
  have HL := Lib.hid hl
  have hl101 : t.length ≤ 101 := by omega
  clear ht hw tb wb hl
  go_enter Tryd.func91, Tryd.ntmps91
  go_wp2_with (fail)
  refine NT.out.mono ?_
  rintro e w1 ⟨rfl, o1, g1⟩
  rw [← hg] at o1
  rw [← hg]
  have HO1 : Hid (w1.ownsRow g 3 1 (.slice (some ⟨g, 0, none⟩) (S + 1) (S + 1)) (S + 1) (ints (withI t ws 0))) := by
    show World.ownsRow _ _ _ _ _ _ _
    unfold withI
    rw [HL.out]
    exact o1
  have HG1 := Lib.hid g1
  clear hg o1 g1 hwr NT
  go_wp2_with (fail)
  go_loopw [16] (fun i wr => ∃ k : Nat, k ≤ t.length ∧ i = .int .i64 k ∧ wr.ownsRow g 3 1 (.slice (some ⟨g, 0, none⟩) (S + 1) (S + 1)) (S + 1) (ints (withI t ws k)) ∧ w.grownBy wr none) (fun i _ => t.length - (intOf i).toNat)
  case atStart => exact ⟨0, Nat.zero_le _, rfl, HO1.out, HG1.out⟩
  case round =>
    clear HO1 HG1
    obtain ⟨k, hk, rfl, hO, hgr⟩ := hrel
    obtain ⟨wo, rfl⟩ : ∃ wo : World, wo = wr := ⟨_, rfl⟩
    by_cases hlt : k < t.length
    · obtain ⟨b, off, rfl, d0⟩ := (HT.out.keep0 hgr) k _ (ints_get t k hlt)
      have tbk := getD_bd HTB.out k hlt
      obtain ⟨x, hx⟩ : ∃ x, x = t.getD k 0 := ⟨_, rfl⟩
      rw [← hx] at d0 tbk
      have HX := Lib.hid hx
      have HO : Hid (wo.ownsRow g 3 1 (.slice (some ⟨g, 0, none⟩) (S + 1) (S + 1)) (S + 1) (ints (rowW t ws k 0 (withI t ws k)))) := hO
      have HG := Lib.hid hgr
      clear hx hO hgr
      go_wp2_with (fail)
      go_loopw [23] (fun i wr => ∃ n : Nat, n ≤ ws.length ∧ i = .int .i64 n ∧ wr.ownsRow g 3 1 (.slice (some ⟨g, 0, none⟩) (S + 1) (S + 1)) (S + 1) (ints (rowW t ws k n (withI t ws k))) ∧ w.grownBy wr none) (fun i _ => ws.length - (intOf i).toNat)
      case atStart => exact ⟨0, Nat.zero_le _, rfl, HO.out, HG.out⟩
      case round =>
        clear HO HG d0
        obtain ⟨n, hn, rfl, hO, hgr⟩ := hrel
        obtain ⟨wi, rfl⟩ : ∃ wi : World, wi = wr := ⟨_, rfl⟩
        by_cases hln : n < ws.length
        · obtain ⟨b2, off2, rfl, d2⟩ := (HW.out.keep0 hgr) n _ (ints_get ws n hln)
          have wbk := getD_bd HWB.out n hln
          have NX := rowW_next t ws k n (withI t ws k)
          obtain ⟨y, hy⟩ : ∃ y, y = ws.getD n 0 := ⟨_, rfl⟩
          rw [← hy] at d2 wbk
          obtain ⟨R, hR⟩ : ∃ R, R = rowW t ws k n (withI t ws k) := ⟨_, rfl⟩
          rw [← hR] at hO NX
          unfold stepW at NX
          rw [← hy, ← HX.out] at NX
          have hwa : IntKind.i64.wrap ((k : Int) + (n : Int)) = (k : Int) + (n : Int) := IntWalk.i64_in _ (by have := HL.out; omega)
          have hwx : IntKind.i64.wrap (x + y) = x + y := IntWalk.i64_in _ (by omega)
          by_cases c1 : nothingT < x
          · have e1 : decide ((-1099511627776 : Int) < x) = true := decide_eq_true c1
            by_cases c2 : nothingT < y
            · have e2 : decide ((-1099511627776 : Int) < y) = true := decide_eq_true c2
              by_cases c3 : k + n < t.length
              · have e3 : decide ((k : Int) + (n : Int) < (t.length : Int)) = true := by simp; omega
                rw [if_pos ⟨c1, c2, c3⟩] at NX
                obtain ⟨d3, f3, st⟩ := own_int hO (k + n) (by have := HL.out; omega)
                have HS := Lib.hid (st (max (R.getD (k + n) 0) (x + y)))
                rw [← NX] at HS
                have HG := Lib.hid (gr_new hgr (q := ⟨g, k + n, none⟩) (by rw [HGE.out]; exact Nat.le_refl _) (.int .i64 (max (R.getD (k + n) 0) (x + y))))
                obtain ⟨u, hu⟩ : ∃ u, u = R.getD (k + n) 0 := ⟨_, rfl⟩
                rw [← hu] at d3 HS HG
                have i0 : (0 : Int) ≤ (k : Int) + (n : Int) := by omega
                have i1 : (k : Int) + (n : Int) < (S : Int) + 1 := by have := HL.out; omega
                have i2 : ((k : Int) + (n : Int)).toNat = k + n := by omega
                clear hy hR hO hgr NX st hu c1 c2 c3
                go_wp2_with (fail)
                go_roundw
                case rel => exact ⟨n + 1, by omega, by go_num, HS.out, HG.out⟩
                case measure => simp [intOf]; omega
              · have e3 : decide ((k : Int) + (n : Int) < (t.length : Int)) = false := by simp; omega
                rw [if_neg (fun e => c3 e.2.2)] at NX
                rw [← NX] at hO
                have HO := Lib.hid hO
                have HG := Lib.hid hgr
                clear hy hR hO hgr NX c1 c2 c3
                go_wp2_with (fail)
                go_roundw
                case rel => exact ⟨n + 1, by omega, by go_num, HO.out, HG.out⟩
                case measure => simp [intOf]; omega
            · have e2 : decide ((-1099511627776 : Int) < y) = false := decide_eq_false c2
              rw [if_neg (fun e => c2 e.2.1)] at NX
              rw [← NX] at hO
              have HO := Lib.hid hO
              have HG := Lib.hid hgr
              clear hy hR hO hgr NX c1 c2
              go_wp2_with (fail)
              go_roundw
              case rel => exact ⟨n + 1, by omega, by go_num, HO.out, HG.out⟩
              case measure => simp [intOf]; omega
          · have e1 : decide ((-1099511627776 : Int) < x) = false := decide_eq_false c1
            rw [if_neg (fun e => c1 e.1)] at NX
            rw [← NX] at hO
            have HO := Lib.hid hO
            have HG := Lib.hid hgr
            clear hy hR hO hgr NX c1
            go_wp2_with (fail)
            go_roundw
            case rel => exact ⟨n + 1, by omega, by go_num, HO.out, HG.out⟩
            case measure => simp [intOf]; omega
        · obtain rfl : n = ws.length := by omega
          rw [← withI_next] at hO
          have HO := Lib.hid hO
          have HG := Lib.hid hgr
          clear hO hgr
          go_wp2_with (fail)
          go_roundw
          case rel => exact ⟨k + 1, by omega, by go_num, HO.out, HG.out⟩
          case measure => simp [intOf]; omega
    · obtain rfl : k = t.length := by omega
      have HO := Lib.hid hO
      have HG := Lib.hid hgr
      clear hO hgr
      go_wp2_with (fail)
      go_ret
      obtain rfl := HGE.out
      exact ⟨rfl, HO.out, HG.out⟩
end Go.Proofs.YtjhdngfliakidaaDoor

/-! shelf.worths: what each count of an offer is worth. -/
namespace Go.Proofs.YtjhdngfliakidaaDoor
open Go.RowKit

def worthN (ps : List Int) (f : Int) (n : Nat) : Int := if 0 ≤ f ∧ (n : Int) ≠ f then nothingT else (ps.take n).sum
def worthsT (ps : List Int) (f : Int) (k : Nat) : List Int := (List.range k).map (worthN ps f)
theorem worthsT_next (ps : List Int) (f : Int) (k : Nat) : worthsT ps f (k + 1) = worthsT ps f k ++ [worthN ps f k] := by
  unfold worthsT
  rw [List.range_succ, List.map_append]
  rfl
theorem worthsT_len (ps : List Int) (f : Int) (k : Nat) : (worthsT ps f k).length = k := by simp [worthsT]
set_option maxRecDepth 100000 in
set_option maxHeartbeats 1000000 in
theorem worths_any (key group : ByteArray) (ps : List Int) (pa ha ta : Option Addr) (pc hm hc tn tc : Nat) (f : Int) (w : World) (h : CellsAt w pa (ints ps)) (hl : ps.length ≤ 10) (hc1 : ps.length ≤ pc) (hc2 : pc ≤ maxLen) (hb : ∀ x ∈ ps, -1000000 ≤ x ∧ x ≤ 1000000) :
    Calls Tryd.prog 92 #[.agg #[.string key, .string group, .slice pa ps.length pc, .slice ha hm hc, .slice ta tn tc], .int .i64 f] w fun e w' => ∃ v, e = .returned v ∧ w'.ownsRow w.heap.size 3 1 v (ps.length + 1) (ints (worthsT ps f (ps.length + 1))) ∧ w.grownBy w' none := by
  have hO := heap_alloc_new w (.cells #[.string key, .string group, .slice pa ps.length pc, .slice ha hm hc, .slice ta tn tc] 106)
  have hg1 := gr_alloc (gr_refl w none) (.cells #[.string key, .string group, .slice pa ps.length pc, .slice ha hm hc, .slice ta tn tc] 106)
  obtain ⟨w1, hw1⟩ : ∃ w1, w1 = w.alloc (.cells #[.string key, .string group, .slice pa ps.length pc, .slice ha hm hc, .slice ta tn tc] 106) := ⟨_, rfl⟩
  rw [← hw1] at hO hg1
  obtain ⟨V, hV⟩ : ∃ V, V = w.heap.size := ⟨_, rfl⟩
  rw [← hV] at hO
  have UA := Lib.hid (fun (W : World) (g : w.grownBy W none) (n : Nat) (hn : n ≤ ps.length) => used_any key group ps pa ha ta pc hm hc tn tc n W (h.keep0 g) hl hc1 hc2 hb hn)
  have HW := Lib.hid hw1
  have HV := Lib.hid hV
  have HO := Lib.hid hO
  have HG1 := Lib.hid hg1
  have hz1 := hg1.size
  have c2 := blkC hO 2 rfl
  clear h hb hw1 hV hO hg1 hc2
  go_enter Tryd.func92, Tryd.ntmps92
  go_upto_region 1 with (fail)
  rw [← HW.out, ← HV.out]
  go_wp2_with (fail)
  clear c2
  go_loopw [5, 12] (fun v i wr => ∃ k : Nat, k ≤ ps.length + 1 ∧ i = .int .i64 k ∧ wr.ownsRow w1.heap.size 3 1 v k (ints (worthsT ps f k)) ∧ w1.grownBy wr none) (fun _ i _ => ps.length + 1 - (intOf i).toNat)
  case atStart => exact ⟨0, Nat.zero_le _, rfl, World.ownsRow_nil _ _ _ _, gr_refl _ _⟩
  case round =>
    obtain ⟨k, hk, rfl, hR, hgr⟩ := hrel
    obtain ⟨wo, rfl⟩ : ∃ wo : World, wo = wr := ⟨_, rfl⟩
    by_cases hlt : k < ps.length + 1
    · have hVo := (hgr.block _ (lt_of_block HO.out) (by simp)).trans HO.out
      have c0 := blkC hVo 0 rfl
      have c1 := blkC hVo 1 rfl
      have c2 := blkC hVo 2 rfl
      have c3 := blkC hVo 3 rfl
      have c4 := blkC hVo 4 rfl
      have US := Lib.hid (UA.out wo (gr_trans HG1.out hgr) k (by omega))
      have NX := worthsT_next ps f k
      unfold worthN at NX
      have hkl : (k : Int) < (ps.length : Int) + 1 := by omega
      have HR := Lib.hid hR
      have HG := Lib.hid hgr
      obtain ⟨s, hs⟩ : ∃ s, s = (ps.take k).sum := ⟨_, rfl⟩
      rw [← hs] at NX US
      clear hVo hR hgr hs
      by_cases q1 : 0 ≤ f
      · have e1 : decide (0 ≤ f) = true := decide_eq_true q1
        by_cases q2 : (k : Int) = f
        · have e2 : ((k : Int) != f) = false := by rw [q2]; simp
          rw [if_neg (fun e => e.2 q2)] at NX
          clear q1 q2
          replace NX := Lib.hid NX
          go_wp2_with (fail)
          refine US.out.mono ?_
          rintro e w5 ⟨rfl, g5⟩
          have HR5 := Lib.hid (own_keep0 HR.out g5)
          have HG5 := Lib.hid (gr_trans HG.out g5)
          have hz5 := HG5.out.size
          clear g5 US c0 c1 c2 c3 c4
          go_wp2_with (at_builtin; refine wpList_app1F eInt rfl _ _ rfl w1.heap.size _ k (ints (worthsT ps f k)) rfl w5 #[.int .i64 s] rfl HR5.out _ rfl rfl rfl rfl (by omega) (by omega) ?_; intro v7 w7 o7 g7 hl7 hk7; have HO7 := Lib.hid o7; have HG7 := Lib.hid (gr_grown HG5.out g7 (fun q hq => hl7 q hq)); clear o7 g7 hl7 hk7)
          go_wp2_with (fail)
          have HF : Hid (w7.ownsRow w1.heap.size 3 1 v7 (k + 1) (ints (worthsT ps f (k + 1)))) := by
            show World.ownsRow _ _ _ _ _ _ _
            have e9 : ints (worthsT ps f k ++ [s]) = ints (worthsT ps f k) ++ [.int .i64 s] := by simp [ints]
            rw [NX.out, e9]
            exact HO7.out
          go_roundw
          case rel => exact ⟨k + 1, by omega, by go_num, HF.out, HG7.out⟩
          case measure => simp [intOf]; omega
        · have e2 : ((k : Int) != f) = true := by simpa using q2
          rw [if_pos ⟨q1, q2⟩] at NX
          clear q1 q2
          replace NX := Lib.hid NX
          go_wp2_with (fail)
          refine US.out.mono ?_
          rintro e w5 ⟨rfl, g5⟩
          have HR5 := Lib.hid (own_keep0 HR.out g5)
          have HG5 := Lib.hid (gr_trans HG.out g5)
          have hz5 := HG5.out.size
          clear g5 US c0 c1 c2 c3 c4
          go_wp2_with (at_builtin; refine wpList_app1F eInt rfl _ _ rfl w1.heap.size _ k (ints (worthsT ps f k)) rfl w5 #[.int .i64 (-1099511627776)] rfl HR5.out _ rfl rfl rfl rfl (by omega) (by omega) ?_; intro v7 w7 o7 g7 hl7 hk7; have HO7 := Lib.hid o7; have HG7 := Lib.hid (gr_grown HG5.out g7 (fun q hq => hl7 q hq)); clear o7 g7 hl7 hk7)
          go_wp2_with (fail)
          have HF : Hid (w7.ownsRow w1.heap.size 3 1 v7 (k + 1) (ints (worthsT ps f (k + 1)))) := by
            show World.ownsRow _ _ _ _ _ _ _
            have e9 : ints (worthsT ps f k ++ [(-1099511627776)]) = ints (worthsT ps f k) ++ [.int .i64 (-1099511627776)] := by simp [ints]
            rw [NX.out, e9]
            exact HO7.out
          go_roundw
          case rel => exact ⟨k + 1, by omega, by go_num, HF.out, HG7.out⟩
          case measure => simp [intOf]; omega
      · have e1 : decide (0 ≤ f) = false := decide_eq_false q1
        rw [if_neg (fun e => q1 e.1)] at NX
        clear q1
        replace NX := Lib.hid NX
        go_wp2_with (fail)
        refine US.out.mono ?_
        rintro e w5 ⟨rfl, g5⟩
        have HR5 := Lib.hid (own_keep0 HR.out g5)
        have HG5 := Lib.hid (gr_trans HG.out g5)
        have hz5 := HG5.out.size
        clear g5 US c0 c1 c2 c3 c4
        go_wp2_with (at_builtin; refine wpList_app1F eInt rfl _ _ rfl w1.heap.size _ k (ints (worthsT ps f k)) rfl w5 #[.int .i64 s] rfl HR5.out _ rfl rfl rfl rfl (by omega) (by omega) ?_; intro v7 w7 o7 g7 hl7 hk7; have HO7 := Lib.hid o7; have HG7 := Lib.hid (gr_grown HG5.out g7 (fun q hq => hl7 q hq)); clear o7 g7 hl7 hk7)
        go_wp2_with (fail)
        have HF : Hid (w7.ownsRow w1.heap.size 3 1 v7 (k + 1) (ints (worthsT ps f (k + 1)))) := by
          show World.ownsRow _ _ _ _ _ _ _
          have e9 : ints (worthsT ps f k ++ [s]) = ints (worthsT ps f k) ++ [.int .i64 s] := by simp [ints]
          rw [NX.out, e9]
          exact HO7.out
        go_roundw
        case rel => exact ⟨k + 1, by omega, by go_num, HF.out, HG7.out⟩
        case measure => simp [intOf]; omega
    · obtain rfl : k = ps.length + 1 := by omega
      obtain ⟨va, vc, rfl, -, -, -, -⟩ := own_shape hR
      have HR := Lib.hid hR
      have HG := Lib.hid (gr_trans HG1.out hgr)
      clear hR hgr
      go_wp2_with (fail)
      go_ret
      exact ⟨_, rfl, own_base HR.out hz1, HG.out⟩
end Go.Proofs.YtjhdngfliakidaaDoor

/-! The tables of groups of offers, and what they say. No program in sight. -/
namespace Go.Proofs.YtjhdngfliakidaaDoor
open Go.RowKit

def o0 : Offer := ⟨⟨#[]⟩, ⟨#[]⟩, [], [], []⟩
theorem used_bd (o : Offer) (n : Nat) (h : o.profits.length ≤ 10) (hb : ∀ x ∈ o.profits, -1000000 ≤ x ∧ x ≤ 1000000) : -10000000 ≤ (o.profits.take n).sum ∧ (o.profits.take n).sum ≤ 10000000 := by
  have := usedM_bd o (n : Int) h hb
  simpa [usedM] using this
theorem off_at (os : List Offer) (j : Nat) (h : j < os.length) : os.getD j o0 = os[j] := by rw [List.getD_eq_getElem?_getD, List.getElem?_eq_getElem h]; rfl
/-- The problem of offers and quotas. -/
def pbOf (os : List Offer) (hok : OffersOk os) (q : List Quo) : Pb where
  m := os.length
  G := fun j => (os.getD j o0).group
  N := fun j => (os.getD j o0).profits.length
  U := fun j n => ((os.getD j o0).profits.take n).sum
  q := q
  bd := fun j n => by
    by_cases h : j < os.length
    · rw [off_at os j h]
      have hp := hok.prof _ (List.getElem_mem h)
      exact used_bd _ n hp.2.1 hp.2.2
    · rw [List.getD_eq_getElem?_getD, List.getElem?_eq_none (by omega)]
      simp [o0]
  mb := hok.len
def fixF (F : List Int) (k : Nat) : Int := if k < F.length then F.getD k 0 else -1
def wsF (os : List Offer) (F : List Int) (k : Nat) : List Int := worthsT (os.getD k o0).profits (fixF F k) ((os.getD k o0).profits.length + 1)
def gT (os : List Offer) (F : List Int) (S : Nat) (g : ByteArray) : Nat → List Int
  | 0 => unitT S
  | k + 1 => if (os.getD k o0).group = g then withT (gT os F S g k) (wsF os F k) else gT os F S g k
def lT (os : List Offer) (F : List Int) (S : Nat) (q : List Quo) (g : ByteArray) : Nat → List Int
  | 0 => gT os F S g os.length
  | k + 1 => match q[k]? with
    | some x => if x.group = g then limT x.least x.most (S + 1) (lT os F S q g k) else lT os F S q g k
    | none => lT os F S q g k
theorem unitT_len (S : Nat) : (unitT S).length = S + 1 := by simp [unitT]
theorem withT_len (t ws : List Int) : (withT t ws).length = t.length := withI_len t ws _
theorem gT_len (os : List Offer) (F : List Int) (S : Nat) (g : ByteArray) : ∀ k, (gT os F S g k).length = S + 1
  | 0 => unitT_len S
  | k + 1 => by
    rw [gT]
    split
    · rw [withT_len, gT_len os F S g k]
    · exact gT_len os F S g k
theorem lT_len (os : List Offer) (F : List Int) (S : Nat) (q : List Quo) (g : ByteArray) : ∀ k, (lT os F S q g k).length = S + 1
  | 0 => gT_len os F S g _
  | k + 1 => by
    rw [lT]
    split
    · split
      · rw [limT_len, lT_len os F S q g k]
      · exact lT_len os F S q g k
    · exact lT_len os F S q g k
theorem gT_none (os : List Offer) (F : List Int) (S : Nat) (g : ByteArray) : ∀ k, (∀ j, j < k → (os.getD j o0).group ≠ g) → gT os F S g k = unitT S
  | 0, _ => rfl
  | k + 1, h => by rw [gT, if_neg (h k (by omega)), gT_none os F S g k (fun j hj => h j (by omega))]
theorem fixF_alw (P : Pb) (F : List Int) (hF : ∀ x ∈ F, 0 ≤ x) (k n : Nat) (hn : n ≤ P.N k) : alw P F k n ↔ ¬ (0 ≤ fixF F k ∧ (n : Int) ≠ fixF F k) := by
  unfold alw fixF
  by_cases h : k < F.length
  · rw [if_pos h]
    have h0 : 0 ≤ F.getD k 0 := by
      rw [List.getD_eq_getElem?_getD, List.getElem?_eq_getElem h]
      exact hF _ (List.getElem_mem h)
    constructor
    · rintro ⟨_, h2⟩ ⟨_, h3⟩
      exact h3 (h2 h)
    · intro h2
      refine ⟨hn, fun _ => Classical.byContradiction fun h3 => h2 ⟨h0, h3⟩⟩
  · rw [if_neg h]
    exact ⟨fun _ h2 => by omega, fun _ => ⟨hn, fun h2 => absurd h2 h⟩⟩
theorem wsF_len (os : List Offer) (F : List Int) (k : Nat) : (wsF os F k).length = (os.getD k o0).profits.length + 1 := worthsT_len _ _ _
theorem wsF_rep (os : List Offer) (hok : OffersOk os) (q : List Quo) (F : List Int) (hF : ∀ x ∈ F, 0 ≤ x) (k : Nat) : Rep (wsF os F k) (fun n v => alw (pbOf os hok q) F k n ∧ v = (pbOf os hok q).U k n) := by
  refine ⟨fun r hr => ?_, fun r v ⟨_, e⟩ => by have := (pbOf os hok q).bd k r; omega⟩
  rw [wsF_len] at hr
  have hn : r ≤ (pbOf os hok q).N k := by show r ≤ (os.getD k o0).profits.length; omega
  have hv : (wsF os F k).getD r 0 = worthN (os.getD k o0).profits (fixF F k) r := by
    unfold wsF worthsT
    rw [List.getD_eq_getElem?_getD, List.getElem?_map, List.getElem?_range hr]
    rfl
  rw [hv]
  have ha := fixF_alw (pbOf os hok q) F hF k r hn
  unfold worthN
  by_cases hc : 0 ≤ fixF F k ∧ (r : Int) ≠ fixF F k
  · rw [if_pos hc]
    exact .inl ⟨rfl, fun v ⟨h1, _⟩ => (ha.1 h1) hc⟩
  · rw [if_neg hc]
    have hb := (pbOf os hok q).bd k r
    refine .inr ⟨?_, ⟨ha.2 hc, rfl⟩, fun v ⟨_, e⟩ => by rw [e]; exact Int.le_refl _⟩
    have e : (pbOf os hok q).U k r = ((os.getD k o0).profits.take r).sum := rfl
    rw [e] at hb
    show (-1099511627776 : Int) < _
    omega
theorem gT_rep (os : List Offer) (hok : OffersOk os) (q : List Quo) (F : List Int) (hF : ∀ x ∈ F, 0 ≤ x) (S : Nat) (g : ByteArray) : ∀ k, k ≤ os.length → Rep (gT os F S g k) (setG (pbOf os hok q) F (isG (pbOf os hok q) g) k)
  | 0, _ => (unit_rep S).iff (fun r _ v => setG_zero _ F _ r v) (fun r v h => setG_bd _ F _ 0 (Nat.zero_le _) r v h)
  | k + 1, hk => by
    have ih := gT_rep os hok q F hF S g k (by omega)
    have bd : ∀ r v, setG (pbOf os hok q) F (isG (pbOf os hok q) g) (k + 1) r v → -1000000000 ≤ v ∧ v ≤ 1000000000 := fun r v h => setG_bd _ F _ (k + 1) hk r v h
    rw [gT]
    by_cases hg : (os.getD k o0).group = g
    · rw [if_pos hg]
      have hp : isG (pbOf os hok q) g k = true := decide_eq_true hg
      refine (Rep.with ih (wsF_rep os hok q F hF k) (fun n v _ ⟨h, _⟩ => by rw [wsF_len]; have := h.1; show n < (os.getD k o0).profits.length + 1; exact Nat.lt_succ_of_le this) (fun r v h => bd r v ((setG_take _ F _ k hp r v).1 h))).iff (fun r _ v => setG_take _ F _ k hp r v) bd
    · rw [if_neg hg]
      exact ih.iff (fun r _ v => setG_skip _ F _ k (decide_eq_false hg) r v) bd
theorem lT_rep (os : List Offer) (hok : OffersOk os) (q : List Quo) (F : List Int) (hF : ∀ x ∈ F, 0 ≤ x) (S : Nat) (g : ByteArray) : ∀ k, k ≤ q.length → Rep (lT os F S q g k) (fun r v => setG (pbOf os hok q) F (isG (pbOf os hok q) g) os.length r v ∧ ∀ j x, j < k → q[j]? = some x → x.group = g → x.least ≤ (r : Int) ∧ (r : Int) ≤ x.most)
  | 0, _ => (gT_rep os hok q F hF S g os.length (Nat.le_refl _)).iff (fun r _ v => ⟨fun h => ⟨h, fun j _ hj => by omega⟩, fun h => h.1⟩) (fun r v h => setG_bd _ F _ _ (Nat.le_refl _) r v h.1)
  | k + 1, hk => by
    have ih := lT_rep os hok q F hF S g k (by omega)
    have hq : q[k]? = some q[k] := List.getElem?_eq_getElem (by omega)
    have split_j : ∀ (Q : Nat → Quo → Prop), (∀ j x, j < k + 1 → q[j]? = some x → Q j x) ↔ (∀ j x, j < k → q[j]? = some x → Q j x) ∧ Q k q[k] := fun Q =>
      ⟨fun h => ⟨fun j x hj => h j x (by omega), h k _ (by omega) hq⟩, fun ⟨h1, h2⟩ j x hj hx => by
        by_cases e : j = k
        · subst e
          rw [hq] at hx
          cases hx
          exact h2
        · exact h1 j x (by omega) hx⟩
    have bd : ∀ r v, (setG (pbOf os hok q) F (isG (pbOf os hok q) g) os.length r v ∧ ∀ j x, j < k + 1 → q[j]? = some x → x.group = g → x.least ≤ (r : Int) ∧ (r : Int) ≤ x.most) → -1000000000 ≤ v ∧ v ≤ 1000000000 := fun r v h => setG_bd _ F _ _ (Nat.le_refl _) r v h.1
    rw [lT, hq]
    simp only
    by_cases hg : q[k].group = g
    · rw [if_pos hg]
      have hl := ih.lim q[k].least q[k].most
      rw [lT_len] at hl
      refine hl.iff (fun r _ v => ?_) bd
      rw [split_j (fun _ x => x.group = g → x.least ≤ (r : Int) ∧ (r : Int) ≤ x.most)]
      exact ⟨fun ⟨⟨h1, h2⟩, h3⟩ => ⟨h1, h2, fun _ => h3⟩, fun ⟨h1, h2, h3⟩ => ⟨⟨h1, h2⟩, h3 hg⟩⟩
    · rw [if_neg hg]
      refine ih.iff (fun r _ v => ?_) bd
      rw [split_j (fun _ x => x.group = g → x.least ≤ (r : Int) ∧ (r : Int) ≤ x.most)]
      exact ⟨fun ⟨h1, h2⟩ => ⟨h1, h2, fun e => absurd e hg⟩, fun ⟨h1, h2, _⟩ => ⟨h1, h2⟩⟩
theorem last_rep (os : List Offer) (hok : OffersOk os) (q : List Quo) (F : List Int) (hF : ∀ x ∈ F, 0 ≤ x) (S : Nat) (g : ByteArray) : Rep (lT os F S q g q.length) (lastG (pbOf os hok q) F g) := by
  refine (lT_rep os hok q F hF S g q.length (Nat.le_refl _)).iff (fun r _ v => ?_) (fun r v h => setG_bd _ F _ _ (Nat.le_refl _) r v h.1)
  constructor
  · rintro ⟨h1, h2⟩
    refine ⟨h1, fun x hx e => ?_⟩
    obtain ⟨j, hj, rfl⟩ := List.getElem_of_mem (show x ∈ q from hx)
    exact h2 j _ hj (List.getElem?_eq_getElem hj) e
  · rintro ⟨h1, h2⟩
    exact ⟨h1, fun j x _ hx e => h2 x (List.mem_of_getElem? hx) e⟩
theorem Rep.mem_bd {t : List Int} {A : Nat → Int → Prop} (h : Rep t A) : ∀ x ∈ t, -10000000000000 ≤ x ∧ x ≤ 10000000000000 := by
  intro x hx
  obtain ⟨r, hr, rfl⟩ := List.getElem_of_mem hx
  have e : t.getD r 0 = t[r] := by rw [List.getD_eq_getElem?_getD, List.getElem?_eq_getElem hr]; rfl
  rw [← e]
  rcases h.gr r hr with ⟨e1, _⟩ | ⟨_, e1, _⟩
  · rw [e1]
    show (-10000000000000 : Int) ≤ -1099511627776 ∧ (-1099511627776 : Int) ≤ _
    omega
  · have := h.bd _ _ e1
    omega
end Go.Proofs.YtjhdngfliakidaaDoor

/-! What so many slots could be worth at most: no counts are worth more than the greatest profits. No program in sight. -/
namespace Go.Proofs.YtjhdngfliakidaaDoor

def posS (t : Int) (L : List Int) : Int := (L.map fun x => max (x - t) 0).sum
theorem posS_nil (t : Int) : posS t [] = 0 := rfl
theorem posS_cons (t x : Int) (L : List Int) : posS t (x :: L) = max (x - t) 0 + posS t L := by simp [posS]
theorem posS_append (t : Int) (A B : List Int) : posS t (A ++ B) = posS t A + posS t B := by simp [posS]
theorem posS_perm {t : Int} {A B : List Int} (h : A.Perm B) : posS t A = posS t B := by
  induction h with
  | nil => rfl
  | cons x _ ih => rw [posS_cons, posS_cons, ih]
  | swap x y l => rw [posS_cons, posS_cons, posS_cons, posS_cons]; omega
  | trans _ _ ih1 ih2 => rw [ih1, ih2]
theorem posS_nonneg (t : Int) : ∀ L : List Int, 0 ≤ posS t L
  | [] => Int.le_refl _
  | x :: L => by rw [posS_cons]; have := posS_nonneg t L; omega
theorem posS_top (t : Int) : ∀ L : List Int, (∀ x ∈ L, x ≤ t) → posS t L = 0
  | [], _ => rfl
  | x :: L, h => by
    rw [posS_cons, posS_top t L (fun y hy => h y (List.mem_cons_of_mem _ hy))]
    have := h x (List.mem_cons_self ..)
    omega
/-- The first n of a list are worth at most what of it is above t, and n times t. -/
theorem take_pos (t : Int) : ∀ (L : List Int) (n : Nat), n ≤ L.length → (L.take n).sum ≤ posS t L + n * t
  | L, 0, _ => by have := posS_nonneg t L; simp; omega
  | [], n + 1, h => by simp at h
  | x :: L, n + 1, h => by
    have := take_pos t L n (by simpa using h)
    rw [List.take_succ_cons, List.sum_cons, posS_cons]
    have e : ((n + 1 : Nat) : Int) * t = n * t + t := by push_cast; rw [Int.add_mul]; omega
    omega
theorem desc_top : ∀ (D : List Int) (S : Nat) (y : Int), Desc D → S ≤ D.length → (∀ d ∈ D, d ≤ y) → ∃ t, t ≤ y ∧ (D.take S).sum = posS t D + S * t
  | [], S, y, _, h, _ => ⟨y, Int.le_refl _, by have : S = 0 := by simpa using h
                                               subst this; simp [posS]⟩
  | x :: D, 0, y, hd, _, hy => by
    refine ⟨x, hy x (List.mem_cons_self ..), ?_⟩
    rw [posS_cons, posS_top x D (fun _ h => List.rel_of_pairwise_cons hd h)]
    simp
  | x :: D, S + 1, y, hd, h, hy => by
    obtain ⟨t, ht, e⟩ := desc_top D S x (List.Pairwise.of_cons hd) (by simpa using h) (fun _ h => List.rel_of_pairwise_cons hd h)
    refine ⟨t, by have := hy x (List.mem_cons_self ..); omega, ?_⟩
    rw [List.take_succ_cons, List.sum_cons, posS_cons, e]
    have e : ((S + 1 : Nat) : Int) * t = S * t + t := by push_cast; rw [Int.add_mul]; omega
    omega
theorem some_top : ∀ D : List Int, ∃ y : Int, ∀ d ∈ D, d ≤ y
  | [] => ⟨0, fun d hd => by cases hd⟩
  | x :: D => by
    obtain ⟨y, hy⟩ := some_top D
    refine ⟨max x y, fun d hd => ?_⟩
    rcases List.mem_cons.1 hd with rfl | hd
    · omega
    · have := hy d hd; omega
/-- All profits, and those of the first k offers. -/
def allP (os : List Offer) (k : Nat) : List Int := (os.take k).flatMap Offer.profits
theorem allP_succ (os : List Offer) (k : Nat) (hk : k < os.length) : allP os (k + 1) = allP os k ++ (os.getD k o0).profits := by
  unfold allP
  rw [off_at os k hk, List.take_succ_eq_append_getElem hk, List.flatMap_append]
  simp [List.flatMap_cons]
theorem counts_pos (os : List Offer) (c : Nat → Nat) (t : Int) (h : ∀ j, j < os.length → c j ≤ (os.getD j o0).profits.length) : ∀ k, k ≤ os.length → gs (fun _ => true) (fun j => ((os.getD j o0).profits.take (c j)).sum) k ≤ posS t (allP os k) + (gn (fun _ => true) c k : Nat) * t ∧ gn (fun _ => true) c k ≤ (allP os k).length
  | 0, _ => by simp [gs, gn, allP, posS]
  | k + 1, hk => by
    obtain ⟨h1, h2⟩ := counts_pos os c t h k (by omega)
    have h3 := take_pos t (os.getD k o0).profits (c k) (h k (by omega))
    have h4 := h k (by omega)
    rw [allP_succ os k (by omega), posS_append]
    simp only [gs, gn, if_true, List.length_append]
    have e : ((gn (fun _ => true) c k + c k : Nat) : Int) * t = (gn (fun _ => true) c k : Nat) * t + c k * t := by push_cast; rw [Int.add_mul]
    constructor <;> omega
def boundM (os : List Offer) (S : Nat) : Int := ((sortD (allP os os.length)).take (min S (allP os os.length).length)).sum
/-- No counts are worth more than the bound. -/
theorem bound_top (os : List Offer) (hok : OffersOk os) (q : List Quo) (S : Nat) (c : Nat → Nat) (h : okC (pbOf os hok q) [] S c) : worthC (pbOf os hok q) c ≤ boundM os S := by
  obtain ⟨h1, -, h3⟩ := h
  have hc : ∀ j, j < os.length → c j ≤ (os.getD j o0).profits.length := fun j hj => (h1 j hj).1
  have hS : S ≤ (allP os os.length).length := by rw [← h3]; exact (counts_pos os c 0 hc os.length (Nat.le_refl _)).2
  have hp := sortD_perm (allP os os.length)
  have hd := sortD_desc (allP os os.length)
  have hl : (sortD (allP os os.length)).length = (allP os os.length).length := hp.length_eq
  obtain ⟨y, hy⟩ := some_top (sortD (allP os os.length))
  obtain ⟨t, -, e⟩ := desc_top _ S y hd (by omega) hy
  have h5 := (counts_pos os c t hc os.length (Nat.le_refl _)).1
  have e3 : gn (fun _ => true) c os.length = S := h3
  rw [e3, ← posS_perm hp, ← e] at h5
  unfold boundM
  rw [Nat.min_eq_left hS]
  exact h5
end Go.Proofs.YtjhdngfliakidaaDoor
