/- Package shelf: right offers pass CheckOffers. -/
import Derived.Test.YthikknnadmebgaaGreatDoorPkSAi
import Derived.Test.YthikknnadmebgaaGreatDoorPkSAc
import Derived.Test.YthikknnadmebgaaGreatDoorPkSAj
import Derived.Deep.DrawnRows
import Derived.IntWalk
import Derived.Deep.QuietTactic
import Derived.BigQuiet
import Derived.Deep.RegionLaw
import Derived.Deep.CutRange
namespace Go.Proofs.YthikknnadmebgaaGreatDoor
open Go.RowKit
attribute [local go_sem ↓] Go.wp_at_zero Go.wp_at_succ

set_option maxRecDepth 100000 in
theorem or_zeros2 (n g c : Nat) (w : World) (hn : n ≤ 2) (h0 : ∀ k, k < n → w.cell? ⟨g, k, none⟩ = some (.int .i64 0)) :
    Calls Tryz.prog 107 #[.slice (some ⟨g, 0, none⟩) n c] w fun e w' => e = .returned (.int .i64 0) ∧ w = w' := by
  have H := Lib.hid h0
  clear h0
  go_enter Tryz.func107, Tryz.ntmps107
  go_wp2_with (fail)
  go_loop [8] (fun i => ∃ k : Nat, k ≤ n ∧ i = .int .i64 k) (fun i => n - (intOf i).toNat)
  case atStart => exact ⟨0, by omega, rfl⟩
  case round =>
    obtain ⟨k, hk, rfl⟩ := hrel
    by_cases hlt : k < n
    · have d0 := H.out k hlt
      go_wp2_with (fail)
      go_round
      case rel => exact ⟨k + 1, by omega, by go_num⟩
      case measure => simp [intOf]; omega
    · go_wp2_with (fail)
      go_ret
      exact ⟨rfl, rfl⟩
def leB (a b : ByteArray) : Bool := Op.bytesLess a.toList b.toList || a.toList == b.toList
structure KeysOk (xs : List ByteArray) : Prop where
  len : xs.length ≤ 10
  key : ∀ x ∈ xs, keyB x = true ∧ x.size ≤ 100
  up : ∀ i, 0 < i → i < xs.length → leB (xs.getD i ⟨#[]⟩) (xs.getD (i - 1) ⟨#[]⟩) = false
theorem str_cell {w : World} {a : Option Addr} {xs : List ByteArray} (h : CellsAt w a (strs xs)) (k : Nat) (hk : k < xs.length) : ∃ b off, a = some ⟨b, off, none⟩ ∧ w.cell? ⟨b, off + k, none⟩ = some (.string (xs.getD k ⟨#[]⟩)) := h k _ (strs_get xs k hk)
set_option maxRecDepth 100000 in
set_option maxHeartbeats 1000000 in
theorem keysFault_ok (xs : List ByteArray) (a : Option Addr) (c : Nat) (w : World) (h : CellsAt w a (strs xs)) (hok : KeysOk xs) :
    Calls Tryz.prog 112 #[.slice a xs.length c] w fun e w' => e = .returned (.int .i64 0) ∧ w = w' := by
  have hl := hok.len
  have HK := Lib.hid hok
  have H := Lib.hid h
  clear hok h
  go_enter Tryz.func112, Tryz.ntmps112
  go_wp2_with (fail)
  go_loop [10] (fun i => ∃ k : Nat, k ≤ xs.length ∧ i = .int .i64 k) (fun i => xs.length - (intOf i).toNat)
  case atStart => exact ⟨0, Nat.zero_le _, rfl⟩
  case round =>
    obtain ⟨k, hk, rfl⟩ := hrel
    by_cases hlt : k < xs.length
    · obtain ⟨b, off, rfl, d0⟩ := str_cell H.out k hlt
      obtain ⟨kx, ksz⟩ := HK.out.key (xs.getD k ⟨#[]⟩) (by rw [getD_eq xs k _ hlt]; exact List.getElem_mem hlt)
      by_cases h0 : 0 < k
      · have hup := HK.out.up k h0 hlt
        obtain ⟨b', off', he, d1⟩ := str_cell H.out (k - 1) (by omega)
        cases he
        obtain ⟨x, hx⟩ : ∃ x, x = xs.getD k ⟨#[]⟩ := ⟨_, rfl⟩
        obtain ⟨y, hy⟩ : ∃ y, y = xs.getD (k - 1) ⟨#[]⟩ := ⟨_, rfl⟩
        rw [← hx] at kx ksz hup d0
        rw [← hy] at hup d1
        have hup2 : (Op.bytesLess x.toList y.toList || x.toList == y.toList) = false := hup
        have d2 : w.cell? ⟨b, off + k - 1, none⟩ = some (.string y) := by rw [show off + k - 1 = off + (k - 1) by omega]; exact d1
        have hk1 : (((k - 1 : Nat)) : Int) = (k : Int) - 1 := by omega
        have HK1 := Lib.hid hk1
        have HKX := Lib.hid kx
        clear hx hy hup kx hk1
        have hint : (1 : Int) ≤ (k : Int) := by omega
        go_wp2_with (fail)
        refine (key_any x w (by omega)).mono ?_
        rintro e w2 ⟨rfl, rfl⟩
        rw [HKX.out]
        go_wp2_with (fail)
        go_round
        case rel => exact ⟨k + 1, by omega, by go_num⟩
        case measure => simp [intOf]; omega
      · obtain rfl : k = 0 := by omega
        obtain ⟨x, hx⟩ : ∃ x, x = xs.getD 0 ⟨#[]⟩ := ⟨_, rfl⟩
        rw [← hx] at kx ksz d0
        simp only [Nat.add_zero] at d0
        have HKX := Lib.hid kx
        clear hx kx
        go_wp2_with (fail)
        refine (key_any x w (by omega)).mono ?_
        rintro e w2 ⟨rfl, rfl⟩
        rw [HKX.out]
        go_wp2_with (fail)
        go_round
        case rel => exact ⟨1, by omega, by go_num⟩
        case measure => simp [intOf]; omega
    · obtain rfl : k = xs.length := by omega
      go_wp2_with (fail)
      go_ret
      exact ⟨rfl, rfl⟩

structure OffersOk (os : List Offer) : Prop where
  len : os.length ≤ 30
  key : ∀ o ∈ os, keyB o.key = true ∧ keyB o.group = true ∧ o.key.size ≤ 100 ∧ o.group.size ≤ 100
  prof : ∀ o ∈ os, 0 < o.profits.length ∧ o.profits.length ≤ 10 ∧ ∀ n ∈ o.profits, -1000000 ≤ n ∧ n ≤ 1000000
  sub : ∀ o ∈ os, KeysOk o.has ∧ KeysOk o.hates
  up : ∀ i (h0 : 0 < i) (h : i < os.length), leB os[i].key (os[i - 1]'(by omega)).key = false
theorem checkOffers1_fn : IsFn 111 := fun _ _ => by kernel_rfl
set_option maxRecDepth 100000 in
theorem checkOffers1_any (xs : List Int) (w : World) (h : ∀ n ∈ xs, -1000000 ≤ n ∧ n ≤ 1000000) : Answers 111 #[] (fun _ => false) xs w := by
  intro x hx w1 hg
  obtain ⟨h1, h2⟩ := h x hx
  clear h
  show Calls _ _ #[.int .i64 x] w1 _
  go_enter Tryz.func111, Tryz.ntmps111
  go_wp2_with (fail)
  refine (out_any x (-1000000) 1000000 w1).mono ?_
  rintro e w2 ⟨rfl, rfl⟩
  have e1 : (decide (x < -1000000) || decide (1000000 < x)) = false := by simp; omega
  rw [e1]
  go_wp2_with (fail)
  go_ret
  exact ⟨rfl, gr_refl _ _⟩
set_option maxRecDepth 100000 in
set_option maxHeartbeats 2000000 in
theorem checkOffers_ok (os : List Offer) (a : Option Addr) (vs : List OV) (c : Nat) (w : World) (h : OffsAt w a vs os) (hok : OffersOk os) :
    Calls Tryz.prog 71 #[.slice a os.length c] w fun e w' => e = .returned (.int .i64 0) ∧ w.grownBy w' none := by
  have hl := hok.len
  have HK := Lib.hid hok
  have H := Lib.hid h
  clear hok h
  go_enter Tryz.func71, Tryz.ntmps71
  go_wp2_with (fail)
  go_loopw [11] (fun i wr => ∃ k : Nat, k ≤ os.length ∧ i = .int .i64 k ∧ w.grownBy wr none) (fun i _ => os.length - (intOf i).toNat)
  case atStart => exact ⟨0, Nat.zero_le _, rfl, gr_refl _ _⟩
  case round =>
    obtain ⟨k, hk, rfl, hgr⟩ := hrel
    obtain ⟨wo, rfl⟩ : ∃ wo : World, wo = wr := ⟨_, rfl⟩
    by_cases hlt : k < os.length
    · obtain ⟨b, off, v, rfl, hr, d0, d1, d2, d3, d4⟩ := (H.out.keep0 hgr).at k hlt
      obtain ⟨k1, k2, k3, k4⟩ := HK.out.key os[k] (List.getElem_mem hlt)
      obtain ⟨p1, p2, p3⟩ := HK.out.prof os[k] (List.getElem_mem hlt)
      obtain ⟨s1, s2⟩ := HK.out.sub os[k] (List.getElem_mem hlt)
      have e1 := hr.key
      have e2 := hr.group
      have hpn := hr.pn
      have hhn := hr.hn
      have htn := hr.tn
      have CP := Lib.hid hr.pr
      have CH := Lib.hid hr.has
      have CT := Lib.hid hr.hat
      have hul := HK.out.up k
      obtain ⟨o, ho⟩ : ∃ o, o = os[k] := ⟨_, rfl⟩
      rw [← ho] at e1 e2 hpn hhn htn CP CH CT k1 k2 k3 k4 p1 p2 p3 s1 s2
      obtain ⟨vk, vg, pa, pn, pc, ha, hn, hc, ta, tn, tc⟩ := v
      simp only at e1 e2 hpn hhn htn CP CH CT d0 d1 d2 d3 d4
      subst e1 e2 hpn hhn htn
      have HO := Lib.hid ho
      have K1 := Lib.hid k1; have K2 := Lib.hid k2; have P3 := Lib.hid p3; have S1 := Lib.hid s1; have S2 := Lib.hid s2
      have HUL := Lib.hid hul
      clear hr ho k1 k2 p3 s1 s2 hul
      go_wp2_with (fail)
      have hO := heap_alloc_new wo (.cells #[.string o.key, .string o.group, .slice pa o.profits.length pc, .slice ha o.has.length hc, .slice ta o.hates.length tc] 119)
      have hg1 := gr_alloc (gr_refl wo none) (.cells #[.string o.key, .string o.group, .slice pa o.profits.length pc, .slice ha o.has.length hc, .slice ta o.hates.length tc] 119)
      obtain ⟨w1, hw1⟩ : ∃ w1, w1 = wo.alloc (.cells #[.string o.key, .string o.group, .slice pa o.profits.length pc, .slice ha o.has.length hc, .slice ta o.hates.length tc] 119) := ⟨_, rfl⟩
      rw [← hw1] at hO hg1
      rw [← hw1]
      obtain ⟨O, hOe⟩ : ∃ O, O = wo.heap.size := ⟨_, rfl⟩
      rw [← hOe] at hO
      rw [← hOe]
      have q0 := (gr_cell hg1 (lt_of_cell d0)).trans d0
      have hgr1 := gr_trans hgr hg1
      clear hw1 hOe d0 d1 d2 d3 d4
      obtain ⟨c0, c1, c2, c3, c4⟩ := blk5 hO
      refine (key_any o.key w1 (by omega)).mono ?_
      rintro e w2 ⟨rfl, rfl⟩
      rw [K1.out]
      have hint : ((os.length : Nat) : Int) ≤ 30 := by omega
      have HO1 := Lib.hid hO
      clear hO
      by_cases h0 : 0 < k
      · have hul := HUL.out h0 hlt
        rw [← HO.out] at hul
        obtain ⟨b', off', v', he, hr', m0, _⟩ := ((H.out.keep0 hgr1)).at (k - 1) (by omega)
        cases he
        have ek := hr'.key
        obtain ⟨y, hy⟩ : ∃ y, y = v'.key := ⟨_, rfl⟩
        rw [← hy] at m0 ek
        rw [← ek] at hul
        have hup2 : (Op.bytesLess o.key.toList y.toList || o.key.toList == y.toList) = false := hul
        have m1 : w1.cell? ⟨b, off + (k - 1) * 5, none⟩ = some (.string y) := m0
        have hkc : (((k - 1 : Nat)) : Int) = (k : Int) - 1 := by omega
        have hint1 : (0 : Int) ≤ (k : Int) - 1 := by omega
        have hint2 : (k : Int) - 1 < (os.length : Int) := by omega
        have hint3 : (0 : Int) < (k : Int) := by omega
        have htn : ((k : Int) - 1).toNat = k - 1 := by omega
        have hwr : IntKind.i64.wrap ((k : Int) - 1) = (k : Int) - 1 := IntWalk.i64_in _ (by omega)
        clear hr' hy ek hul m0 hkc
        go_wp2_with (fail)
        go_quiet (fail)
        go_wp2_with (fail)
        refine (key_any o.group (w1.drewN nq) (by omega)).mono ?_
        rintro e w2 ⟨rfl, rfl⟩
        rw [K2.out]
        go_wp2_with (fail)
        have hgd1 := gr_drewN (gr_refl w1 none) nq
        have hgq := gr_trans hgr1 hgd1
        refine (containsFunc_int _ (fun _ => false) o.profits pa pc (w1.drewN nq) (CP.out.keep0 (gr_trans hg1 hgd1)) (by omega) checkOffers1_fn (checkOffers1_any o.profits _ P3.out)).mono ?_
        rintro e w3 ⟨rfl, hg3⟩
        have hany : o.profits.any (fun _ => false) = false := by simp
        rw [hany]
        have hg13 := gr_trans hgd1 hg3
        have hO3 := (hg13.block O (lt_of_block HO1.out) (by simp)).trans HO1.out
        have g03 := gr_trans hg1 hg13
        have hgd := gr_drew (gr_refl w3 none)
        have KF1 : Hid (∀ W, w3.grownBy W none → Calls Tryz.prog 112 #[.slice ha o.has.length hc] W fun e w' => e = .returned (.int .i64 0) ∧ W = w') := fun W g => keysFault_ok o.has ha hc W (CH.out.keep0 (gr_trans g03 g)) S1.out
        have KF2 : Hid (∀ W, w3.grownBy W none → Calls Tryz.prog 112 #[.slice ta o.hates.length tc] W fun e w' => e = .returned (.int .i64 0) ∧ W = w') := fun W g => keysFault_ok o.hates ta tc W (CT.out.keep0 (gr_trans g03 g)) S2.out
        have hgr3 := gr_trans hgr1 hg13
        clear c0 c1 c2 c3 c4
        obtain ⟨c0, c1, c2, c3, c4⟩ := blk5 hO3
        clear hO3 hg13 g03 hg3 hgd1 hany c0 c1 c2
        go_wp2_with (fail)
        go_cut [5] from 54 to 61 (fun s wx => s = .int .i64 0 ∧ w3.grownBy wx none)
        case first =>
          go_region_law (first
            | (go_simp; go_at_call 112; (first | (with_reducible refine (KF1.out _ ?_).mono ?_) | (with_reducible refine (KF2.out _ ?_).mono ?_)); (· exact hgd); rintro e w4 ⟨rfl, rfl⟩)
            | (go_simp; go_at_call 107; (with_reducible refine (or_zeros2 2 w3.heap.size 2 _ (by decide) ?_).mono ?_); (· intro j hj; have : j = 0 ∨ j = 1 := (by omega); rcases this with rfl | rfl <;> exact made_cell (gr_drew (gr_refl _ _)) _ rfl); rintro e w5 ⟨rfl, rfl⟩)
            | fail)
          all_goals (go_wp2_with (fail); go_meet; exact ⟨rfl, gr_drew (gr_alloc (gr_refl _ _) _)⟩)
        case rest =>
        obtain ⟨rfl, hgc⟩ := hcut
        go_wp2_with (fail)
        go_roundw
        case rel => exact ⟨k + 1, by omega, by go_num, gr_trans hgr3 hgc⟩
        case measure => simp [intOf]; omega
      · obtain rfl : k = 0 := by omega
        have hdf : decide ((0 : Int) < 0) = false := by decide
        go_wp2_with (fail)
        go_quiet (fail)
        go_wp2_with (fail)
        refine (key_any o.group (w1.drewN nq) (by omega)).mono ?_
        rintro e w2 ⟨rfl, rfl⟩
        rw [K2.out]
        go_wp2_with (fail)
        have hgd1 := gr_drewN (gr_refl w1 none) nq
        have hgq := gr_trans hgr1 hgd1
        refine (containsFunc_int _ (fun _ => false) o.profits pa pc (w1.drewN nq) (CP.out.keep0 (gr_trans hg1 hgd1)) (by omega) checkOffers1_fn (checkOffers1_any o.profits _ P3.out)).mono ?_
        rintro e w3 ⟨rfl, hg3⟩
        have hany : o.profits.any (fun _ => false) = false := by simp
        rw [hany]
        have hg13 := gr_trans hgd1 hg3
        have hO3 := (hg13.block O (lt_of_block HO1.out) (by simp)).trans HO1.out
        have g03 := gr_trans hg1 hg13
        have hgd := gr_drew (gr_refl w3 none)
        have KF1 : Hid (∀ W, w3.grownBy W none → Calls Tryz.prog 112 #[.slice ha o.has.length hc] W fun e w' => e = .returned (.int .i64 0) ∧ W = w') := fun W g => keysFault_ok o.has ha hc W (CH.out.keep0 (gr_trans g03 g)) S1.out
        have KF2 : Hid (∀ W, w3.grownBy W none → Calls Tryz.prog 112 #[.slice ta o.hates.length tc] W fun e w' => e = .returned (.int .i64 0) ∧ W = w') := fun W g => keysFault_ok o.hates ta tc W (CT.out.keep0 (gr_trans g03 g)) S2.out
        have hgr3 := gr_trans hgr1 hg13
        clear c0 c1 c2 c3 c4
        obtain ⟨c0, c1, c2, c3, c4⟩ := blk5 hO3
        clear hO3 hg13 g03 hg3 hgd1 hany c0 c1 c2
        go_wp2_with (fail)
        go_cut [5] from 54 to 61 (fun s wx => s = .int .i64 0 ∧ w3.grownBy wx none)
        case first =>
          go_region_law (first
            | (go_simp; go_at_call 112; (first | (with_reducible refine (KF1.out _ ?_).mono ?_) | (with_reducible refine (KF2.out _ ?_).mono ?_)); (· exact hgd); rintro e w4 ⟨rfl, rfl⟩)
            | (go_simp; go_at_call 107; (with_reducible refine (or_zeros2 2 w3.heap.size 2 _ (by decide) ?_).mono ?_); (· intro j hj; have : j = 0 ∨ j = 1 := (by omega); rcases this with rfl | rfl <;> exact made_cell (gr_drew (gr_refl _ _)) _ rfl); rintro e w5 ⟨rfl, rfl⟩)
            | fail)
          all_goals (go_wp2_with (fail); go_meet; exact ⟨rfl, gr_drew (gr_alloc (gr_refl _ _) _)⟩)
        case rest =>
        obtain ⟨rfl, hgc⟩ := hcut
        go_wp2_with (fail)
        go_roundw
        case rel => exact ⟨1, by omega, by go_num, gr_trans hgr3 hgc⟩
        case measure => simp [intOf]; omega
    · obtain rfl : k = os.length := by omega
      go_wp2_with (fail)
      go_ret
      exact ⟨rfl, hgr⟩
end Go.Proofs.YthikknnadmebgaaGreatDoor

/-! The offers that the stream makes are right: no program in sight. -/
namespace Go.Proofs.YthikknnadmebgaaGreatDoor
open Go.RowKit

def keyUp (j : Nat) : Bool := keyB (Utf8.encode (97 + (j : Int))) && decide ((Utf8.encode (97 + (j : Int))).size ≤ 100) && (j == 0 || !leB (Utf8.encode (97 + (j : Int))) (Utf8.encode (97 + ((j - 1 : Nat) : Int))))
theorem keyUp_all : (List.range 20).all keyUp = true := by kernel_rfl
theorem offKey_ok (j : Nat) (h : j < 20) : keyB (Utf8.encode (97 + (j : Int))) = true ∧ (Utf8.encode (97 + (j : Int))).size ≤ 100 ∧ (0 < j → leB (Utf8.encode (97 + (j : Int))) (Utf8.encode (97 + ((j - 1 : Nat) : Int))) = false) := by
  have h1 := List.all_eq_true.1 keyUp_all j (List.mem_range.2 h)
  unfold keyUp at h1
  simp only [Bool.and_eq_true, decide_eq_true_eq, Bool.or_eq_true, beq_iff_eq, Bool.not_eq_true'] at h1
  obtain ⟨⟨a, b⟩, c⟩ := h1
  refine ⟨a, b, fun h0 => ?_⟩
  rcases c with c | c
  · omega
  · exact c
theorem keysOk_sub {xs : List ByteArray} (h : List.Sublist xs offNuts) : KeysOk xs := by
  have h1 : xs = [] ∨ xs = [⟨#[109, 105, 108, 107]⟩] ∨ xs = [⟨#[110, 117, 116]⟩] ∨ xs = offNuts := by
    unfold offNuts at h ⊢
    cases h with
    | cons a h =>
      cases h with
      | cons a h => cases h; exact .inl rfl
      | cons_cons a h => cases h; exact .inr (.inr (.inl rfl))
    | cons_cons a h =>
      cases h with
      | cons a h => cases h; exact .inr (.inl rfl)
      | cons_cons a h => cases h; exact .inr (.inr (.inr rfl))
  have k1 : keyB ⟨#[109, 105, 108, 107]⟩ = true := by decide
  have k2 : keyB ⟨#[110, 117, 116]⟩ = true := by decide
  rcases h1 with rfl | rfl | rfl | rfl
  · exact ⟨by decide, fun x hx => by simp at hx, fun i _ hi => by simp at hi⟩
  · refine ⟨by decide, fun x hx => ?_, fun i h0 hi => ?_⟩
    · simp only [List.mem_cons, List.not_mem_nil, or_false] at hx; subst hx; exact ⟨k1, by decide⟩
    · simp at hi; omega
  · refine ⟨by decide, fun x hx => ?_, fun i h0 hi => ?_⟩
    · simp only [List.mem_cons, List.not_mem_nil, or_false] at hx; subst hx; exact ⟨k2, by decide⟩
    · simp at hi; omega
  · refine ⟨by decide, fun x hx => ?_, fun i h0 hi => ?_⟩
    · simp only [offNuts, List.mem_cons, List.not_mem_nil, or_false] at hx
      rcases hx with rfl | rfl
      · exact ⟨k1, by decide⟩
      · exact ⟨k2, by decide⟩
    · simp [offNuts] at hi
      have : i = 1 := by omega
      subst this
      show leB (offNuts.getD 1 ⟨#[]⟩) (offNuts.getD 0 ⟨#[]⟩) = false
      kernel_rfl
theorem offersTo_get (l : List Int) (k i : Nat) : ∀ j, j < i → ∃ m, (offersTo l k i).1[j]? = some (offerAt l m j) := by
  induction i with
  | zero => intro j h; omega
  | succ i ih =>
    intro j h
    simp only [offersTo]
    by_cases hj : j < i
    · obtain ⟨m, hm⟩ := ih j hj
      exact ⟨m, by rw [List.getElem?_append_left (by rw [offersTo_len]; exact hj)]; exact hm⟩
    · have : j = i := by omega
      subst this
      exact ⟨_, by rw [List.getElem?_append_right (by rw [offersTo_len]; omega), offersTo_len, Nat.sub_self]; rfl⟩
theorem offer_key4 {l : List Int} {m j : Nat} (a : keyB (Utf8.encode (97 + (j : Int))) = true) (b : keyB (oneS l m offGroups) = true) (c : (Utf8.encode (97 + (j : Int))).size ≤ 100) (d : (oneS l m offGroups).size ≤ 100) :
    keyB (offerAt l m j).key = true ∧ keyB (offerAt l m j).group = true ∧ (offerAt l m j).key.size ≤ 100 ∧ (offerAt l m j).group.size ≤ 100 := by
  simp only [offerAt]
  exact ⟨a, b, c, d⟩
theorem offer_key1 {l : List Int} {m m' i j : Nat} (a : leB (Utf8.encode (97 + (i : Int))) (Utf8.encode (97 + (j : Int))) = false) : leB (offerAt l m i).key (offerAt l m' j).key = false := by
  simp only [offerAt]
  exact a
theorem offersM_ok (l : List Int) (k most : Nat) (hm : most ≤ 20) : OffersOk (offersM l k most) := by
  have hN := (offersN_le l k most).1
  have hlen : (offersM l k most).length = offersN l k most := offersTo_len _ _ _
  have hget : ∀ j (h : j < (offersM l k most).length), ∃ m, (offersM l k most)[j] = offerAt l m j := by
    intro j h
    obtain ⟨m, hm⟩ := offersTo_get l (k + 1) (offersN l k most) j (by omega)
    exact ⟨m, by have := (List.getElem?_eq_some_iff.1 hm).2; exact this⟩
  have hall : ∀ o ∈ offersM l k most, ∃ m j, j < 20 ∧ o = offerAt l m j := by
    intro o ho
    obtain ⟨j, hj, rfl⟩ := List.getElem_of_mem ho
    obtain ⟨m, e⟩ := hget j hj
    exact ⟨m, j, by omega, e⟩
  refine ⟨by omega, ?_, ?_, ?_, ?_⟩
  · intro o ho
    obtain ⟨m, j, hj, rfl⟩ := hall o ho
    obtain ⟨q1, q2, _⟩ := offKey_ok j hj
    have hg := oneS_mem l m offGroups (by decide)
    have q3 : keyB (oneS l m offGroups) = true ∧ (oneS l m offGroups).size ≤ 100 := by
      obtain ⟨s, hs⟩ : ∃ s, s = oneS l m offGroups := ⟨_, rfl⟩
      rw [← hs] at hg ⊢
      clear hs
      simp only [offGroups, List.mem_cons, List.not_mem_nil, or_false] at hg
      rcases hg with rfl | rfl | rfl <;> decide
    exact offer_key4 q1 q3.1 q2 q3.2
  · intro o ho
    obtain ⟨m, j, hj, rfl⟩ := hall o ho
    have h1 := offN_le l m
    have hl : (offerAt l m j).profits.length = offN l m := profTo_len _ _ _ _
    have hp := pickM_mem l (m + 1) [3, 5, 9] (by decide)
    simp only [List.mem_cons, List.not_mem_nil, or_false] at hp
    refine ⟨by omega, by omega, fun n hn => ?_⟩
    have := profTo_mem l (m + 3) (pickM l (m + 1) [3, 5, 9]) (offN l m) n hn
    omega
  · intro o ho
    obtain ⟨m, j, hj, rfl⟩ := hall o ho
    exact ⟨keysOk_sub (someM_sub _ _ _ _), keysOk_sub (someM_sub _ _ _ _)⟩
  · intro i h0 h
    obtain ⟨m, e⟩ := hget i h
    obtain ⟨m', e'⟩ := hget (i - 1) (by omega)
    obtain ⟨_, _, q3⟩ := offKey_ok i (by omega)
    rw [e, e']
    exact offer_key1 (q3 h0)
end Go.Proofs.YthikknnadmebgaaGreatDoor
