/- Tiers: what is wrong with them; the commission. -/
import Derived.Test.YtoiclngamaadgaaEven
import Derived.Test.YtoiclngamaadgaaFlat
import Derived.Test.YtoiclngamaadgaaGrew
import Derived.Test.YtoiclngamaadgaaStepApp
import Derived.Deep.DeepCutAuto
namespace Go.Proofs.Ytoiclngamaadgaa
open Go.RowKit

theorem ifMin (a b : Int) : (if b < a then b else a) = min a b := by split <;> omega

theorem ifMax (a b : Int) : (if b < a then a - b else 0) = max 0 (a - b) := by split <;> omega

theorem wrapTwo (a b : Int) (h0 : 0 ≤ a ∧ a ≤ 10000000000000 * 20) (h1 : 0 ≤ b ∧ b ≤ 1000000000 * 10000) : wrap64 (a + wrap64 b) = a + b := by
  rw [IntWalk.wrap64_in b (by omega), IntWalk.wrap64_in _ (by omega)]

def encTier (x : Tier) : List Value := [.int .i64 x.from_, .int .i64 x.rate]
theorem encTier_len (x : Tier) : (encTier x).length = 2 := rfl
theorem tier_cells {w : World} {a : Option Addr} {l : List Tier} (h : CellsAt w a (flat encTier l)) (k : Nat) (hk : k < l.length) :
    ∃ b off, a = some ⟨b, off, none⟩ ∧ w.cell? ⟨b, off + k * 2, none⟩ = some (.int .i64 l[k].from_) ∧ w.cell? ⟨b, off + k * 2 + 1, none⟩ = some (.int .i64 l[k].rate) := by
  obtain ⟨b, off, rfl, hcs⟩ := flat_cells encTier_len (by decide) h (by omega)
  exact ⟨b, off, rfl, hcs k hk 0 _ rfl, hcs k hk 1 _ rfl⟩
structure TierAt (l : List Tier) (i : Nat) (hi : i < l.length) : Prop where
  lo : 0 ≤ l[i].from_ ∧ l[i].from_ ≤ 1000000000
  up : ∀ (h0 : 0 < i), (l[i - 1]'(by omega)).from_ < l[i].from_
  rate : 0 ≤ l[i].rate ∧ l[i].rate ≤ 10000
theorem tiersOk_of {l : List Tier} (h0 : 0 < l.length) (hl : l.length ≤ 20) (hz : l[0].from_ = 0) (h : ∀ i (hi : i < l.length), TierAt l i hi) : TiersOk l :=
  ⟨h0, hl, fun _ => hz, fun i hi => (h i hi).lo, fun i hi h0 => (h i hi).up h0, fun i hi => (h i hi).rate⟩
theorem TiersOk.at_ {l : List Tier} (h : TiersOk l) (i : Nat) (hi : i < l.length) : TierAt l i hi := ⟨h.lo i hi, fun h0 => h.up i hi h0, h.rate i hi⟩
set_option maxRecDepth 100000 in
set_option maxHeartbeats 4000000 in
theorem tiersFault_any (l : List Tier) (a : Option Addr) (c : Nat) (w : World) (h : CellsAt w a (flat encTier l)) (hl : l.length ≤ 100) :
    Calls Try.prog 13 #[.slice a l.length c] w fun e w' => ∃ r : Int, e = .returned (.int .i64 r) ∧ (r = 0 → TiersOk l) ∧ w.grownBy w' none := by
  have H := Lib.hid h
  clear h
  go_enter Try.func13, Try.ntmps13
  by_cases hp : 0 < l.length
  · have hz : ((l.length : Int) == 0) = false := beq_eq_false_iff_ne.2 (by omega)
    by_cases h20 : 20 < l.length
    · have d20 : decide ((20 : Int) < (l.length : Int)) = true := decide_eq_true (by omega)
      go_wp2_with (fail)
      go_ret
      exact ⟨2, rfl, (fun e => by cases e), gr_refl _ _⟩
    · have d20 : decide ((20 : Int) < (l.length : Int)) = false := decide_eq_false (by omega)
      obtain ⟨b, off, rfl, z0, -⟩ := tier_cells H.out 0 hp
      simp only [Nat.zero_mul, Nat.add_zero] at z0
      obtain ⟨f0, hf0⟩ : ∃ f, f = l[0].from_ := ⟨_, rfl⟩
      rw [← hf0] at z0
      have hp2 : (0 : Int) < (l.length : Int) := by omega
      by_cases hf : f0 = 0
      · have dz : (f0 != 0) = false := by simp [hf]
        have HZ : Hid (l[0].from_ = 0) := by show _ = _; rw [← hf0]; exact hf
        have HF := Lib.hid hf
        clear hf0 hf
        go_wp2_with (fail)
        clear z0
        go_loopw [21] (fun i wr => ∃ k : Nat, k ≤ l.length ∧ i = .int .i64 k ∧ (∀ j (hj : j < l.length), j < k → TierAt l j hj) ∧ w.grownBy wr none) (fun i _ => l.length - (intOf i).toNat)
        case atStart => exact ⟨0, Nat.zero_le _, rfl, fun j _ h => absurd h (Nat.not_lt_zero _), gr_refl _ _⟩
        case round =>
          obtain ⟨k, hk, rfl, hok, hgr⟩ := hrel
          obtain ⟨wo, rfl⟩ : ∃ wo : World, wo = wr := ⟨_, rfl⟩
          by_cases hlt : k < l.length
          · obtain ⟨_, _, e, d0, d1⟩ := tier_cells (H.out.keep0 hgr) k hlt
            cases e
            have MK : Hid ((0 ≤ l[k].from_ ∧ l[k].from_ ≤ 1000000000) → (∀ (h : 0 < k), (l[k - 1]'(by omega)).from_ < l[k].from_) → (0 ≤ l[k].rate ∧ l[k].rate ≤ 10000) → ∀ j (hj : j < l.length), j < k + 1 → TierAt l j hj) := fun h1 h2 h3 j hj hjk => by
              by_cases e : j = k
              · subst e; exact ⟨h1, h2, h3⟩
              · exact hok j hj (by omega)
            have PV : Hid (∀ (h : 0 < k), wo.cell? ⟨b, off + (k - 1) * 2, none⟩ = some (.int .i64 (l[k - 1]'(by omega)).from_)) := fun h => by
              obtain ⟨_, _, e', y0, -⟩ := tier_cells (H.out.keep0 hgr) (k - 1) (by omega)
              cases e'
              exact y0
            obtain ⟨x, hx⟩ : ∃ x, x = l[k] := ⟨_, rfl⟩
            rw [← hx] at d0 d1 MK
            obtain ⟨F, R⟩ := x
            simp only at d0 d1 MK
            have hV := heap_alloc_new wo (.cells #[.int .i64 F, .int .i64 R] 98)
            have g2 := gr_alloc (gr_refl wo none) (.cells #[.int .i64 F, .int .i64 R] 98)
            obtain ⟨w2, hw2⟩ : ∃ w2, w2 = wo.alloc (.cells #[.int .i64 F, .int .i64 R] 98) := ⟨_, rfl⟩
            rw [← hw2] at hV g2
            have HW2 := Lib.hid hw2
            have HV := Lib.hid hV
            have G2 := Lib.hid g2
            have HGR := Lib.hid (gr_trans hgr g2)
            clear hx hok hgr hV g2 hw2
            by_cases hF : F < 0 ∨ 1000000000 < F
            · have HFF := Lib.hid hF
              clear hF
              by_cases h1 : F < 0
              · have e1 : decide (F < 0) = true := decide_eq_true h1
                go_wp2_with (fail)
                rw [← HW2.out]
                have v0 := blkC HV.out 0 rfl
                go_wp2_with (fail)
                go_ret
                exact ⟨1, rfl, (fun e => by cases e), HGR.out⟩
              · have e1 : decide (F < 0) = false := decide_eq_false h1
                have e2 : decide (1000000000 < F) = true := decide_eq_true (by rcases HFF.out with h | h; exact absurd h h1; exact h)
                go_wp2_with (fail)
                rw [← HW2.out]
                have v0 := blkC HV.out 0 rfl
                go_wp2_with (fail)
                go_ret
                exact ⟨1, rfl, (fun e => by cases e), HGR.out⟩
            · have hF0 : 0 ≤ F ∧ F ≤ 1000000000 := by omega
              have e1 : decide (F < 0) = false := decide_eq_false (by omega)
              have e2 : decide (1000000000 < F) = false := decide_eq_false (by omega)
              have MK2 : Hid ((∀ (h : 0 < k), (l[k - 1]'(by omega)).from_ < F) → (0 ≤ R ∧ R ≤ 10000) → ∀ j (hj : j < l.length), j < k + 1 → TierAt l j hj) := MK.out hF0
              clear hF MK
              go_upto_region 10 with (fail)
              rw [← HW2.out]
              have v0 := blkC HV.out 0 rfl
              have v1 : w2.cell? ⟨wo.heap.size, 1, none⟩ = some (.int .i64 R) := blkC HV.out 1 rfl
              clear d0 d1
              go_upto_region 12 with (fail)
              go_cut [35] (fun s wx => ∃ bb : Bool, s = .bool bb ∧ (bb = false → ∀ (h : 0 < k), (l[k - 1]'(by omega)).from_ < F) ∧ w2.grownBy wx none)
              case first =>
                by_cases hk0 : 0 < k
                · obtain ⟨i, rfl⟩ : ∃ i, k = i + 1 := ⟨k - 1, by omega⟩
                  have y0 := PV.out hk0
                  simp only [Nat.add_sub_cancel] at y0
                  have y0 := (gr_cell G2.out (lt_of_cell y0)).trans y0
                  obtain ⟨F', hF'⟩ : ∃ x, x = l[i].from_ := ⟨_, rfl⟩
                  rw [← hF'] at y0
                  have UP : Hid (F' < F → ∀ (h : 0 < i + 1), (l[i + 1 - 1]'(by omega)).from_ < F) := fun hh _ => by rw [hF'] at hh; exact hh
                  have gy0 := grew_cell y0
                  have gv0 := grew_cell v0
                  have hd : decide ((0 : Int) < (i : Int) + 1) = true := decide_eq_true (by omega)
                  have hq0 : (0 : Int) ≤ (i : Int) := by omega
                  have hq1 : (i : Int) < (l.length : Int) := by omega
                  clear y0 v0 v1 hF' PV
                  by_cases hle : F ≤ F'
                  · have hd2 : decide (F ≤ F') = true := decide_eq_true hle
                    refine wp_region_grew (by kernel_rfl) (by kernel_rfl) ?_
                    repeat (go_big_quiet_step (fail))
                    refine wpQuiet_nil ?_
                    rintro wq ⟨nn, rfl⟩
                    have gq := nn.gr
                    clear gy0 gv0
                    go_wp2_with (fail)
                    go_meet
                    exact ⟨true, rfl, (fun e => by cases e), gq⟩
                  · have hd2 : decide (F ≤ F') = false := decide_eq_false hle
                    have UP2 := Lib.hid (UP.out (by omega))
                    clear UP
                    refine wp_region_grew (by kernel_rfl) (by kernel_rfl) ?_
                    repeat (go_big_quiet_step (fail))
                    refine wpQuiet_nil ?_
                    rintro wq ⟨nn, rfl⟩
                    have gq := nn.gr
                    clear gy0 gv0
                    go_wp2_with (fail)
                    go_meet
                    exact ⟨false, rfl, (fun _ => UP2.out), gq⟩
                · have hk00 : k = 0 := by omega
                  subst hk00
                  have gv0 := grew_cell v0
                  clear v0 v1 PV
                  refine wp_region_grew (by kernel_rfl) (by kernel_rfl) ?_
                  repeat (go_big_quiet_step (fail))
                  refine wpQuiet_nil ?_
                  rintro wq ⟨nn, rfl⟩
                  have gq := nn.gr
                  clear gv0
                  go_wp2_with (fail)
                  go_meet
                  exact ⟨false, rfl, (fun _ h => absurd h (by omega)), gq⟩
              case rest =>
              obtain ⟨bb, rfl, hb, g5⟩ := hcut
              obtain ⟨w5, rfl⟩ : ∃ w5 : World, w5 = wc := ⟨_, rfl⟩
              have HBB := Lib.hid hb
              have hV5 := (g5.block _ (lt_of_block HV.out) (by simp)).trans HV.out
              have HG5 := Lib.hid (gr_trans HGR.out g5)
              clear v0 v1 g5 hb
              have v1 : w5.cell? ⟨wo.heap.size, 1, none⟩ = some (.int .i64 R) := blkC hV5 1 rfl
              clear hV5
              cases bb with
              | true =>
                go_wp2_with (fail)
                go_ret
                exact ⟨7, rfl, (fun e => by cases e), HG5.out⟩
              | false =>
                by_cases hR0 : R < 0
                · have c1 : decide (R < 0) = true := decide_eq_true hR0
                  go_wp2_with (fail)
                  go_ret
                  exact ⟨1, rfl, (fun e => by cases e), HG5.out⟩
                · have c1 : decide (R < 0) = false := decide_eq_false hR0
                  by_cases hR1 : 10000 < R
                  · have c2 : decide (10000 < R) = true := decide_eq_true hR1
                    go_wp2_with (fail)
                    go_ret
                    exact ⟨1, rfl, (fun e => by cases e), HG5.out⟩
                  · have c2 : decide (10000 < R) = false := decide_eq_false hR1
                    have NX := Lib.hid (MK2.out (HBB.out rfl) (by omega))
                    clear MK2 HBB
                    go_wp2_with (fail)
                    go_roundw
                    case rel => exact ⟨k + 1, by omega, by go_num, NX.out, HG5.out⟩
                    case measure => simp [intOf]; omega
          · obtain rfl : k = l.length := by omega
            have OK := Lib.hid (tiersOk_of hp (by omega) HZ.out (fun i hi => hok i hi hi))
            clear hok
            go_wp2_with (fail)
            go_ret
            exact ⟨0, rfl, (fun _ => OK.out), hgr⟩
      · have dz : (f0 == 0) = false := beq_eq_false_iff_ne.2 hf
        go_wp2_with (fail)
        go_ret
        exact ⟨1, rfl, (fun e => by cases e), gr_refl _ _⟩
  · have hz : ((l.length : Int) == 0) = true := beq_iff_eq.2 (by omega)
    have hl0 := Lib.hid hp
    clear hp
    go_wp2_with (fail)
    go_ret
    exact ⟨8, rfl, (fun e => by cases e), gr_refl _ _⟩
set_option maxRecDepth 100000 in
set_option maxHeartbeats 4000000 in
theorem checkTiers_ok (l : List Tier) (a : Option Addr) (c : Nat) (w : World) (h : CellsAt w a (flat encTier l)) (hok : TiersOk l) :
    Calls Try.prog 57 #[.slice a l.length c] w fun e w' => e = .returned (.int .i64 0) ∧ w.grownBy w' none := by
  have H := Lib.hid h
  have hp := hok.pos
  have hl := hok.len
  have HOK := Lib.hid hok
  obtain ⟨b, off, rfl, z0, -⟩ := tier_cells h 0 hp
  simp only [Nat.zero_mul, Nat.add_zero] at z0
  rw [hok.zero hp] at z0
  have hz : ((l.length : Int) == 0) = false := beq_eq_false_iff_ne.2 (by omega)
  have d20 : decide ((20 : Int) < (l.length : Int)) = false := decide_eq_false (by omega)
  have hp2 : (0 : Int) < (l.length : Int) := by omega
  clear h hok
  go_enter Try.func57, Try.ntmps57
  go_wp2_with (fail)
  clear z0
  go_loopw [21] (fun i wr => ∃ k : Nat, k ≤ l.length ∧ i = .int .i64 k ∧ w.grownBy wr none) (fun i _ => l.length - (intOf i).toNat)
  case atStart => exact ⟨0, Nat.zero_le _, rfl, gr_refl _ _⟩
  case round =>
    obtain ⟨k, hk, rfl, hgr⟩ := hrel
    obtain ⟨wo, rfl⟩ : ∃ wo : World, wo = wr := ⟨_, rfl⟩
    by_cases hlt : k < l.length
    · obtain ⟨_, _, e, d0, d1⟩ := tier_cells (H.out.keep0 hgr) k hlt
      cases e
      obtain ⟨hlo, hup, hra⟩ := HOK.out.at_ k hlt
      have PV : Hid (∀ (h : 0 < k), wo.cell? ⟨b, off + (k - 1) * 2, none⟩ = some (.int .i64 (l[k - 1]'(by omega)).from_)) := fun h => by
        obtain ⟨_, _, e', y0, -⟩ := tier_cells (H.out.keep0 hgr) (k - 1) (by omega)
        cases e'
        exact y0
      obtain ⟨x, hx⟩ : ∃ x, x = l[k] := ⟨_, rfl⟩
      rw [← hx] at d0 d1 hlo hra
      simp only [← hx] at hup
      obtain ⟨F, R⟩ := x
      simp only at d0 d1 hlo hup hra
      have HUP := Lib.hid hup
      have hV := heap_alloc_new wo (.cells #[.int .i64 F, .int .i64 R] 98)
      have g2 := gr_alloc (gr_refl wo none) (.cells #[.int .i64 F, .int .i64 R] 98)
      obtain ⟨w2, hw2⟩ : ∃ w2, w2 = wo.alloc (.cells #[.int .i64 F, .int .i64 R] 98) := ⟨_, rfl⟩
      rw [← hw2] at hV g2
      have HW2 := Lib.hid hw2
      have HV := Lib.hid hV
      have G2 := Lib.hid g2
      have HGR := Lib.hid (gr_trans hgr g2)
      have e1 : (decide (F < 0) || decide (1000000000 < F)) = false := by simp; omega
      have e2 : (decide (R < 0) || decide (10000 < R)) = false := by simp; omega
      clear hx hgr hV g2 hw2 hup
      go_upto_region 10 with (fail)
      rw [← HW2.out]
      have v0 := blkC HV.out 0 rfl
      have v1 : w2.cell? ⟨wo.heap.size, 1, none⟩ = some (.int .i64 R) := blkC HV.out 1 rfl
      clear d0 d1
      go_wp2_with (fail)
      refine (out_any F 0 1000000000 w2).mono ?_
      rintro e w3 ⟨rfl, rfl⟩
      rw [e1]
      go_upto_region 12 with (fail)
      go_cut [30] (fun s wx => s = .bool false ∧ w2.grownBy wx none)
      case first =>
        by_cases hk0 : 0 < k
        · obtain ⟨i, rfl⟩ : ∃ i, k = i + 1 := ⟨k - 1, by omega⟩
          have y0 := PV.out hk0
          have UP := HUP.out hk0
          simp only [Nat.add_sub_cancel] at y0 UP
          have y0 := (gr_cell G2.out (lt_of_cell y0)).trans y0
          obtain ⟨F', hF'⟩ : ∃ x, x = l[i].from_ := ⟨_, rfl⟩
          rw [← hF'] at y0 UP
          have gy0 := grew_cell y0
          have gv0 := grew_cell v0
          have hd : decide ((0 : Int) < (i : Int) + 1) = true := decide_eq_true (by omega)
          have hq0 : (0 : Int) ≤ (i : Int) := by omega
          have hq1 : (i : Int) < (l.length : Int) := by omega
          have hd2 : decide (F ≤ F') = false := decide_eq_false (by omega)
          clear y0 v0 v1 hF' PV HUP
          refine wp_region_grew (by kernel_rfl) (by kernel_rfl) ?_
          repeat (go_big_quiet_step (fail))
          refine wpQuiet_nil ?_
          rintro wq ⟨nn, rfl⟩
          have gq := nn.gr
          clear gy0 gv0
          go_wp2_with (fail)
          go_meet
          exact ⟨rfl, gq⟩
        · have hk00 : k = 0 := by omega
          subst hk00
          have gv0 := grew_cell v0
          clear v0 v1 PV
          refine wp_region_grew (by kernel_rfl) (by kernel_rfl) ?_
          repeat (go_big_quiet_step (fail))
          refine wpQuiet_nil ?_
          rintro wq ⟨nn, rfl⟩
          have gq := nn.gr
          clear gv0
          go_wp2_with (fail)
          go_meet
          exact ⟨rfl, gq⟩
      case rest =>
      obtain ⟨rfl, g5⟩ := hcut
      obtain ⟨w5, rfl⟩ : ∃ w5 : World, w5 = wc := ⟨_, rfl⟩
      have hV5 := (g5.block _ (lt_of_block HV.out) (by simp)).trans HV.out
      have HG5 := Lib.hid (gr_trans HGR.out g5)
      clear v0 v1 g5
      have v1 : w5.cell? ⟨wo.heap.size, 1, none⟩ = some (.int .i64 R) := blkC hV5 1 rfl
      clear hV5
      go_wp2_with (fail)
      refine (out_any R 0 10000 w5).mono ?_
      rintro e w6 ⟨rfl, rfl⟩
      rw [e2]
      go_wp2_with (fail)
      go_roundw
      case rel => exact ⟨k + 1, by omega, by go_num, HG5.out⟩
      case measure => simp [intOf]; omega
    · obtain rfl : k = l.length := by omega
      go_wp2_with (fail)
      go_ret
      exact ⟨rfl, hgr⟩
set_option maxRecDepth 100000 in
set_option maxHeartbeats 4000000 in
theorem commission_ok (l : List Tier) (s : Int) (a : Option Addr) (c : Nat) (w : World) (h : CellsAt w a (flat encTier l)) (hok : TiersOk l) (h0 : 0 ≤ s) (h1 : s ≤ 1000000000) :
    Calls Try.prog 15 #[.slice a l.length c, .int .i64 s] w fun e w' => e = .returned (.tuple #[.int .i64 (evenM (tierSum l s l.length) 10000), .int .i64 0]) ∧ w.grownBy w' none := by
  have CT := Lib.hid (checkTiers_ok l a c w h hok)
  have H := Lib.hid h
  have HOK := Lib.hid hok
  have hl := hok.len
  have d1 : (decide (s < 0) || decide (1000000000 < s)) = false := by simp; omega
  have hT := tierSum_bd hok.lo hok.rate h0 h1 l.length
  have EV := Lib.hid (fun W : World => even_any (tierSum l s l.length) 10000 W hT.1 (by omega) (by decide) (by decide))
  clear h hok hT
  go_enter Try.func15, Try.ntmps15
  go_wp2_with (fail)
  refine CT.out.mono ?_
  rintro e w1 ⟨rfl, g1⟩
  have G1 := Lib.hid g1
  clear g1
  go_wp2_with (fail)
  refine (out_any s 0 1000000000 w1).mono ?_
  rintro e w2 ⟨rfl, rfl⟩
  rw [d1]
  go_wp2_with (fail)
  go_loopw [7, 20] (fun t i wr => ∃ k : Nat, k ≤ l.length ∧ i = .int .i64 k ∧ t = .int .i64 (tierSum l s k) ∧ w.grownBy wr none) (fun _ i _ => l.length - (intOf i).toNat)
  case atStart => exact ⟨0, Nat.zero_le _, rfl, rfl, G1.out⟩
  case round =>
    obtain ⟨k, hk, rfl, rfl, hgr⟩ := hrel
    obtain ⟨wo, rfl⟩ : ∃ wo : World, wo = wr := ⟨_, rfl⟩
    by_cases hlt : k < l.length
    · obtain ⟨b, off, rfl, d0, d1'⟩ := tier_cells (H.out.keep0 hgr) k hlt
      have hb := tierSum_bd HOK.out.lo HOK.out.rate h0 h1 k
      have hlo := HOK.out.lo k hlt
      have hra := HOK.out.rate k hlt
      have NX : Hid (tierSum l s (k + 1) = tierSum l s k + max 0 (tierTo l s k - l[k].from_) * l[k].rate) := by
        show _ = _; simp only [tierSum, tierTerm, dif_pos hlt]
      have TO : Hid (∀ (hn : k + 1 < l.length), tierTo l s k = min s l[k + 1].from_ ∧ wo.cell? ⟨b, off + (k + 1) * 2, none⟩ = some (.int .i64 l[k + 1].from_) ∧ 0 ≤ l[k + 1].from_ ∧ l[k + 1].from_ ≤ 1000000000) := fun hn => by
        obtain ⟨_, _, e', y0, -⟩ := tier_cells (H.out.keep0 hgr) (k + 1) hn
        cases e'
        exact ⟨by unfold tierTo; rw [dif_pos hn], y0, HOK.out.lo (k + 1) hn⟩
      have TN : Hid (¬ k + 1 < l.length → tierTo l s k = s) := fun hn => by unfold tierTo; rw [dif_neg hn]
      obtain ⟨x, hx⟩ : ∃ x, x = l[k] := ⟨_, rfl⟩
      rw [← hx] at d0 d1' hlo hra NX
      obtain ⟨F, R⟩ := x
      simp only at d0 d1' hlo hra NX
      obtain ⟨S, hS⟩ : ∃ S, S = tierSum l s k := ⟨_, rfl⟩
      rw [← hS] at hb NX
      rw [← hS]
      obtain ⟨tq, hto⟩ : ∃ t, t = tierTo l s k := ⟨_, rfl⟩
      rw [← hto] at NX TO TN
      have HGR := Lib.hid (gr_alloc hgr (.cells #[.int .i64 F, .int .i64 R] 98))
      have g2 := gr_alloc (gr_refl wo none) (.cells #[.int .i64 F, .int .i64 R] 98)
      have hS2' : S ≤ 10000000000000 * 20 := by omega
      clear hx hS hto hgr
      by_cases hn : k + 1 < l.length
      · obtain ⟨t1, y0, t2, t3⟩ := TO.out hn
        obtain ⟨F2, hF2⟩ : ∃ f, f = l[k + 1].from_ := ⟨_, rfl⟩
        rw [← hF2] at t1 y0 t2 t3
        have hm : min s F2 = tq := t1.symm
        have hto1 : 0 ≤ tq ∧ tq ≤ 1000000000 := by omega
        obtain ⟨u, hu⟩ : ∃ u, max 0 (tq - F) = u := ⟨_, rfl⟩
        have hu1 : 0 ≤ u ∧ u ≤ 1000000000 := by omega
        obtain ⟨p, hp⟩ : ∃ p, u * R = p := ⟨_, rfl⟩
        have hp0 : 0 ≤ p := by rw [← hp]; exact Int.mul_nonneg hu1.1 hra.1
        have hp1 : p ≤ 1000000000 * 10000 := by rw [← hp]; exact Int.mul_le_mul hu1.2 hra.2 hra.1 (by omega)
        rw [hu, hp] at NX
        have hnd : decide ((k : Int) + 1 < (l.length : Int)) = true := decide_eq_true (by omega)
        have hn1 : (k : Int) + 1 < (l.length : Int) := by omega
        have hn0 : (0 : Int) ≤ (k : Int) + 1 := by omega
        have y1 := held_cell (gr_refl (wo.alloc (.cells #[.int .i64 F, .int .i64 R] 98)) none) y0
        clear t1 hF2 TO TN y0
        rcases Decidable.em (F < tq) with hfp | hfp
        · have hu' : tq - F = u := by omega
          go_wp2_with (fail)
          refine ⟨⟨k + 1, by omega, rfl, ?_, HGR.out⟩, by simp [intOf]; omega⟩
          rw [NX.out, ifMin, hm, hu', hp, wrapTwo S p ⟨hb.1, hS2'⟩ ⟨hp0, hp1⟩]
        · have hu' : u = 0 := by omega
          go_wp2_with (fail)
          refine ⟨⟨k + 1, by omega, rfl, ?_, HGR.out⟩, by simp [intOf]; omega⟩
          rw [NX.out, ← hp, hu', Int.zero_mul, Int.add_zero]
      · have t1 := TN.out hn
        subst t1
        obtain ⟨u, hu⟩ : ∃ u, max 0 (tq - F) = u := ⟨_, rfl⟩
        have hu1 : 0 ≤ u ∧ u ≤ 1000000000 := by omega
        obtain ⟨p, hp⟩ : ∃ p, u * R = p := ⟨_, rfl⟩
        have hp0 : 0 ≤ p := by rw [← hp]; exact Int.mul_nonneg hu1.1 hra.1
        have hp1 : p ≤ 1000000000 * 10000 := by rw [← hp]; exact Int.mul_le_mul hu1.2 hra.2 hra.1 (by omega)
        rw [hu, hp] at NX
        have hnd : decide ((k : Int) + 1 < (l.length : Int)) = false := decide_eq_false (by omega)
        clear TO TN
        go_wp2_with (fail)
        go_roundw
        case rel => exact ⟨k + 1, by omega, by go_num, by rw [NX.out, ifMax, hu, hp, wrapTwo S p ⟨hb.1, hS2'⟩ ⟨hp0, hp1⟩], HGR.out⟩
        case measure => simp [intOf]; omega
    · obtain rfl : k = l.length := by omega
      go_wp2_with (fail)
      refine (EV.out wo).mono ?_
      rintro e w2 ⟨rfl, rfl⟩
      go_wp2_with (fail)
      go_ret2
      exact ⟨rfl, hgr⟩
end Go.Proofs.Ytoiclngamaadgaa
