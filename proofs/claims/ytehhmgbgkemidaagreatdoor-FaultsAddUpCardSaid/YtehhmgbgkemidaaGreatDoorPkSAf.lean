/- Package slices at ints: stable sorting of few, by a comparison with captures. Written by mksort1.py. -/
import Derived.Test.YtehhmgbgkemidaaGreatDoorPkSAa
import Derived.Test.YtehhmgbgkemidaaGreatDoorPkSAe
import Derived.Test.YtehhmgbgkemidaaGreatDoorPkSAb
import Derived.Test.YtehhmgbgkemidaaGreatDoorPkSAc
namespace Go.Proofs.YtehhmgbgkemidaaGreatDoor
open Go.RowKit

theorem own_of_heapc1 {w w1 : World} {base e size n : Nat} {v : Value} {xs : List Value} (h : w.ownsRow base e size v n xs) (e1 : w1.heap = w.heap) : w1.ownsRow base e size v n xs := by
  rcases h.2 with h2 | ⟨g, cap, cur, hv, hb, hg, r⟩
  · exact ⟨h.1, .inl h2⟩
  · exact ⟨h.1, .inr ⟨g, cap, cur, hv, hb, by rw [e1]; exact hg, r⟩⟩
theorem own_cellc1 {w : World} {base e n g cap i : Nat} {O : List Int} (h : w.ownsRow base e 1 (.slice (some ⟨g, 0, none⟩) n cap) n (ints O)) (hi : i < O.length) : w.cell? ⟨g, i, none⟩ = some (.int .i64 O[i]) ∧ w.frozen? ⟨g, i, none⟩ = false := by
  have hl : O.length = n := by have := h.1; simpa [ints] using this
  have h1 := own_int h i (by omega)
  rw [getD_eq O i 0 hi] at h1
  exact ⟨h1.1, h1.2.1⟩
/-- Of two that are equal, the less one is first. -/
def StbC1 (cm : Int → Int → Int) (O : List Int) (n : Nat) : Prop := ∀ p q, p < q → q < n → ¬ cm (O.getD q 0) (O.getD p 0) < 0 → ¬ cm (O.getD p 0) (O.getD q 0) < 0 → O.getD p 0 < O.getD q 0
theorem stbC1_swap {cm : Int → Int → Int} {O : List Int} {n i : Nat} (h : StbC1 cm O n) (hn : O.length = n) (hi : i + 1 < n) (hc : cm (O.getD (i + 1) 0) (O.getD i 0) < 0) : StbC1 cm (swapAt 0 O i) n := by
  intro p q h1 h2
  rw [swapAt_get i (by omega) p, swapAt_get i (by omega) q]
  by_cases a : p = i
  · subst a
    rw [if_pos rfl]
    by_cases b : q = p + 1
    · subst b
      rw [if_neg (by omega), if_pos rfl]
      intro h3 h4
      exact absurd hc h4
    · rw [if_neg (by omega), if_neg b]
      exact h (p + 1) q (by omega) h2
  · rw [if_neg a]
    by_cases b : p = i + 1
    · subst b
      rw [if_pos rfl, if_neg (by omega), if_neg (by omega)]
      exact h i q (by omega) h2
    · rw [if_neg b]
      by_cases c : q = i
      · subst c
        rw [if_pos rfl]
        exact h p (q + 1) (by omega) (by omega)
      · rw [if_neg c]
        by_cases d : q = i + 1
        · subst d
          rw [if_pos rfl]
          exact h p i (by omega) (by omega)
        · rw [if_neg d]
          exact h p q h1 h2
/-- A comparison of elements of a list, in worlds that differ from w at one block at most. -/
def CmpC1 (F : FuncId) (q0 : Nat) (cm : Int → Int → Int) (L : List Int) (r : Option Nat) (w : World) : Prop :=
  ∀ (x y : Int) (w1 : World), x ∈ L → y ∈ L → w.grownBy w1 r → Calls Tryz.prog F #[.int .i64 x, .int .i64 y, .pointer (some ⟨q0, 0, none⟩)] w1 fun e w2 => e = .returned (.int .i64 (cm x y)) ∧ w1.grownBy w2 none
def SortC1Post (cm : Int → Int → Int) (L : List Int) (v : Value) (n base : Nat) (w : World) (e : Ending) (w' : World) : Prop := ∃ O, e = .returned (.tuple #[]) ∧ w'.ownsRow base 3 1 v n (ints O) ∧ O.Perm L ∧ Srt cm 0 O n ∧ (StbC1 cm L n → StbC1 cm O n) ∧ w.grownBy w' v.ownBlock
set_option maxRecDepth 100000 in
set_option maxHeartbeats 4000000 in
theorem insertionC1_any (F : FuncId) (q0 n : Nat) (cm : Int → Int → Int) (v : Value) (base : Nat) (L : List Int) (w : World) (hown : w.ownsRow base 3 1 v n (ints L)) (hL : L.length = n) (hn : n ≤ 1000)
    (hE : ∀ (args : Array Value) (w : World), (callFunc F args).run Tryz.prog w = .ok (.enter F args) w) (hc : CmpOk cm) (hF : CmpC1 F q0 cm L v.ownBlock w) :
    Calls Tryz.prog 238 #[v, .int .i64 0, .int .i64 n, .func (.func F) #[] #[.pointer (some ⟨q0, 0, none⟩)]] w (SortC1Post cm L v n base w) := by
  have HF := Lib.hid hF
  have HC := Lib.hid hc
  have HL := Lib.hid hL
  obtain ⟨va, vc, rfl, _, _, _, _⟩ := own_shape hown
  clear hF hc hL
  go_enter Tryz.func238, Tryz.ntmps238
  go_wp2_with (fail)
  go_loopw [8] (fun i wr => ∃ (k : Nat) (O' : List Int), 1 ≤ k ∧ (k ≤ n ∨ n = 0) ∧ i = .int .i64 k ∧ wr.ownsRow base 3 1 (.slice va n vc) n (ints O') ∧ O'.Perm L ∧ Srt cm 0 O' k ∧ (StbC1 cm L n → StbC1 cm O' n) ∧ w.grownBy wr (Value.slice va n vc).ownBlock) (fun i _ => n - (intOf i).toNat)
  case atStart => exact ⟨1, L, by omega, by omega, rfl, hown, List.Perm.refl _, srt_one, id, gr_refl _ _⟩
  case round =>
    obtain ⟨k, O', hk, hkn1, rfl, hown', hO', hs, hst, hgr⟩ := hrel
    have HST := Lib.hid hst
    clear hst
    obtain ⟨wo, rfl⟩ : ∃ wo : World, wo = wr := ⟨_, rfl⟩
    have HO' := Lib.hid hO'
    have HS := Lib.hid hs
    clear hO' hs
    by_cases hkn : k < n
    · obtain ⟨g, gc, hge, hgb, _, _, _⟩ := own_some hown' (by omega)
      cases hge
      go_wp2_with (fail)
      go_loopw [9] (fun i wr => ∃ (j : Nat) (O2 : List Int), j ≤ k ∧ i = .int .i64 j ∧ wr.ownsRow base 3 1 (.slice (some ⟨g, 0, none⟩) n vc) n (ints O2) ∧ O2.Perm L ∧ SrtBut cm 0 O2 k j ∧ (StbC1 cm L n → StbC1 cm O2 n) ∧ w.grownBy wr (some g)) (fun i _ => (intOf i).toNat)
      case atStart => exact ⟨k, O', by omega, rfl, hown', HO'.out, srt_start HS.out, HST.out, hgr⟩
      case round =>
        clear hgr
        obtain ⟨j, O2, hj, rfl, hown2, hO2, hb2, hst2, hgr2⟩ := hrel
        have HST2 := Lib.hid hst2
        clear hst2
        obtain ⟨wi, rfl⟩ : ∃ wi : World, wi = wr := ⟨_, rfl⟩
        have hlen := hO2.length_eq.trans HL.out
        by_cases hj0 : 0 < j
        · have hd0 : decide (0 < j) = true := decide_eq_true hj0
          obtain ⟨i, hi⟩ : ∃ i, i = j - 1 := ⟨_, rfl⟩
          have hij : i + 1 = j := by omega
          subst hij
          have hjl : i + 1 < O2.length := by omega
          have hil : i < O2.length := by omega
          obtain ⟨a0, fa0⟩ := own_cellc1 hown2 hjl
          obtain ⟨b0, fb0⟩ := own_cellc1 hown2 hil
          have hmx : O2[i + 1] ∈ L := hO2.mem_iff.1 (List.getElem_mem _)
          have hmy : O2[i] ∈ L := hO2.mem_iff.1 (List.getElem_mem _)
          have ex : O2.getD (i + 1) 0 = O2[i + 1] := getD_eq O2 _ _ hjl
          have ey : O2.getD i 0 = O2[i] := getD_eq O2 _ _ hil
          have SW : Hid (cm O2[i + 1] O2[i] < 0 → SrtBut cm 0 (swapAt 0 O2 i) k i) := fun h => srt_swap HC.out hjl (by omega) hb2 (by rw [ex, ey]; exact h)
          have ST : Hid (¬ cm O2[i + 1] O2[i] < 0 → Srt cm 0 O2 (k + 1)) := fun h => srt_stop HC.out hb2 (by rw [ex, ey]; exact h)
          have SB : Hid (cm O2[i + 1] O2[i] < 0 → StbC1 cm L n → StbC1 cm (swapAt 0 O2 i) n) := fun h h1 => stbC1_swap (HST2.out h1) hlen (by omega) (by rw [ex, ey]; exact h)
          have PM : Hid ((swapAt 0 O2 i).Perm L) := (swapAt_perm i hjl).trans hO2
          have WR : Hid (∀ W : World, W.ownsRow base 3 1 (.slice (some ⟨g, 0, none⟩) n vc) n (ints O2) → ((W.setCell ⟨g, i + 1, none⟩ (.int .i64 (O2[i]))).setCell ⟨g, i, none⟩ (.int .i64 (O2[i + 1]))).ownsRow base 3 1 (.slice (some ⟨g, 0, none⟩) n vc) n (ints (swapAt 0 O2 i))) := fun W hW => by
            have h5 := (own_int ((own_int hW (i + 1) (by omega)).2.2 (O2[i])) i (by omega)).2.2 (O2[i + 1])
            unfold swapAt
            rw [ex, ey]
            exact h5
          have CC : Hid (∀ W, wi.grownBy W none → Calls Tryz.prog F #[.int .i64 (O2[i + 1]), .int .i64 (O2[i]), .pointer (some ⟨q0, 0, none⟩)] W fun e w2 => e = .returned (.int .i64 (cm O2[i + 1] O2[i])) ∧ W.grownBy w2 none) := fun W hW => HF.out _ _ W hmx hmy (gr_trans hgr2 (gr_weak hW _))
          obtain ⟨x, hx⟩ : ∃ x, x = O2[i + 1] := ⟨_, rfl⟩
          obtain ⟨y, hy⟩ : ∃ y, y = O2[i] := ⟨_, rfl⟩
          rw [← hx, ← hy] at SW ST SB CC WR
          rw [← hx] at a0
          rw [← hy] at b0
          obtain ⟨c, hcv⟩ : ∃ c, c = cm x y := ⟨_, rfl⟩
          rw [← hcv] at SW ST SB CC
          have ga0 := grew_cell a0
          have gb0 := grew_cell b0
          have FA0 := Lib.hid fa0
          have FB0 := Lib.hid fb0
          have HOW := Lib.hid hown2
          have HGR2 := Lib.hid hgr2
          have hgl := lt_of_cell a0
          have HPM2 := Lib.hid hO2
          have hi1 : ((i : Int) + 1 - 1) = i := by omega
          have hwi : IntKind.i64.wrap (((i : Int) + 1) - 1) = i := by rw [hi1]; exact IntWalk.i64_in _ (by omega)
          have hq0 : (0 : Int) ≤ (i : Int) := by omega
          have hq1 : (i : Int) < (n : Int) := by omega
          have hq2 : (0 : Int) ≤ (i : Int) + 1 := by omega
          have hq3 : (i : Int) + 1 < (n : Int) := by omega
          have hq4 : ((i : Int) + 1).toNat = i + 1 := by omega
          have hq5 : decide ((0 : Int) < (i : Int) + 1) = true := decide_eq_true (by omega)
          clear hown2 hgr2 hO2 hb2 hmx hmy ex ey hx hy hcv fa0 fb0 hlen hi hown' hi1
          by_cases hc0 : c < 0
          · have hdc : decide (c < 0) = true := decide_eq_true hc0
            go_wp2_with (fail)
            refine wp_region_grew (by kernel_rfl) (by kernel_rfl) ?_
            repeat (go_big_quiet_step (first | (exact Calls.grew_of (fun W h => CC.out W h))))
            refine wpQuiet_nil ?_
            rintro wq ⟨nn, rfl⟩
            have gq := nn.gr
            have A0 := ga0 nn
            have B0 := gb0 nn
            have F0 := (gr_free gq hgl (o := i + 1)).trans FA0.out
            have F2 := (gr_free gq hgl (o := i)).trans FB0.out
            have HW := Lib.hid (WR.out _ (own_keep0 HOW.out gq))
            have HGQ := Lib.hid (gr_trans HGR2.out (gr_weak gq _))
            obtain ⟨wn, hwn⟩ : ∃ wn, wn = nn.w := ⟨_, rfl⟩
            rw [← hwn] at A0 B0 F0 F2 HW HGQ
            rw [← hwn]
            clear gq hwn ga0 gb0 a0 b0 hwi hq2 hq3 hq4 hq5
            go_wp2_with (fail)
            go_region
            all_goals (go_wp2_with (fail))
            all_goals go_roundw
            all_goals first | (simp [intOf]; done) | skip
            all_goals
              refine ⟨i, _, by omega, by go_num, own_of_heapc1 HW.out rfl, PM.out, SW.out hc0, SB.out hc0, ?_⟩
              first
                | exact gr_drew (gr_set (gr_set HGQ.out rfl _) rfl _)
                | exact gr_set (gr_set (gr_drew HGQ.out) rfl _) rfl _
          · have hdc : decide (c < 0) = false := decide_eq_false hc0
            go_wp2_with (fail)
            refine wp_region_grew (by kernel_rfl) (by kernel_rfl) ?_
            repeat (go_big_quiet_step (first | (exact Calls.grew_of (fun W h => CC.out W h))))
            refine wpQuiet_nil ?_
            rintro wq ⟨nn, rfl⟩
            have HGQ := Lib.hid (gr_trans HGR2.out (gr_weak nn.gr _))
            have HW := Lib.hid (own_keep0 HOW.out nn.gr)
            clear ga0 gb0 a0 b0
            go_wp2_with (fail)
            go_roundw
            case rel => exact ⟨k + 1, O2, by omega, by omega, by go_num, HW.out, HPM2.out, ST.out hc0, HST2.out, HGQ.out⟩
            case measure => simp [intOf]; omega
        · have hd0 : decide (0 < j) = false := decide_eq_false hj0
          obtain rfl : j = 0 := by omega
          have HOWN2 := Lib.hid hown2
          have HGR2 := Lib.hid hgr2
          have HPM2 := Lib.hid hO2
          have HZ := Lib.hid (srt_zero hb2)
          have hq5 : decide ((0 : Int) < 0) = false := by decide
          clear hown2 hgr2 hO2 hb2 hlen
          go_wp2_with (fail)
          go_quiet (fail)
          go_wp2_with (fail)
          go_roundw
          case rel => exact ⟨k + 1, O2, by omega, by omega, by go_num, own_keep0 HOWN2.out (gr_drewN (gr_refl _ _) _), HPM2.out, HZ.out, HST2.out, gr_drewN HGR2.out _⟩
          case measure => simp [intOf]; omega
    · have HW := Lib.hid hown'
      clear hown'
      go_wp2_with (fail)
      go_end0
      have hS : Srt cm 0 O' n := fun p q h1 h2 => HS.out p q h1 (by omega)
      exact ⟨O', rfl, HW.out, HO'.out, hS, HST.out, hgr⟩
set_option maxRecDepth 100000 in
theorem stableC1_any (F : FuncId) (q0 n : Nat) (cm : Int → Int → Int) (v : Value) (base : Nat) (L : List Int) (w : World) (hown : w.ownsRow base 3 1 v n (ints L)) (hL : L.length = n) (hn : n < 20)
    (hE : ∀ (args : Array Value) (w : World), (callFunc F args).run Tryz.prog w = .ok (.enter F args) w) (hc : CmpOk cm) (hF : CmpC1 F q0 cm L v.ownBlock w) :
    Calls Tryz.prog 203 #[v, .int .i64 n, .func (.func F) #[] #[.pointer (some ⟨q0, 0, none⟩)]] w (SortC1Post cm L v n base w) := by
  have IS := Lib.hid (insertionC1_any F q0 n cm v base L w hown hL (by omega) hE hc hF)
  obtain ⟨va, vc, rfl, _, _, _, _⟩ := own_shape hown
  clear hF hE hown hL hc
  have h20 : ¬ 20 ≤ (n : Int) := by omega
  go_enter Tryz.func203, Tryz.ntmps203
  go_wp2_with (fail)
  go_loop [7, 8] (fun a b => a = .int .i64 0 ∧ b = .int .i64 20) (fun _ _ => 0)
  case atStart => exact ⟨rfl, rfl⟩
  case round =>
    obtain ⟨rfl, rfl⟩ := hrel
    go_wp2_with (fail)
    refine IS.out.mono ?_
    rintro e w2 ⟨O2, rfl, h1, h2, h3, h5, h4⟩
    have H1 := Lib.hid h1
    have H2 := Lib.hid h2
    have H3 := Lib.hid h3
    have H5 := Lib.hid h5
    have hn20 : ¬ 20 < (n : Int) := by omega
    clear h1 h2 h3 h5
    go_wp2_with (fail)
    go_loop [6] (fun a => a = .int .i64 20) (fun _ => 0)
    case atStart => exact rfl
    case round =>
      obtain rfl := hrel
      go_wp2_with (fail)
      go_end0
      exact ⟨O2, rfl, H1.out, H2.out, H3.out, H5.out, h4⟩
theorem sortC1_any (F : FuncId) (q0 n : Nat) (cm : Int → Int → Int) (v : Value) (base : Nat) (L : List Int) (w : World) (hown : w.ownsRow base 3 1 v n (ints L)) (hL : L.length = n) (hn : n < 20)
    (hE : ∀ (args : Array Value) (w : World), (callFunc F args).run Tryz.prog w = .ok (.enter F args) w) (hc : CmpOk cm) (hF : CmpC1 F q0 cm L v.ownBlock w) :
    Calls Tryz.prog 158 #[v, .func (.func F) #[] #[.pointer (some ⟨q0, 0, none⟩)]] w (SortC1Post cm L v n base w) := by
  have IS := Lib.hid (stableC1_any F q0 n cm v base L w hown hL hn hE hc hF)
  obtain ⟨va, vc, rfl, _, _, _, _⟩ := own_shape hown
  clear hF hE hown hL hc
  go_enter Tryz.func158, Tryz.ntmps158
  go_wp2_with (fail)
  refine IS.out.mono ?_
  rintro e w2 ⟨O2, rfl, h1, h2, h3, h5, h4⟩
  have H1 := Lib.hid h1
  have H2 := Lib.hid h2
  have H3 := Lib.hid h3
  have H5 := Lib.hid h5
  clear h1 h2 h3 h5
  go_wp2_with (fail)
  go_end0
  exact ⟨O2, rfl, H1.out, H2.out, H3.out, H5.out, h4⟩

/-! Package slices at ints: stable sorting of few, by a comparison with captures. Written by mksort1.py. -/

theorem own_of_heapc3 {w w1 : World} {base e size n : Nat} {v : Value} {xs : List Value} (h : w.ownsRow base e size v n xs) (e1 : w1.heap = w.heap) : w1.ownsRow base e size v n xs := by
  rcases h.2 with h2 | ⟨g, cap, cur, hv, hb, hg, r⟩
  · exact ⟨h.1, .inl h2⟩
  · exact ⟨h.1, .inr ⟨g, cap, cur, hv, hb, by rw [e1]; exact hg, r⟩⟩
theorem own_cellc3 {w : World} {base e n g cap i : Nat} {O : List Int} (h : w.ownsRow base e 1 (.slice (some ⟨g, 0, none⟩) n cap) n (ints O)) (hi : i < O.length) : w.cell? ⟨g, i, none⟩ = some (.int .i64 O[i]) ∧ w.frozen? ⟨g, i, none⟩ = false := by
  have hl : O.length = n := by have := h.1; simpa [ints] using this
  have h1 := own_int h i (by omega)
  rw [getD_eq O i 0 hi] at h1
  exact ⟨h1.1, h1.2.1⟩
/-- Of two that are equal, the less one is first. -/
def StbC3 (cm : Int → Int → Int) (O : List Int) (n : Nat) : Prop := ∀ p q, p < q → q < n → ¬ cm (O.getD q 0) (O.getD p 0) < 0 → ¬ cm (O.getD p 0) (O.getD q 0) < 0 → O.getD p 0 < O.getD q 0
theorem stbC3_swap {cm : Int → Int → Int} {O : List Int} {n i : Nat} (h : StbC3 cm O n) (hn : O.length = n) (hi : i + 1 < n) (hc : cm (O.getD (i + 1) 0) (O.getD i 0) < 0) : StbC3 cm (swapAt 0 O i) n := by
  intro p q h1 h2
  rw [swapAt_get i (by omega) p, swapAt_get i (by omega) q]
  by_cases a : p = i
  · subst a
    rw [if_pos rfl]
    by_cases b : q = p + 1
    · subst b
      rw [if_neg (by omega), if_pos rfl]
      intro h3 h4
      exact absurd hc h4
    · rw [if_neg (by omega), if_neg b]
      exact h (p + 1) q (by omega) h2
  · rw [if_neg a]
    by_cases b : p = i + 1
    · subst b
      rw [if_pos rfl, if_neg (by omega), if_neg (by omega)]
      exact h i q (by omega) h2
    · rw [if_neg b]
      by_cases c : q = i
      · subst c
        rw [if_pos rfl]
        exact h p (q + 1) (by omega) (by omega)
      · rw [if_neg c]
        by_cases d : q = i + 1
        · subst d
          rw [if_pos rfl]
          exact h p i (by omega) (by omega)
        · rw [if_neg d]
          exact h p q h1 h2
/-- A comparison of elements of a list, in worlds that differ from w at one block at most. -/
def CmpC3 (F : FuncId) (q0 q1 q2 : Nat) (cm : Int → Int → Int) (L : List Int) (r : Option Nat) (w : World) : Prop :=
  ∀ (x y : Int) (w1 : World), x ∈ L → y ∈ L → w.grownBy w1 r → Calls Tryz.prog F #[.int .i64 x, .int .i64 y, .pointer (some ⟨q0, 0, none⟩), .pointer (some ⟨q1, 0, none⟩), .pointer (some ⟨q2, 0, none⟩)] w1 fun e w2 => e = .returned (.int .i64 (cm x y)) ∧ w1.grownBy w2 none
def SortC3Post (cm : Int → Int → Int) (L : List Int) (v : Value) (n base : Nat) (w : World) (e : Ending) (w' : World) : Prop := ∃ O, e = .returned (.tuple #[]) ∧ w'.ownsRow base 3 1 v n (ints O) ∧ O.Perm L ∧ Srt cm 0 O n ∧ (StbC3 cm L n → StbC3 cm O n) ∧ w.grownBy w' v.ownBlock
set_option maxRecDepth 100000 in
set_option maxHeartbeats 4000000 in
theorem insertionC3_any (F : FuncId) (q0 q1 q2 n : Nat) (cm : Int → Int → Int) (v : Value) (base : Nat) (L : List Int) (w : World) (hown : w.ownsRow base 3 1 v n (ints L)) (hL : L.length = n) (hn : n ≤ 1000)
    (hE : ∀ (args : Array Value) (w : World), (callFunc F args).run Tryz.prog w = .ok (.enter F args) w) (hc : CmpOk cm) (hF : CmpC3 F q0 q1 q2 cm L v.ownBlock w) :
    Calls Tryz.prog 238 #[v, .int .i64 0, .int .i64 n, .func (.func F) #[] #[.pointer (some ⟨q0, 0, none⟩), .pointer (some ⟨q1, 0, none⟩), .pointer (some ⟨q2, 0, none⟩)]] w (SortC3Post cm L v n base w) := by
  have HF := Lib.hid hF
  have HC := Lib.hid hc
  have HL := Lib.hid hL
  obtain ⟨va, vc, rfl, _, _, _, _⟩ := own_shape hown
  clear hF hc hL
  go_enter Tryz.func238, Tryz.ntmps238
  go_wp2_with (fail)
  go_loopw [8] (fun i wr => ∃ (k : Nat) (O' : List Int), 1 ≤ k ∧ (k ≤ n ∨ n = 0) ∧ i = .int .i64 k ∧ wr.ownsRow base 3 1 (.slice va n vc) n (ints O') ∧ O'.Perm L ∧ Srt cm 0 O' k ∧ (StbC3 cm L n → StbC3 cm O' n) ∧ w.grownBy wr (Value.slice va n vc).ownBlock) (fun i _ => n - (intOf i).toNat)
  case atStart => exact ⟨1, L, by omega, by omega, rfl, hown, List.Perm.refl _, srt_one, id, gr_refl _ _⟩
  case round =>
    obtain ⟨k, O', hk, hkn1, rfl, hown', hO', hs, hst, hgr⟩ := hrel
    have HST := Lib.hid hst
    clear hst
    obtain ⟨wo, rfl⟩ : ∃ wo : World, wo = wr := ⟨_, rfl⟩
    have HO' := Lib.hid hO'
    have HS := Lib.hid hs
    clear hO' hs
    by_cases hkn : k < n
    · obtain ⟨g, gc, hge, hgb, _, _, _⟩ := own_some hown' (by omega)
      cases hge
      go_wp2_with (fail)
      go_loopw [9] (fun i wr => ∃ (j : Nat) (O2 : List Int), j ≤ k ∧ i = .int .i64 j ∧ wr.ownsRow base 3 1 (.slice (some ⟨g, 0, none⟩) n vc) n (ints O2) ∧ O2.Perm L ∧ SrtBut cm 0 O2 k j ∧ (StbC3 cm L n → StbC3 cm O2 n) ∧ w.grownBy wr (some g)) (fun i _ => (intOf i).toNat)
      case atStart => exact ⟨k, O', by omega, rfl, hown', HO'.out, srt_start HS.out, HST.out, hgr⟩
      case round =>
        clear hgr
        obtain ⟨j, O2, hj, rfl, hown2, hO2, hb2, hst2, hgr2⟩ := hrel
        have HST2 := Lib.hid hst2
        clear hst2
        obtain ⟨wi, rfl⟩ : ∃ wi : World, wi = wr := ⟨_, rfl⟩
        have hlen := hO2.length_eq.trans HL.out
        by_cases hj0 : 0 < j
        · have hd0 : decide (0 < j) = true := decide_eq_true hj0
          obtain ⟨i, hi⟩ : ∃ i, i = j - 1 := ⟨_, rfl⟩
          have hij : i + 1 = j := by omega
          subst hij
          have hjl : i + 1 < O2.length := by omega
          have hil : i < O2.length := by omega
          obtain ⟨a0, fa0⟩ := own_cellc3 hown2 hjl
          obtain ⟨b0, fb0⟩ := own_cellc3 hown2 hil
          have hmx : O2[i + 1] ∈ L := hO2.mem_iff.1 (List.getElem_mem _)
          have hmy : O2[i] ∈ L := hO2.mem_iff.1 (List.getElem_mem _)
          have ex : O2.getD (i + 1) 0 = O2[i + 1] := getD_eq O2 _ _ hjl
          have ey : O2.getD i 0 = O2[i] := getD_eq O2 _ _ hil
          have SW : Hid (cm O2[i + 1] O2[i] < 0 → SrtBut cm 0 (swapAt 0 O2 i) k i) := fun h => srt_swap HC.out hjl (by omega) hb2 (by rw [ex, ey]; exact h)
          have ST : Hid (¬ cm O2[i + 1] O2[i] < 0 → Srt cm 0 O2 (k + 1)) := fun h => srt_stop HC.out hb2 (by rw [ex, ey]; exact h)
          have SB : Hid (cm O2[i + 1] O2[i] < 0 → StbC3 cm L n → StbC3 cm (swapAt 0 O2 i) n) := fun h h1 => stbC3_swap (HST2.out h1) hlen (by omega) (by rw [ex, ey]; exact h)
          have PM : Hid ((swapAt 0 O2 i).Perm L) := (swapAt_perm i hjl).trans hO2
          have WR : Hid (∀ W : World, W.ownsRow base 3 1 (.slice (some ⟨g, 0, none⟩) n vc) n (ints O2) → ((W.setCell ⟨g, i + 1, none⟩ (.int .i64 (O2[i]))).setCell ⟨g, i, none⟩ (.int .i64 (O2[i + 1]))).ownsRow base 3 1 (.slice (some ⟨g, 0, none⟩) n vc) n (ints (swapAt 0 O2 i))) := fun W hW => by
            have h5 := (own_int ((own_int hW (i + 1) (by omega)).2.2 (O2[i])) i (by omega)).2.2 (O2[i + 1])
            unfold swapAt
            rw [ex, ey]
            exact h5
          have CC : Hid (∀ W, wi.grownBy W none → Calls Tryz.prog F #[.int .i64 (O2[i + 1]), .int .i64 (O2[i]), .pointer (some ⟨q0, 0, none⟩), .pointer (some ⟨q1, 0, none⟩), .pointer (some ⟨q2, 0, none⟩)] W fun e w2 => e = .returned (.int .i64 (cm O2[i + 1] O2[i])) ∧ W.grownBy w2 none) := fun W hW => HF.out _ _ W hmx hmy (gr_trans hgr2 (gr_weak hW _))
          obtain ⟨x, hx⟩ : ∃ x, x = O2[i + 1] := ⟨_, rfl⟩
          obtain ⟨y, hy⟩ : ∃ y, y = O2[i] := ⟨_, rfl⟩
          rw [← hx, ← hy] at SW ST SB CC WR
          rw [← hx] at a0
          rw [← hy] at b0
          obtain ⟨c, hcv⟩ : ∃ c, c = cm x y := ⟨_, rfl⟩
          rw [← hcv] at SW ST SB CC
          have ga0 := grew_cell a0
          have gb0 := grew_cell b0
          have FA0 := Lib.hid fa0
          have FB0 := Lib.hid fb0
          have HOW := Lib.hid hown2
          have HGR2 := Lib.hid hgr2
          have hgl := lt_of_cell a0
          have HPM2 := Lib.hid hO2
          have hi1 : ((i : Int) + 1 - 1) = i := by omega
          have hwi : IntKind.i64.wrap (((i : Int) + 1) - 1) = i := by rw [hi1]; exact IntWalk.i64_in _ (by omega)
          have hq0 : (0 : Int) ≤ (i : Int) := by omega
          have hq1 : (i : Int) < (n : Int) := by omega
          have hq2 : (0 : Int) ≤ (i : Int) + 1 := by omega
          have hq3 : (i : Int) + 1 < (n : Int) := by omega
          have hq4 : ((i : Int) + 1).toNat = i + 1 := by omega
          have hq5 : decide ((0 : Int) < (i : Int) + 1) = true := decide_eq_true (by omega)
          clear hown2 hgr2 hO2 hb2 hmx hmy ex ey hx hy hcv fa0 fb0 hlen hi hown' hi1
          by_cases hc0 : c < 0
          · have hdc : decide (c < 0) = true := decide_eq_true hc0
            go_wp2_with (fail)
            refine wp_region_grew (by kernel_rfl) (by kernel_rfl) ?_
            repeat (go_big_quiet_step (first | (exact Calls.grew_of (fun W h => CC.out W h))))
            refine wpQuiet_nil ?_
            rintro wq ⟨nn, rfl⟩
            have gq := nn.gr
            have A0 := ga0 nn
            have B0 := gb0 nn
            have F0 := (gr_free gq hgl (o := i + 1)).trans FA0.out
            have F2 := (gr_free gq hgl (o := i)).trans FB0.out
            have HW := Lib.hid (WR.out _ (own_keep0 HOW.out gq))
            have HGQ := Lib.hid (gr_trans HGR2.out (gr_weak gq _))
            obtain ⟨wn, hwn⟩ : ∃ wn, wn = nn.w := ⟨_, rfl⟩
            rw [← hwn] at A0 B0 F0 F2 HW HGQ
            rw [← hwn]
            clear gq hwn ga0 gb0 a0 b0 hwi hq2 hq3 hq4 hq5
            go_wp2_with (fail)
            go_region
            all_goals (go_wp2_with (fail))
            all_goals go_roundw
            all_goals first | (simp [intOf]; done) | skip
            all_goals
              refine ⟨i, _, by omega, by go_num, own_of_heapc3 HW.out rfl, PM.out, SW.out hc0, SB.out hc0, ?_⟩
              first
                | exact gr_drew (gr_set (gr_set HGQ.out rfl _) rfl _)
                | exact gr_set (gr_set (gr_drew HGQ.out) rfl _) rfl _
          · have hdc : decide (c < 0) = false := decide_eq_false hc0
            go_wp2_with (fail)
            refine wp_region_grew (by kernel_rfl) (by kernel_rfl) ?_
            repeat (go_big_quiet_step (first | (exact Calls.grew_of (fun W h => CC.out W h))))
            refine wpQuiet_nil ?_
            rintro wq ⟨nn, rfl⟩
            have HGQ := Lib.hid (gr_trans HGR2.out (gr_weak nn.gr _))
            have HW := Lib.hid (own_keep0 HOW.out nn.gr)
            clear ga0 gb0 a0 b0
            go_wp2_with (fail)
            go_roundw
            case rel => exact ⟨k + 1, O2, by omega, by omega, by go_num, HW.out, HPM2.out, ST.out hc0, HST2.out, HGQ.out⟩
            case measure => simp [intOf]; omega
        · have hd0 : decide (0 < j) = false := decide_eq_false hj0
          obtain rfl : j = 0 := by omega
          have HOWN2 := Lib.hid hown2
          have HGR2 := Lib.hid hgr2
          have HPM2 := Lib.hid hO2
          have HZ := Lib.hid (srt_zero hb2)
          have hq5 : decide ((0 : Int) < 0) = false := by decide
          clear hown2 hgr2 hO2 hb2 hlen
          go_wp2_with (fail)
          go_quiet (fail)
          go_wp2_with (fail)
          go_roundw
          case rel => exact ⟨k + 1, O2, by omega, by omega, by go_num, own_keep0 HOWN2.out (gr_drewN (gr_refl _ _) _), HPM2.out, HZ.out, HST2.out, gr_drewN HGR2.out _⟩
          case measure => simp [intOf]; omega
    · have HW := Lib.hid hown'
      clear hown'
      go_wp2_with (fail)
      go_end0
      have hS : Srt cm 0 O' n := fun p q h1 h2 => HS.out p q h1 (by omega)
      exact ⟨O', rfl, HW.out, HO'.out, hS, HST.out, hgr⟩
set_option maxRecDepth 100000 in
theorem stableC3_any (F : FuncId) (q0 q1 q2 n : Nat) (cm : Int → Int → Int) (v : Value) (base : Nat) (L : List Int) (w : World) (hown : w.ownsRow base 3 1 v n (ints L)) (hL : L.length = n) (hn : n < 20)
    (hE : ∀ (args : Array Value) (w : World), (callFunc F args).run Tryz.prog w = .ok (.enter F args) w) (hc : CmpOk cm) (hF : CmpC3 F q0 q1 q2 cm L v.ownBlock w) :
    Calls Tryz.prog 203 #[v, .int .i64 n, .func (.func F) #[] #[.pointer (some ⟨q0, 0, none⟩), .pointer (some ⟨q1, 0, none⟩), .pointer (some ⟨q2, 0, none⟩)]] w (SortC3Post cm L v n base w) := by
  have IS := Lib.hid (insertionC3_any F q0 q1 q2 n cm v base L w hown hL (by omega) hE hc hF)
  obtain ⟨va, vc, rfl, _, _, _, _⟩ := own_shape hown
  clear hF hE hown hL hc
  have h20 : ¬ 20 ≤ (n : Int) := by omega
  go_enter Tryz.func203, Tryz.ntmps203
  go_wp2_with (fail)
  go_loop [7, 8] (fun a b => a = .int .i64 0 ∧ b = .int .i64 20) (fun _ _ => 0)
  case atStart => exact ⟨rfl, rfl⟩
  case round =>
    obtain ⟨rfl, rfl⟩ := hrel
    go_wp2_with (fail)
    refine IS.out.mono ?_
    rintro e w2 ⟨O2, rfl, h1, h2, h3, h5, h4⟩
    have H1 := Lib.hid h1
    have H2 := Lib.hid h2
    have H3 := Lib.hid h3
    have H5 := Lib.hid h5
    have hn20 : ¬ 20 < (n : Int) := by omega
    clear h1 h2 h3 h5
    go_wp2_with (fail)
    go_loop [6] (fun a => a = .int .i64 20) (fun _ => 0)
    case atStart => exact rfl
    case round =>
      obtain rfl := hrel
      go_wp2_with (fail)
      go_end0
      exact ⟨O2, rfl, H1.out, H2.out, H3.out, H5.out, h4⟩
theorem sortC3_any (F : FuncId) (q0 q1 q2 n : Nat) (cm : Int → Int → Int) (v : Value) (base : Nat) (L : List Int) (w : World) (hown : w.ownsRow base 3 1 v n (ints L)) (hL : L.length = n) (hn : n < 20)
    (hE : ∀ (args : Array Value) (w : World), (callFunc F args).run Tryz.prog w = .ok (.enter F args) w) (hc : CmpOk cm) (hF : CmpC3 F q0 q1 q2 cm L v.ownBlock w) :
    Calls Tryz.prog 158 #[v, .func (.func F) #[] #[.pointer (some ⟨q0, 0, none⟩), .pointer (some ⟨q1, 0, none⟩), .pointer (some ⟨q2, 0, none⟩)]] w (SortC3Post cm L v n base w) := by
  have IS := Lib.hid (stableC3_any F q0 q1 q2 n cm v base L w hown hL hn hE hc hF)
  obtain ⟨va, vc, rfl, _, _, _, _⟩ := own_shape hown
  clear hF hE hown hL hc
  go_enter Tryz.func158, Tryz.ntmps158
  go_wp2_with (fail)
  refine IS.out.mono ?_
  rintro e w2 ⟨O2, rfl, h1, h2, h3, h5, h4⟩
  have H1 := Lib.hid h1
  have H2 := Lib.hid h2
  have H3 := Lib.hid h3
  have H5 := Lib.hid h5
  clear h1 h2 h3 h5
  go_wp2_with (fail)
  go_end0
  exact ⟨O2, rfl, H1.out, H2.out, H3.out, H5.out, h4⟩
end Go.Proofs.YtehhmgbgkemidaaGreatDoor

/-! A meter, as the stream makes it. -/
namespace Go.Proofs.YtehhmgbgkemidaaGreatDoor
open Go.RowKit
variable {lw : Nat}

structure Mtr where
  cnt : Int
  turn : Int
  fast : Int
def mtrM (l : List Int) (k : Nat) : Mtr := if flipM l (k + 1 + 1 + 1) 15 then ⟨pickM l (k + 1 + 1 + 1 + 1) [0, 1, 61], pickM l (k + 1 + 1 + 1 + 1 + 1) [9, 10, 1000001], pickM l (k + 1 + 1 + 1 + 1 + 1 + 1) [0, 1, 10]⟩ else ⟨1 + nxt l k 3, pickM l (k + 1) [100, 1000], pickM l (k + 1 + 1) [1, 5, 20, 90]⟩
def mtrK (l : List Int) (k : Nat) : Nat := if flipM l (k + 1 + 1 + 1) 15 then k + 7 else k + 4
def mtrV (m : Mtr) : Value := .agg #[.int .i64 m.cnt, .int .i64 m.turn, .int .i64 m.fast]
def MtrPost (l : List Int) (k p lw : Nat) (w : World) (e : Ending) (w' : World) : Prop :=
  e = .returned (mtrV (mtrM l k)) ∧ StreamAt w' p lw l (mtrK l k) ∧ w.grownBy w' (some p)
theorem blk3M {w : World} {g t : Nat} {a b c : Value} (h : w.heap[g]? = some (.cells #[a, b, c] t (0, 0))) : w.cell? ⟨g, 0, none⟩ = some a ∧ w.cell? ⟨g, 1, none⟩ = some b ∧ w.cell? ⟨g, 2, none⟩ = some c ∧ w.frozen? ⟨g, 0, none⟩ = false ∧ w.frozen? ⟨g, 1, none⟩ = false ∧ w.frozen? ⟨g, 2, none⟩ = false := by
  simp [World.cell?, World.frozen?, h]
theorem set3M_heap {w : World} {g t : Nat} {a b c : Value} (h : w.heap[g]? = some (.cells #[a, b, c] t (0, 0))) (x y z : Value) : (((w.setCell ⟨g, 0, none⟩ x).setCell ⟨g, 1, none⟩ y).setCell ⟨g, 2, none⟩ z).heap[g]? = some (.cells #[x, y, z] t (0, 0)) := set3R_heap h x y z
end Go.Proofs.YtehhmgbgkemidaaGreatDoor

/-! What is wrong with a meter: the document's answer and the program's. -/
namespace Go.Proofs.YtehhmgbgkemidaaGreatDoor
open Go.RowKit

structure MtrOk (m : Mtr) : Prop where
  c1 : 1 ≤ m.cnt
  c2 : m.cnt ≤ 60
  t1 : 10 ≤ m.turn
  t2 : m.turn ≤ 1000000
  f1 : 1 ≤ m.fast
  f2 : m.fast ≤ m.turn - 1
def MtrF (m : Mtr) (w : World) (e : Ending) (w' : World) : Prop := ∃ r : Int, e = .returned (.int .i64 r) ∧ ((r = 0 ∧ MtrOk m) ∨ (r = 1 ∧ ¬ MtrOk m)) ∧ w.grownBy w' none
theorem mtrM_turn (l : List Int) (k : Nat) : 0 ≤ (mtrM l k).turn ∧ (mtrM l k).turn ≤ 1000001 := by
  unfold mtrM
  split
  · have := pickM_mem l (k + 1 + 1 + 1 + 1 + 1) [9, 10, 1000001] (by decide)
    simp only [List.mem_cons, List.not_mem_nil, or_false] at this
    simp only; omega
  · have := pickM_mem l (k + 1) [100, 1000] (by decide)
    simp only [List.mem_cons, List.not_mem_nil, or_false] at this
    simp only; omega
end Go.Proofs.YtehhmgbgkemidaaGreatDoor

/-! What is wrong with a reading: the document's answer and the program's. -/
namespace Go.Proofs.YtehhmgbgkemidaaGreatDoor
open Go.RowKit

structure Rd where
  at_ : Int
  vs : List Int
structure RdOk (m : Mtr) (x : Rd) : Prop where
  a0 : 0 ≤ x.at_
  a1 : x.at_ < 5761440
  len : (x.vs.length : Int) = m.cnt
  all : ∀ n ∈ x.vs, 0 ≤ n ∧ n < m.turn
theorem moment_any (n : Int) (w : World) : Calls Tryz.prog 49 #[.int .i64 n] w fun e w' => e = .returned (.bool (decide (0 ≤ n) && decide (n < 5761440))) ∧ w = w' := by
  go_enter Tryz.func49, Tryz.ntmps49
  by_cases h : 0 ≤ n
  · have hd : decide (0 ≤ n) = true := decide_eq_true h
    go_wp2_with (fail)
    go_ret
    exact ⟨by simp [h], rfl⟩
  · have hd : decide (0 ≤ n) = false := decide_eq_false h
    go_wp2_with (fail)
    go_ret
    exact ⟨by simp, rfl⟩
theorem momentB_any (n : Int) (w : World) : Calls Tryz.prog 118 #[.int .i64 n] w fun e w' => e = .returned (.bool (!decide (n < 0) && !decide (5761439 < n))) ∧ w = w' := by
  go_enter Tryz.func118, Tryz.ntmps118
  go_wp2_with (fail)
  refine (out_any n 0 5761439 w).mono ?_
  rintro e w2 ⟨rfl, rfl⟩
  go_wp2_with (fail)
  go_ret
  exact ⟨rfl, rfl⟩
def badV (t n : Int) : Bool := decide (n < 0) || decide (t ≤ n)
end Go.Proofs.YtehhmgbgkemidaaGreatDoor

/-! Rows of structs that hold rows: owned, with what each element's cells mean. -/
namespace Go.Proofs.YtehhmgbgkemidaaGreatDoor
open Go.RowKit

structure OwnNest {α : Type} (R : World → α → List Value → Prop) (w : World) (base e m : Nat) (v : Value) (xs : List α) : Prop where
  ex : ∃ cs : List (List Value), cs.length = xs.length ∧ (∀ c ∈ cs, c.length = m) ∧ w.ownsRow base e m v xs.length (flat id cs) ∧ ∀ (i : Nat) (x : α) (c : List Value), xs[i]? = some x → cs[i]? = some c → R w x c
variable {α : Type} {R : World → α → List Value → Prop}
theorem OwnNest.nil (w : World) (base e m : Nat) : OwnNest R w base e m (.slice none 0 0) [] :=
  ⟨[], rfl, fun _ h => (by simp at h), World.ownsRow_nil _ _ _ _, fun i x c h => by simp at h⟩
/-- What keeps the row and each element keeps the whole. -/
theorem OwnNest.keepW {w w1 : World} {base e m : Nat} {v : Value} {xs : List α} (h : OwnNest R w base e m v xs) {r : Option Nat} (g : w.grownBy w1 r) (hv : v.ownBlock = none ∨ v.ownBlock ≠ r) (hR : ∀ x c, R w x c → R w1 x c) : OwnNest R w1 base e m v xs := by
  obtain ⟨cs, h1, h2, h3, h4⟩ := h.ex
  exact ⟨cs, h1, h2, own_keep h3 g hv, fun i x c hx hc => hR x c (h4 i x c hx hc)⟩
theorem OwnNest.keep0 {w w1 : World} {base e m : Nat} {v : Value} {xs : List α} (h : OwnNest R w base e m v xs) (g : w.grownBy w1 none) (hR : ∀ x c, R w x c → R w1 x c) : OwnNest R w1 base e m v xs := by
  obtain ⟨cs, h1, h2, h3, h4⟩ := h.ex
  exact ⟨cs, h1, h2, own_keep0 h3 g, fun i x c hx hc => hR x c (h4 i x c hx hc)⟩
theorem OwnNest.keepS {w w1 : World} {base e m p : Nat} {v : Value} {xs : List α} (h : OwnNest R w base e m v xs) (g : w.grownBy w1 (some p)) (hp : p < base) (hR : ∀ x c, R w x c → R w1 x c) : OwnNest R w1 base e m v xs := by
  obtain ⟨cs, h1, h2, h3, h4⟩ := h.ex
  exact ⟨cs, h1, h2, own_keepS h3 g hp, fun i x c hx hc => hR x c (h4 i x c hx hc)⟩
theorem OwnNest.base {w : World} {base base' e m : Nat} {v : Value} {xs : List α} (h : OwnNest R w base e m v xs) (hb : base' ≤ base) {R' : World → α → List Value → Prop} (hR : ∀ x c, R w x c → R' w x c) : OwnNest R' w base' e m v xs := by
  obtain ⟨cs, h1, h2, h3, h4⟩ := h.ex
  exact ⟨cs, h1, h2, own_base h3 hb, fun i x c hx hc => hR x c (h4 i x c hx hc)⟩
/-- The cells of the row, for an append: what it owns, and what a longer one of its kind is. -/
theorem OwnNest.push {w : World} {base e m : Nat} {v : Value} {xs : List α} (h : OwnNest R w base e m v xs) :
    ∃ cs : List (List Value), w.ownsRow base e m v xs.length (flat id cs) ∧ (∀ (w1 : World) (v1 : Value) (x : α) (c : List Value), w1.ownsRow base e m v1 (xs.length + 1) (flat id cs ++ c) → c.length = m → (∀ y d, R w y d → R w1 y d) → R w1 x c → OwnNest R w1 base e m v1 (xs ++ [x])) := by
  obtain ⟨cs, h1, h2, h3, h4⟩ := h.ex
  refine ⟨cs, h3, fun w1 v1 x c ho hl hk hx => ⟨cs ++ [c], by simp [h1], ?_, ?_, ?_⟩⟩
  · intro d hd
    rcases List.mem_append.1 hd with hd | hd
    · exact h2 d hd
    · simp only [List.mem_cons, List.not_mem_nil, or_false] at hd
      rw [hd]; exact hl
  · rw [flat_append, flat_one]
    simpa using ho
  · intro i y d hy hd
    by_cases hi : i < xs.length
    · rw [List.getElem?_append_left hi] at hy
      rw [List.getElem?_append_left (by omega)] at hd
      exact hk y d (h4 i y d hy hd)
    · have e1 : i = xs.length := by
        have := (List.getElem?_eq_some_iff.1 hy).1
        simp at this; omega
      subst e1
      rw [List.getElem?_append_right (by omega), Nat.sub_self] at hy
      rw [List.getElem?_append_right (by omega), h1, Nat.sub_self] at hd
      simp only [List.getElem?_cons_zero, Option.some.injEq] at hy hd
      rw [← hy, ← hd]; exact hx
theorem flat_id_get (m : Nat) (cs : List (List Value)) (hm : ∀ c ∈ cs, c.length = m) (i : Nat) (c : List Value) (hc : cs[i]? = some c) (j : Nat) (u : Value) (hu : c[j]? = some u) : (flat id cs)[i * m + j]? = some u := by
  induction cs generalizing i with
  | nil => simp at hc
  | cons a l ih =>
    have ha : a.length = m := hm a (by simp)
    have hf : flat id (a :: l) = a ++ flat id l := by simp [flat]
    rw [hf]
    cases i with
    | zero =>
      simp only [List.getElem?_cons_zero, Option.some.injEq] at hc
      subst hc
      have := (List.getElem?_eq_some_iff.1 hu).1
      rw [Nat.zero_mul, Nat.zero_add, List.getElem?_append_left this]
      exact hu
    | succ i =>
      simp only [List.getElem?_cons_succ] at hc
      have h1 := ih (fun d hd => hm d (by simp [hd])) i hc
      rw [List.getElem?_append_right (by rw [ha, Nat.add_mul]; omega), ha, Nat.add_mul, Nat.one_mul, show i * m + m + j - m = i * m + j by omega]
      exact h1
/-- The same, for reading only. -/
structure NestAt (R : World → α → List Value → Prop) (w : World) (m : Nat) (a : Option Addr) (xs : List α) : Prop where
  ex : ∀ (i : Nat) (x : α), xs[i]? = some x → ∃ b off c, a = some ⟨b, off, none⟩ ∧ c.length = m ∧ R w x c ∧ ∀ j u, c[j]? = some u → w.cell? ⟨b, off + i * m + j, none⟩ = some u
theorem OwnNest.shape {w : World} {base e m : Nat} {v : Value} {xs : List α} (h : OwnNest R w base e m v xs) :
    ∃ a cap, v = .slice a xs.length cap ∧ xs.length ≤ cap ∧ cap ≤ maxLen ∧ NestAt R w m a xs ∧ (∀ b off, a = some ⟨b, off, none⟩ → base ≤ b ∧ b < w.heap.size ∧ v.ownBlock = some b) := by
  obtain ⟨cs, h1, h2, h3, h4⟩ := h.ex
  obtain ⟨a, cap, rfl, hn, hm, hc, hb⟩ := own_shape h3
  refine ⟨a, cap, rfl, hn, hm, ⟨fun i x hx => ?_⟩, hb⟩
  have hi := (List.getElem?_eq_some_iff.1 hx).1
  have hci : cs[i]? = some (cs[i]'(by omega)) := List.getElem?_eq_getElem (by omega)
  have hlen := h2 _ (List.mem_of_getElem? hci)
  have hR := h4 i x _ hx hci
  by_cases hm0 : m = 0
  · -- no cell: the address is there all the same, for the row is not empty
    have hne := own_some h3 (by omega)
    obtain ⟨g, cap', he, _⟩ := hne
    injection he with he _ _
    exact ⟨g, 0, _, he, hlen, hR, fun j u hu => by
      have := (List.getElem?_eq_some_iff.1 hu).1
      omega⟩
  · obtain ⟨b, off, he, hcell⟩ := hc _ _ (flat_id_get m cs h2 i _ hci 0 _ (List.getElem?_eq_getElem (by omega)))
    refine ⟨b, off, _, he, hlen, hR, fun j u hu => ?_⟩
    obtain ⟨b', off', he', hcell'⟩ := hc _ _ (flat_id_get m cs h2 i _ hci j u hu)
    rw [he] at he'
    cases he'
    rw [Nat.add_assoc]
    exact hcell'
theorem NestAt.keepW {w w1 : World} {m : Nat} {a : Option Addr} {xs : List α} (h : NestAt R w m a xs) {r : Option Nat} (g : w.grownBy w1 r) (hr : ∀ b off, a = some ⟨b, off, none⟩ → some b ≠ r) (hR : ∀ x c, R w x c → R w1 x c) : NestAt R w1 m a xs := by
  refine ⟨fun i x hx => ?_⟩
  obtain ⟨b, off, c, rfl, hl, hc, hu⟩ := h.ex i x hx
  refine ⟨b, off, c, rfl, hl, hR x c hc, fun j u hj => ?_⟩
  have := hu j u hj
  exact (World.cell?_of_block (w := w) (g.block b (lt_of_cell this) (hr b off rfl))).trans this
theorem NestAt.keep0 {w w1 : World} {m : Nat} {a : Option Addr} {xs : List α} (h : NestAt R w m a xs) (g : w.grownBy w1 none) (hR : ∀ x c, R w x c → R w1 x c) : NestAt R w1 m a xs :=
  h.keepW g (fun _ _ _ => by simp) hR
theorem NestAt.at {w : World} {m : Nat} {a : Option Addr} {xs : List α} (h : NestAt R w m a xs) (i : Nat) (hi : i < xs.length) : ∃ b off c, a = some ⟨b, off, none⟩ ∧ c.length = m ∧ R w xs[i] c ∧ ∀ j u, c[j]? = some u → w.cell? ⟨b, off + i * m + j, none⟩ = some u :=
  h.ex i _ (List.getElem?_eq_getElem hi)

/-! The same, where the elements' own rows lie apart. -/
def SepAll (cs : List (List Value)) : Prop := ∀ (i k : Nat) (c d : List Value) (u v : Value) (q : Nat), i ≠ k → cs[i]? = some c → cs[k]? = some d → u ∈ c → v ∈ d → u.ownBlock = some q → v.ownBlock ≠ some q
structure NestS (R : World → α → List Value → Prop) (w : World) (base e m : Nat) (v : Value) (xs : List α) : Prop where
  ex : ∃ cs : List (List Value), cs.length = xs.length ∧ (∀ c ∈ cs, c.length = m) ∧ w.ownsRow base e m v xs.length (flat id cs) ∧ (∀ (i : Nat) (x : α) (c : List Value), xs[i]? = some x → cs[i]? = some c → R w x c) ∧ SepAll cs
theorem NestS.own {w : World} {base e m : Nat} {v : Value} {xs : List α} (h : NestS R w base e m v xs) : OwnNest R w base e m v xs := by
  obtain ⟨cs, h1, h2, h3, h4, _⟩ := h.ex
  exact ⟨cs, h1, h2, h3, h4⟩
theorem NestS.nil (w : World) (base e m : Nat) : NestS R w base e m (.slice none 0 0) [] :=
  ⟨[], rfl, fun _ h => (by simp at h), World.ownsRow_nil _ _ _ _, fun i x c h => by simp at h, fun i k c d u v q _ h => by simp at h⟩
theorem NestS.keep0 {w w1 : World} {base e m : Nat} {v : Value} {xs : List α} (h : NestS R w base e m v xs) (g : w.grownBy w1 none) (hR : ∀ x c, R w x c → R w1 x c) : NestS R w1 base e m v xs := by
  obtain ⟨cs, h1, h2, h3, h4, h5⟩ := h.ex
  exact ⟨cs, h1, h2, own_keep0 h3 g, fun i x c hx hc => hR x c (h4 i x c hx hc), h5⟩
theorem NestS.keepS {w w1 : World} {base e m p : Nat} {v : Value} {xs : List α} (h : NestS R w base e m v xs) (g : w.grownBy w1 (some p)) (hp : p < base) (hR : ∀ x c, R w x c → R w1 x c) : NestS R w1 base e m v xs := by
  obtain ⟨cs, h1, h2, h3, h4, h5⟩ := h.ex
  exact ⟨cs, h1, h2, own_keepS h3 g hp, fun i x c hx hc => hR x c (h4 i x c hx hc), h5⟩
/-- For an append: N parts what the old elements hold from what the new one holds. -/
theorem NestS.push {w : World} {base e m : Nat} {v : Value} {xs : List α} (h : NestS R w base e m v xs) :
    ∃ cs : List (List Value), w.ownsRow base e m v xs.length (flat id cs) ∧ (∀ (N : Nat) (w1 : World) (v1 : Value) (x : α) (c : List Value), w1.ownsRow base e m v1 (xs.length + 1) (flat id cs ++ c) → c.length = m → (∀ y d, R w y d → R w1 y d) → (∀ y d, R w y d → ∀ u ∈ d, ∀ q, u.ownBlock = some q → q < N) → (∀ u ∈ c, ∀ q, u.ownBlock = some q → N ≤ q) → R w1 x c → NestS R w1 base e m v1 (xs ++ [x])) := by
  obtain ⟨cs, h1, h2, h3, h4, h5⟩ := h.ex
  obtain ⟨cs', h3', hp⟩ := OwnNest.push (R := R) (w := w) (base := base) (e := e) (m := m) (v := v) (xs := xs) ⟨cs, h1, h2, h3, h4⟩
  clear cs' h3' hp
  refine ⟨cs, h3, fun N w1 v1 x c ho hl hk hlt hge hx => ⟨cs ++ [c], by simp [h1], ?_, ?_, ?_, ?_⟩⟩
  · intro d hd
    rcases List.mem_append.1 hd with hd | hd
    · exact h2 d hd
    · simp only [List.mem_cons, List.not_mem_nil, or_false] at hd
      rw [hd]; exact hl
  · rw [flat_append, flat_one]
    simpa using ho
  · intro i y d hy hd
    by_cases hi : i < xs.length
    · rw [List.getElem?_append_left hi] at hy
      rw [List.getElem?_append_left (by omega)] at hd
      exact hk y d (h4 i y d hy hd)
    · have e1 : i = xs.length := by
        have := (List.getElem?_eq_some_iff.1 hy).1
        simp at this; omega
      subst e1
      rw [List.getElem?_append_right (by omega), Nat.sub_self] at hy
      rw [List.getElem?_append_right (by omega), h1, Nat.sub_self] at hd
      simp only [List.getElem?_cons_zero, Option.some.injEq] at hy hd
      rw [← hy, ← hd]; exact hx
  · have old : ∀ (i : Nat) (d : List Value), (cs ++ [c])[i]? = some d → (i < cs.length ∧ cs[i]? = some d) ∨ (i = cs.length ∧ d = c) := by
      intro i d hd
      by_cases hi : i < cs.length
      · rw [List.getElem?_append_left hi] at hd; exact .inl ⟨hi, hd⟩
      · have := (List.getElem?_eq_some_iff.1 hd).1
        simp at this
        have e1 : i = cs.length := by omega
        subst e1
        rw [List.getElem?_append_right (by omega), Nat.sub_self] at hd
        simp only [List.getElem?_cons_zero, Option.some.injEq] at hd
        exact .inr ⟨rfl, hd.symm⟩
    have oldR : ∀ (i : Nat) (d : List Value), cs[i]? = some d → i < cs.length → ∀ u ∈ d, ∀ q, u.ownBlock = some q → q < N := by
      intro i d hd hi
      exact hlt _ d (h4 i _ d (List.getElem?_eq_getElem (by omega)) hd)
    intro i k a b u v' q hik ha hb hu hv hq hq2
    rcases old i a ha with ⟨hi, ha'⟩ | ⟨hi, e1⟩
    · rcases old k b hb with ⟨hk', hb'⟩ | ⟨hk', e2⟩
      · exact h5 i k a b u v' q hik ha' hb' hu hv hq hq2
      · have h6 := oldR i a ha' hi u hu q hq
        have h7 := hge v' (e2 ▸ hv) q hq2
        omega
    · rcases old k b hb with ⟨hk', hb'⟩ | ⟨hk', e2⟩
      · have h6 := oldR k b hb' hk' v' hv q hq2
        have h7 := hge u (e1 ▸ hu) q hq
        omega
      · omega
end Go.Proofs.YtehhmgbgkemidaaGreatDoor
