/- The place of a moment in a log: slices.BinarySearchFunc at readings. -/
import Derived.Test.YtjhfglhoiplfmaaPkSAi
import Derived.Test.YtjhfglhoiplfmaaPkSAv
import Derived.Test.YtjhfglhoiplfmaaPkSAu
import Derived.BigRegion
namespace Go.Proofs.Ytjhfglhoiplfmaa
open Go.RowKit
attribute [local go_sem ↓] Go.wp_at_zero Go.wp_at_succ

theorem cmpN_sign (a b : Int) : (cmpN a b < 0 ↔ a < b) ∧ (cmpN a b = 0 ↔ a = b) := by
  unfold cmpN
  split
  · constructor <;> omega
  · split <;> constructor <;> omega
def FindPost (Y : List Rd) (t : Int) (w : World) (e : Ending) (w' : World) : Prop :=
  ∃ (i : Nat) (b : Bool), e = .returned (.tuple #[.int .i64 i, .bool b]) ∧ PlaceAt Y t i ∧ (b = true → ∃ h : i < Y.length, Y[i].at_ = t) ∧ (b = false → ∀ h : i < Y.length, Y[i].at_ ≠ t) ∧ w.grownBy w' none
end Go.Proofs.Ytjhfglhoiplfmaa

/-! Package slices at ints: stable sorting of many. Only this is said: the row is a permutation. -/
namespace Go.Proofs.Ytjhfglhoiplfmaa
open Go.RowKit

def swapIJ (O : List Int) (i j : Nat) : List Int := (O.set i (O.getD j 0)).set j (O.getD i 0)
theorem swapIJ_perm (O : List Int) (i j : Nat) (hi : i < O.length) (hj : j < O.length) : (swapIJ O i j).Perm O := by
  unfold swapIJ
  rw [getD_eq O i 0 hi, getD_eq O j 0 hj]
  exact List.set_set_perm hi hj
/-- A row in a world that grew: a permutation of what it was. -/
structure PR (w wr : World) (base g n c : Nat) (L O : List Int) : Prop where
  own : wr.ownsRow base 3 1 (.slice (some ⟨g, 0, none⟩) n c) n (ints O)
  perm : O.Perm L
  gr : w.grownBy wr (some g)
theorem PR.len {w wr : World} {base g n c : Nat} {L O : List Int} (h : PR w wr base g n c L O) : O.length = n := by
  have := h.own.1; simpa [ints] using this
theorem PR.refl {w : World} {base g n c : Nat} {L : List Int} (h : w.ownsRow base 3 1 (.slice (some ⟨g, 0, none⟩) n c) n (ints L)) : PR w w base g n c L L := ⟨h, List.Perm.refl _, gr_refl _ _⟩
theorem PR.cell {w wr : World} {base g n c : Nat} {L O : List Int} (h : PR w wr base g n c L O) (i : Nat) (hi : i < n) : wr.cell? ⟨g, i, none⟩ = some (.int .i64 (O.getD i 0)) ∧ wr.frozen? ⟨g, i, none⟩ = false := by
  have := own_int h.own i hi
  exact ⟨this.1, this.2.1⟩
theorem PR.mem {w wr : World} {base g n c : Nat} {L O : List Int} (h : PR w wr base g n c L O) (i : Nat) (hi : i < n) : O.getD i 0 ∈ L := by
  have hl := h.len
  rw [getD_eq O i 0 (by omega)]
  exact h.perm.mem_iff.1 (List.getElem_mem _)
theorem PR.swap {w wr : World} {base g n c : Nat} {L O : List Int} (h : PR w wr base g n c L O) (i j : Nat) (hi : i < n) (hj : j < n) : PR w ((wr.setCell ⟨g, i, none⟩ (.int .i64 (O.getD j 0))).setCell ⟨g, j, none⟩ (.int .i64 (O.getD i 0))) base g n c L (swapIJ O i j) := by
  have hl := h.len
  exact ⟨(own_int ((own_int h.own i hi).2.2 (O.getD j 0)) j hj).2.2 (O.getD i 0), (swapIJ_perm O i j (by omega) (by omega)).trans h.perm, gr_set (gr_set h.gr rfl _) rfl _⟩
theorem PR.cell2 {w wr : World} {base g n c : Nat} {L O : List Int} (h : PR w wr base g n c L O) (i j : Nat) (hi : i < n) (hj : j < n) (x : Int) : ∃ z, (wr.setCell ⟨g, i, none⟩ (.int .i64 x)).cell? ⟨g, j, none⟩ = some (.int .i64 z) ∧ (wr.setCell ⟨g, i, none⟩ (.int .i64 x)).frozen? ⟨g, j, none⟩ = false := by
  have := own_int ((own_int h.own i hi).2.2 x) j hj
  exact ⟨_, this.1, this.2.1⟩
theorem PR.heap {w wr w2 : World} {base g n c : Nat} {L O : List Int} (h : PR w wr base g n c L O) (e : w2.heap = wr.heap) (hg : w.grownBy w2 (some g)) : PR w w2 base g n c L O := ⟨own_of_heapc3 h.own e, h.perm, hg⟩
theorem PR.grow {w wr w2 : World} {base g n c : Nat} {L O : List Int} (h : PR w wr base g n c L O) (hg : wr.grownBy w2 none) : PR w w2 base g n c L O := ⟨own_keep0 h.own hg, h.perm, gr_trans h.gr (gr_weak hg _)⟩
theorem PR.trans {w w1 w2 : World} {base g n c : Nat} {L O1 O2 : List Int} (h : PR w w1 base g n c L O1) (h2 : PR w1 w2 base g n c O1 O2) : PR w w2 base g n c L O2 := ⟨h2.own, h2.perm.trans h.perm, gr_trans h.gr h2.gr⟩
def PRPost (w : World) (base g n c : Nat) (L : List Int) (e : Ending) (w' : World) : Prop := ∃ O, e = .returned (.tuple #[]) ∧ PR w w' base g n c L O
set_option maxRecDepth 100000 in
set_option maxHeartbeats 2000000 in
theorem swapRange_any (fv : Value) (base g n c a b m : Nat) (L : List Int) (w : World) (hown : w.ownsRow base 3 1 (.slice (some ⟨g, 0, none⟩) n c) n (ints L)) (hn : n ≤ 100000) (ha : a + m ≤ n) (hb : b + m ≤ n) :
    Calls Try.prog 90 #[.slice (some ⟨g, 0, none⟩) n c, .int .i64 a, .int .i64 b, .int .i64 m, fv] w (PRPost w base g n c L) := by
  have H0 := Lib.hid (PR.refl hown)
  clear hown
  go_enter Try.func90, Try.ntmps90
  go_wp2_with (fail)
  go_loopw [10] (fun i wr => ∃ (k : Nat) (O : List Int), k ≤ m ∧ i = .int .i64 k ∧ PR w wr base g n c L O) (fun i _ => m - (intOf i).toNat)
  case atStart => exact ⟨0, L, Nat.zero_le _, rfl, H0.out⟩
  case round =>
    obtain ⟨k, O, hk, rfl, hP⟩ := hrel
    obtain ⟨wo, rfl⟩ : ∃ wo : World, wo = wr := ⟨_, rfl⟩
    by_cases hkm : k < m
    · obtain ⟨a0, fa0⟩ := hP.cell (a + k) (by omega)
      obtain ⟨b0, fb0⟩ := hP.cell (b + k) (by omega)
      have HS := Lib.hid (hP.swap (a + k) (b + k) (by omega) (by omega))
      obtain ⟨z, c0, fc0⟩ := hP.cell2 (a + k) (b + k) (by omega) (by omega) (O.getD (b + k) 0)
      obtain ⟨x, hx⟩ : ∃ x, x = O.getD (a + k) 0 := ⟨_, rfl⟩
      obtain ⟨y, hy⟩ : ∃ y, y = O.getD (b + k) 0 := ⟨_, rfl⟩
      rw [← hx] at a0 HS
      rw [← hy] at b0 HS c0 fc0
      have hq0 : (0 : Int) ≤ (a : Int) + (k : Int) := by omega
      have hq1 : (a : Int) + (k : Int) < (n : Int) := by omega
      have hq2 : (0 : Int) ≤ (b : Int) + (k : Int) := by omega
      have hq3 : (b : Int) + (k : Int) < (n : Int) := by omega
      have hq4 : ((a : Int) + (k : Int)).toNat = a + k := by omega
      have hq5 : ((b : Int) + (k : Int)).toNat = b + k := by omega
      have hw4 : IntKind.i64.wrap ((a : Int) + (k : Int)) = (a : Int) + (k : Int) := IntWalk.i64_in _ (by omega)
      have hw5 : IntKind.i64.wrap ((b : Int) + (k : Int)) = (b : Int) + (k : Int) := IntWalk.i64_in _ (by omega)
      clear hP hx hy
      go_wp2_with (fail)
      go_region
      all_goals (go_wp2_with (fail))
      all_goals go_roundw
      all_goals first | (simp [intOf]; omega; done) | skip
      all_goals
        refine ⟨k + 1, _, by omega, by go_num, HS.out.heap rfl ?_⟩
        first
          | exact gr_drew HS.out.gr
          | exact HS.out.gr
    · have H1 := Lib.hid hP
      clear hP
      go_wp2_with (fail)
      go_end0
      exact ⟨O, rfl, H1.out⟩
set_option maxRecDepth 100000 in
set_option maxHeartbeats 2000000 in
theorem rotate_any (fv : Value) (base g n c a m b : Nat) (L : List Int) (w : World) (hown : w.ownsRow base 3 1 (.slice (some ⟨g, 0, none⟩) n c) n (ints L)) (hn : n ≤ 100000) (ham : a < m) (hmb : m < b) (hb : b ≤ n) :
    Calls Try.prog 86 #[.slice (some ⟨g, 0, none⟩) n c, .int .i64 a, .int .i64 m, .int .i64 b, fv] w (PRPost w base g n c L) := by
  have H0 := Lib.hid (PR.refl hown)
  clear hown
  have hma : (m : Int) - (a : Int) = ((m - a : Nat) : Int) := by omega
  have hbm : (b : Int) - (m : Int) = ((b - m : Nat) : Int) := by omega
  go_enter Try.func86, Try.ntmps86
  go_wp2_with (fail)
  go_loopw [10, 11] (fun i j wr => ∃ (p q : Nat) (O : List Int), 0 < p ∧ 0 < q ∧ p ≤ m ∧ m + q ≤ n ∧ i = .int .i64 p ∧ j = .int .i64 q ∧ PR w wr base g n c L O) (fun i j _ => (intOf i).toNat + (intOf j).toNat)
  case atStart => exact ⟨m - a, b - m, L, by omega, by omega, by omega, by omega, rfl, rfl, H0.out⟩
  case round =>
    obtain ⟨p, q, O, hp0, hq0, hpm, hqn, rfl, rfl, hP⟩ := hrel
    obtain ⟨wo, rfl⟩ : ∃ wo : World, wo = wr := ⟨_, rfl⟩
    have hmp : (m : Int) - (p : Int) = ((m - p : Nat) : Int) := by omega
    have HP := Lib.hid hP
    by_cases hpq : p = q
    · subst hpq
      have SW := Lib.hid (swapRange_any fv base g n c (m - p) m p O wo hP.own hn (by omega) hqn)
      have he : ((p : Int) != (p : Int)) = false := by simp
      clear hP hma hbm
      go_wp2_with (fail)
      refine SW.out.mono ?_
      rintro e w2 ⟨O2, rfl, h2⟩
      have H2 := Lib.hid (HP.out.trans h2)
      clear h2
      go_wp2_with (fail)
      go_end0
      exact ⟨O2, rfl, H2.out⟩
    · have he : ((p : Int) != (q : Int)) = true := by simp; omega
      by_cases hlt : q < p
      · have SW := Lib.hid (swapRange_any fv base g n c (m - p) m q O wo hP.own hn (by omega) hqn)
        have hpq2 : (p : Int) - (q : Int) = ((p - q : Nat) : Int) := by omega
        clear hP hma hbm
        go_wp2_with (fail)
        refine SW.out.mono ?_
        rintro e w2 ⟨O2, rfl, h2⟩
        have H2 := Lib.hid (HP.out.trans h2)
        clear h2
        go_wp2_with (fail)
        go_roundw
        case rel => exact ⟨p - q, q, O2, by omega, hq0, by omega, hqn, rfl, rfl, H2.out⟩
        case measure => simp [intOf]; omega
      · have SW := Lib.hid (swapRange_any fv base g n c (m - p) (m + q - p) p O wo hP.own hn (by omega) (by omega))
        have hpq2 : (q : Int) - (p : Int) = ((q - p : Nat) : Int) := by omega
        have hmq : (m : Int) + (q : Int) - (p : Int) = ((m + q - p : Nat) : Int) := by omega
        clear hP hma hbm
        go_wp2_with (fail)
        refine SW.out.mono ?_
        rintro e w2 ⟨O2, rfl, h2⟩
        have H2 := Lib.hid (HP.out.trans h2)
        clear h2
        go_wp2_with (fail)
        go_roundw
        case rel => exact ⟨p, q - p, O2, hp0, by omega, hpm, by omega, rfl, rfl, H2.out⟩
        case measure => simp [intOf]; omega
end Go.Proofs.Ytjhfglhoiplfmaa

/-! Package slices at ints: insertion sorting of a part. Only this is said: the row is a permutation. -/
namespace Go.Proofs.Ytjhfglhoiplfmaa
open Go.RowKit

theorem CmpC3.later {F : FuncId} {q0 q1 q2 : Nat} {cm : Int → Int → Int} {L O : List Int} {r : Option Nat} {w wr : World} (h : CmpC3 F q0 q1 q2 cm L r w) (hp : O.Perm L) (hg : w.grownBy wr r) : CmpC3 F q0 q1 q2 cm O r wr := fun x y w1 hx hy g1 => h x y w1 (hp.mem_iff.1 hx) (hp.mem_iff.1 hy) (gr_trans hg g1)
theorem PR.cmp {F : FuncId} {q0 q1 q2 : Nat} {cm : Int → Int → Int} {w wr : World} {base g n c : Nat} {L O : List Int} (h : PR w wr base g n c L O) (hF : CmpC3 F q0 q1 q2 cm L (some g) w) (i j : Nat) (hi : i < n) (hj : j < n) : ∀ W, wr.grownBy W none → Calls Try.prog F #[.int .i64 (O.getD i 0), .int .i64 (O.getD j 0), .pointer (some ⟨q0, 0, none⟩), .pointer (some ⟨q1, 0, none⟩), .pointer (some ⟨q2, 0, none⟩)] W fun e w2 => e = .returned (.int .i64 (cm (O.getD i 0) (O.getD j 0))) ∧ W.grownBy w2 none := fun W hW => hF _ _ W (h.mem i hi) (h.mem j hj) (gr_trans h.gr (gr_weak hW _))
set_option maxRecDepth 100000 in
set_option maxHeartbeats 4000000 in
theorem insertionW_any (F : FuncId) (q0 q1 q2 : Nat) (cm : Int → Int → Int) (base g n c a b : Nat) (L : List Int) (w : World) (hown : w.ownsRow base 3 1 (.slice (some ⟨g, 0, none⟩) n c) n (ints L)) (hn : n ≤ 100000) (hab : a ≤ b) (hb : b ≤ n)
    (hE : ∀ (args : Array Value) (w : World), (callFunc F args).run Try.prog w = .ok (.enter F args) w) (hF : CmpC3 F q0 q1 q2 cm L (some g) w) :
    Calls Try.prog 73 #[.slice (some ⟨g, 0, none⟩) n c, .int .i64 a, .int .i64 b, .func (.func F) #[] #[.pointer (some ⟨q0, 0, none⟩), .pointer (some ⟨q1, 0, none⟩), .pointer (some ⟨q2, 0, none⟩)]] w (PRPost w base g n c L) := by
  have HF := Lib.hid hF
  have H0 := Lib.hid (PR.refl hown)
  clear hF hown
  go_enter Try.func73, Try.ntmps73
  go_wp2_with (fail)
  go_loopw [8] (fun i wr => ∃ (k : Nat) (O : List Int), a < k ∧ k ≤ b + 1 ∧ i = .int .i64 k ∧ PR w wr base g n c L O) (fun i _ => b + 1 - (intOf i).toNat)
  case atStart => exact ⟨a + 1, L, by omega, by omega, by go_num, H0.out⟩
  case round =>
    obtain ⟨k, O', hk, hkn1, rfl, hP⟩ := hrel
    obtain ⟨wo, rfl⟩ : ∃ wo : World, wo = wr := ⟨_, rfl⟩
    have HP := Lib.hid hP
    clear hP
    by_cases hkn : k < b
    · go_wp2_with (fail)
      go_loopw [9] (fun i wr => ∃ (j : Nat) (O2 : List Int), j ≤ k ∧ a ≤ j ∧ i = .int .i64 j ∧ PR w wr base g n c L O2) (fun i _ => (intOf i).toNat)
      case atStart => exact ⟨k, O', by omega, by omega, rfl, HP.out⟩
      case round =>
        obtain ⟨j, O2, hj, hja, rfl, hP2⟩ := hrel
        obtain ⟨wi, rfl⟩ : ∃ wi : World, wi = wr := ⟨_, rfl⟩
        by_cases hj0 : a < j
        · obtain ⟨i, hi⟩ : ∃ i, i = j - 1 := ⟨_, rfl⟩
          have hij : i + 1 = j := by omega
          subst hij
          obtain ⟨a0, fa0⟩ := hP2.cell (i + 1) (by omega)
          obtain ⟨b0, fb0⟩ := hP2.cell i (by omega)
          have CC := Lib.hid (hP2.cmp HF.out (i + 1) i (by omega) (by omega))
          obtain ⟨x, hx⟩ : ∃ x, x = O2.getD (i + 1) 0 := ⟨_, rfl⟩
          obtain ⟨y, hy⟩ : ∃ y, y = O2.getD i 0 := ⟨_, rfl⟩
          rw [← hx, ← hy] at CC
          rw [← hx] at a0
          rw [← hy] at b0
          obtain ⟨cv, hcv⟩ : ∃ cv, cv = cm x y := ⟨_, rfl⟩
          rw [← hcv] at CC
          have ga0 := grew_cell a0
          have gb0 := grew_cell b0
          have HP2 := Lib.hid hP2
          have HX := Lib.hid hx
          have HY := Lib.hid hy
          have hi1 : ((i : Int) + 1 - 1) = i := by omega
          have hwi : IntKind.i64.wrap (((i : Int) + 1) - 1) = i := by rw [hi1]; exact IntWalk.i64_in _ (by omega)
          have hq0 : (0 : Int) ≤ (i : Int) := by omega
          have hq1 : (i : Int) < (n : Int) := by omega
          have hq2 : (0 : Int) ≤ (i : Int) + 1 := by omega
          have hq3 : (i : Int) + 1 < (n : Int) := by omega
          have hq4 : ((i : Int) + 1).toNat = i + 1 := by omega
          have hq5 : decide ((a : Int) < (i : Int) + 1) = true := decide_eq_true (by omega)
          clear hP2 hx hy hcv fa0 fb0 hi hi1
          by_cases hc0 : cv < 0
          · have hdc : decide (cv < 0) = true := decide_eq_true hc0
            go_wp2_with (fail)
            refine wp_region_grew (by kernel_rfl) (by kernel_rfl) ?_
            repeat (go_big_quiet_step (first | (exact Calls.grew_of (fun W h => CC.out W h))))
            refine wpQuiet_nil ?_
            rintro wq ⟨nn, rfl⟩
            have HP3 := HP2.out.grow nn.gr
            obtain ⟨wn, hwn⟩ : ∃ wn, wn = nn.w := ⟨_, rfl⟩
            rw [← hwn] at HP3
            rw [← hwn]
            clear hwn ga0 gb0 a0 b0
            obtain ⟨a0, fa0⟩ := HP3.cell (i + 1) (by omega)
            obtain ⟨b0, fb0⟩ := HP3.cell i (by omega)
            have HS := Lib.hid (HP3.swap (i + 1) i (by omega) (by omega))
            obtain ⟨z, c0, fc0⟩ := HP3.cell2 (i + 1) i (by omega) (by omega) (O2.getD i 0)
            rw [← HX.out] at a0 HS
            rw [← HY.out] at b0 HS c0 fc0
            clear hwi hq2 hq3 hq4 hq5 HP3
            go_wp2_with (fail)
            go_region
            all_goals (go_wp2_with (fail))
            all_goals go_roundw
            all_goals first | (simp [intOf]; done) | skip
            all_goals
              refine ⟨i, _, by omega, by omega, by go_num, HS.out.heap rfl ?_⟩
              first
                | exact gr_drew HS.out.gr
                | exact HS.out.gr
          · have hdc : decide (cv < 0) = false := decide_eq_false hc0
            go_wp2_with (fail)
            refine wp_region_grew (by kernel_rfl) (by kernel_rfl) ?_
            repeat (go_big_quiet_step (first | (exact Calls.grew_of (fun W h => CC.out W h))))
            refine wpQuiet_nil ?_
            rintro wq ⟨nn, rfl⟩
            have HP3 := Lib.hid (HP2.out.grow nn.gr)
            clear ga0 gb0 a0 b0
            go_wp2_with (fail)
            go_roundw
            case rel => exact ⟨k + 1, O2, by omega, by omega, by go_num, HP3.out⟩
            case measure => simp [intOf]; omega
        · obtain rfl : j = a := by omega
          have HP2 := Lib.hid hP2
          have hq5 : decide ((j : Int) < (j : Int)) = false := decide_eq_false (by omega)
          clear hP2
          go_wp2_with (fail)
          go_quiet (fail)
          go_wp2_with (fail)
          go_roundw
          case rel => exact ⟨k + 1, O2, by omega, by omega, by go_num, HP2.out.grow (gr_drewN (gr_refl _ _) _)⟩
          case measure => simp [intOf]; omega
    · go_wp2_with (fail)
      go_end0
      exact ⟨O', rfl, HP.out⟩
end Go.Proofs.Ytjhfglhoiplfmaa

/-! Package slices at ints: merging two parts. Only this is said: the row is a permutation. -/
namespace Go.Proofs.Ytjhfglhoiplfmaa
open Go.RowKit

theorem PR.step {w w1 w2 : World} {base g n c : Nat} {L O : List Int} (h : PR w w1 base g n c L O) (h2 : PRPost w1 base g n c O (.returned (.tuple #[])) w2) : ∃ O2, PR w w2 base g n c L O2 := by
  obtain ⟨O2, -, h3⟩ := h2
  exact ⟨O2, h.trans h3⟩
set_option maxRecDepth 100000 in
set_option maxHeartbeats 8000000 in
theorem symMerge_any (F : FuncId) (q0 q1 q2 : Nat) (cm : Int → Int → Int) (base g n c : Nat) (hn : n ≤ 100000) (hE : ∀ (args : Array Value) (w : World), (callFunc F args).run Try.prog w = .ok (.enter F args) w) :
    ∀ (s a m b : Nat) (L : List Int) (w : World), b - a ≤ s → w.ownsRow base 3 1 (.slice (some ⟨g, 0, none⟩) n c) n (ints L) → a < m → m < b → b ≤ n → CmpC3 F q0 q1 q2 cm L (some g) w →
    Calls Try.prog 74 #[.slice (some ⟨g, 0, none⟩) n c, .int .i64 a, .int .i64 m, .int .i64 b, .func (.func F) #[] #[.pointer (some ⟨q0, 0, none⟩), .pointer (some ⟨q1, 0, none⟩), .pointer (some ⟨q2, 0, none⟩)]] w (PRPost w base g n c L) := by
  intro s
  induction s with
  | zero => intro a m b L w hs _ h1 h2; omega
  | succ s ih =>
  intro a m b L w hs hown ham hmb hb hF
  have IH := Lib.hid ih
  have HF := Lib.hid hF
  have H0 := Lib.hid (PR.refl hown)
  clear hF hown ih
  by_cases hm1 : m - a = 1
  · have hma : (m : Int) - (a : Int) = 1 := by omega
    go_enter Try.func74, Try.ntmps74
    go_wp2_with (fail)
    go_loopw [10, 11] (fun i j wr => ∃ (p q : Nat) (O : List Int), a < p ∧ p ≤ q ∧ q ≤ b ∧ i = .int .i64 p ∧ j = .int .i64 q ∧ PR w wr base g n c L O) (fun i j _ => (intOf j).toNat - (intOf i).toNat)
    case atStart => exact ⟨m, b, L, by omega, by omega, by omega, rfl, rfl, H0.out⟩
    case round =>
      obtain ⟨p, q, O, hap, hpq, hqb, rfl, rfl, hP⟩ := hrel
      obtain ⟨wo, rfl⟩ : ∃ wo : World, wo = wr := ⟨_, rfl⟩
      by_cases hlt : p < q
      · obtain ⟨h, hh⟩ : ∃ h, h = (p + q) / 2 := ⟨_, rfl⟩
        have hh1 : p ≤ h := by omega
        have hh2 : h < q := by omega
        obtain ⟨a0, -⟩ := hP.cell h (by omega)
        obtain ⟨b0, -⟩ := hP.cell a (by omega)
        have CC := Lib.hid (hP.cmp HF.out h a (by omega) (by omega))
        obtain ⟨x, hx⟩ : ∃ x, x = O.getD h 0 := ⟨_, rfl⟩
        obtain ⟨y, hy⟩ : ∃ y, y = O.getD a 0 := ⟨_, rfl⟩
        rw [← hx, ← hy] at CC
        rw [← hx] at a0
        rw [← hy] at b0
        obtain ⟨cv, hcv⟩ : ∃ cv, cv = cm x y := ⟨_, rfl⟩
        rw [← hcv] at CC
        have ga0 := grew_cell a0
        have gb0 := grew_cell b0
        have HP := Lib.hid hP
        have hq1 : (h : Int) < (n : Int) := by omega
        have hq2 : (a : Int) < (n : Int) := by omega
        have hmid : ((p : Int) + (q : Int)) / 2 = (h : Int) := by omega
        clear hP hx hy hcv hh
        by_cases hc0 : cv < 0
        · have hdc : decide (cv < 0) = true := decide_eq_true hc0
          go_upto_region 5 with (fail)
          refine wp_region_grew (by kernel_rfl) (by kernel_rfl) ?_
          repeat (go_big_quiet_step (first | (exact Calls.grew_of (fun W h => CC.out W h))))
          refine wpQuiet_nil ?_
          rintro wq ⟨nn, rfl⟩
          have HP3 := Lib.hid (HP.out.grow nn.gr)
          go_wp2_with (fail)
          go_roundw
          case rel => exact ⟨h + 1, q, O, by omega, by omega, hqb, by go_num, rfl, HP3.out⟩
          case measure => simp [intOf]; omega
        · have hdc : decide (cv < 0) = false := decide_eq_false hc0
          go_upto_region 5 with (fail)
          refine wp_region_grew (by kernel_rfl) (by kernel_rfl) ?_
          repeat (go_big_quiet_step (first | (exact Calls.grew_of (fun W h => CC.out W h))))
          refine wpQuiet_nil ?_
          rintro wq ⟨nn, rfl⟩
          have HP3 := Lib.hid (HP.out.grow nn.gr)
          go_wp2_with (fail)
          go_roundw
          case rel => exact ⟨p, h, O, hap, by omega, by omega, rfl, rfl, HP3.out⟩
          case measure => simp [intOf]; omega
      · obtain rfl : p = q := by omega
        have HP := Lib.hid hP
        have hp1 : (p : Int) - 1 = ((p - 1 : Nat) : Int) := by omega
        clear hP
        go_wp2_with (fail)
        go_loopw [13] (fun k wr => ∃ (t : Nat) (O : List Int), t < p ∧ k = .int .i64 t ∧ PR w wr base g n c L O) (fun k _ => p - (intOf k).toNat)
        case atStart => exact ⟨a, O, by omega, rfl, HP.out⟩
        case round =>
          clear HP
          obtain ⟨t, O2, htp, rfl, hP2⟩ := hrel
          obtain ⟨wi, rfl⟩ : ∃ wi : World, wi = wr := ⟨_, rfl⟩
          by_cases htk : t < p - 1
          · obtain ⟨a0, fa0⟩ := hP2.cell t (by omega)
            obtain ⟨b0, fb0⟩ := hP2.cell (t + 1) (by omega)
            have HS := Lib.hid (hP2.swap t (t + 1) (by omega) (by omega))
            obtain ⟨z, c0, fc0⟩ := hP2.cell2 t (t + 1) (by omega) (by omega) (O2.getD (t + 1) 0)
            obtain ⟨x, hx⟩ : ∃ x, x = O2.getD t 0 := ⟨_, rfl⟩
            obtain ⟨y, hy⟩ : ∃ y, y = O2.getD (t + 1) 0 := ⟨_, rfl⟩
            rw [← hx] at a0 HS
            rw [← hy] at b0 HS c0 fc0
            have hq0 : (t : Int) < (n : Int) := by omega
            have hq3 : (t : Int) + 1 < (n : Int) := by omega
            have hq2 : (0 : Int) ≤ (t : Int) + 1 := by omega
            have hq4 : ((t : Int) + 1).toNat = t + 1 := by omega
            have hw4 : IntKind.i64.wrap ((t : Int) + 1) = (t : Int) + 1 := IntWalk.i64_in _ (by omega)
            clear hP2 hx hy
            go_wp2_with (fail)
            go_region
            all_goals (go_wp2_with (fail))
            all_goals go_roundw
            all_goals first | (simp [intOf]; omega; done) | skip
            all_goals
              refine ⟨t + 1, _, by omega, by go_num, HS.out.heap rfl ?_⟩
              first
                | exact gr_drew HS.out.gr
                | exact HS.out.gr
          · have HP2 := Lib.hid hP2
            clear hP2
            go_wp2_with (fail)
            go_end0
            exact ⟨O2, rfl, HP2.out⟩
  · have hma : ¬ (m : Int) - (a : Int) = 1 := by omega
    have hma2 : ((m : Int) - (a : Int) == 1) = false := beq_eq_false_iff_ne.2 hma
    by_cases hb1 : b - m = 1
    · have hbm : (b : Int) - (m : Int) = 1 := by omega
      go_enter Try.func74, Try.ntmps74
      go_wp2_with (fail)
      go_loopw [14, 15] (fun i j wr => ∃ (p q : Nat) (O : List Int), a ≤ p ∧ p ≤ q ∧ q ≤ m ∧ i = .int .i64 p ∧ j = .int .i64 q ∧ PR w wr base g n c L O) (fun i j _ => (intOf j).toNat - (intOf i).toNat)
      case atStart => exact ⟨a, m, L, by omega, by omega, by omega, rfl, rfl, H0.out⟩
      case round =>
        obtain ⟨p, q, O, hap, hpq, hqb, rfl, rfl, hP⟩ := hrel
        obtain ⟨wo, rfl⟩ : ∃ wo : World, wo = wr := ⟨_, rfl⟩
        by_cases hlt : p < q
        · obtain ⟨h, hh⟩ : ∃ h, h = (p + q) / 2 := ⟨_, rfl⟩
          have hh1 : p ≤ h := by omega
          have hh2 : h < q := by omega
          obtain ⟨a0, -⟩ := hP.cell m (by omega)
          obtain ⟨b0, -⟩ := hP.cell h (by omega)
          have CC := Lib.hid (hP.cmp HF.out m h (by omega) (by omega))
          obtain ⟨x, hx⟩ : ∃ x, x = O.getD m 0 := ⟨_, rfl⟩
          obtain ⟨y, hy⟩ : ∃ y, y = O.getD h 0 := ⟨_, rfl⟩
          rw [← hx, ← hy] at CC
          rw [← hx] at a0
          rw [← hy] at b0
          obtain ⟨cv, hcv⟩ : ∃ cv, cv = cm x y := ⟨_, rfl⟩
          rw [← hcv] at CC
          have ga0 := grew_cell a0
          have gb0 := grew_cell b0
          have HP := Lib.hid hP
          have hq1 : (h : Int) < (n : Int) := by omega
          have hq2 : (m : Int) < (n : Int) := by omega
          have hmid : ((p : Int) + (q : Int)) / 2 = (h : Int) := by omega
          clear hP hx hy hcv hh
          by_cases hc0 : cv < 0
          · have hdc : decide (cv < 0) = true := decide_eq_true hc0
            go_upto_region 17 with (fail)
            refine wp_region_grew (by kernel_rfl) (by kernel_rfl) ?_
            repeat (go_big_quiet_step (first | (exact Calls.grew_of (fun W h => CC.out W h))))
            refine wpQuiet_nil ?_
            rintro wq ⟨nn, rfl⟩
            have HP3 := Lib.hid (HP.out.grow nn.gr)
            go_wp2_with (fail)
            go_roundw
            case rel => exact ⟨p, h, O, hap, by omega, by omega, rfl, rfl, HP3.out⟩
            case measure => simp [intOf]; omega
          · have hdc : decide (cv < 0) = false := decide_eq_false hc0
            go_upto_region 17 with (fail)
            refine wp_region_grew (by kernel_rfl) (by kernel_rfl) ?_
            repeat (go_big_quiet_step (first | (exact Calls.grew_of (fun W h => CC.out W h))))
            refine wpQuiet_nil ?_
            rintro wq ⟨nn, rfl⟩
            have HP3 := Lib.hid (HP.out.grow nn.gr)
            go_wp2_with (fail)
            go_roundw
            case rel => exact ⟨h + 1, q, O, by omega, by omega, hqb, by go_num, rfl, HP3.out⟩
            case measure => simp [intOf]; omega
        · obtain rfl : p = q := by omega
          have HP := Lib.hid hP
          clear hP
          go_wp2_with (fail)
          go_loopw [17] (fun k wr => ∃ (t : Nat) (O : List Int), p ≤ t ∧ t ≤ m ∧ k = .int .i64 t ∧ PR w wr base g n c L O) (fun k _ => (intOf k).toNat)
          case atStart => exact ⟨m, O, by omega, by omega, rfl, HP.out⟩
          case round =>
            clear HP
            obtain ⟨t', O2, htp, htm, rfl, hP2⟩ := hrel
            obtain ⟨wi, rfl⟩ : ∃ wi : World, wi = wr := ⟨_, rfl⟩
            by_cases htk : p < t'
            · obtain ⟨t, ht⟩ : ∃ t, t = t' - 1 := ⟨_, rfl⟩
              obtain rfl : t' = t + 1 := by omega
              obtain ⟨a0, fa0⟩ := hP2.cell (t + 1) (by omega)
              obtain ⟨b0, fb0⟩ := hP2.cell t (by omega)
              have HS := Lib.hid (hP2.swap (t + 1) t (by omega) (by omega))
              obtain ⟨z, c0, fc0⟩ := hP2.cell2 (t + 1) t (by omega) (by omega) (O2.getD t 0)
              obtain ⟨x, hx⟩ : ∃ x, x = O2.getD (t + 1) 0 := ⟨_, rfl⟩
              obtain ⟨y, hy⟩ : ∃ y, y = O2.getD t 0 := ⟨_, rfl⟩
              rw [← hx] at a0 HS
              rw [← hy] at b0 HS c0 fc0
              have hq0 : (t : Int) < (n : Int) := by omega
              have hq3 : (t : Int) + 1 < (n : Int) := by omega
              have hq2 : (0 : Int) ≤ (t : Int) + 1 := by omega
              have hq4 : ((t : Int) + 1).toNat = t + 1 := by omega
              have hi1 : ((t : Int) + 1 - 1) = t := by omega
              have hwi : IntKind.i64.wrap (((t : Int) + 1) - 1) = t := by rw [hi1]; exact IntWalk.i64_in _ (by omega)
              clear hP2 hx hy ht
              go_wp2_with (fail)
              go_region
              all_goals (go_wp2_with (fail))
              all_goals go_roundw
              all_goals first | (simp [intOf]; done) | skip
              all_goals
                refine ⟨t, _, by omega, by omega, by go_num, HS.out.heap rfl ?_⟩
                first
                  | exact gr_drew HS.out.gr
                  | exact HS.out.gr
            · have HP2 := Lib.hid hP2
              clear hP2
              go_wp2_with (fail)
              go_end0
              exact ⟨O2, rfl, HP2.out⟩
    · have hbm : ¬ (b : Int) - (m : Int) = 1 := by omega
      have hbm2 : ((b : Int) - (m : Int) == 1) = false := beq_eq_false_iff_ne.2 hbm
      obtain ⟨mid, hmide⟩ : ∃ mid, mid = (a + b) / 2 := ⟨_, rfl⟩
      have hmid : ((a : Int) + (b : Int)) / 2 = (mid : Int) := by omega
      have hm3 : a < mid := by omega
      have hm4 : mid < b := by omega
      have hm5 : mid + mid ≤ a + b := by omega
      have hm6 : a + b ≤ mid + mid + 1 := by omega
      clear hmide
      go_enter Try.func74, Try.ntmps74
      go_upto_if 140 with (fail)
      go_cut [20, 21] (fun s r wx => ∃ S R : Nat, s = .int .i64 S ∧ r = .int .i64 R ∧ wx = w ∧ a ≤ S ∧ S ≤ R ∧ R < n ∧ mid + m ≤ S + b ∧ R ≤ mid + m)
      case first =>
        by_cases hmm : mid < m
        · have hsub : (mid : Int) + (m : Int) - (b : Int) = ((mid + m - b : Nat) : Int) := by omega
          go_wp2_with (fail)
          go_meet
          exact ⟨mid + m - b, mid, rfl, rfl, rfl, by omega, by omega, by omega, by omega, by omega⟩
        · go_wp2_with (fail)
          go_meet
          exact ⟨a, m, rfl, rfl, rfl, by omega, by omega, by omega, by omega, by omega⟩
      case rest =>
      obtain ⟨S, R, rfl, rfl, hwc, hS1, hS2, hS3, hS4, hS5⟩ := hcut
      subst hwc
      obtain ⟨w9, hw9⟩ : ∃ w9, w9 = wc := ⟨_, rfl⟩
      subst hw9
      have hNe : (mid : Int) + (m : Int) - 1 = ((mid + m - 1 : Nat) : Int) := by omega
      go_wp2_with (fail)
      go_loopw [20, 21] (fun i j wr => ∃ (p q : Nat) (O : List Int), S ≤ p ∧ p ≤ q ∧ q ≤ R ∧ i = .int .i64 p ∧ j = .int .i64 q ∧ PR w9 wr base g n c L O) (fun i j _ => (intOf j).toNat - (intOf i).toNat)
      case atStart => exact ⟨S, R, L, by omega, by omega, by omega, rfl, rfl, H0.out⟩
      case round =>
        obtain ⟨p, q, O, hap, hpq, hqb, rfl, rfl, hP⟩ := hrel
        obtain ⟨wo, rfl⟩ : ∃ wo : World, wo = wr := ⟨_, rfl⟩
        by_cases hlt : p < q
        · obtain ⟨h, hh⟩ : ∃ h, h = (p + q) / 2 := ⟨_, rfl⟩
          have hh1 : p ≤ h := by omega
          have hh2 : h < q := by omega
          obtain ⟨u, hu⟩ : ∃ u, u = mid + m - 1 - h := ⟨_, rfl⟩
          have hun : u < n := by omega
          obtain ⟨a0, -⟩ := hP.cell u hun
          obtain ⟨b0, -⟩ := hP.cell h (by omega)
          have CC := Lib.hid (hP.cmp HF.out u h hun (by omega))
          obtain ⟨x, hx⟩ : ∃ x, x = O.getD u 0 := ⟨_, rfl⟩
          obtain ⟨y, hy⟩ : ∃ y, y = O.getD h 0 := ⟨_, rfl⟩
          rw [← hx, ← hy] at CC
          rw [← hx] at a0
          rw [← hy] at b0
          obtain ⟨cv, hcv⟩ : ∃ cv, cv = cm x y := ⟨_, rfl⟩
          rw [← hcv] at CC
          have ga0 := grew_cell a0
          have gb0 := grew_cell b0
          have HP := Lib.hid hP
          have hq1 : (h : Int) < (n : Int) := by omega
          have hq2 : (u : Int) < (n : Int) := by omega
          have hmid2 : ((p : Int) + (q : Int)) / 2 = (h : Int) := by omega
          have hue : ((mid + m - 1 : Nat) : Int) - (h : Int) = (u : Int) := by omega
          have hue2 : (mid : Int) + (m : Int) - 1 - (h : Int) = (u : Int) := by omega
          clear hP hx hy hcv hh hu
          by_cases hc0 : cv < 0
          · have hdc : decide (cv < 0) = true := decide_eq_true hc0
            go_upto_region 35 with (fail)
            refine wp_region_grew (by kernel_rfl) (by kernel_rfl) ?_
            repeat (go_big_quiet_step (first | (exact Calls.grew_of (fun W h => CC.out W h))))
            refine wpQuiet_nil ?_
            rintro wq ⟨nn, rfl⟩
            have HP3 := Lib.hid (HP.out.grow nn.gr)
            go_wp2_with (fail)
            go_roundw
            case rel => exact ⟨p, h, O, hap, by omega, by omega, rfl, rfl, HP3.out⟩
            case measure => simp [intOf]; omega
          · have hdc : decide (cv < 0) = false := decide_eq_false hc0
            go_upto_region 35 with (fail)
            refine wp_region_grew (by kernel_rfl) (by kernel_rfl) ?_
            repeat (go_big_quiet_step (first | (exact Calls.grew_of (fun W h => CC.out W h))))
            refine wpQuiet_nil ?_
            rintro wq ⟨nn, rfl⟩
            have HP3 := Lib.hid (HP.out.grow nn.gr)
            go_wp2_with (fail)
            go_roundw
            case rel => exact ⟨h + 1, q, O, by omega, by omega, hqb, by go_num, rfl, HP3.out⟩
            case measure => simp [intOf]; omega
        · obtain rfl : p = q := by omega
          have HP := Lib.hid hP
          obtain ⟨E, hE2⟩ : ∃ E, E = mid + m - p := ⟨_, rfl⟩
          have hEe : (mid : Int) + (m : Int) - (p : Int) = (E : Int) := by omega
          have hEb : E ≤ b := by omega
          have hpn : p < n := by omega
          have hap2 : a ≤ p := by omega
          clear hP hE2
          go_upto_region 39 with (fail)
          go_cut [185] from 178 to 185 (fun s wx => ∃ t : Bool, s = .bool t ∧ (t = true → p < m ∧ m < E) ∧ wx = wo)
          case first =>
            by_cases hx1 : p < m
            · have hx1d : decide ((p : Int) < (m : Int)) = true := decide_eq_true (by omega)
              by_cases hx2 : m < E
              · have hx2d : decide ((m : Int) < (E : Int)) = true := decide_eq_true (by omega)
                go_wp2_with (fail)
                go_meet
                exact ⟨true, rfl, fun _ => ⟨hx1, hx2⟩, rfl⟩
              · have hx2d : decide ((m : Int) < (E : Int)) = false := decide_eq_false (by omega)
                go_wp2_with (fail)
                go_meet
                exact ⟨false, rfl, fun h => absurd h (by simp), rfl⟩
            · have hx1d : decide ((p : Int) < (m : Int)) = false := decide_eq_false (by omega)
              go_wp2_with (fail)
              go_meet
              exact ⟨false, rfl, fun h => absurd h (by simp), rfl⟩
          case rest =>
          obtain ⟨t1, rfl, ht1, hwe1⟩ := hcut
          subst hwe1
          obtain ⟨v1, hv1⟩ : ∃ v, v = wc := ⟨_, rfl⟩
          subst hv1
          go_upto_if 185 with (fail)
          go_cut [] from 186 to 191 (fun wx => ∃ O2 : List Int, PR w9 wx base g n c L O2)
          case first =>
            cases t1 with
            | false =>
              go_wp2_with (fail)
              go_meet
              exact ⟨O, HP.out⟩
            | true =>
              obtain ⟨hx1, hx2⟩ := ht1 rfl
              have CA := Lib.hid (rotate_any (.func (.func F) #[] #[.pointer (some ⟨q0, 0, none⟩), .pointer (some ⟨q1, 0, none⟩), .pointer (some ⟨q2, 0, none⟩)]) base g n c p m E O v1 HP.out.own hn hx1 hx2 (by omega))
              go_wp2_with (fail)
              refine CA.out.mono ?_
              rintro e wz ⟨O3, rfl, h3⟩
              have H3 := Lib.hid (HP.out.trans h3)
              clear h3
              go_wp2_with (fail)
              go_meet
              exact ⟨O3, H3.out⟩
          case rest =>
          obtain ⟨O1, hO1⟩ := hcut
          have HP1 := Lib.hid hO1
          clear hO1 ht1
          obtain ⟨w1, hw1⟩ : ∃ w1, w1 = wc := ⟨_, rfl⟩
          subst hw1
          go_upto_region 41 with (fail)
          go_cut [199] from 192 to 199 (fun s wx => ∃ t : Bool, s = .bool t ∧ (t = true → a < p ∧ p < mid) ∧ wx = w1)
          case first =>
            by_cases hx1 : a < p
            · have hx1d : decide ((a : Int) < (p : Int)) = true := decide_eq_true (by omega)
              by_cases hx2 : p < mid
              · have hx2d : decide ((p : Int) < (mid : Int)) = true := decide_eq_true (by omega)
                go_wp2_with (fail)
                go_meet
                exact ⟨true, rfl, fun _ => ⟨hx1, hx2⟩, rfl⟩
              · have hx2d : decide ((p : Int) < (mid : Int)) = false := decide_eq_false (by omega)
                go_wp2_with (fail)
                go_meet
                exact ⟨false, rfl, fun h => absurd h (by simp), rfl⟩
            · have hx1d : decide ((a : Int) < (p : Int)) = false := decide_eq_false (by omega)
              go_wp2_with (fail)
              go_meet
              exact ⟨false, rfl, fun h => absurd h (by simp), rfl⟩
          case rest =>
          obtain ⟨t2, rfl, ht2, hwe2⟩ := hcut
          subst hwe2
          obtain ⟨v2, hv2⟩ : ∃ v, v = wc := ⟨_, rfl⟩
          subst hv2
          go_upto_if 199 with (fail)
          go_cut [] from 200 to 205 (fun wx => ∃ O2 : List Int, PR w9 wx base g n c L O2)
          case first =>
            cases t2 with
            | false =>
              go_wp2_with (fail)
              go_meet
              exact ⟨O1, HP1.out⟩
            | true =>
              obtain ⟨hx1, hx2⟩ := ht2 rfl
              have CA := Lib.hid (IH.out a p mid O1 v2 (by omega) HP1.out.own hx1 hx2 (by omega) (HF.out.later HP1.out.perm HP1.out.gr))
              go_wp2_with (fail)
              refine CA.out.mono ?_
              rintro e wz ⟨O3, rfl, h3⟩
              have H3 := Lib.hid (HP1.out.trans h3)
              clear h3
              go_wp2_with (fail)
              go_meet
              exact ⟨O3, H3.out⟩
          case rest =>
          obtain ⟨O2, hO2⟩ := hcut
          have HP2 := Lib.hid hO2
          clear hO2 ht2
          obtain ⟨w2, hw2⟩ : ∃ w2, w2 = wc := ⟨_, rfl⟩
          subst hw2
          go_upto_region 43 with (fail)
          go_cut [213] from 206 to 213 (fun s wx => ∃ t : Bool, s = .bool t ∧ (t = true → mid < E ∧ E < b) ∧ wx = w2)
          case first =>
            by_cases hx1 : mid < E
            · have hx1d : decide ((mid : Int) < (E : Int)) = true := decide_eq_true (by omega)
              by_cases hx2 : E < b
              · have hx2d : decide ((E : Int) < (b : Int)) = true := decide_eq_true (by omega)
                go_wp2_with (fail)
                go_meet
                exact ⟨true, rfl, fun _ => ⟨hx1, hx2⟩, rfl⟩
              · have hx2d : decide ((E : Int) < (b : Int)) = false := decide_eq_false (by omega)
                go_wp2_with (fail)
                go_meet
                exact ⟨false, rfl, fun h => absurd h (by simp), rfl⟩
            · have hx1d : decide ((mid : Int) < (E : Int)) = false := decide_eq_false (by omega)
              go_wp2_with (fail)
              go_meet
              exact ⟨false, rfl, fun h => absurd h (by simp), rfl⟩
          case rest =>
          obtain ⟨t3, rfl, ht3, hwe3⟩ := hcut
          subst hwe3
          obtain ⟨v3, hv3⟩ : ∃ v, v = wc := ⟨_, rfl⟩
          subst hv3
          cases t3 with
          | false =>
            go_wp2_with (fail)
            go_end0
            exact ⟨O2, rfl, HP2.out⟩
          | true =>
            obtain ⟨hx1, hx2⟩ := ht3 rfl
            have CA := Lib.hid (IH.out mid E b O2 v3 (by omega) HP2.out.own hx1 hx2 (by omega) (HF.out.later HP2.out.perm HP2.out.gr))
            go_wp2_with (fail)
            refine CA.out.mono ?_
            rintro e wz ⟨O3, rfl, h3⟩
            have H3 := Lib.hid (HP2.out.trans h3)
            clear h3
            go_wp2_with (fail)
            go_end0
            exact ⟨O3, rfl, H3.out⟩
end Go.Proofs.Ytjhfglhoiplfmaa

/-! Package slices at ints: stable sorting of many. Only this is said: the row is a permutation. -/
namespace Go.Proofs.Ytjhfglhoiplfmaa
open Go.RowKit

set_option maxRecDepth 100000 in
set_option maxHeartbeats 4000000 in
theorem stableW_any (F : FuncId) (q0 q1 q2 : Nat) (cm : Int → Int → Int) (base g n c : Nat) (L : List Int) (w : World) (hown : w.ownsRow base 3 1 (.slice (some ⟨g, 0, none⟩) n c) n (ints L)) (hn : n ≤ 100000)
    (hE : ∀ (args : Array Value) (w : World), (callFunc F args).run Try.prog w = .ok (.enter F args) w) (hF : CmpC3 F q0 q1 q2 cm L (some g) w) :
    Calls Try.prog 49 #[.slice (some ⟨g, 0, none⟩) n c, .int .i64 n, .func (.func F) #[] #[.pointer (some ⟨q0, 0, none⟩), .pointer (some ⟨q1, 0, none⟩), .pointer (some ⟨q2, 0, none⟩)]] w (PRPost w base g n c L) := by
  have HF := Lib.hid hF
  have H0 := Lib.hid (PR.refl hown)
  clear hF hown
  go_enter Try.func49, Try.ntmps49
  go_wp2_with (fail)
  go_loopw [7, 8] (fun i j wr => ∃ (p : Nat) (O : List Int), p ≤ n ∧ i = .int .i64 p ∧ j = .int .i64 (p + 20 : Nat) ∧ PR w wr base g n c L O) (fun i _ _ => n + 1 - (intOf i).toNat)
  case atStart => exact ⟨0, L, by omega, rfl, rfl, H0.out⟩
  case round =>
    obtain ⟨p, O, hp, rfl, rfl, hP⟩ := hrel
    obtain ⟨wo, rfl⟩ : ∃ wo : World, wo = wr := ⟨_, rfl⟩
    have HP := Lib.hid hP
    clear hP
    by_cases hpn : p + 20 ≤ n
    · have IN := Lib.hid (insertionW_any F q0 q1 q2 cm base g n c p (p + 20) O wo HP.out.own hn (by omega) hpn hE (HF.out.later HP.out.perm HP.out.gr))
      have hle : ((p + 20 : Nat) : Int) ≤ (n : Int) := by omega
      go_wp2_with (fail)
      refine IN.out.mono ?_
      rintro e w2 ⟨O2, rfl, h2⟩
      have H2 := Lib.hid (HP.out.trans h2)
      clear h2
      go_wp2_with (fail)
      go_roundw
      case rel => exact ⟨p + 20, O2, hpn, by go_num, by go_num, H2.out⟩
      case measure => simp [intOf]; omega
    · have IN := Lib.hid (insertionW_any F q0 q1 q2 cm base g n c p n O wo HP.out.own hn hp (Nat.le_refl _) hE (HF.out.later HP.out.perm HP.out.gr))
      have hle : ¬ ((p + 20 : Nat) : Int) ≤ (n : Int) := by omega
      go_wp2_with (fail)
      refine IN.out.mono ?_
      rintro e w2 ⟨O2, rfl, h2⟩
      have H2 := Lib.hid (HP.out.trans h2)
      clear h2 IN HP
      go_wp2_with (fail)
      go_loopw [6, 7, 8, 9] (fun i _ _ _ wr => ∃ (s : Nat) (O : List Int), 20 ≤ s ∧ s ≤ 400000 ∧ i = .int .i64 s ∧ PR w wr base g n c L O) (fun i _ _ _ _ => 400001 - (intOf i).toNat)
      case atStart => exact ⟨20, O2, by omega, by omega, rfl, H2.out⟩
      case round =>
        clear H2
        obtain ⟨s, O3, hs1, hs2, rfl, hP3⟩ := hrel
        obtain ⟨w3, rfl⟩ : ∃ w3 : World, w3 = wr := ⟨_, rfl⟩
        have H3 := Lib.hid hP3
        clear hP3
        by_cases hsn : s < n
        · obtain ⟨D, hD⟩ : ∃ D, D = 2 * s := ⟨_, rfl⟩
          have hs3 : (2 : Int) * (s : Int) = (D : Int) := by omega
          have hs4 : (s : Int) * (2 : Int) = (D : Int) := by omega
          have hD2 : s + s = D := by omega
          have HD := Lib.hid hD
          clear hD
          go_wp2_with (fail)
          go_loopw [7, 8] (fun i j wr => ∃ (p T : Nat) (O : List Int), p ≤ n ∧ T = p + D ∧ i = .int .i64 p ∧ j = .int .i64 T ∧ PR w wr base g n c L O) (fun i _ _ => n + 1 - (intOf i).toNat)
          case atStart => exact ⟨0, D, O3, by omega, by omega, rfl, rfl, H3.out⟩
          case round =>
            clear H3
            obtain ⟨p, T, O4, hp, hT, rfl, rfl, hP4⟩ := hrel
            obtain ⟨w4, rfl⟩ : ∃ w4 : World, w4 = wr := ⟨_, rfl⟩
            have H4 := Lib.hid hP4
            clear hP4
            obtain ⟨M, hM⟩ : ∃ M, M = p + s := ⟨_, rfl⟩
            have hs5 : (p : Int) + (s : Int) = (M : Int) := by omega
            have hM1 : p < M := by omega
            have hM2 : M < T := by omega
            have hT2 : T - p ≤ D := by omega
            have hT4 : p < T := by omega
            obtain ⟨U, hU⟩ : ∃ U, U = T + D := ⟨_, rfl⟩
            have hTD : (T : Int) + (D : Int) = (U : Int) := by omega
            have HU := Lib.hid hU
            clear hU hT hM
            by_cases hpn : T ≤ n
            · have SM := Lib.hid (symMerge_any F q0 q1 q2 cm base g n c hn hE D p M T O4 w4 hT2 H4.out.own hM1 hM2 hpn (HF.out.later H4.out.perm H4.out.gr))
              have hle : (T : Int) ≤ (n : Int) := by omega
              go_wp2_with (fail)
              refine SM.out.mono ?_
              rintro e w5 ⟨O5, rfl, h5⟩
              have H5 := Lib.hid (H4.out.trans h5)
              clear h5
              go_wp2_with (fail)
              go_roundw
              case rel => exact ⟨T, U, O5, hpn, HU.out, rfl, rfl, H5.out⟩
              case measure => simp [intOf]; omega
            · have hle : ¬ (T : Int) ≤ (n : Int) := by omega
              by_cases hps : M < n
              · have SM := Lib.hid (symMerge_any F q0 q1 q2 cm base g n c hn hE n p M n O4 w4 (by omega) H4.out.own hM1 hps (Nat.le_refl _) (HF.out.later H4.out.perm H4.out.gr))
                have hlt : (M : Int) < (n : Int) := by omega
                go_wp2_with (fail)
                refine SM.out.mono ?_
                rintro e w5 ⟨O5, rfl, h5⟩
                have H5 := Lib.hid (H4.out.trans h5)
                clear h5
                go_wp2_with (fail)
                go_roundw
                case rel => exact ⟨D, O5, by omega, by omega, rfl, H5.out⟩
                case measure => simp [intOf]; omega
              · have hlt : ¬ (M : Int) < (n : Int) := by omega
                go_wp2_with (fail)
                go_roundw
                case rel => exact ⟨D, O4, by omega, by omega, rfl, H4.out⟩
                case measure => simp [intOf]; omega
        · go_wp2_with (fail)
          go_end0
          exact ⟨O3, rfl, H3.out⟩
set_option maxRecDepth 100000 in
theorem sortW_any (F : FuncId) (q0 q1 q2 : Nat) (cm : Int → Int → Int) (base g n c : Nat) (L : List Int) (w : World) (hown : w.ownsRow base 3 1 (.slice (some ⟨g, 0, none⟩) n c) n (ints L)) (hn : n ≤ 100000)
    (hE : ∀ (args : Array Value) (w : World), (callFunc F args).run Try.prog w = .ok (.enter F args) w) (hF : CmpC3 F q0 q1 q2 cm L (some g) w) :
    Calls Try.prog 39 #[.slice (some ⟨g, 0, none⟩) n c, .func (.func F) #[] #[.pointer (some ⟨q0, 0, none⟩), .pointer (some ⟨q1, 0, none⟩), .pointer (some ⟨q2, 0, none⟩)]] w (PRPost w base g n c L) := by
  have IS := Lib.hid (stableW_any F q0 q1 q2 cm base g n c L w hown hn hE hF)
  clear hF hE hown
  go_enter Try.func39, Try.ntmps39
  go_wp2_with (fail)
  refine IS.out.mono ?_
  rintro e w2 ⟨O2, rfl, h1⟩
  have H1 := Lib.hid h1
  clear h1
  go_wp2_with (fail)
  go_end0
  exact ⟨O2, rfl, H1.out⟩
end Go.Proofs.Ytjhfglhoiplfmaa

/-! A total divided among many weights: only the sum, and that no part is negative. -/
namespace Go.Proofs.Ytjhfglhoiplfmaa
open Go.RowKit
attribute [local go_sem ↓] Go.wp_at_zero Go.wp_at_succ

structure ShareSum (tot : Int) (ws P : List Int) : Prop where
  len : P.length = ws.length
  all : P.sum = tot
  pos : ∀ j, j < ws.length → 0 ≤ P.getD j 0
def SharePostW (tot : Int) (ws : List Int) (w : World) (e : Ending) (w' : World) : Prop := ∃ v P, e = .returned v ∧ w'.ownsRow w.heap.size 3 1 v ws.length (ints P) ∧ ShareSum tot ws P ∧ w.grownBy w' none
set_option maxRecDepth 100000 in
set_option maxHeartbeats 4000000 in
theorem sharedW_any (tot sum : Int) (ws : List Int) (a : Option Addr) (c : Nat) (w : World) (hc : CellsAt w a (ints ws)) (hn : ws.length ≤ 10000)
    (ht0 : 0 ≤ tot) (ht1 : tot ≤ 1000000000) (hs0 : 0 < sum) (hw : ∀ x ∈ ws, 0 ≤ x ∧ x ≤ 1000000) (hsum : ws.sum = sum) :
    Calls Try.prog 22 #[.int .i64 tot, .slice a ws.length c, .int .i64 sum] w (SharePostW tot ws w) := by
  have hs1 : sum ≤ 1000000 * ws.length := by rw [← hsum]; exact (sum_bd 1000000 ws hw).2
  have hLF := share_left tot sum ht0 hs0 ws (fun x hx => (hw x hx).1) hsum
  obtain ⟨hA, hB, hC⟩ := heap_3 w (.cells #[.int .i64 tot] 3) (.cells #[.slice a ws.length c] 22) (.cells #[.int .i64 sum] 3)
  have hg := gr_alloc (gr_alloc (gr_alloc (gr_refl w none) (.cells #[.int .i64 tot] 3)) (.cells #[.slice a ws.length c] 22)) (.cells #[.int .i64 sum] 3)
  obtain ⟨w1, hw1⟩ : ∃ w1, w1 = ((w.alloc (.cells #[.int .i64 tot] 3)).alloc (.cells #[.slice a ws.length c] 22)).alloc (.cells #[.int .i64 sum] 3) := ⟨_, rfl⟩
  rw [← hw1] at hA hB hC hg
  have hz1 : w.heap.size + 2 < w1.heap.size := lt_of_block hC
  obtain ⟨B, hBe⟩ : ∃ B, B = w.heap.size := ⟨_, rfl⟩
  rw [← hBe] at hA hB hC hz1
  have HC1 := Lib.hid (hc.keep0 hg)
  have HA := Lib.hid hA
  have HB := Lib.hid hB
  have HCc := Lib.hid hC
  have HG1 := Lib.hid hg
  have HW1 := Lib.hid hw1
  have HBE := Lib.hid hBe
  have HWS := Lib.hid hw
  have HLF := Lib.hid hLF
  have HSUM := Lib.hid hsum
  have l0 := blkC HA.out 0 rfl
  have l1 := blkC HB.out 0 rfl
  have l2 := blkC HCc.out 0 rfl
  clear hc hA hB hC hg hw1 hBe hw hsum
  go_enter Try.func22, Try.ntmps22
  go_upto_region 1 with (fail)
  rw [← HW1.out, ← HBE.out]
  go_upto_region 2 with (at_make; refine wpList_mk _ eInt rfl _ _ rfl w1.heap.size _ ws.length rfl rfl rfl ?_ ?_ ?_; (· omega); (· omega); intro w2 o2 g2; have hz2 := g2.size; have l1 := (gr_cell g2 (lt_of_cell l1)).trans l1; have l0 := (gr_cell g2 (lt_of_cell l0)).trans l0)
  obtain ⟨G1, hG1⟩ : ∃ G, G = w1.heap.size := ⟨_, rfl⟩
  have HG1e := Lib.hid hG1
  rw [← hG1] at o2
  rw [← hG1]
  have HG2 := Lib.hid g2
  have HO2 := Lib.hid o2
  clear hG1 g2 o2
  go_wp2_with (at_make; refine wpList_mk _ eInt rfl _ _ rfl w2.heap.size _ ws.length rfl rfl rfl ?_ ?_ ?_; (· omega); (· omega); intro w3 o3 g3; have hz3 := g3.size; have l1 := (gr_cell g3 (lt_of_cell l1)).trans l1; have l0 := (gr_cell g3 (lt_of_cell l0)).trans l0)
  obtain ⟨G2, hG2⟩ : ∃ G, G = w2.heap.size := ⟨_, rfl⟩
  have HG2e := Lib.hid hG2
  rw [← hG2] at o3
  rw [← hG2]
  have hG12 : G1 < G2 := by rw [hG2]; exact (HO2.out.lt G1 rfl).2
  have HG3 := Lib.hid (gr_trans HG2.out g3)
  have HO3 := Lib.hid o3
  have HP3 := Lib.hid (own_keep0 HO2.out g3)
  have W3 : Hid (ShareW w3 w1 G1 G2 ws.length (List.replicate ws.length 0) (List.replicate ws.length 0)) := ⟨HP3.out, HO3.out, HG3.out⟩
  have hzG : w1.heap.size ≤ G1 := by rw [HG1e.out]; exact Nat.le_refl _
  clear hG2 g3 o3 HO2 l2 hz2 hz3 HP3 HO3 HG3 HG2 HG1e HG2e
  go_wp2_with (fail)
  clear l0 l1
  go_loopw [9, 23] (fun lf i wr => ∃ k : Nat, k ≤ ws.length ∧ i = .int .i64 k ∧ lf = .int .i64 (tot - (quoL tot sum (ws.take k)).sum) ∧ ShareW wr w1 G1 G2 ws.length (quoL tot sum (ws.take k) ++ List.replicate (ws.length - k) 0) (placesL k ++ List.replicate (ws.length - k) 0)) (fun _ i _ => ws.length - (intOf i).toNat)
  case atStart => exact ⟨0, Nat.zero_le _, rfl, by simp [quoL], by simpa [quoL, placesL] using W3.out⟩
  case round =>
    clear W3
    obtain ⟨k, hk, rfl, rfl, hW⟩ := hrel
    obtain ⟨wo, rfl⟩ : ∃ wo : World, wo = wr := ⟨_, rfl⟩
    have hl0 := (gr_cell hW.gr (lt_of_block HA.out)).trans (blkC HA.out 0 rfl)
    have hl1 := (gr_cell hW.gr (lt_of_block HB.out)).trans (blkC HB.out 0 rfl)
    have hl2 := (gr_cell hW.gr (lt_of_block HCc.out)).trans (blkC HCc.out 0 rfl)
    by_cases hlt : k < ws.length
    · obtain ⟨b, off, rfl, d0⟩ := (HC1.out.keep0 hW.gr) k _ (by rw [show (ints ws)[k]? = _ from ints_at ws k hlt])
      rw [getD_eq ws k 0 hlt] at d0
      have hwk := HWS.out _ (List.getElem_mem hlt)
      have hsk : ws[k] ≤ sum := by rw [← HSUM.out]; exact mem_le_sum ws (fun x hx => (HWS.out x hx).1) _ (List.getElem_mem hlt)
      have hq := quo_rem ht0 hs0 hwk.1
      have hqm := quoT_le ht0 hs0 hwk.1 hsk
      have hS := quoL_bd tot sum ws ht0 ht1 hs0 (fun x hx => (HWS.out x hx).1) HSUM.out k
      have hQl : (quoL tot sum (ws.take k)).length = k := by simp [quoL]; omega
      have mu0 : 0 ≤ tot * ws[k] := Int.mul_nonneg ht0 hwk.1
      have mu1 : tot * ws[k] ≤ 1000000000 * 1000000 := Int.mul_le_mul ht1 hwk.2 hwk.1 (by omega)
      have NX : Hid (quoL tot sum (ws.take (k + 1)) = quoL tot sum (ws.take k) ++ [quoT tot sum ws[k]]) := by show _ = _; rw [take_snoc ws k hlt]; unfold quoL; rw [List.map_append]; rfl
      obtain ⟨x, hx⟩ : ∃ x, x = ws[k] := ⟨_, rfl⟩
      rw [← hx] at d0 hwk hsk hq hqm mu0 mu1 NX
      obtain ⟨QL, hQL⟩ : ∃ Q, Q = quoL tot sum (ws.take k) := ⟨_, rfl⟩
      rw [← hQL] at hW hS hQl NX
      rw [← hQL]
      obtain ⟨S, hSe⟩ : ∃ S, S = QL.sum := ⟨_, rfl⟩
      rw [← hSe] at hS
      rw [← hSe]
      obtain ⟨p, hp⟩ : ∃ p, tot * x = p := ⟨_, rfl⟩
      have hqt : p.tdiv sum = quoT tot sum x := by rw [← hp]; rfl
      rw [hp] at mu0 mu1
      have hq0 := hq.2.2.2
      obtain ⟨q, hqe⟩ : ∃ q, q = quoT tot sum x := ⟨_, rfl⟩
      rw [← hqe] at hqm hqt hq0 NX
      have hsz : (sum == 0) = false := beq_eq_false_iff_ne.2 (by omega)
      have o1 := (own_int hW.out k hlt)
      have HQL := Lib.hid hQl
      have HSE := Lib.hid hSe
      have hW2 := hW.setOut hG12 hzG k hlt q
      rw [fill_next QL ws.length k q hQl hlt] at hW2
      have o2 := own_int hW2.ord k hlt
      have o2b := (own_int hW2.out k hlt)
      have hgq : (QL ++ [q] ++ List.replicate (ws.length - (k + 1)) 0).getD k 0 = q := by
        rw [List.getD_eq_getElem?_getD, List.append_assoc, List.getElem?_append_right (by omega), hQl, Nat.sub_self]; rfl
      rw [hgq] at o2b
      have hW3 := hW2.setOrd hG12 hzG k hlt (k : Int)
      rw [fill_next (placesL k) ws.length k (k : Int) (places_len k) hlt, ← places_next] at hW3
      have o3b := (own_int hW3.out k hlt)
      rw [hgq] at o3b
      have e1 := o1.1
      have f1 := o1.2.1
      have e2 := o2.1
      have f2 := o2.2.1
      have e3 := o3b.1
      have HW3 := Lib.hid hW3
      clear hx hQL hSe hW hW2 hW3 o1 o2 o2b o3b hq hqe hgq hQl
      go_wp2_with (fail)
      go_roundw
      case rel =>
        refine ⟨k + 1, by omega, by go_num, congrArg (Value.int .i64) ?_, by rw [NX.out]; exact HW3.out⟩
        rw [NX.out, sumI_app, ← HSE.out]
        simp
        omega
      case measure => simp [intOf]; omega
    · obtain rfl : k = ws.length := by omega
      rw [List.take_length, Nat.sub_self, List.replicate_zero, List.append_nil, List.append_nil] at hW
      rw [List.take_length]
      obtain ⟨hm0, hm1⟩ := HLF.out
      obtain ⟨QL, hQL⟩ : ∃ Q, Q = quoL tot sum ws := ⟨_, rfl⟩
      rw [← hQL] at hW hm0 hm1
      rw [← hQL]
      have hQl : QL.length = ws.length := by rw [hQL]; simp [quoL]
      obtain ⟨m, hm⟩ : ∃ m : Nat, tot - QL.sum = (m : Int) := ⟨(tot - QL.sum).toNat, by omega⟩
      rw [hm]
      have hQe : ∀ j, j < ws.length → 0 ≤ QL.getD j 0 ∧ QL.getD j 0 ≤ 1000000000 := fun j hj => by
        have hj2 : j < QL.length := by omega
        rw [getD_eq QL j 0 hj2]
        have : QL[j] ∈ quoL tot sum ws := by rw [← hQL]; exact List.getElem_mem _
        obtain ⟨y, hy, e⟩ := List.mem_map.1 this
        rw [← e]
        have h1 := quo_rem ht0 hs0 (HWS.out y hy).1
        have h2 := quoT_le ht0 hs0 (HWS.out y hy).1 (by rw [← HSUM.out]; exact mem_le_sum ws (fun x hx => (HWS.out x hx).1) y hy)
        omega
      have SF := sortW_any 40 B (B + 1) (B + 2) (shareCm tot sum ws) G2 G2 ws.length ws.length (placesL ws.length) wo hW.ord (by omega) shareCmp_fn (fun x y W hx hy gW => by
        obtain ⟨i, hi, rfl⟩ := places_mem hx
        obtain ⟨j, hj, rfl⟩ := places_mem hy
        have hlow : ∀ b, b < w1.heap.size → some b ≠ some G2 := fun b hb e => by injection e with e; omega
        have hbk : ∀ (b : Nat) (cs : Array Value) (t : TypeId), w1.heap[b]? = some (Obj.cells cs t (0, 0)) → W.heap[b]? = some (Obj.cells cs t (0, 0)) := fun b cs t h => by
          have hb := lt_of_block h
          exact (gW.block b (Nat.lt_of_lt_of_le hb hW.gr.size) (hlow b hb)).trans ((hW.gr.block b hb (by simp)).trans h)
        exact shareCmp_any tot sum ws i j hi hj a c B (B + 1) (B + 2) W (blkC (hbk _ _ _ HA.out) 0 rfl) (blkC (hbk _ _ _ HB.out) 0 rfl) (blkC (hbk _ _ _ HCc.out) 0 rfl) (fun j v hv => by
          obtain ⟨b, off, e, hcell⟩ := HC1.out j v hv
          have hb := lt_of_cell hcell
          exact ⟨b, off, e, (World.cell?_of_block (w := w1) ((gW.block b (Nat.lt_of_lt_of_le hb hW.gr.size) (hlow b hb)).trans (hW.gr.block b hb (by simp)))).trans hcell⟩) ht0 ht1 hs0 (by omega) HWS.out)
      have SF := Lib.hid SF
      have HW := Lib.hid hW
      have HQE := Lib.hid hQe
      have HQL := Lib.hid hQL
      have HQl := Lib.hid hQl
      have HM := Lib.hid hm
      have hmn : m ≤ ws.length := by omega
      clear hW hQe hQL hQl hm hl0 hl1 hl2 hm0 hm1
      go_wp2_with (fail)
      refine SF.out.mono ?_
      rintro e w5 ⟨O, rfl, ⟨o5, hperm, g5⟩⟩
      have g5 : wo.grownBy w5 (some G2) := g5
      have W5 : Hid (ShareW w5 w1 G1 G2 ws.length QL O) := ⟨own_keep HW.out.out g5 (.inr (fun e => by simp [Value.ownBlock] at e; omega)), o5, gr_grown HW.out.gr g5 (fun k hk => by cases hk; omega)⟩
      have HND := Lib.hid (hperm.nodup_iff.2 (places_nodup ws.length))
      have hOl : O.length = ws.length := by rw [hperm.length_eq, places_len]
      have HOM : Hid (∀ t (ht : t < O.length), ∃ i : Nat, i < ws.length ∧ O[t] = (i : Int)) := fun t ht => places_mem (hperm.mem_iff.1 (List.getElem_mem ht))
      have HOl := Lib.hid hOl
      clear g5 o5 hperm HW SF hOl
      go_wp2_with (fail)
      go_loopw [54] (fun i wr => ∃ (t : Nat) (L : List Int), t ≤ m ∧ i = .int .i64 t ∧ Given QL O t L ∧ ShareW wr w1 G1 G2 ws.length L O) (fun i _ => m - (intOf i).toNat)
      case atStart => exact ⟨0, QL, Nat.zero_le _, rfl, Given.start _ _, W5.out⟩
      case round =>
        clear W5
        obtain ⟨t, L, ht, rfl, hG, hW⟩ := hrel
        obtain ⟨wi, rfl⟩ : ∃ wi : World, wi = wr := ⟨_, rfl⟩
        by_cases htm : t < m
        · have htO : t < O.length := by rw [HOl.out]; omega
          obtain ⟨i, hi, hOt⟩ := HOM.out t htO
          have d0 := (own_int hW.ord t (by omega)).1
          rw [getD_eq O t 0 htO, hOt] at d0
          obtain ⟨e1, f1, -⟩ := own_int hW.out i hi
          obtain ⟨hGn, hLq⟩ := hG.next HND.out htO hOt (by rw [HQl.out]; exact hi)
          have hWn := hW.setOut hG12 hzG i hi (L.getD i 0 + 1)
          have hb := HQE.out i hi
          rw [← hLq] at hb
          obtain ⟨y, hy⟩ : ∃ y, y = L.getD i 0 := ⟨_, rfl⟩
          rw [← hy] at e1 hGn hWn hb
          have hii : (i : Int) < (ws.length : Int) := by omega
          have hi0 : (0 : Int) ≤ (i : Int) := by omega
          have HGN := Lib.hid hGn
          have HWN := Lib.hid hWn
          clear hG hW hGn hWn hLq hy hOt
          go_wp2_with (fail)
          go_roundw
          case rel => exact ⟨t + 1, _, by omega, by go_num, HGN.out, HWN.out⟩
          case measure => simp [intOf]; omega
        · obtain rfl : t = m := by omega
          have HG := Lib.hid hG
          have HW := Lib.hid hW
          clear hG hW
          go_wp2_with (fail)
          go_ret
          refine ⟨_, L, rfl, own_base HW.out.out (by have := HG1.out.size; omega), ⟨by rw [HG.out.len, HQl.out], by rw [HG.out.sum]; have := HM.out; omega, fun j hj => ?_⟩, gr_trans HG1.out HW.out.gr⟩
          have h1 := HG.out.at_ j (by rw [HQl.out]; exact hj)
          have h2 := HQE.out j hj
          rw [h1]
          split <;> omega
end Go.Proofs.Ytjhfglhoiplfmaa
