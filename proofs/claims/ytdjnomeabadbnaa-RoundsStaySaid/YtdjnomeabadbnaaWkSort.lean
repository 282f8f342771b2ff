/- slices.SortStableFunc of few ints: the result has the same numbers. -/
import Derived.Test.YtdjnomeabadbnaaWkCmp
import Derived.Test.YtdjnomeabadbnaaOrderM
import Derived.Test.YtdjnomeabadbnaaWkPure
namespace Go.Proofs.Ytdjnomeabadbnaa
open Go.RowKit

/-- A comparison of numbers below n that reads only, in worlds that differ from w at the row at most. -/
def Compares (F : FuncId) (q n : Nat) (r : Option Nat) (w : World) : Prop :=
  ∃ cm : Nat → Nat → Int, (∀ a b, -1 ≤ cm a b ∧ cm a b ≤ 1) ∧ ∀ (a b : Nat) (w1 : World), a < n → b < n → w.grownBy w1 r → Calls Try.prog F #[.int .i64 a, .int .i64 b, .pointer (some ⟨q, 0, none⟩)] w1 fun e w2 => e = .returned (.int .i64 (cm a b)) ∧ ∃ m, w2 = w1.drewN m
def SortPost (v : Value) (n base : Nat) (w : World) (e : Ending) (w' : World) : Prop := ∃ O, e = .returned (.tuple #[]) ∧ w'.ownsRow base 3 1 v n (ints O) ∧ IsOrder n O ∧ w.grownBy w' v.ownBlock

set_option maxRecDepth 100000 in
set_option maxHeartbeats 4000000 in
theorem insertion_any (F : FuncId) (q n : Nat) (v : Value) (base : Nat) (O : List Int) (w : World) (hown : w.ownsRow base 3 1 v n (ints O)) (hO : IsOrder n O) (hn : n ≤ 1000) (hE : IsFn F) (hF : Compares F q n v.ownBlock w) :
    Calls Try.prog 88 #[v, .int .i64 0, .int .i64 n, .func (.func F) #[] #[.pointer (some ⟨q, 0, none⟩)]] w (SortPost v n base w) := by
  obtain ⟨cm, hcr, hcm⟩ := hF
  have HCM := Lib.hid hcm
  have hE' : ∀ (args : Array Value) (w : World), (callFunc F args).run Try.prog w = .ok (.enter F args) w := hE
  have HO := Lib.hid hO
  obtain ⟨va, vc, rfl, _, _, _, _⟩ := own_shape hown
  clear hcm hE hO
  go_enter Try.func88, Try.ntmps88
  go_wp2_with (fail)
  go_loopw [8] (fun i wr => ∃ (k : Nat) (O' : List Int), 1 ≤ k ∧ i = .int .i64 k ∧ wr.ownsRow base 3 1 (.slice va n vc) n (ints O') ∧ IsOrder n O' ∧ w.grownBy wr (Value.slice va n vc).ownBlock) (fun i _ => n - (intOf i).toNat)
  case atStart => exact ⟨1, O, by omega, rfl, hown, HO.out, gr_refl _ _⟩
  case round =>
    obtain ⟨k, O', hk, rfl, hown', hO', hgr⟩ := hrel
    obtain ⟨wo, rfl⟩ : ∃ wo : World, wo = wr := ⟨_, rfl⟩
    have HO' := Lib.hid hO'
    clear hO'
    by_cases hkn : k < n
    · obtain ⟨g, gc, hge, hgb, _, _, _⟩ := own_some hown' (by omega)
      cases hge
      go_wp2_with (fail)
      go_loopw [9] (fun i wr => ∃ (j : Nat) (O2 : List Int), j ≤ k ∧ i = .int .i64 j ∧ wr.ownsRow base 3 1 (.slice (some ⟨g, 0, none⟩) n vc) n (ints O2) ∧ IsOrder n O2 ∧ w.grownBy wr (some g)) (fun i _ => (intOf i).toNat)
      case atStart => exact ⟨k, O', by omega, rfl, hown', HO'.out, hgr⟩
      case round =>
        obtain ⟨j, O2, hj, rfl, hown2, hO2, hgr2⟩ := hrel
        obtain ⟨wi, rfl⟩ : ∃ wi : World, wi = wr := ⟨_, rfl⟩
        have HO2 := Lib.hid hO2
        clear hO2
        by_cases hj0 : 0 < j
        · have hd0 : decide (0 < j) = true := decide_eq_true hj0
          obtain ⟨d0, d1, d2⟩ := own_int hown2 j (by omega)
          obtain ⟨e0, e1, e2⟩ := own_int hown2 (j - 1) (by omega)
          have hm0 := (HO2.out.mem _).1 (get_mem O2 j 0 (by rw [HO2.out.len]; omega))
          have hm1 := (HO2.out.mem _).1 (get_mem O2 (j - 1) 0 (by rw [HO2.out.len]; omega))
          have hsw := order_swap HO2.out (i := j) (j := j - 1) (by rw [HO2.out.len]; omega) (by rw [HO2.out.len]; omega)
          obtain ⟨x, hx⟩ : ∃ x : Nat, O2.getD j 0 = (x : Int) := ⟨(O2.getD j 0).toNat, by omega⟩
          obtain ⟨y, hy⟩ : ∃ y : Nat, O2.getD (j - 1) 0 = (y : Int) := ⟨(O2.getD (j - 1) 0).toNat, by omega⟩
          rw [hx] at d0 hm0 hsw
          rw [hy] at e0 hm1 hsw
          obtain ⟨i, hi⟩ : ∃ i, i = j - 1 := ⟨_, rfl⟩
          rw [← hi] at e0 e1 e2 hsw
          have hij : i + 1 = j := by omega
          subst hij
          have hxn : x < n := by omega
          have hyn : y < n := by omega
          have hcc := hcr x y
          obtain ⟨c, hc⟩ : ∃ c, c = cm x y := ⟨_, rfl⟩
          have CC : Hid (∀ m, Calls Try.prog F #[.int .i64 x, .int .i64 y, .pointer (some ⟨q, 0, none⟩)] (wi.drewN m) fun e w2 => e = .returned (.int .i64 c) ∧ ∃ k, w2 = (wi.drewN m).drewN k) := fun m => by rw [hc]; exact HCM.out x y _ hxn hyn (gr_drewN hgr2 m)
          rw [← hc] at hcc
          have D2 := Lib.hid ((own_int (d2 y) i (by omega)).2.2 x)
          have HSW := Lib.hid hsw
          have hgl := lt_of_cell d0
          have hi1 : ((i : Int) + 1 - 1) = i := by omega
          have HGR2 := Lib.hid hgr2
          clear hm0 hm1 hsw hx hy hc d2 e2 hi hi1
          by_cases hc0 : c < 0
          · have hdc : decide (c < 0) = true := decide_eq_true hc0
            go_wp2_with (fail)
            go_quiet ((exact Calls.quiet_of (CC.out _)))
            go_wp2_with (fail)
            go_region
            all_goals (go_wp2_with (fail))
            all_goals go_roundw
            all_goals first | (simp [intOf]; done) | skip
            all_goals
              refine ⟨i, _, by omega, by go_num, own_of_heap D2.out rfl, HSW.out, ?_⟩
              first
                | exact gr_drew (gr_set (gr_set (gr_drewN HGR2.out _) rfl _) rfl _)
                | exact gr_set (gr_set (gr_drew (gr_drewN HGR2.out _)) rfl _) rfl _
          · have hdc : decide (c < 0) = false := decide_eq_false hc0
            have HOWN2 := Lib.hid hown2
            go_wp2_with (fail)
            go_quiet ((exact Calls.quiet_of (CC.out _)))
            go_wp2_with (fail)
            go_roundw
            case rel => exact ⟨k + 1, O2, by omega, by go_num, own_keep0 HOWN2.out (gr_drewN (gr_refl _ _) _), HO2.out, gr_drewN HGR2.out _⟩
            case measure => simp [intOf]; omega
        · have hd0 : decide (0 < j) = false := decide_eq_false hj0
          obtain rfl : j = 0 := by omega
          have HOWN2 := Lib.hid hown2
          have HGR2 := Lib.hid hgr2
          go_wp2_with (fail)
          go_quiet (fail)
          go_wp2_with (fail)
          go_roundw
          case rel => exact ⟨k + 1, O2, by omega, by go_num, own_keep0 HOWN2.out (gr_drewN (gr_refl _ _) _), HO2.out, gr_drewN HGR2.out _⟩
          case measure => simp [intOf]; omega
    · go_wp2_with (fail)
      go_end0
      exact ⟨O', rfl, hown', HO'.out, hgr⟩

set_option maxRecDepth 100000 in
theorem stable_any (F : FuncId) (q n : Nat) (v : Value) (base : Nat) (O : List Int) (w : World) (hown : w.ownsRow base 3 1 v n (ints O)) (hO : IsOrder n O) (hn : n < 20) (hE : IsFn F) (hF : Compares F q n v.ownBlock w) :
    Calls Try.prog 72 #[v, .int .i64 n, .func (.func F) #[] #[.pointer (some ⟨q, 0, none⟩)]] w (SortPost v n base w) := by
  have IS := Lib.hid (insertion_any F q n v base O w hown hO (by omega) hE hF)
  obtain ⟨va, vc, rfl, _, _, _, _⟩ := own_shape hown
  clear hF hE hO hown
  have h20 : ¬ 20 ≤ (n : Int) := by omega
  go_enter Try.func72, Try.ntmps72
  go_wp2_with (fail)
  go_loop [7, 8] (fun a b => a = .int .i64 0 ∧ b = .int .i64 20) (fun _ _ => 0)
  case atStart => exact ⟨rfl, rfl⟩
  case round =>
    obtain ⟨rfl, rfl⟩ := hrel
    go_wp2_with (fail)
    refine IS.out.mono ?_
    rintro e w2 ⟨O2, rfl, h1, h2, h3⟩
    have hn20 : ¬ 20 < (n : Int) := by omega
    go_wp2_with (fail)
    go_loop [6] (fun a => a = .int .i64 20) (fun _ => 0)
    case atStart => exact rfl
    case round =>
      obtain rfl := hrel
      go_wp2_with (fail)
      go_end0
      exact ⟨O2, rfl, h1, h2, h3⟩
theorem sortStable_any (F : FuncId) (q n : Nat) (v : Value) (base : Nat) (O : List Int) (w : World) (hown : w.ownsRow base 3 1 v n (ints O)) (hO : IsOrder n O) (hn : n < 20) (hE : IsFn F) (hF : Compares F q n v.ownBlock w) :
    Calls Try.prog 41 #[v, .func (.func F) #[] #[.pointer (some ⟨q, 0, none⟩)]] w (SortPost v n base w) := by
  have IS := Lib.hid (stable_any F q n v base O w hown hO hn hE hF)
  obtain ⟨va, vc, rfl, _, _, _, _⟩ := own_shape hown
  clear hF hE hO hown
  go_enter Try.func41, Try.ntmps41
  go_wp2_with (fail)
  refine IS.out.mono ?_
  rintro e w2 ⟨O2, rfl, h1, h2, h3⟩
  go_wp2_with (fail)
  go_end0
  exact ⟨O2, rfl, h1, h2, h3⟩
end Go.Proofs.Ytdjnomeabadbnaa
