/- Package demand on days: how the days of the week differ. -/
import Derived.Test.YtlpkancpjdihgaaUncover
namespace Go.Proofs.Ytlpkancpjdihgaa
open Go.RowKit

def fracs (l : List (Int × Int)) : List Value := l.flatMap fun p => [.int .i64 p.1, .int .i64 p.2]
theorem fracs_append (l m : List (Int × Int)) : fracs (l ++ m) = fracs l ++ fracs m := by simp [fracs]
theorem eFracs : ElemT Try.prog 42 28 (.agg #[.int .i64 0, .int .i64 0]) 2 16 := ⟨by kernel_rfl, by kernel_rfl, by decide, by decide, by decide⟩
def WeekFrac (l : List Sale) (k : Nat) (p : Int × Int) : Prop :=
  (cnt (weekP k) l = 0 ∨ tot allP l = 0 → p = (1, 1)) ∧ (0 < cnt (weekP k) l → 0 < tot allP l → IsFrac p.1 p.2 (tot (weekP k) l * cnt allP l) (cnt (weekP k) l * tot allP l))
theorem mul_bound {a b A B : Int} (ha : 0 ≤ a) (hb : 0 ≤ b) (ha' : a ≤ A) (hb' : b ≤ B) : 0 ≤ a * b ∧ a * b ≤ A * B :=
  ⟨Int.mul_nonneg ha hb, Int.mul_le_mul ha' hb' hb (by omega)⟩
def WeekFracs (l : List Sale) (k : Nat) (ps : List (Int × Int)) : Prop := ps.length = k ∧ ∀ j, j < k → WeekFrac l j (ps.getD j (0, 0))
theorem weekFracs_next {l : List Sale} {k : Nat} {ps : List (Int × Int)} {p : Int × Int} (h : WeekFracs l k ps) (hp : WeekFrac l k p) : WeekFracs l (k + 1) (ps ++ [p]) := by
  obtain ⟨h1, h2⟩ := h
  refine ⟨by simp [h1], fun j hj => ?_⟩
  rw [List.getD_eq_getElem?_getD, List.getElem?_append]
  split
  · have := h2 j (by omega)
    rwa [List.getD_eq_getElem?_getD] at this
  · have : j - ps.length = 0 := by omega
    rw [this]
    have : j = k := by omega
    subst this
    exact hp
def WeekPost (l : List Sale) (w : World) (e : Ending) (w' : World) : Prop := ∃ v ps, e = .returned (.tuple #[v, .int .i64 0]) ∧ WeekFracs l 7 ps ∧ w'.ownsRow w.heap.size 28 2 v 7 (fracs ps) ∧ w.grownBy w' none

set_option maxRecDepth 100000 in
set_option maxHeartbeats 2000000 in
theorem week_any (l : List Sale) (a : Option Addr) (c : Nat) (w : World) (hc : CellsAt w a (sales l)) (ho : OkDays l) :
    Calls Try.prog 21 #[.slice a l.length c] w (WeekPost l w) := by
  have hl := ho.len
  have hcl := cnt_le allP l
  have htb := tot_bound allP l ho l.length (Nat.le_refl _)
  rw [List.take_length] at htb
  obtain ⟨t, ht⟩ : ∃ t, t = tot allP l := ⟨_, rfl⟩
  obtain ⟨n, hn⟩ : ∃ n, n = cnt allP l := ⟨_, rfl⟩
  rw [← ht] at htb
  rw [← hn] at hcl
  obtain ⟨ht0, ht1⟩ := htb
  have HT := Lib.hid ht; clear ht
  have HN := Lib.hid hn; clear hn
  go_enter Try.func21, Try.ntmps21
  go_wp2_with (fail)
  refine (checkDays_any l a c _ hc (by omega)).mono ?_
  rintro e w1 ⟨r, rfl, hr, hg1⟩
  have hr0 := hr.2 ho
  subst hr0; clear hr
  go_wp2_with (fail)
  refine (sumAll_any l a c _ (hc.keep0 hg1) ho).mono ?_
  rintro e w2 ⟨rfl, hg2⟩
  rw [← HT.out, ← HN.out]
  have hg := gr_trans hg1 hg2
  clear hg1 hg2
  go_wp2_with (fail)
  go_loopw [7, 21] (fun v i wr => ∃ k ps, k ≤ 7 ∧ i = .int .i64 (k : Nat) ∧ WeekFracs l k ps ∧ wr.ownsRow w.heap.size 28 2 v k (fracs ps) ∧ w.grownBy wr none) (fun _ i _ => 7 - (intOf i).toNat)
  case atStart => exact ⟨0, [], Nat.zero_le _, rfl, ⟨rfl, fun j hj => by omega⟩, World.ownsRow_nil _ _ _ _, hg⟩
  case round =>
    obtain ⟨k, ps, hk, rfl, hps, hown, hgr⟩ := hrel
    obtain ⟨wo, rfl⟩ : ∃ wo : World, wo = wr := ⟨_, rfl⟩
    have HPS := Lib.hid hps; clear hps
    by_cases hlt : k < 7
    · have hcl2 := cnt_le (weekP k) l
      have htb2 := tot_bound (weekP k) l ho l.length (Nat.le_refl _)
      rw [List.take_length] at htb2
      obtain ⟨s, hs⟩ : ∃ s, s = tot (weekP k) l := ⟨_, rfl⟩
      obtain ⟨m, hm⟩ : ∃ m, m = cnt (weekP k) l := ⟨_, rfl⟩
      rw [← hs] at htb2
      rw [← hm] at hcl2
      obtain ⟨hs0, hs1⟩ := htb2
      obtain ⟨p1, p2⟩ := mul_bound hs0 (show (0 : Int) ≤ n by omega) (show s ≤ 400000 by omega) (show (n : Int) ≤ 400 by omega)
      obtain ⟨p3, p4⟩ := mul_bound (show (0 : Int) ≤ m by omega) ht0 (show (m : Int) ≤ 400 by omega) (show t ≤ 400000 by omega)
      have HS := Lib.hid hs; clear hs
      have HM := Lib.hid hm; clear hm
      have hone : (m = 0 ∨ t = 0) → WeekFrac l k (1, 1) := by
        intro h
        refine ⟨fun _ => rfl, fun h1 h2 => ?_⟩
        rw [← HM.out] at h1
        rw [← HT.out] at h2
        omega
      have hfr : ∀ x y, 0 < m → 0 < t → IsFrac x y (s * n) (m * t) → WeekFrac l k (x, y) := by
        intro x y h1 h2 hf
        refine ⟨fun h => ?_, fun _ _ => by rw [← HS.out, ← HN.out, ← HM.out, ← HT.out]; exact hf⟩
        rw [← HM.out, ← HT.out] at h
        omega
      have HONE := Lib.hid hone; clear hone
      have HFR := Lib.hid hfr; clear hfr
      have hown1 : (wo.alloc (.cells #[.int .i64 (k : Nat)] 3)).ownsRow w.heap.size 28 2 u7 k (fracs ps) := hown.alloc _
      go_wp2_with (fail)
      refine (sumWeek_any l a c wo.heap.size k _ (by simp) ((hc.keep0 hgr).alloc _) ho).mono ?_
      rintro e w3 ⟨rfl, hg3⟩
      rw [← HS.out, ← HM.out]
      have hown3 := own_keep0 hown1 hg3
      have hgr3 := gr_trans (gr_alloc hgr _) hg3
      clear hown hown1 hg3 hgr
      by_cases hm0 : m = 0
      · have hmb : ((m : Int) == 0) = true := by simp; omega
        have HM0 := Lib.hid hm0; clear hm0
        go_wp2_with (at_builtin; refine wpList_app1 eFracs rfl _ _ rfl w.heap.size _ _ _ rfl _ _ rfl hown3 _ rfl (by simp) rfl rfl (by omega) (by have := hgr3.size; omega) ?_; intro v4 w4 hown4 hg4 hlt4)
        have hgw := gr_grown hgr3 hg4 hlt4
        go_wp2_with (fail)
        go_roundw
        case rel => exact ⟨k + 1, ps ++ [(1, 1)], by omega, by go_num, weekFracs_next HPS.out (HONE.out (Or.inl HM0.out)), by rw [fracs_append]; exact hown4, hgw⟩
        case measure => simp [intOf]; omega
      · have hmb : ((m : Int) == 0) = false := by simp; omega
        by_cases ht00 : t = 0
        · have htb : (t == 0) = true := by simp; omega
          have HT0 := Lib.hid ht00; clear ht00
          go_wp2_with (at_builtin; refine wpList_app1 eFracs rfl _ _ rfl w.heap.size _ _ _ rfl _ _ rfl hown3 _ rfl (by simp) rfl rfl (by omega) (by have := hgr3.size; omega) ?_; intro v4 w4 hown4 hg4 hlt4)
          have hgw := gr_grown hgr3 hg4 hlt4
          go_wp2_with (fail)
          go_roundw
          case rel => exact ⟨k + 1, ps ++ [(1, 1)], by omega, by go_num, weekFracs_next HPS.out (HONE.out (Or.inr HT0.out)), by rw [fracs_append]; exact hown4, hgw⟩
          case measure => simp [intOf]; omega
        · have htb : (t == 0) = false := by simp; omega
          have hmt : 1 ≤ (m : Int) * t := by
            have := Int.mul_le_mul (show (1 : Int) ≤ m by omega) (show 1 ≤ t by omega) (by omega) (by omega)
            omega
          go_wp2_with (fail)
          refine (frac_any (s * n) (m * t) _ p1 (by omega) hmt (by omega)).mono ?_
          rintro e w4 ⟨x, y, rfl, hf, hg4⟩
          have HF := Lib.hid hf; clear hf
          have hown4 := own_keep0 hown3 hg4
          have hgr4 := gr_trans hgr3 hg4
          clear hown3 hg4 hgr3
          go_wp2_with (at_builtin; refine wpList_app1 eFracs rfl _ _ rfl w.heap.size _ _ _ rfl _ _ rfl hown4 _ rfl (by simp) rfl rfl (by omega) (by have := hgr4.size; omega) ?_; intro v5 w5 hown5 hg5 hlt5)
          have hgw := gr_grown hgr4 hg5 hlt5
          go_wp2_with (fail)
          go_roundw
          case rel => exact ⟨k + 1, ps ++ [(x, y)], by omega, by go_num, weekFracs_next HPS.out (HFR.out x y (by omega) (by omega) HF.out), by rw [fracs_append]; exact hown5, hgw⟩
          case measure => simp [intOf]; omega
    · have hk7 : k = 7 := by omega
      subst hk7
      clear hlt
      go_wp2_with (fail)
      go_ret2
      exact ⟨u7, ps, rfl, HPS.out, hown, hgr⟩
end Go.Proofs.Ytlpkancpjdihgaa
