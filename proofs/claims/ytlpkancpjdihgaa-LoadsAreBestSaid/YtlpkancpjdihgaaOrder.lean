/- demand.Order of a right histogram. -/
import Derived.Test.YtlpkancpjdihgaaWeight
namespace Go.Proofs.Ytlpkancpjdihgaa
open Go.RowKit

/-- The first load of the greatest gain. -/
structure IsBest (f : Nat → Int) (most best : Nat) : Prop where
  le : best ≤ most
  top : ∀ j, j ≤ most → f j ≤ f best
  first : ∀ j, j < best → f j < f best

set_option maxRecDepth 100000 in
theorem order_any (h : List Int) (most : Nat) (margin waste : Int) (a : Option Addr) (c : Nat) (w : World) (hc : CellsAt w a (ints h)) (hk : histCode h = 0) (hl : h.length ≤ 100) (hmo : most ≤ 99) (hm0 : 0 ≤ margin) (hm1 : margin ≤ 1000) (hw0 : 0 ≤ waste) (hw1 : waste ≤ 1000) :
    Calls Try.prog 46 #[.slice a h.length c, .int .i64 most, .int .i64 margin, .int .i64 waste] w fun e w' => ∃ best : Nat, e = .returned (.tuple #[.int .i64 best, .int .i64 0]) ∧ IsBest (fun (n : Nat) => gainM h (n : Int) margin waste) most best ∧ w.grownBy w' none := by
  obtain ⟨_, hh, hs0, hs1⟩ := histCode_ok h hk
  have d1 : Hid ((decide ((most : Int) < 0) || decide (2001 < (most : Int))) = false) := by show _ = _; simp; omega
  have HC := Lib.hid (checkHist_any h a c w hc (by omega))
  have HG := Lib.hid (fun (w' : World) (g : w.grownBy w' none) (load : Int) (h0 : 0 ≤ load) (h1 : load ≤ 100) => gain_any h load margin waste a c w' (hc.keep0 g) hl h0 h1 hm0 hm1 hw0 hw1 hh hs1)
  have HP := Lib.hid (fun (w' : World) => priced_any margin waste w' hm0 hm1 hw0 hw1)
  rw [hk] at HC
  obtain ⟨f, hf⟩ : ∃ f : Nat → Int, f = fun (n : Nat) => gainM h (n : Int) margin waste := ⟨_, rfl⟩
  have HF := Lib.hid (fun n : Nat => (congrFun hf n : f n = gainM h (n : Int) margin waste))
  rw [← hf]
  clear hf hh hs0 hs1 hk hc hl hm0 hm1 hw0 hw1
  go_enter Try.func46, Try.ntmps46
  go_wp2_with (fail)
  refine HC.out.mono ?_
  rintro e w1 ⟨rfl, hg1⟩
  go_wp2_with (fail)
  refine (out_any most 0 2001 w1).mono ?_
  rintro e w2 ⟨rfl, rfl⟩
  rw [d1.out]
  go_wp2_with (fail)
  refine (HP.out w1).mono ?_
  rintro e w2 ⟨rfl, rfl⟩
  go_wp2_with (fail)
  refine (HG.out w1 hg1 0 (by omega) (by omega)).mono ?_
  rintro e w3 ⟨rfl, hg3⟩
  have h0 : gainM h 0 margin waste = f 0 := (HF.out 0).symm
  rw [h0]
  clear h0
  have hg13 := gr_trans hg1 hg3
  go_wp2_with (fail)
  go_loopw [11, 12, 13] (fun b pr i wr => ∃ n best : Nat, 1 ≤ n ∧ n ≤ most + 1 ∧ best < n ∧ i = .int .i64 n ∧ b = .int .i64 best ∧ pr = .int .i64 (f best) ∧ (∀ j, j < n → f j ≤ f best) ∧ (∀ j, j < best → f j < f best) ∧ w.grownBy wr none) (fun _ _ i _ => most + 1 - (intOf i).toNat)
  case atStart => exact ⟨1, 0, by omega, by omega, by omega, rfl, rfl, rfl, fun j hj => by rw [show j = 0 by omega]; exact Int.le_refl _, fun j hj => by omega, hg13⟩
  case round =>
    obtain ⟨n, best, hn1, hn2, hb, rfl, rfl, rfl, ht, hfi, hgr⟩ := hrel
    obtain ⟨wo, rfl⟩ : ∃ wo : World, wo = wr := ⟨_, rfl⟩
    have HT := Lib.hid ht; clear ht
    have HFI := Lib.hid hfi; clear hfi
    obtain ⟨x, hx⟩ : ∃ x, x = f best := ⟨_, rfl⟩
    rw [← hx]
    have HX := Lib.hid hx; clear hx
    by_cases hlt : n ≤ most
    · go_wp2_with (fail)
      refine (HG.out wo hgr (n : Int) (by omega) (by omega)).mono ?_
      rintro e w4 ⟨rfl, hg4⟩
      have h0 : gainM h (n : Int) margin waste = f n := (HF.out n).symm
      rw [h0]
      clear h0
      have hgr4 := gr_trans hgr hg4
      obtain ⟨y, hy⟩ : ∃ y, y = f n := ⟨_, rfl⟩
      rw [← hy]
      have HY := Lib.hid hy; clear hy
      by_cases hxy : x < y
      · go_wp2_with (fail)
        go_roundw
        case rel =>
          refine ⟨n + 1, n, by omega, by omega, by omega, by go_num, rfl, by rw [HY.out], ?_, ?_, hgr4⟩
          · intro j hj
            have hxy' := hxy
            rw [HX.out, HY.out] at hxy'
            rcases Nat.lt_or_ge j n with h | h
            · have := HT.out j h; omega
            · rw [show j = n by omega]; exact Int.le_refl _
          · intro j hj
            have hxy' := hxy
            rw [HX.out, HY.out] at hxy'
            have := HT.out j hj; omega
        case measure => simp [intOf]; omega
      · go_wp2_with (fail)
        go_roundw
        case rel =>
          refine ⟨n + 1, best, by omega, by omega, by omega, by go_num, rfl, by rw [HX.out], ?_, HFI.out, hgr4⟩
          intro j hj
          have hxy' := hxy
          rw [HX.out, HY.out] at hxy'
          rcases Nat.lt_or_ge j n with h | h
          · exact HT.out j h
          · rw [show j = n by omega]; omega
        case measure => simp [intOf]; omega
    · have hnm : n = most + 1 := by omega
      go_wp2_with (fail)
      go_ret2
      exact ⟨best, rfl, ⟨by omega, fun j hj => HT.out j (by omega), HFI.out⟩, hgr⟩
end Go.Proofs.Ytlpkancpjdihgaa
