/- Package demand: CheckTable. -/
import Derived.Test.YtlpkancpjdihgaaTable
import Derived.Test.YtlpkancpjdihgaaBase
namespace Go.Proofs.Ytlpkancpjdihgaa
open Go.RowKit

set_option maxRecDepth 100000 in
set_option maxHeartbeats 2000000 in
theorem checkTable_any (T : List (List Int)) (a : Option Addr) (c : Nat) (w : World) (hc : RowsAt w a T) (hl : T.length ≤ 1000000) (hr : ∀ r ∈ T, r.length ≤ 1000000) :
    Calls Try.prog 108 #[.agg #[.slice a T.length c]] w fun e w' => e = .returned (.int .i64 (tableCode T)) ∧ w.grownBy w' none := by
  by_cases h0 : T.length = 0
  · have hT : T = [] := List.eq_nil_of_length_eq_zero h0
    subst hT
    clear h0
    go_enter Try.func108, Try.ntmps108
    go_wp2_with (fail)
    go_ret
    exact ⟨ret_int (by simp [tableCode]), gr_alloc (gr_refl _ _) _⟩
  have h1 : 0 < T.length := by omega
  by_cases h30 : 30 < T.length
  · have hfin : Hid (tableCode T = 2) := by show _ = _; unfold tableCode; rw [if_neg h0, if_pos h30]
    clear h0
    go_enter Try.func108, Try.ntmps108
    go_wp2_with (fail)
    go_ret
    exact ⟨ret_int (by rw [hfin.out]), gr_alloc (gr_refl _ _) _⟩
  have hfin : Hid (tableCode T = firstCode (fun i => rowCode T.length i (T.getD i [])) T.length) := by show _ = _; unfold tableCode; rw [if_neg h0, if_neg h30]
  have h30' : T.length ≤ 30 := by omega
  clear h0 h30
  have hr' : Hid (∀ r ∈ T, r.length ≤ 1000000) := hr
  clear hr
  go_enter Try.func108, Try.ntmps108
  have hz : ((T.length : Int) == 0) = false := beq_eq_false_iff_ne.2 (by omega)
  go_wp2_with (fail)
  clear hz
  go_loopw [21] (fun i wr => ∃ k : Nat, k ≤ T.length ∧ i = .int .i64 k ∧ (∀ j, j < k → rowCode T.length j (T.getD j []) = 0) ∧ w.grownBy wr none ∧ (w.alloc (.cells #[.slice a T.length c] 72)).grownBy wr none) (fun i _ => T.length - (intOf i).toNat)
  case atStart => exact ⟨0, Nat.zero_le _, rfl, fun j hj => by omega, gr_alloc (gr_refl _ _) _, gr_refl _ _⟩
  case round =>
    obtain ⟨k, hk, rfl, hok, hgr, hgr0⟩ := hrel
    have HOK := Lib.hid hok; clear hok
    obtain ⟨wo, rfl⟩ : ∃ wo : World, wo = wr := ⟨_, rfl⟩
    have t0 : wo.cell? ⟨w.heap.size, 0, none⟩ = some (.slice a T.length c) := hgr0.cell (World.cell?_alloc_at _ _ _ _ rfl) (by simp)
    by_cases hlt : k < T.length
    · obtain ⟨b, off, ra, rc, rfl, d0, hrow⟩ := (hc.keep0 hgr) k hlt
      have hrl := hr'.out _ (show T.getD k [] ∈ T by rw [List.getD_eq_getElem?_getD, List.getElem?_eq_getElem hlt]; exact List.getElem_mem hlt)
      obtain ⟨r, hr⟩ : ∃ r, r = T.getD k [] := ⟨_, rfl⟩
      rw [← hr] at d0 hrow hrl
      have HR := Lib.hid hr; clear hr
      have hbad : rowCode T.length k r ≠ 0 → Hid (tableCode T = rowCode T.length k r) := by
        intro h
        show _ = _
        rw [hfin.out]
        have := firstCode_at (fun i => rowCode T.length i (T.getD i [])) T.length k hlt HOK.out (by show rowCode _ _ (T.getD k []) ≠ 0; rw [← HR.out]; exact h)
        rw [this]
        show rowCode _ _ (T.getD k []) = _
        rw [← HR.out]
      by_cases hrn : r.length = T.length
      · have hrk : k < r.length := by omega
        obtain ⟨b2, off2, rfl, c0⟩ := hrow k _ (ints_get r k hrk)
        obtain ⟨y, hy⟩ : ∃ y, y = r.getD k 0 := ⟨_, rfl⟩
        rw [← hy] at c0
        have HY := Lib.hid hy; clear hy
        have HBAD := Lib.hid hbad; clear hbad
        have hcode : Hid (rowCode T.length k r = if r.any odd100 = true ∨ y ≠ 0 ∨ 100 < r.sum then 1 else 0) := by
          show _ = _
          unfold rowCode
          rw [if_neg (by omega), ← HY.out]
        rw [hrn] at d0 hrk
        have HRN := Lib.hid hrn; clear hrn hrl
        go_wp2_with (fail)
        go_loopw [5, 34] (fun s i wr => ∃ j : Nat, j ≤ T.length ∧ i = .int .i64 j ∧ s = .int .i64 (r.take j).sum ∧ (∀ m, m < j → odd100 (r.getD m 0) = false) ∧ wr = wo ∧ 0 ≤ (r.take j).sum ∧ (r.take j).sum ≤ 100 * j) (fun _ i _ => T.length - (intOf i).toNat)
        case atStart => exact ⟨0, Nat.zero_le _, rfl, rfl, fun j hj => by omega, rfl, by simp, by simp⟩
        case round =>
          obtain ⟨j, hj, rfl, rfl, hno, hwe, hs0, hs1⟩ := hrel
          subst hwe
          have HNO := Lib.hid hno; clear hno
          by_cases hjl : j < T.length
          · obtain ⟨b3, off3, e3, d3⟩ := hrow j _ (ints_get r j (by rw [HRN.out]; exact hjl))
            cases e3
            have hnx := sum_next r j (by rw [HRN.out]; exact hjl)
            have hmem : r.getD j 0 ∈ r := by rw [List.getD_eq_getElem?_getD, List.getElem?_eq_getElem (by rw [HRN.out]; exact hjl)]; exact List.getElem_mem _
            obtain ⟨x, hx⟩ : ∃ x, x = r.getD j 0 := ⟨_, rfl⟩
            obtain ⟨s, hs⟩ : ∃ s, s = (r.take j).sum := ⟨_, rfl⟩
            rw [← hx] at d3 hnx hmem
            rw [← hs] at hnx hs0 hs1
            rw [← hs]
            have HNX := Lib.hid hnx; clear hnx
            have HX := Lib.hid hx; clear hx
            have HSU := Lib.hid hs; clear hs
            have HM := Lib.hid hmem; clear hmem
            go_wp2_with (fail)
            refine (out_any x 0 100 _).mono ?_
            rintro e w1 ⟨rfl, rfl⟩
            by_cases hod : 0 ≤ x ∧ x ≤ 100
            · obtain ⟨x0, x1⟩ := hod
              have ho : (decide (x < 0) || decide (100 < x)) = false := by simp; omega
              go_wp2_with (fail)
              go_roundw
              case rel =>
                refine ⟨j + 1, by omega, by go_num, by rw [HNX.out], fun m hm => ?_, trivial, by rw [HNX.out]; omega, by rw [HNX.out]; omega⟩
                by_cases hmj : m = j
                · subst hmj; rw [← HX.out]; exact ho
                · exact HNO.out m (by omega)
              case measure => simp [intOf]; omega
            · have ho : (decide (x < 0) || decide (100 < x)) = true := by simp; omega
              have h1 : Hid (rowCode T.length k r = 1) := by show _ = _; rw [hcode.out, if_pos (.inl (List.any_eq_true.2 ⟨x, HM.out, ho⟩))]
              clear hod
              go_wp2_with (fail)
              go_ret
              exact ⟨ret_int (by rw [(HBAD.out (by rw [h1.out]; decide)).out, h1.out]), hgr⟩
          · have hall : Hid ((r.take j).sum = r.sum) := by show _ = _; rw [show j = r.length by rw [HRN.out]; omega, List.take_length]
            have hany : Hid (r.any odd100 = false) := by
              show _ = _
              rw [List.any_eq_false]
              intro x hx ho
              obtain ⟨m, hm, rfl⟩ := List.getElem_of_mem hx
              have := HNO.out m (by rw [HRN.out] at hm; omega)
              rw [getD_eq' r m 0 hm] at this
              rw [this] at ho; cases ho
            have hj2 : j = T.length := by omega
            have HJ := Lib.hid hj2; clear hj2
            rw [hall.out] at hs0 hs1
            rw [hall.out]
            obtain ⟨s, hs⟩ : ∃ s, s = r.sum := ⟨_, rfl⟩
            rw [← hs] at hs0 hs1 hcode
            rw [← hs]
            have HSU := Lib.hid hs; clear hs
            by_cases hy0 : y = 0
            · subst hy0
              by_cases hs100 : 100 < s
              · have h1 : Hid (rowCode T.length k r = 1) := by show _ = _; rw [hcode.out, if_pos (.inr (.inr hs100))]
                go_wp2_with (fail)
                go_ret
                exact ⟨ret_int (by rw [(HBAD.out (by rw [h1.out]; decide)).out, h1.out]), hgr⟩
              · have h1 : Hid (rowCode T.length k r = 0) := by
                  show _ = _; rw [hcode.out, if_neg]
                  rintro (h1 | h1 | h1)
                  · rw [hany.out] at h1; cases h1
                  · exact h1 rfl
                  · exact hs100 h1
                go_wp2_with (fail)
                go_roundw
                case rel =>
                  refine ⟨k + 1, by omega, by go_num, fun j hj => ?_, hgr, hgr0⟩
                  by_cases hjk : j = k
                  · subst hjk; rw [← HR.out]; exact h1.out
                  · exact HOK.out j (by omega)
                case measure => simp [intOf]; omega
            · have h1 : Hid (rowCode T.length k r = 1) := by show _ = _; rw [hcode.out, if_pos (.inr (.inl hy0))]
              go_wp2_with (fail)
              go_ret
              exact ⟨ret_int (by rw [(HBAD.out (by rw [h1.out]; decide)).out, h1.out]), hgr⟩
      · have h3 : Hid (rowCode T.length k r = 3) := by show _ = _; unfold rowCode; rw [if_pos hrn]
        have hb2 := hbad (by rw [h3.out]; decide)
        clear hbad
        go_wp2_with (fail)
        go_ret
        exact ⟨ret_int (by rw [hb2.out, h3.out]), hgr⟩
    · have hkl : k = T.length := by omega
      have hz : Hid (tableCode T = 0) := by show _ = _; rw [hfin.out]; exact firstCode_none _ _ (fun j hj => HOK.out j (by omega))
      have HKL := Lib.hid hkl; clear hkl
      go_wp2_with (fail)
      go_ret
      exact ⟨ret_int (by rw [hz.out]), hgr⟩
end Go.Proofs.Ytlpkancpjdihgaa
