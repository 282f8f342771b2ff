/- coilref.InsteadFault: its exact code. -/
import Derived.Test.YtlpkancpjdihgaaConcat
import Derived.Test.YtlpkancpjdihgaaInstPure
namespace Go.Proofs.Ytlpkancpjdihgaa
open Go.RowKit

theorem oddI_fn : IsFn 107 := fun _ _ => by kernel_rfl
theorem oddI_any (x : Int) (w : World) : Calls Try.prog 107 #[.int .i64 x] w fun e w' => e = .returned (.bool (oddM x)) ∧ w = w' := by
  go_enter Try.func107, Try.ntmps107
  go_wp2
  all_goals (go_ret; exact ⟨ret_bool (by unfold oddM; simp; try omega), rfl⟩)

set_option maxRecDepth 100000 in
set_option maxHeartbeats 1000000 in
theorem instF_any (T : List (List Int)) (W S : List Int) (a a1 a2 : Option Addr) (c c1 c2 : Nat) (w : World) (hT : RowsAt w a T) (hl : T.length ≤ 1000000) (hr : ∀ r ∈ T, r.length ≤ 1000000)
    (hW : CellsAt w a1 (ints W)) (hS : CellsAt w a2 (ints S)) (hn1 : a1 = none → c1 = 0) (hn2 : a2 = none → c2 = 0) (hl1 : W.length ≤ 100000) (hl2 : S.length ≤ 100000) :
    Calls Try.prog 41 #[.agg #[.slice a T.length c], .slice a1 W.length c1, .slice a2 S.length c2] w fun e w' => e = .returned (.int .i64 (insteadCode T W S)) ∧ w.grownBy w' none := by
  have hg0 := gr_alloc (gr_refl w none) (.cells #[.slice a T.length c] 72)
  obtain ⟨w0, hw0⟩ : ∃ w0, w0 = w.alloc (.cells #[.slice a T.length c] 72) := ⟨_, rfl⟩
  have t0 : w0.cell? ⟨w.heap.size, 0, none⟩ = some (.slice a T.length c) := by rw [hw0]; exact World.cell?_alloc_at _ _ _ _ rfl
  have hs0 : w0.heap.size = w.heap.size + 1 := by rw [hw0]; simp
  rw [← hw0] at hg0
  go_enter Try.func41, Try.ntmps41
  go_wp2_with (fail)
  rw [← hw0]
  have HW0 := Lib.hid hw0; clear hw0
  refine (tableFault_any T a c w0 (hT.keep0 hg0) hl hr).mono ?_
  rintro e w1 ⟨rfl, hg1⟩
  have hg01 := gr_trans hg0 hg1
  have t1 := (gr_cell hg1 (lt_of_cell t0)).trans t0
  by_cases ht : tableCode T = 0
  · rw [ht]
    by_cases hW1 : W.length = T.length
    · have q1 : ((W.length : Int) != (T.length : Int)) = false := by simp [hW1]
      have Q1 := Lib.hid hW1; clear hW1
      by_cases hS1 : S.length = T.length
      · have q2 : ((S.length : Int) != (T.length : Int)) = false := by simp [hS1]
        have hfin : Hid (insteadCode T W S = if (W ++ S).any oddM = true then 1 else 0) := by
          show _ = _; unfold insteadCode; rw [if_neg (by omega), if_neg (by have := Q1.out; omega)]
        have Q2 := Lib.hid hS1; clear hS1
        have HT := Lib.hid ht; clear ht
        go_wp2_with (fail)
        have hga := gr_alloc (gr_refl w1 none) (.cells #[.slice a1 W.length c1, .slice a2 S.length c2] 22)
        refine (concat_two W S w1.heap.size 2 a1 a2 c1 c2 _ (World.cell?_alloc_at _ _ _ _ rfl) (World.cell?_alloc_at _ _ _ _ rfl) ((hW.keep0 hg01).keep0 hga) ((hS.keep0 hg01).keep0 hga) hn1 hn2 hl1 hl2).mono ?_
        rintro e w2 ⟨v, rfl, hown, hg2⟩
        obtain ⟨av, cap, rfl, _, _, hcv, _⟩ := own_shape hown
        have hg02 := gr_trans (gr_trans hg01 hga) hg2
        clear q1 q2
        have HC := Lib.hid (containsFunc_int 107 oddM (W ++ S) av cap w2 hcv (by simp; omega) oddI_fn (fun x _ w1 _ => (oddI_any x w1).mono (by rintro e w2 ⟨rfl, rfl⟩; exact ⟨rfl, gr_refl _ _⟩)))
        rw [List.length_append] at HC
        go_wp2_with (fail)
        refine HC.out.mono ?_
        rintro e w3 ⟨rfl, hg3⟩
        have hgr := gr_trans hg02 hg3
        cases hb : (W ++ S).any oddM with
        | true =>
          have HB := Lib.hid hb; clear hb
          go_wp2_with (fail)
          go_ret
          exact ⟨ret_int (by rw [hfin.out, if_pos HB.out]), hgr⟩
        | false =>
          have HB := Lib.hid hb; clear hb
          go_wp2_with (fail)
          go_ret
          exact ⟨ret_int (by rw [hfin.out, if_neg (by rw [HB.out]; decide)]), hgr⟩
      · have q2 : ((S.length : Int) != (T.length : Int)) = true := by simp; omega
        have hfin : Hid (insteadCode T W S = 3) := by show _ = _; unfold insteadCode; rw [if_neg (by omega), if_pos (.inr hS1)]
        clear hS1 ht
        go_wp2_with (fail)
        go_ret
        exact ⟨ret_int (by rw [hfin.out]), hg01⟩
    · have q1 : ((W.length : Int) != (T.length : Int)) = true := by simp; omega
      have hfin : Hid (insteadCode T W S = 3) := by show _ = _; unfold insteadCode; rw [if_neg (by omega), if_pos (.inl hW1)]
      clear hW1 ht
      go_wp2_with (fail)
      go_ret
      exact ⟨ret_int (by rw [hfin.out]), hg01⟩
  · have q0 : (tableCode T == 0) = false := beq_eq_false_iff_ne.2 ht
    have hfin : Hid (insteadCode T W S = tableCode T) := by show _ = _; unfold insteadCode; rw [if_pos ht]
    clear ht
    go_wp2_with (fail)
    go_ret
    exact ⟨ret_int (by rw [hfin.out]), hg01⟩
end Go.Proofs.Ytlpkancpjdihgaa
