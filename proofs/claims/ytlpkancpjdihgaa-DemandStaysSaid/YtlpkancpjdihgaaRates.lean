/- Package demand on days: rates. -/
import Derived.Test.YtlpkancpjdihgaaSums2
import Derived.Test.YtlpkancpjdihgaaFrac
namespace Go.Proofs.Ytlpkancpjdihgaa
open Go.RowKit

set_option maxRecDepth 100000 in
theorem rate_none (l : List Sale) (a : Option Addr) (c : Nat) (w : World) (hc : CellsAt w a (sales l)) (ho : OkDays l) (h0 : cnt allP l = 0) :
    Calls Try.prog 20 #[.slice a l.length c] w fun e w' => e = .returned (.tuple #[.agg #[.int .i64 0, .int .i64 0], .int .i64 8]) ∧ w.grownBy w' none := by
  have hl := ho.len
  go_enter Try.func20, Try.ntmps20
  go_wp2_with (fail)
  refine (checkDays_any l a c _ (hc.alloc _) (by omega)).mono ?_
  rintro e w1 ⟨r, rfl, hr, hg1⟩
  have hr0 := hr.2 ho
  subst hr0; clear hr
  go_wp2_with (fail)
  refine (sumAll_any l a c _ ((hc.alloc _).keep0 hg1) ho).mono ?_
  rintro e w2 ⟨rfl, hg2⟩
  rw [h0, show ((0 : Nat) : Int) = 0 from rfl]
  have hg := gr_trans hg1 hg2
  have c0 : w2.cell? ⟨w.heap.size, 0, none⟩ = some (.int .i64 0) := made_cell hg 0 rfl
  have c1 : w2.cell? ⟨w.heap.size, 1, none⟩ = some (.int .i64 0) := made_cell hg 1 rfl
  have f0 : w2.frozen? ⟨w.heap.size, 0, none⟩ = false := made_free hg 0
  have f1 : w2.frozen? ⟨w.heap.size, 1, none⟩ = false := made_free hg 1
  go_wp2_with (fail)
  refine bodyPost_ret (v := .tuple #[.agg #[.int .i64 0, .int .i64 0], .int .i64 8]) ?_ rfl ⟨rfl, ?_⟩
  · simp [results, Try.results20, go_sem, c0, c1]
  · exact gr_new (gr_new (gr_trans (gr_alloc (gr_refl _ _) _) hg) (by simp) _) (by simp) _

set_option maxRecDepth 100000 in
theorem rate_some (l : List Sale) (a : Option Addr) (c : Nat) (w : World) (hc : CellsAt w a (sales l)) (ho : OkDays l) (h0 : 0 < cnt allP l) :
    Calls Try.prog 20 #[.slice a l.length c] w fun e w' => ∃ x y : Int, e = .returned (.tuple #[.agg #[.int .i64 x, .int .i64 y], .int .i64 0]) ∧ IsFrac x y (tot allP l) (cnt allP l) ∧ w.grownBy w' none := by
  have hl := ho.len
  have hcl := cnt_le allP l
  have htb := tot_bound allP l ho l.length (Nat.le_refl _)
  rw [List.take_length] at htb
  have hz : ((cnt allP l : Int) == 0) = false := by simp; omega
  go_enter Try.func20, Try.ntmps20
  go_wp2_with (fail)
  refine (checkDays_any l a c _ (hc.alloc _) (by omega)).mono ?_
  rintro e w1 ⟨r, rfl, hr, hg1⟩
  have hr0 := hr.2 ho
  subst hr0; clear hr
  go_wp2_with (fail)
  refine (sumAll_any l a c _ ((hc.alloc _).keep0 hg1) ho).mono ?_
  rintro e w2 ⟨rfl, hg2⟩
  go_wp2_with (fail)
  refine (frac_any (tot allP l) (cnt allP l) _ htb.1 (by omega) (by omega) (by omega)).mono ?_
  rintro e w3 ⟨x, y, rfl, hf, hg3⟩
  have hg := gr_trans (gr_trans hg1 hg2) hg3
  have c0 : w3.cell? ⟨w.heap.size, 0, none⟩ = some (.int .i64 0) := made_cell hg 0 rfl
  have c1 : w3.cell? ⟨w.heap.size, 1, none⟩ = some (.int .i64 0) := made_cell hg 1 rfl
  have f0 : w3.frozen? ⟨w.heap.size, 0, none⟩ = false := made_free hg 0
  have f1 : w3.frozen? ⟨w.heap.size, 1, none⟩ = false := made_free hg 1
  have HF := Lib.hid hf; clear hf
  go_wp2_with (fail)
  refine bodyPost_ret (v := .tuple #[.agg #[.int .i64 x, .int .i64 y], .int .i64 0]) ?_ rfl ⟨x, y, rfl, HF.out, ?_⟩
  · simp [results, Try.results20, go_sem, c0, c1]
  · exact gr_new (gr_new (gr_trans (gr_alloc (gr_refl _ _) _) hg) (by simp) _) (by simp) _
end Go.Proofs.Ytlpkancpjdihgaa
