/- slices.Equal and EqualFunc of slices with the same contents. -/
import Derived.Test.YtlpkancpjdihgaaTable
import Derived.Test.YtlpkancpjdihgaaSums
namespace Go.Proofs.Ytlpkancpjdihgaa
open Go.RowKit

set_option maxRecDepth 100000 in
theorem equal_int (xs : List Int) (a b : Option Addr) (c d : Nat) (w : World) (ha : CellsAt w a (ints xs)) (hb : CellsAt w b (ints xs)) (hl : xs.length ≤ 1000000) :
    Calls Try.prog 51 #[.slice a xs.length c, .slice b xs.length d] w fun e w' => e = .returned (.bool true) ∧ w.grownBy w' none := by
  go_enter Try.func51, Try.ntmps51
  go_wp2_with (fail)
  go_loopw [13] (fun i wr => ∃ k : Nat, k ≤ xs.length ∧ i = .int .i64 k ∧ w.grownBy wr none) (fun i _ => xs.length - (intOf i).toNat)
  case atStart => exact ⟨0, Nat.zero_le _, rfl, gr_refl _ _⟩
  case round =>
    obtain ⟨k, hk, rfl, hgr⟩ := hrel
    obtain ⟨wo, rfl⟩ : ∃ wo : World, wo = wr := ⟨_, rfl⟩
    by_cases hlt : k < xs.length
    · obtain ⟨b1, o1, rfl, c1⟩ := (ha.keep0 hgr) k _ (ints_get xs k hlt)
      obtain ⟨b2, o2, rfl, c2⟩ := (hb.keep0 hgr) k _ (ints_get xs k hlt)
      obtain ⟨x, hx⟩ : ∃ x, x = xs.getD k 0 := ⟨_, rfl⟩
      rw [← hx] at c1 c2
      clear hx
      go_wp2_with (fail)
      go_region
      all_goals (go_wp2_with (fail))
      all_goals go_roundw
      case rel => exact ⟨k + 1, by omega, by go_num, gr_drew hgr⟩
      case measure => simp [intOf]; omega
    · go_wp2_with (fail)
      go_ret
      exact ⟨rfl, hgr⟩

set_option maxRecDepth 100000 in
theorem equal_rows (T : List (List Int)) (a b : Option Addr) (c d : Nat) (w : World) (ha : RowsAt w a T) (hb : RowsAt w b T) (hl : T.length ≤ 1000000) (hr : ∀ r ∈ T, r.length ≤ 1000000) :
    Calls Try.prog 52 #[.slice a T.length c, .slice b T.length d, .func (.func 51) #[] #[]] w fun e w' => e = .returned (.bool true) ∧ w.grownBy w' none := by
  have HR := Lib.hid hr; clear hr
  go_enter Try.func52, Try.ntmps52
  go_wp2_with (fail)
  go_loopw [17] (fun i wr => ∃ k : Nat, k ≤ T.length ∧ i = .int .i64 k ∧ w.grownBy wr none) (fun i _ => T.length - (intOf i).toNat)
  case atStart => exact ⟨0, Nat.zero_le _, rfl, gr_refl _ _⟩
  case round =>
    obtain ⟨k, hk, rfl, hgr⟩ := hrel
    obtain ⟨wo, rfl⟩ : ∃ wo : World, wo = wr := ⟨_, rfl⟩
    by_cases hlt : k < T.length
    · obtain ⟨b1, o1, r1, q1, rfl, c1, d1⟩ := (ha.keep0 hgr) k hlt
      obtain ⟨b2, o2, r2, q2, rfl, c2, d2⟩ := (hb.keep0 hgr) k hlt
      have hrl := HR.out _ (show T.getD k [] ∈ T by rw [List.getD_eq_getElem?_getD, List.getElem?_eq_getElem hlt]; exact List.getElem_mem hlt)
      obtain ⟨R, hR⟩ : ∃ R, R = T.getD k [] := ⟨_, rfl⟩
      rw [← hR] at c1 c2 d1 d2 hrl
      clear hR
      have HC := Lib.hid (equal_int R r1 r2 q1 q2 wo d1 d2 hrl)
      go_wp2_with (fail)
      refine HC.out.mono ?_
      rintro e w1 ⟨rfl, hg1⟩
      have hgr1 := gr_trans hgr hg1
      go_wp2_with (fail)
      go_roundw
      case rel => exact ⟨k + 1, by omega, by go_num, hgr1⟩
      case measure => simp [intOf]; omega
    · go_wp2_with (fail)
      go_ret
      exact ⟨rfl, hgr⟩

set_option maxRecDepth 100000 in
theorem equal_sales (l : List Sale) (a b : Option Addr) (c d : Nat) (w : World) (ha : CellsAt w a (sales l)) (hb : CellsAt w b (sales l)) (hl : l.length ≤ 1000000) :
    Calls Try.prog 50 #[.slice a l.length c, .slice b l.length d] w fun e w' => e = .returned (.bool true) ∧ w.grownBy w' none := by
  go_enter Try.func50, Try.ntmps50
  go_wp2_with (fail)
  go_loopw [13] (fun i wr => ∃ k : Nat, k ≤ l.length ∧ i = .int .i64 k ∧ w.grownBy wr none) (fun i _ => l.length - (intOf i).toNat)
  case atStart => exact ⟨0, Nat.zero_le _, rfl, gr_refl _ _⟩
  case round =>
    obtain ⟨k, hk, rfl, hgr⟩ := hrel
    obtain ⟨wo, rfl⟩ : ∃ wo : World, wo = wr := ⟨_, rfl⟩
    by_cases hlt : k < l.length
    · obtain ⟨b1, o1, rfl, hcs1⟩ := sales_cells (ha.keep0 hgr) k hlt
      obtain ⟨c0, c1, c2⟩ := hcs1 k hlt
      obtain ⟨b2, o2, rfl, hcs2⟩ := sales_cells (hb.keep0 hgr) k hlt
      obtain ⟨d0, d1, d2⟩ := hcs2 k hlt
      obtain ⟨x, hx⟩ : ∃ x, x = sAt l k := ⟨_, rfl⟩
      rw [← hx] at c0 c1 c2 d0 d1 d2
      obtain ⟨x0, x1, x2⟩ := x
      simp only at c0 c1 c2 d0 d1 d2
      clear hx hcs1 hcs2
      go_wp2_with (fail)
      go_region
      all_goals (go_wp2_with (fail))
      trace_state
      all_goals go_roundw
      case rel => exact ⟨k + 1, by omega, by go_num, gr_drew hgr⟩
      case measure => simp [intOf]; omega
    · go_wp2_with (fail)
      go_ret
      exact ⟨rfl, hgr⟩

set_option maxRecDepth 100000 in
theorem uncover_bad (l : List Sale) (a : Option Addr) (c : Nat) (w : World) (hc : CellsAt w a (sales l)) (ho : ¬ OkDays l) (hl : l.length ≤ 1000) :
    Calls Try.prog 19 #[.slice a l.length c] w fun e w' => ∃ r : Int, e = .returned (.tuple #[.slice none 0 0, .int .i64 r]) ∧ w.grownBy w' none := by
  go_enter Try.func19, Try.ntmps19
  go_wp2_with (fail)
  refine (checkDays_any l a c _ hc (by omega)).mono ?_
  rintro e w1 ⟨r, rfl, hr, hg1⟩
  have hr0 : (r == 0) = false := beq_eq_false_iff_ne.2 (fun e => ho (hr.1 e))
  clear hr ho
  go_wp2_with (fail)
  go_ret2
  exact ⟨r, rfl, hg1⟩
end Go.Proofs.Ytlpkancpjdihgaa
