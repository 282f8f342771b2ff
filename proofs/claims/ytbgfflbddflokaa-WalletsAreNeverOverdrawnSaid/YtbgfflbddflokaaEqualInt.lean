/- slices.Equal of ints, EqualFunc of rows with the same contents. -/
import Derived.Test.YtbgfflbddflokaaTable
namespace Go.Proofs.Ytbgfflbddflokaa
open Go.RowKit

set_option maxRecDepth 100000 in
theorem equal_int (xs : List Int) (a b : Option Addr) (c d : Nat) (w : World) (ha : CellsAt w a (ints xs)) (hb : CellsAt w b (ints xs)) (hl : xs.length ≤ 1000000) :
    Calls Try.prog 56 #[.slice a xs.length c, .slice b xs.length d] w fun e w' => e = .returned (.bool true) ∧ w.grownBy w' none := by
  go_enter Try.func56, Try.ntmps56
  go_wp2_with (fail)
  go_loopw [13] (fun i wr => ∃ k : Nat, k ≤ xs.length ∧ i = .int .i64 k ∧ w.grownBy wr none) (fun i _ => xs.length - (intOf i).toNat)
  case atStart => exact ⟨0, Nat.zero_le _, rfl, gr_refl _ _⟩
  case round =>
    obtain ⟨k, hk, rfl, hgr⟩ := hrel
    obtain ⟨wo, rfl⟩ : ∃ wo : World, wo = wr := ⟨_, rfl⟩
    by_cases hlt : k < xs.length
    · obtain ⟨b1, o1, rfl, c1⟩ := (ha.keep0 hgr) k _ (ints_get xs k hlt)
      obtain ⟨b2, o2, rfl, c2⟩ := (hb.keep0 hgr) k _ (ints_get xs k hlt)
      obtain ⟨x, hx⟩ : ∃ x, x = xs.getD k 0 := ⟨_, rfl⟩
      rw [← hx] at c1 c2
      clear hx
      go_wp2_with (fail)
      go_region
      all_goals (go_wp2_with (fail))
      all_goals go_roundw
      case rel => exact ⟨k + 1, by omega, by go_num, gr_drew hgr⟩
      case measure => simp [intOf]; omega
    · go_wp2_with (fail)
      go_ret
      exact ⟨rfl, hgr⟩

set_option maxRecDepth 100000 in
theorem equal_rows (T : List (List Int)) (a b : Option Addr) (c d : Nat) (w : World) (ha : RowsAt w a T) (hb : RowsAt w b T) (hl : T.length ≤ 1000000) (hr : ∀ r ∈ T, r.length ≤ 1000000) :
    Calls Try.prog 74 #[.slice a T.length c, .slice b T.length d, .func (.func 56) #[] #[]] w fun e w' => e = .returned (.bool true) ∧ w.grownBy w' none := by
  have HR := Lib.hid hr; clear hr
  go_enter Try.func74, Try.ntmps74
  go_wp2_with (fail)
  go_loopw [17] (fun i wr => ∃ k : Nat, k ≤ T.length ∧ i = .int .i64 k ∧ w.grownBy wr none) (fun i _ => T.length - (intOf i).toNat)
  case atStart => exact ⟨0, Nat.zero_le _, rfl, gr_refl _ _⟩
  case round =>
    obtain ⟨k, hk, rfl, hgr⟩ := hrel
    obtain ⟨wo, rfl⟩ : ∃ wo : World, wo = wr := ⟨_, rfl⟩
    by_cases hlt : k < T.length
    · obtain ⟨b1, o1, r1, q1, rfl, c1, d1⟩ := (ha.keep0 hgr) k hlt
      obtain ⟨b2, o2, r2, q2, rfl, c2, d2⟩ := (hb.keep0 hgr) k hlt
      have hrl := HR.out _ (show T.getD k [] ∈ T by rw [List.getD_eq_getElem?_getD, List.getElem?_eq_getElem hlt]; exact List.getElem_mem hlt)
      obtain ⟨R, hR⟩ : ∃ R, R = T.getD k [] := ⟨_, rfl⟩
      rw [← hR] at c1 c2 d1 d2 hrl
      clear hR
      have HC := Lib.hid (equal_int R r1 r2 q1 q2 wo d1 d2 hrl)
      go_wp2_with (fail)
      refine HC.out.mono ?_
      rintro e w1 ⟨rfl, hg1⟩
      have hgr1 := gr_trans hgr hg1
      go_wp2_with (fail)
      go_roundw
      case rel => exact ⟨k + 1, by omega, by go_num, hgr1⟩
      case measure => simp [intOf]; omega
    · go_wp2_with (fail)
      go_ret
      exact ⟨rfl, hgr⟩

end Go.Proofs.Ytbgfflbddflokaa
