/- Rounding of a quotient: the program. -/
import Derived.Test.YthikknnadmebgaaGreatDoorPkSAz
import Derived.Test.YthikknnadmebgaaGreatDoorPkSAc
namespace Go.Proofs.YthikknnadmebgaaGreatDoor
open Go.RowKit

set_option maxRecDepth 100000 in
theorem down_any (a b : Int) (w : World) (h0 : 0 ≤ a) (h1 : a ≤ 1000000000000000000) (hb : 0 < b) (hb1 : b ≤ 1000000000000) :
    Calls Tryz.prog 144 #[.int .i64 a, .int .i64 b] w fun e w' => e = .returned (.int .i64 (a / b)) ∧ w = w' := by
  have hz : (b == 0) = false := beq_eq_false_iff_ne.2 (by omega)
  have e1 : a.tdiv b = a / b := Int.tdiv_eq_ediv_of_nonneg h0
  have e2 : a.tmod b = a % b := Int.tmod_eq_emod_of_nonneg h0
  have q0 : 0 ≤ a / b := Int.ediv_nonneg h0 (by omega)
  have q1 : a / b ≤ a := Int.ediv_le_self _ h0
  have r0 : 0 ≤ a % b := Int.emod_nonneg _ (by omega)
  have r1 : a % b < b := Int.emod_lt_of_pos _ hb
  obtain ⟨q, hq⟩ : ∃ q, q = a / b := ⟨_, rfl⟩
  obtain ⟨r, hr⟩ : ∃ r, r = a % b := ⟨_, rfl⟩
  rw [← hq] at e1 q0 q1
  rw [← hr] at e2 r0 r1
  rw [← hq]
  have hd : decide (r < 0) = false := decide_eq_false (by omega)
  clear hq hr
  go_enter Tryz.func144, Tryz.ntmps144
  go_wp2_with (fail)
  go_ret
  exact ⟨rfl, rfl⟩
set_option maxRecDepth 100000 in
theorem even_any (num den : Int) (w : World) (h0 : 0 ≤ num) (h1 : num ≤ 1000000000000000) (hd : 0 < den) (hd1 : den ≤ 1000000000) :
    Calls Tryz.prog 100 #[.int .i64 num, .int .i64 den] w fun e w' => e = .returned (.int .i64 (evenM num den)) ∧ w = w' := by
  have DN := Lib.hid (down_any num den w h0 (by omega) hd (by omega))
  have q0 : 0 ≤ num / den := Int.ediv_nonneg h0 (by omega)
  have q1 : num / den ≤ num := Int.ediv_le_self _ h0
  have p1 : num / den * den ≤ num := Int.ediv_mul_le num (by omega)
  have p2 : num < num / den * den + den := by have := Int.lt_ediv_add_one_mul_self num hd; rw [Int.add_mul, Int.one_mul] at this; exact this
  have p0 : 0 ≤ num / den * den := Int.mul_nonneg q0 (by omega)
  unfold evenM
  obtain ⟨q, hq⟩ : ∃ q, q = num / den := ⟨_, rfl⟩
  rw [← hq] at DN q0 q1 p0 p1 p2
  rw [← hq]
  obtain ⟨p, hp⟩ : ∃ p, q * den = p := ⟨_, rfl⟩
  rw [hp] at p0 p1 p2
  rw [hp]
  have hmod : q.tmod 2 = q % 2 := Int.tmod_eq_emod_of_nonneg q0
  obtain ⟨R, hR⟩ : ∃ R, R = 2 * (num - p) := ⟨_, rfl⟩
  rw [← hR]
  have hR2 : 2 * (num - p) = R := hR.symm
  have hR0 : 0 ≤ R ∧ R ≤ 2000000000 := by omega
  clear hq hR
  by_cases c1 : den < R
  · have HV : Hid ((if den < R ∨ (R = den ∧ ¬ q % 2 = 0) then q + 1 else q) = q + 1) := if_pos (.inl c1)
    rw [HV.out]
    have d1 : decide (den < R) = true := decide_eq_true c1
    clear HV
    go_enter Tryz.func100, Tryz.ntmps100
    go_wp2_with (fail)
    refine DN.out.mono ?_
    rintro e w1 ⟨rfl, rfl⟩
    go_wp2_with (fail)
    go_ret
    exact ⟨rfl, rfl⟩
  · have d1 : decide (den < R) = false := decide_eq_false c1
    by_cases c2 : R = den
    · have d2 : (R == den) = true := beq_iff_eq.2 c2
      by_cases c3 : q % 2 = 0
      · have HV : Hid ((if den < R ∨ (R = den ∧ ¬ q % 2 = 0) then q + 1 else q) = q) := if_neg (fun h => by rcases h with h | h; exact c1 h; exact h.2 c3)
        rw [HV.out]
        have d3 : (q % 2 == 0) = true := beq_iff_eq.2 c3
        have HC2 := Lib.hid c2
        clear HV c2
        go_enter Tryz.func100, Tryz.ntmps100
        go_wp2_with (fail)
        refine DN.out.mono ?_
        rintro e w1 ⟨rfl, rfl⟩
        go_wp2_with (fail)
        go_ret
        exact ⟨rfl, rfl⟩
      · have HV : Hid ((if den < R ∨ (R = den ∧ ¬ q % 2 = 0) then q + 1 else q) = q + 1) := if_pos (.inr ⟨c2, c3⟩)
        rw [HV.out]
        have d3 : (q % 2 == 0) = false := beq_eq_false_iff_ne.2 c3
        have HC2 := Lib.hid c2
        clear HV c2
        go_enter Tryz.func100, Tryz.ntmps100
        go_wp2_with (fail)
        refine DN.out.mono ?_
        rintro e w1 ⟨rfl, rfl⟩
        go_wp2_with (fail)
        go_ret
        exact ⟨rfl, rfl⟩
    · have d2 : (R == den) = false := beq_eq_false_iff_ne.2 c2
      have HV : Hid ((if den < R ∨ (R = den ∧ ¬ q % 2 = 0) then q + 1 else q) = q) := if_neg (fun h => by rcases h with h | h; exact c1 h; exact c2 h.1)
      rw [HV.out]
      clear HV
      go_enter Tryz.func100, Tryz.ntmps100
      go_wp2_with (fail)
      refine DN.out.mono ?_
      rintro e w1 ⟨rfl, rfl⟩
      go_wp2_with (fail)
      go_ret
      exact ⟨rfl, rfl⟩
set_option maxRecDepth 100000 in
theorem tills_any (w : World) : Calls Tryz.prog 19 #[] w fun e w' => e = .returned (.bool true) ∧ w = w' := by
  have EV : Hid (Calls Tryz.prog 58 #[.int .i64 7, .int .i64 2] w fun e w' => e = .returned (.tuple #[.int .i64 4, .int .i64 0]) ∧ w = w') := by
    have E2 := Lib.hid (even_any 7 2 w (by decide) (by decide) (by decide) (by decide))
    rw [show evenM 7 2 = 4 by decide] at E2
    show Calls _ _ _ _ _
    go_enter Tryz.func58, Tryz.ntmps58
    go_wp2_with (fail)
    refine (out_any 7 (-1000000000000000) 1000000000000000 w).mono ?_
    rintro e w1 ⟨rfl, rfl⟩
    go_wp2_with (fail)
    refine (out_any 2 1 1000000000 w).mono ?_
    rintro e w1 ⟨rfl, rfl⟩
    go_wp2_with (fail)
    refine E2.out.mono ?_
    rintro e w1 ⟨rfl, rfl⟩
    go_wp2_with (fail)
    go_ret2
    exact ⟨rfl, rfl⟩
  go_enter Tryz.func19, Tryz.ntmps19
  go_wp2_with (fail)
  refine EV.out.mono ?_
  rintro e w1 ⟨rfl, rfl⟩
  go_wp2_with (fail)
  go_ret
  exact ⟨rfl, rfl⟩
end Go.Proofs.YthikknnadmebgaaGreatDoor
