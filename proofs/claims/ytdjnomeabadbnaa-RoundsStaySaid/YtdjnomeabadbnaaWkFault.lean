/- Checks of weeks and of days of jobs: the program's and the reference's. -/
import Derived.Test.YtdjnomeabadbnaaFuncsP
import Derived.Test.YtdjnomeabadbnaaStepApp
import Derived.Test.YtdjnomeabadbnaaWkPure
namespace Go.Proofs.Ytdjnomeabadbnaa
open Go.RowKit

def badJob (n : Int) : Bool := decide (n < 0) || decide (10000 < n)
def badWeek (D : Int) (J : List Int) : Int := if D < 1 ∨ 7 < D then 1 else if 60 < J.length then 2 else if J.any badJob then 1 else 0
theorem badWeek_ok {D : Int} {J : List Int} (h : badWeek D J = 0) : 1 ≤ D ∧ D ≤ 7 ∧ J.length ≤ 60 ∧ JobsOk J := by
  unfold badWeek at h
  by_cases h1 : D < 1 ∨ 7 < D
  · rw [if_pos h1] at h; omega
  · rw [if_neg h1] at h
    by_cases h2 : 60 < J.length
    · rw [if_pos h2] at h; omega
    · rw [if_neg h2] at h
      by_cases h3 : J.any badJob = true
      · rw [if_pos h3] at h; omega
      · refine ⟨by omega, by omega, by omega, fun x hx => ?_⟩
        have h4 := List.any_eq_false.1 (by simpa using h3) x hx
        simp only [badJob, Bool.or_eq_true, decide_eq_true_eq] at h4
        omega
theorem jobs_good {J : List Int} (h : JobsOk J) : J.any badJob = false := by
  rw [List.any_eq_false]
  intro x hx
  have := h x hx
  simp only [badJob, Bool.or_eq_true, decide_eq_true_eq]
  omega
theorem badWeek_zero {D : Int} {J : List Int} (h1 : 1 ≤ D) (h2 : D ≤ 7) (h3 : J.length ≤ 60) (h4 : JobsOk J) : badWeek D J = 0 := by
  unfold badWeek
  rw [if_neg (by omega), if_neg (by omega), jobs_good h4]; rfl
def badDay (D : Int) (n : Int) : Bool := decide (n < 0) || decide (D ≤ n)
theorem days_good {D n : Nat} {Q : List Int} (h : DaysOk D n Q) : Q.any (badDay D) = false := by
  rw [List.any_eq_false]
  intro x hx
  have := h.rng x hx
  simp only [badDay, Bool.or_eq_true, decide_eq_true_eq]
  omega
theorem days_of {D n : Nat} {Q : List Int} (hl : Q.length = n) (h : Q.any (badDay D) = false) : DaysOk D n Q := by
  refine ⟨hl, fun x hx => ?_⟩
  have h4 := List.any_eq_false.1 h x hx
  simp only [badDay, Bool.or_eq_true, decide_eq_true_eq] at h4
  omega

theorem planJob_fn : IsFn 71 := fun _ _ => by kernel_rfl
theorem planJob_any (x : Int) (w : World) : Calls Try.prog 71 #[.int .i64 x] w fun e w' => e = .returned (.bool (badJob x)) ∧ w = w' := by
  go_enter Try.func71, Try.ntmps71
  go_wp2_with (fail)
  refine (out_any x 0 10000 w).mono ?_
  rintro e w1 ⟨rfl, rfl⟩
  go_wp2_with (fail)
  go_ret
  exact ⟨rfl, rfl⟩
theorem weekJob_fn : IsFn 47 := fun _ _ => by kernel_rfl
theorem weekJob_any (x : Int) (w : World) : Calls Try.prog 47 #[.int .i64 x] w fun e w' => e = .returned (.bool (badJob x)) ∧ w = w' := by
  go_enter Try.func47, Try.ntmps47
  by_cases h : x < 0
  · have hd : decide (x < 0) = true := decide_eq_true h
    have HB : Hid (badJob x = true) := by show _ = _; simp [badJob, h]
    go_wp2_with (fail)
    go_ret
    exact ⟨ret_bool HB.out.symm, rfl⟩
  · have hd : decide (x < 0) = false := decide_eq_false h
    have HB : Hid (badJob x = decide (10000 < x)) := by show _ = _; simp [badJob, h]
    go_wp2_with (fail)
    go_ret
    exact ⟨ret_bool (by rw [HB.out]), rfl⟩
set_option maxRecDepth 100000 in
theorem plan_any (ja : Option Addr) (J : List Int) (jc : Nat) (D : Int) (w : World) (hj : CellsAt w ja (ints J)) (hl : J.length ≤ 137438953472) :
    Calls Try.prog 40 #[.agg #[.slice ja J.length jc, .int .i64 D]] w fun e w' => e = .returned (.int .i64 (badWeek D J)) ∧ w.grownBy w' none := by
  obtain ⟨w1, hw1⟩ : ∃ w1, w1 = w.alloc (.cells #[.slice ja J.length jc, .int .i64 D] 30) := ⟨_, rfl⟩
  have hg1 : w.grownBy w1 none := by rw [hw1]; exact gr_alloc (gr_refl w none) _
  have hP1 : w1.heap[w.heap.size]? = some (.cells #[.slice ja J.length jc, .int .i64 D] 30 (0, 0)) := by rw [hw1]; exact heap_alloc_new w _
  obtain ⟨b0, b1, f0, f1⟩ := blk2 hP1
  have CF := Lib.hid (containsFunc_int 71 badJob J ja jc w1 (hj.keep0 hg1) hl planJob_fn (fun x _ w1 _ => (planJob_any x w1).mono fun e w2 h => ⟨h.1, by rw [← h.2]; exact gr_refl _ _⟩))
  clear hP1
  go_enter Try.func40, Try.ntmps40
  go_wp2_with (fail)
  rw [← hw1]
  clear hw1
  refine (out_any D 1 7 w1).mono ?_
  rintro e w2 ⟨rfl, rfl⟩
  by_cases h1 : D < 1 ∨ 7 < D
  · have hd : (decide (D < 1) || decide (7 < D)) = true := by simpa using h1
    have HB : Hid (badWeek D J = 1) := by show _ = _; unfold badWeek; rw [if_pos h1]
    rw [hd]
    clear h1 hd
    go_wp2_with (fail)
    go_ret
    exact ⟨ret_int HB.out.symm, hg1⟩
  · have hd : (decide (D < 1) || decide (7 < D)) = false := by simpa using h1
    rw [hd]
    clear hd
    by_cases h2 : 60 < J.length
    · have HB : Hid (badWeek D J = 2) := by show _ = _; unfold badWeek; rw [if_neg h1, if_pos h2]
      clear h1
      go_wp2_with (fail)
      go_ret
      exact ⟨ret_int HB.out.symm, hg1⟩
    · cases h3 : J.any badJob with
      | true =>
        have HB : Hid (badWeek D J = 1) := by show _ = _; unfold badWeek; rw [if_neg h1, if_neg h2, if_pos h3]
        have H3 := Lib.hid h3
        clear h1 h3
        go_wp2_with (fail)
        refine CF.out.mono ?_
        rintro e w3 ⟨rfl, hg3⟩
        rw [H3.out]
        go_wp2_with (fail)
        go_ret
        exact ⟨ret_int HB.out.symm, gr_trans hg1 hg3⟩
      | false =>
        have HB : Hid (badWeek D J = 0) := by show _ = _; unfold badWeek; rw [if_neg h1, if_neg h2, h3]; rfl
        have H3 := Lib.hid h3
        clear h1 h3
        go_wp2_with (fail)
        refine CF.out.mono ?_
        rintro e w3 ⟨rfl, hg3⟩
        rw [H3.out]
        go_wp2_with (fail)
        go_ret
        exact ⟨ret_int HB.out.symm, gr_trans hg1 hg3⟩

set_option maxRecDepth 100000 in
theorem weekFault_any (ja : Option Addr) (J : List Int) (jc : Nat) (D : Int) (w : World) (hj : CellsAt w ja (ints J)) (hl : J.length ≤ 137438953472) :
    Calls Try.prog 11 #[.agg #[.slice ja J.length jc, .int .i64 D]] w fun e w' => e = .returned (.int .i64 (badWeek D J)) ∧ w.grownBy w' none := by
  obtain ⟨w1, hw1⟩ : ∃ w1, w1 = w.alloc (.cells #[.slice ja J.length jc, .int .i64 D] 30) := ⟨_, rfl⟩
  have hg1 : w.grownBy w1 none := by rw [hw1]; exact gr_alloc (gr_refl w none) _
  have hP1 : w1.heap[w.heap.size]? = some (.cells #[.slice ja J.length jc, .int .i64 D] 30 (0, 0)) := by rw [hw1]; exact heap_alloc_new w _
  obtain ⟨b0, b1, f0, f1⟩ := blk2 hP1
  have CF := Lib.hid (containsFunc_int 47 badJob J ja jc w1 (hj.keep0 hg1) hl weekJob_fn (fun x _ w1 _ => (weekJob_any x w1).mono fun e w2 h => ⟨h.1, by rw [← h.2]; exact gr_refl _ _⟩))
  clear hP1
  go_enter Try.func11, Try.ntmps11
  by_cases h1 : D < 1 ∨ 7 < D
  · have HB : Hid (badWeek D J = 1) := by show _ = _; unfold badWeek; rw [if_pos h1]
    by_cases h4 : D < 1
    · have hd : decide (D < 1) = true := decide_eq_true h4
      clear h1
      go_wp2_with (fail)
      rw [← hw1]
      go_ret
      exact ⟨ret_int HB.out.symm, hg1⟩
    · have h5 : 7 < D := by omega
      have hd : decide (D < 1) = false := decide_eq_false h4
      have hd2 : decide (7 < D) = true := decide_eq_true h5
      clear h1
      go_wp2_with (fail)
      rw [← hw1]
      go_ret
      exact ⟨ret_int HB.out.symm, hg1⟩
  · have h4 : ¬ D < 1 := by omega
    have h5 : ¬ 7 < D := by omega
    have hd : decide (D < 1) = false := decide_eq_false h4
    have hd2 : decide (7 < D) = false := decide_eq_false h5
    by_cases h2 : 60 < J.length
    · have HB : Hid (badWeek D J = 2) := by show _ = _; unfold badWeek; rw [if_neg h1, if_pos h2]
      clear h1
      go_wp2_with (fail)
      rw [← hw1]
      go_ret
      exact ⟨ret_int HB.out.symm, hg1⟩
    · cases h3 : J.any badJob with
      | true =>
        have HB : Hid (badWeek D J = 1) := by show _ = _; unfold badWeek; rw [if_neg h1, if_neg h2, if_pos h3]
        have H3 := Lib.hid h3
        clear h1 h3
        go_wp2_with (fail)
        rw [← hw1]
        clear hw1
        refine CF.out.mono ?_
        rintro e w3 ⟨rfl, hg3⟩
        rw [H3.out]
        go_wp2_with (fail)
        go_ret
        exact ⟨ret_int HB.out.symm, gr_trans hg1 hg3⟩
      | false =>
        have HB : Hid (badWeek D J = 0) := by show _ = _; unfold badWeek; rw [if_neg h1, if_neg h2, h3]; rfl
        have H3 := Lib.hid h3
        clear h1 h3
        go_wp2_with (fail)
        rw [← hw1]
        clear hw1
        refine CF.out.mono ?_
        rintro e w3 ⟨rfl, hg3⟩
        rw [H3.out]
        go_wp2_with (fail)
        go_ret
        exact ⟨ret_int HB.out.symm, gr_trans hg1 hg3⟩

/-! ### Days -/
def badDays (D : Int) (J Q : List Int) : Int := if Q.length ≠ J.length then 3 else if Q.any (badDay D) then 1 else 0
theorem badDays_zero {D n : Nat} {J Q : List Int} (hn : J.length = n) (h : DaysOk D n Q) : badDays D J Q = 0 := by
  unfold badDays
  rw [if_neg (by rw [h.len, hn]; exact fun h => h rfl), days_good h]; rfl
theorem badDays_ok {D n : Nat} {J Q : List Int} (hn : J.length = n) (h : badDays D J Q = 0) : DaysOk D n Q := by
  unfold badDays at h
  by_cases h1 : Q.length = J.length
  · rw [if_neg (fun h2 => h2 h1)] at h
    cases h3 : Q.any (badDay D) with
    | true => rw [h3] at h; simp at h
    | false => exact days_of (by omega) h3
  · rw [if_pos h1] at h; omega

end Go.Proofs.Ytdjnomeabadbnaa
