/- Checks of weeks and of days of jobs: the program's and the reference's. -/
import Derived.Test.YtbgfflbddflokaaFuncsP
import Derived.Test.YtbgfflbddflokaaGen
import Derived.Test.YtbgfflbddflokaaWkPure
namespace Go.Proofs.Ytbgfflbddflokaa
open Go.RowKit

def badJob (n : Int) : Bool := decide (n < 0) || decide (10000 < n)
def badWeek (D : Int) (J : List Int) : Int := if D < 1 ∨ 7 < D then 1 else if 60 < J.length then 2 else if J.any badJob then 1 else 0
theorem badWeek_ok {D : Int} {J : List Int} (h : badWeek D J = 0) : 1 ≤ D ∧ D ≤ 7 ∧ J.length ≤ 60 ∧ JobsOk J := by
  unfold badWeek at h
  by_cases h1 : D < 1 ∨ 7 < D
  · rw [if_pos h1] at h; omega
  · rw [if_neg h1] at h
    by_cases h2 : 60 < J.length
    · rw [if_pos h2] at h; omega
    · rw [if_neg h2] at h
      by_cases h3 : J.any badJob = true
      · rw [if_pos h3] at h; omega
      · refine ⟨by omega, by omega, by omega, fun x hx => ?_⟩
        have h4 := List.any_eq_false.1 (by simpa using h3) x hx
        simp only [badJob, Bool.or_eq_true, decide_eq_true_eq] at h4
        omega
theorem jobs_good {J : List Int} (h : JobsOk J) : J.any badJob = false := by
  rw [List.any_eq_false]
  intro x hx
  have := h x hx
  simp only [badJob, Bool.or_eq_true, decide_eq_true_eq]
  omega
theorem badWeek_zero {D : Int} {J : List Int} (h1 : 1 ≤ D) (h2 : D ≤ 7) (h3 : J.length ≤ 60) (h4 : JobsOk J) : badWeek D J = 0 := by
  unfold badWeek
  rw [if_neg (by omega), if_neg (by omega), jobs_good h4]; rfl
def badDay (D : Int) (n : Int) : Bool := decide (n < 0) || decide (D ≤ n)
theorem days_good {D n : Nat} {Q : List Int} (h : DaysOk D n Q) : Q.any (badDay D) = false := by
  rw [List.any_eq_false]
  intro x hx
  have := h.rng x hx
  simp only [badDay, Bool.or_eq_true, decide_eq_true_eq]
  omega
theorem days_of {D n : Nat} {Q : List Int} (hl : Q.length = n) (h : Q.any (badDay D) = false) : DaysOk D n Q := by
  refine ⟨hl, fun x hx => ?_⟩
  have h4 := List.any_eq_false.1 h x hx
  simp only [badDay, Bool.or_eq_true, decide_eq_true_eq] at h4
  omega

theorem planJob_fn : IsFn 131 := fun _ _ => by kernel_rfl
theorem planJob_any (x : Int) (w : World) : Calls Try.prog 131 #[.int .i64 x] w fun e w' => e = .returned (.bool (badJob x)) ∧ w = w' := by
  go_enter Try.func131, Try.ntmps131
  go_wp2_with (fail)
  refine (out_any x 0 10000 w).mono ?_
  rintro e w1 ⟨rfl, rfl⟩
  go_wp2_with (fail)
  go_ret
  exact ⟨rfl, rfl⟩
theorem weekJob_fn : IsFn 94 := fun _ _ => by kernel_rfl
theorem weekJob_any (x : Int) (w : World) : Calls Try.prog 94 #[.int .i64 x] w fun e w' => e = .returned (.bool (badJob x)) ∧ w = w' := by
  go_enter Try.func94, Try.ntmps94
  by_cases h : x < 0
  · have hd : decide (x < 0) = true := decide_eq_true h
    have HB : Hid (badJob x = true) := by show _ = _; simp [badJob, h]
    go_wp2_with (fail)
    go_ret
    exact ⟨ret_bool HB.out.symm, rfl⟩
  · have hd : decide (x < 0) = false := decide_eq_false h
    have HB : Hid (badJob x = decide (10000 < x)) := by show _ = _; simp [badJob, h]
    go_wp2_with (fail)
    go_ret
    exact ⟨ret_bool (by rw [HB.out]), rfl⟩
set_option maxRecDepth 100000 in
theorem plan_any (ja : Option Addr) (J : List Int) (jc : Nat) (D : Int) (w : World) (hj : CellsAt w ja (ints J)) (hl : J.length ≤ 137438953472) :
    Calls Try.prog 97 #[.agg #[.slice ja J.length jc, .int .i64 D]] w fun e w' => e = .returned (.int .i64 (badWeek D J)) ∧ w.grownBy w' none := by
  obtain ⟨w1, hw1⟩ : ∃ w1, w1 = w.alloc (.cells #[.slice ja J.length jc, .int .i64 D] 79) := ⟨_, rfl⟩
  have hg1 : w.grownBy w1 none := by rw [hw1]; exact gr_alloc (gr_refl w none) _
  have hP1 : w1.heap[w.heap.size]? = some (.cells #[.slice ja J.length jc, .int .i64 D] 79 (0, 0)) := by rw [hw1]; exact heap_alloc_new w _
  obtain ⟨b0, b1, f0, f1⟩ := blk2 hP1
  have CF := Lib.hid (containsFunc_int 131 badJob J ja jc w1 (hj.keep0 hg1) hl planJob_fn (fun x _ w1 _ => (planJob_any x w1).mono fun e w2 h => ⟨h.1, by rw [← h.2]; exact gr_refl _ _⟩))
  clear hP1
  go_enter Try.func97, Try.ntmps97
  go_wp2_with (fail)
  rw [← hw1]
  clear hw1
  refine (out_any D 1 7 w1).mono ?_
  rintro e w2 ⟨rfl, rfl⟩
  by_cases h1 : D < 1 ∨ 7 < D
  · have hd : (decide (D < 1) || decide (7 < D)) = true := by simpa using h1
    have HB : Hid (badWeek D J = 1) := by show _ = _; unfold badWeek; rw [if_pos h1]
    rw [hd]
    clear h1 hd
    go_wp2_with (fail)
    go_ret
    exact ⟨ret_int HB.out.symm, hg1⟩
  · have hd : (decide (D < 1) || decide (7 < D)) = false := by simpa using h1
    rw [hd]
    clear hd
    by_cases h2 : 60 < J.length
    · have HB : Hid (badWeek D J = 2) := by show _ = _; unfold badWeek; rw [if_neg h1, if_pos h2]
      clear h1
      go_wp2_with (fail)
      go_ret
      exact ⟨ret_int HB.out.symm, hg1⟩
    · cases h3 : J.any badJob with
      | true =>
        have HB : Hid (badWeek D J = 1) := by show _ = _; unfold badWeek; rw [if_neg h1, if_neg h2, if_pos h3]
        have H3 := Lib.hid h3
        clear h1 h3
        go_wp2_with (fail)
        refine CF.out.mono ?_
        rintro e w3 ⟨rfl, hg3⟩
        rw [H3.out]
        go_wp2_with (fail)
        go_ret
        exact ⟨ret_int HB.out.symm, gr_trans hg1 hg3⟩
      | false =>
        have HB : Hid (badWeek D J = 0) := by show _ = _; unfold badWeek; rw [if_neg h1, if_neg h2, h3]; rfl
        have H3 := Lib.hid h3
        clear h1 h3
        go_wp2_with (fail)
        refine CF.out.mono ?_
        rintro e w3 ⟨rfl, hg3⟩
        rw [H3.out]
        go_wp2_with (fail)
        go_ret
        exact ⟨ret_int HB.out.symm, gr_trans hg1 hg3⟩

set_option maxRecDepth 100000 in
theorem weekFault_any (ja : Option Addr) (J : List Int) (jc : Nat) (D : Int) (w : World) (hj : CellsAt w ja (ints J)) (hl : J.length ≤ 137438953472) :
    Calls Try.prog 42 #[.agg #[.slice ja J.length jc, .int .i64 D]] w fun e w' => e = .returned (.int .i64 (badWeek D J)) ∧ w.grownBy w' none := by
  obtain ⟨w1, hw1⟩ : ∃ w1, w1 = w.alloc (.cells #[.slice ja J.length jc, .int .i64 D] 79) := ⟨_, rfl⟩
  have hg1 : w.grownBy w1 none := by rw [hw1]; exact gr_alloc (gr_refl w none) _
  have hP1 : w1.heap[w.heap.size]? = some (.cells #[.slice ja J.length jc, .int .i64 D] 79 (0, 0)) := by rw [hw1]; exact heap_alloc_new w _
  obtain ⟨b0, b1, f0, f1⟩ := blk2 hP1
  have CF := Lib.hid (containsFunc_int 94 badJob J ja jc w1 (hj.keep0 hg1) hl weekJob_fn (fun x _ w1 _ => (weekJob_any x w1).mono fun e w2 h => ⟨h.1, by rw [← h.2]; exact gr_refl _ _⟩))
  clear hP1
  go_enter Try.func42, Try.ntmps42
  by_cases h1 : D < 1 ∨ 7 < D
  · have HB : Hid (badWeek D J = 1) := by show _ = _; unfold badWeek; rw [if_pos h1]
    by_cases h4 : D < 1
    · have hd : decide (D < 1) = true := decide_eq_true h4
      clear h1
      go_wp2_with (fail)
      rw [← hw1]
      go_ret
      exact ⟨ret_int HB.out.symm, hg1⟩
    · have h5 : 7 < D := by omega
      have hd : decide (D < 1) = false := decide_eq_false h4
      have hd2 : decide (7 < D) = true := decide_eq_true h5
      clear h1
      go_wp2_with (fail)
      rw [← hw1]
      go_ret
      exact ⟨ret_int HB.out.symm, hg1⟩
  · have h4 : ¬ D < 1 := by omega
    have h5 : ¬ 7 < D := by omega
    have hd : decide (D < 1) = false := decide_eq_false h4
    have hd2 : decide (7 < D) = false := decide_eq_false h5
    by_cases h2 : 60 < J.length
    · have HB : Hid (badWeek D J = 2) := by show _ = _; unfold badWeek; rw [if_neg h1, if_pos h2]
      clear h1
      go_wp2_with (fail)
      rw [← hw1]
      go_ret
      exact ⟨ret_int HB.out.symm, hg1⟩
    · cases h3 : J.any badJob with
      | true =>
        have HB : Hid (badWeek D J = 1) := by show _ = _; unfold badWeek; rw [if_neg h1, if_neg h2, if_pos h3]
        have H3 := Lib.hid h3
        clear h1 h3
        go_wp2_with (fail)
        rw [← hw1]
        clear hw1
        refine CF.out.mono ?_
        rintro e w3 ⟨rfl, hg3⟩
        rw [H3.out]
        go_wp2_with (fail)
        go_ret
        exact ⟨ret_int HB.out.symm, gr_trans hg1 hg3⟩
      | false =>
        have HB : Hid (badWeek D J = 0) := by show _ = _; unfold badWeek; rw [if_neg h1, if_neg h2, h3]; rfl
        have H3 := Lib.hid h3
        clear h1 h3
        go_wp2_with (fail)
        rw [← hw1]
        clear hw1
        refine CF.out.mono ?_
        rintro e w3 ⟨rfl, hg3⟩
        rw [H3.out]
        go_wp2_with (fail)
        go_ret
        exact ⟨ret_int HB.out.symm, gr_trans hg1 hg3⟩

/-! ### Days -/
theorem planDay_fn : IsFn 134 := fun _ _ => by kernel_rfl
theorem planDay_any (x D : Int) (q : Nat) (w : World) (hq : w.cell? ⟨q, 1, none⟩ = some (.int .i64 D)) (h1 : 1 ≤ D) (h2 : D ≤ 7) : Calls Try.prog 134 #[.int .i64 x, .pointer (some ⟨q, 0, none⟩)] w fun e w' => e = .returned (.bool (badDay D x)) ∧ w = w' := by
  have HB : Hid ((decide (x < 0) || decide (D - 1 < x)) = badDay D x) := by
    show _ = _
    unfold badDay
    congr 1
    exact decide_eq_decide.2 (by omega)
  go_enter Try.func134, Try.ntmps134
  go_wp2_with (fail)
  refine (out_any x 0 (D - 1) w).mono ?_
  rintro e w1 ⟨rfl, rfl⟩
  rw [HB.out]
  go_wp2_with (fail)
  go_ret
  exact ⟨rfl, rfl⟩
theorem refDay_fn : IsFn 95 := fun _ _ => by kernel_rfl
theorem refDay_any (x D : Int) (q : Nat) (w : World) (hq : w.cell? ⟨q, 1, none⟩ = some (.int .i64 D)) : Calls Try.prog 95 #[.int .i64 x, .pointer (some ⟨q, 0, none⟩)] w fun e w' => e = .returned (.bool (badDay D x)) ∧ w = w' := by
  go_enter Try.func95, Try.ntmps95
  by_cases h : x < 0
  · have hd : decide (x < 0) = true := decide_eq_true h
    have HB : Hid (badDay D x = true) := by show _ = _; simp [badDay, h]
    go_wp2_with (fail)
    go_ret
    exact ⟨ret_bool HB.out.symm, rfl⟩
  · have hd : decide (x < 0) = false := decide_eq_false h
    have HB : Hid (badDay D x = decide (D ≤ x)) := by show _ = _; simp [badDay, h]
    go_wp2_with (fail)
    go_ret
    exact ⟨ret_bool (by rw [HB.out]), rfl⟩
def badDays (D : Int) (J Q : List Int) : Int := if Q.length ≠ J.length then 3 else if Q.any (badDay D) then 1 else 0
theorem badDays_zero {D n : Nat} {J Q : List Int} (hn : J.length = n) (h : DaysOk D n Q) : badDays D J Q = 0 := by
  unfold badDays
  rw [if_neg (by rw [h.len, hn]; exact fun h => h rfl), days_good h]; rfl
theorem badDays_ok {D n : Nat} {J Q : List Int} (hn : J.length = n) (h : badDays D J Q = 0) : DaysOk D n Q := by
  unfold badDays at h
  by_cases h1 : Q.length = J.length
  · rw [if_neg (fun h2 => h2 h1)] at h
    cases h3 : Q.any (badDay D) with
    | true => rw [h3] at h; simp at h
    | false => exact days_of (by omega) h3
  · rw [if_pos h1] at h; omega

set_option maxRecDepth 100000 in
theorem loadsFault_n (nj nq : Nat) (ja : Option Addr) (J : List Int) (jc : Nat) (D : Int) (qa : Option Addr) (Q : List Int) (qc : Nat) (w : World) (hnj : J.length = nj) (hnq : Q.length = nq) (hq : CellsAt w qa (ints Q)) (hl2 : Q.length ≤ 137438953472) :
    Calls Try.prog 43 #[.agg #[.slice ja nj jc, .int .i64 D], .slice qa nq qc] w fun e w' => e = .returned (.int .i64 (badDays D J Q)) ∧ w.grownBy w' none := by
  obtain ⟨w1, hw1⟩ : ∃ w1, w1 = w.alloc (.cells #[.slice ja nj jc, .int .i64 D] 79) := ⟨_, rfl⟩
  have hg1 : w.grownBy w1 none := by rw [hw1]; exact gr_alloc (gr_refl w none) _
  have hP1 : w1.heap[w.heap.size]? = some (.cells #[.slice ja nj jc, .int .i64 D] 79 (0, 0)) := by rw [hw1]; exact heap_alloc_new w _
  obtain ⟨b0, b1, f0, f1⟩ := blk2 hP1
  have CF := Lib.hid (containsFuncP_int 95 w.heap.size (badDay D) Q qa qc w1 (hq.keep0 hg1) hl2 refDay_fn (fun x _ w2 hg2 => (refDay_any x D w.heap.size w2 ((gr_cell hg2 (lt_of_cell b1)).trans b1)).mono fun e w2 h => ⟨h.1, by rw [← h.2]; exact gr_refl _ _⟩))
  rw [hnq] at CF
  have HNJ := Lib.hid hnj
  have HNQ := Lib.hid hnq
  clear hP1 hnj hnq
  go_enter Try.func43, Try.ntmps43
  by_cases h1 : nq = nj
  · cases h3 : Q.any (badDay D) with
    | true =>
      have HB : Hid (badDays D J Q = 1) := by show _ = _; unfold badDays; rw [if_neg (fun h => h (by rw [HNQ.out, HNJ.out, h1])), if_pos h3]
      have H3 := Lib.hid h3
      clear h3
      subst h1
      go_wp2_with (fail)
      rw [← hw1]
      clear hw1
      refine CF.out.mono ?_
      rintro e w3 ⟨rfl, hg3⟩
      rw [H3.out]
      go_wp2_with (fail)
      go_ret
      exact ⟨ret_int HB.out.symm, gr_trans hg1 hg3⟩
    | false =>
      have HB : Hid (badDays D J Q = 0) := by show _ = _; unfold badDays; rw [if_neg (fun h => h (by rw [HNQ.out, HNJ.out, h1])), h3]; rfl
      have H3 := Lib.hid h3
      clear h3
      subst h1
      go_wp2_with (fail)
      rw [← hw1]
      clear hw1
      refine CF.out.mono ?_
      rintro e w3 ⟨rfl, hg3⟩
      rw [H3.out]
      go_wp2_with (fail)
      go_ret
      exact ⟨ret_int HB.out.symm, gr_trans hg1 hg3⟩
  · have HB : Hid (badDays D J Q = 3) := by show _ = _; unfold badDays; rw [if_pos (by rw [HNQ.out, HNJ.out]; exact h1)]
    have h1' : ¬ (nq : Int) = nj := by omega
    go_wp2_with (fail)
    rw [← hw1]
    go_ret
    exact ⟨ret_int HB.out.symm, hg1⟩
set_option maxRecDepth 100000 in
/-- The program's check of days of a right week. -/
theorem daysFault_n (nj nq : Nat) (ja : Option Addr) (J : List Int) (jc : Nat) (D : Int) (qa : Option Addr) (Q : List Int) (qc : Nat) (w : World) (hnj : J.length = nj) (hnq : Q.length = nq) (hj : CellsAt w ja (ints J)) (hq : CellsAt w qa (ints Q)) (hl2 : Q.length ≤ 137438953472) (h1 : 1 ≤ D) (h2 : D ≤ 7) (h3 : J.length ≤ 60) (h4 : JobsOk J) :
    Calls Try.prog 104 #[.agg #[.slice ja nj jc, .int .i64 D], .slice qa nq qc] w fun e w' => e = .returned (.int .i64 (badDays D J Q)) ∧ w.grownBy w' none := by
  obtain ⟨w1, hw1⟩ : ∃ w1, w1 = w.alloc (.cells #[.slice ja nj jc, .int .i64 D] 79) := ⟨_, rfl⟩
  have hg1 : w.grownBy w1 none := by rw [hw1]; exact gr_alloc (gr_refl w none) _
  have hP1 : w1.heap[w.heap.size]? = some (.cells #[.slice ja nj jc, .int .i64 D] 79 (0, 0)) := by rw [hw1]; exact heap_alloc_new w _
  have hbw := badWeek_zero h1 h2 h3 h4
  have PL := Lib.hid (plan_any ja J jc D w1 (hj.keep0 hg1) (by omega))
  rw [hbw, hnj] at PL
  obtain ⟨b0, b1, f0, f1⟩ := blk2 hP1
  clear hbw hP1
  go_enter Try.func104, Try.ntmps104
  go_wp2_with (fail)
  rw [← hw1]
  clear hw1
  refine PL.out.mono ?_
  rintro e w2 ⟨rfl, hg2⟩
  have c0 := (gr_cell hg2 (lt_of_cell b0)).trans b0
  have c1 := (gr_cell hg2 (lt_of_cell b1)).trans b1
  have hgr2 := gr_trans hg1 hg2
  have CF := Lib.hid (containsFuncP_int 134 w.heap.size (badDay D) Q qa qc w2 (hq.keep0 hgr2) hl2 planDay_fn (fun x _ w3 hg3 => (planDay_any x D w.heap.size w3 ((gr_cell hg3 (lt_of_cell c1)).trans c1) h1 h2).mono fun e w2 h => ⟨h.1, by rw [← h.2]; exact gr_refl _ _⟩))
  rw [hnq] at CF
  have HNJ := Lib.hid hnj
  have HNQ := Lib.hid hnq
  clear b0 b1 f0 f1 hnj hnq
  by_cases h1 : nq = nj
  · cases h3 : Q.any (badDay D) with
    | true =>
      have HB : Hid (badDays D J Q = 1) := by show _ = _; unfold badDays; rw [if_neg (fun h => h (by rw [HNQ.out, HNJ.out, h1])), if_pos h3]
      have H3 := Lib.hid h3
      clear h3
      subst h1
      go_wp2_with (fail)
      refine CF.out.mono ?_
      rintro e w3 ⟨rfl, hg3⟩
      rw [H3.out]
      go_wp2_with (fail)
      go_ret
      exact ⟨ret_int HB.out.symm, gr_trans hgr2 hg3⟩
    | false =>
      have HB : Hid (badDays D J Q = 0) := by show _ = _; unfold badDays; rw [if_neg (fun h => h (by rw [HNQ.out, HNJ.out, h1])), h3]; rfl
      have H3 := Lib.hid h3
      clear h3
      subst h1
      go_wp2_with (fail)
      refine CF.out.mono ?_
      rintro e w3 ⟨rfl, hg3⟩
      rw [H3.out]
      go_wp2_with (fail)
      go_ret
      exact ⟨ret_int HB.out.symm, gr_trans hgr2 hg3⟩
  · have HB : Hid (badDays D J Q = 3) := by show _ = _; unfold badDays; rw [if_pos (by rw [HNQ.out, HNJ.out]; exact h1)]
    have h1' : ¬ (nq : Int) = nj := by omega
    go_wp2_with (fail)
    go_ret
    exact ⟨ret_int HB.out.symm, hgr2⟩
end Go.Proofs.Ytbgfflbddflokaa
