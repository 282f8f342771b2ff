/- That the package rounds. -/
import Derived.Test.YtehhmgbgkemidaaDoorPkSAb
import Derived.Test.YtehhmgbgkemidaaDoorPkSAd
import Derived.Test.YtehhmgbgkemidaaDoorPkSAa
import Derived.Test.YtehhmgbgkemidaaDoorPkSAc
import Derived.Deep.QuietTactic
import Derived.Test.YtehhmgbgkemidaaDoorPkSAf
namespace Go.Proofs.YtehhmgbgkemidaaDoor
open Go.RowKit

set_option maxRecDepth 100000 in
theorem isSpot_any (x y : Int) (w : World) (h1 : -10000 ≤ x) (h2 : x ≤ 10000) (h3 : -10000 ≤ y) (h4 : y ≤ 10000) :
    Calls Tryd.prog 39 #[.agg #[.int .i64 x, .int .i64 y]] w fun e w' => e = .returned (.bool true) ∧ w.grownBy w' none := by
  have hx : (decide (x < -10000) || decide (10000 < x)) = false := by simp; omega
  have hy : (decide (y < -10000) || decide (10000 < y)) = false := by simp; omega
  have HX := Lib.hid hx
  have HY := Lib.hid hy
  clear hx hy
  have hg1 := gr_alloc (gr_refl w none) (.cells #[.int .i64 x, .int .i64 y] 29)
  go_enter Tryd.func39, Tryd.ntmps39
  go_wp2_with (fail)
  refine (out_any x (-10000) 10000 _).mono ?_
  rintro e w1 ⟨rfl, rfl⟩
  rw [HX.out]
  go_wp2_with (fail)
  refine (out_any y (-10000) 10000 _).mono ?_
  rintro e w1 ⟨rfl, rfl⟩
  rw [HY.out]
  go_wp2_with (fail)
  go_ret
  exact ⟨rfl, hg1⟩
set_option maxRecDepth 100000 in
theorem rounds_any (w : World) : Calls Tryd.prog 8 #[] w fun e w' => e = .returned (.bool true) ∧ w.grownBy w' none := by
  have FF : ∀ w1 : World, Calls Tryd.prog 25 #[.agg #[.int .i64 3, .int .i64 0], .agg #[.int .i64 0, .int .i64 (-4)]] w1 fun e w' => e = .returned (.int .i64 7) ∧ w1.grownBy w' none := by
    intro w1
    have hg := gr_alloc (gr_alloc (gr_refl w1 none) (.cells #[.int .i64 3, .int .i64 0] 29)) (.cells #[.int .i64 0, .int .i64 (-4)] 29)
    go_enter Tryd.func25, Tryd.ntmps25
    go_wp2_with (fail)
    go_ret
    exact ⟨rfl, hg⟩
  have FR : ∀ w1 : World, Calls Tryd.prog 22 #[.agg #[.int .i64 3, .int .i64 0], .agg #[.int .i64 0, .int .i64 (-4)]] w1 fun e w' => e = .returned (.tuple #[.int .i64 7, .int .i64 0]) ∧ w1.grownBy w' none := by
    intro w1
    obtain ⟨w2, hw2⟩ : ∃ w2, w2 = (w1.alloc (.cells #[.int .i64 3, .int .i64 0] 29)).alloc (.cells #[.int .i64 0, .int .i64 (-4)] 29) := ⟨_, rfl⟩
    have hg2 : w1.grownBy w2 none := by rw [hw2]; exact gr_alloc (gr_alloc (gr_refl w1 none) _) _
    have hb1 : w2.heap[w1.heap.size]? = some (.cells #[.int .i64 3, .int .i64 0] 29 (0, 0)) := by rw [hw2, heap_alloc_old (h := by simp)]; exact heap_alloc_new w1 _
    have hb2 : w2.heap[w1.heap.size + 1]? = some (.cells #[.int .i64 0, .int .i64 (-4)] 29 (0, 0)) := by
      rw [hw2]
      have := heap_alloc_new (w1.alloc (.cells #[.int .i64 3, .int .i64 0] 29)) (.cells #[.int .i64 0, .int .i64 (-4)] 29)
      simpa using this
    obtain ⟨a0, a1, _, _⟩ := blk2 hb1
    obtain ⟨b0, b1, _, _⟩ := blk2 hb2
    have la := lt_of_cell a0
    have lb := lt_of_cell b0
    clear hb1 hb2
    go_enter Tryd.func22, Tryd.ntmps22
    go_wp2_with (fail)
    rw [← hw2]
    clear hw2
    refine (isSpot_any 3 0 w2 (by omega) (by omega) (by omega) (by omega)).mono ?_
    rintro e w3 ⟨rfl, hg3⟩
    have c0 := (gr_cell hg3 la).trans a0
    have c1 := (gr_cell hg3 la).trans a1
    have d0 := (gr_cell hg3 lb).trans b0
    have d1 := (gr_cell hg3 lb).trans b1
    have lc := lt_of_cell c0
    have ld := lt_of_cell d0
    clear a0 a1 b0 b1 la lb
    go_wp2_with (fail)
    refine (isSpot_any 0 (-4) w3 (by omega) (by omega) (by omega) (by omega)).mono ?_
    rintro e w4 ⟨rfl, hg4⟩
    have e0 := (gr_cell hg4 lc).trans c0
    have e1 := (gr_cell hg4 lc).trans c1
    have f0 := (gr_cell hg4 ld).trans d0
    have f1 := (gr_cell hg4 ld).trans d1
    clear c0 c1 d0 d1 lc ld
    go_wp2_with (fail)
    refine (FF w4).mono ?_
    rintro e w5 ⟨rfl, hg5⟩
    go_wp2_with (fail)
    go_ret2
    exact ⟨rfl, gr_trans (gr_trans (gr_trans hg2 hg3) hg4) hg5⟩
  have FR' := Lib.hid FR
  clear FF FR
  go_enter Tryd.func8, Tryd.ntmps8
  go_wp2_with (fail)
  refine (FR'.out w).mono ?_
  rintro e w1 ⟨rfl, hg⟩
  go_wp2_with (fail)
  go_ret
  exact ⟨rfl, hg⟩
end Go.Proofs.YtehhmgbgkemidaaDoor

/-! How far two spots lie apart: some number that is not great. -/
namespace Go.Proofs.YtehhmgbgkemidaaDoor
open Go.RowKit

set_option maxRecDepth 100000 in
theorem far_any (x1 y1 x2 y2 : Int) (w : World) (h1 : -20000 ≤ x1 ∧ x1 ≤ 20000) (h2 : -20000 ≤ y1 ∧ y1 ≤ 20000) (h3 : -20000 ≤ x2 ∧ x2 ≤ 20000) (h4 : -20000 ≤ y2 ∧ y2 ≤ 20000) :
    Calls Tryd.prog 25 #[.agg #[.int .i64 x1, .int .i64 y1], .agg #[.int .i64 x2, .int .i64 y2]] w fun e w' => (∃ v, e = .returned (.int .i64 v) ∧ 0 ≤ v ∧ v ≤ 80000) ∧ w.grownBy w' none := by
  have hg := gr_alloc (gr_alloc (gr_refl w none) (.cells #[.int .i64 x1, .int .i64 y1] 29)) (.cells #[.int .i64 x2, .int .i64 y2] 29)
  go_enter Tryd.func25, Tryd.ntmps25
  by_cases c1 : x1 - x2 < x2 - x1
  · by_cases c2 : y1 - y2 < y2 - y1
    · go_wp2_with (fail)
      go_ret
      exact ⟨⟨_, rfl, by omega, by omega⟩, hg⟩
    · go_wp2_with (fail)
      go_ret
      exact ⟨⟨_, rfl, by omega, by omega⟩, hg⟩
  · by_cases c2 : y1 - y2 < y2 - y1
    · go_wp2_with (fail)
      go_ret
      exact ⟨⟨_, rfl, by omega, by omega⟩, hg⟩
    · go_wp2_with (fail)
      go_ret
      exact ⟨⟨_, rfl, by omega, by omega⟩, hg⟩
def spotOk (x y : Int) : Bool := !(decide (x < -10000) || decide (10000 < x)) && !(decide (y < -10000) || decide (10000 < y))
theorem spotOk_yes {x y : Int} (h : spotOk x y = true) : (-10000 ≤ x ∧ x ≤ 10000) ∧ -10000 ≤ y ∧ y ≤ 10000 := by
  simp [spotOk] at h
  omega
set_option maxRecDepth 100000 in
theorem isSpot_val (x y : Int) (w : World) :
    Calls Tryd.prog 39 #[.agg #[.int .i64 x, .int .i64 y]] w fun e w' => e = .returned (.bool (spotOk x y)) ∧ w.grownBy w' none := by
  have hg1 := gr_alloc (gr_refl w none) (.cells #[.int .i64 x, .int .i64 y] 29)
  cases hx : (decide (x < -10000) || decide (10000 < x)) with
  | true =>
    have HB : Hid (spotOk x y = false) := by show _ = _; unfold spotOk; rw [hx]; rfl
    have HX := Lib.hid hx
    clear hx
    go_enter Tryd.func39, Tryd.ntmps39
    go_wp2_with (fail)
    refine (out_any x (-10000) 10000 _).mono ?_
    rintro e w1 ⟨rfl, rfl⟩
    rw [HX.out]
    go_wp2_with (fail)
    go_ret
    exact ⟨ret_bool HB.out.symm, hg1⟩
  | false =>
    have HB : Hid (spotOk x y = !(decide (y < -10000) || decide (10000 < y))) := by show _ = _; unfold spotOk; rw [hx]; rfl
    have HX := Lib.hid hx
    clear hx
    go_enter Tryd.func39, Tryd.ntmps39
    go_wp2_with (fail)
    refine (out_any x (-10000) 10000 _).mono ?_
    rintro e w1 ⟨rfl, rfl⟩
    rw [HX.out]
    go_wp2_with (fail)
    refine (out_any y (-10000) 10000 _).mono ?_
    rintro e w1 ⟨rfl, rfl⟩
    obtain ⟨b, hb⟩ : ∃ b, b = (decide (y < -10000) || decide (10000 < y)) := ⟨_, rfl⟩
    rw [← hb] at HB ⊢
    clear hb
    go_wp2_with (fail)
    go_ret
    exact ⟨ret_bool HB.out.symm, hg1⟩
end Go.Proofs.YtehhmgbgkemidaaDoor

/-! slices.Index and slices.Contains of ints. -/
namespace Go.Proofs.YtehhmgbgkemidaaDoor
open Go.RowKit

def BoolOf (b : Bool) (w : World) (e : Ending) (w' : World) : Prop := e = .returned (.bool b) ∧ w = w'
set_option maxRecDepth 100000 in
/-- slices.Index of ints: the place, or -1. -/
theorem index_gen (a : Option Addr) (L : List Int) (c : Nat) (x : Int) (w : World) (hc : CellsAt w a (ints L)) (hl : L.length ≤ 1000000) :
    Calls Tryd.prog 41 #[.slice a L.length c, .int .i64 x] w fun e w' => e = .returned (.int .i64 (findA (fun y => x == y) L)) ∧ w = w' := by
  go_enter Tryd.func41, Tryd.ntmps41
  go_wp2_with (fail)
  go_loop [8] (fun i => ∃ k : Nat, k ≤ L.length ∧ i = .int .i64 k ∧ (∀ j (hj : j < L.length), j < k → (x == L[j]) = false)) (fun i => L.length - (intOf i).toNat)
  case atStart => exact ⟨0, by omega, rfl, fun j _ hj => by omega⟩
  case round =>
    obtain ⟨k, hk, rfl, hno⟩ := hrel
    have HNO := Lib.hid hno
    clear hno
    by_cases hlt : k < L.length
    · obtain ⟨b2, o2, rfl, dk⟩ := hc k _ (ints_get L k hlt)
      obtain ⟨y, hy⟩ : ∃ y, y = L.getD k 0 := ⟨_, rfl⟩
      rw [← hy] at dk
      have hy2 : L[k] = y := by rw [hy, getD_eq L k 0 hlt]
      have HY := Lib.hid hy2
      clear hy hy2
      by_cases hxy : x = y
      · subst hxy
        go_wp2_with (fail)
        go_ret
        exact ⟨ret_int (findA_at hlt (by rw [HY.out]; simp) (fun j hj => HNO.out j (by omega) hj)).symm, rfl⟩
      · have hb : (x == y) = false := by simpa using hxy
        have HB := Lib.hid hb
        go_wp2_with (fail)
        go_round
        case rel =>
          refine ⟨k + 1, by omega, by go_num, fun j hjl hj => ?_⟩
          by_cases hjk : j = k
          · subst hjk; rw [HY.out]; exact HB.out
          · exact HNO.out j hjl (by omega)
        case measure => simp [intOf]; omega
    · obtain rfl : k = L.length := by omega
      go_wp2_with (fail)
      go_ret
      exact ⟨ret_int (findA_none (fun j hj => HNO.out j hj hj)).symm, rfl⟩
theorem contains_int (a : Option Addr) (L : List Int) (c : Nat) (x : Int) (w : World) (hc : CellsAt w a (ints L)) (hl : L.length ≤ 1000000) :
    Calls Tryd.prog 26 #[.slice a L.length c, .int .i64 x] w (BoolOf (L.any (fun y => x == y)) w) := by
  have HA := Lib.hid (any_findA (fun y => x == y) L)
  go_enter Tryd.func26, Tryd.ntmps26
  go_wp2_with (fail)
  refine (index_gen a L c x w hc hl).mono ?_
  rintro e w1 ⟨rfl, rfl⟩
  go_wp2_with (fail)
  go_ret
  exact ⟨ret_bool (by rw [HA.out]), rfl⟩

end Go.Proofs.YtehhmgbgkemidaaDoor

/-! Checks of weeks and of days of jobs: the program's and the reference's. -/
namespace Go.Proofs.YtehhmgbgkemidaaDoor
open Go.RowKit

def badJob (n : Int) : Bool := decide (n < 0) || decide (10000 < n)
def badWeek (D : Int) (J : List Int) : Int := if D < 1 ∨ 7 < D then 1 else if 60 < J.length then 2 else if J.any badJob then 1 else 0
theorem badWeek_ok {D : Int} {J : List Int} (h : badWeek D J = 0) : 1 ≤ D ∧ D ≤ 7 ∧ J.length ≤ 60 ∧ JobsOk J := by
  unfold badWeek at h
  by_cases h1 : D < 1 ∨ 7 < D
  · rw [if_pos h1] at h; omega
  · rw [if_neg h1] at h
    by_cases h2 : 60 < J.length
    · rw [if_pos h2] at h; omega
    · rw [if_neg h2] at h
      by_cases h3 : J.any badJob = true
      · rw [if_pos h3] at h; omega
      · refine ⟨by omega, by omega, by omega, fun x hx => ?_⟩
        have h4 := List.any_eq_false.1 (by simpa using h3) x hx
        simp only [badJob, Bool.or_eq_true, decide_eq_true_eq] at h4
        omega
theorem jobs_good {J : List Int} (h : JobsOk J) : J.any badJob = false := by
  rw [List.any_eq_false]
  intro x hx
  have := h x hx
  simp only [badJob, Bool.or_eq_true, decide_eq_true_eq]
  omega
theorem badWeek_zero {D : Int} {J : List Int} (h1 : 1 ≤ D) (h2 : D ≤ 7) (h3 : J.length ≤ 60) (h4 : JobsOk J) : badWeek D J = 0 := by
  unfold badWeek
  rw [if_neg (by omega), if_neg (by omega), jobs_good h4]; rfl
def badDay (D : Int) (n : Int) : Bool := decide (n < 0) || decide (D ≤ n)
theorem days_good {D n : Nat} {Q : List Int} (h : DaysOk D n Q) : Q.any (badDay D) = false := by
  rw [List.any_eq_false]
  intro x hx
  have := h.rng x hx
  simp only [badDay, Bool.or_eq_true, decide_eq_true_eq]
  omega
theorem days_of {D n : Nat} {Q : List Int} (hl : Q.length = n) (h : Q.any (badDay D) = false) : DaysOk D n Q := by
  refine ⟨hl, fun x hx => ?_⟩
  have h4 := List.any_eq_false.1 h x hx
  simp only [badDay, Bool.or_eq_true, decide_eq_true_eq] at h4
  omega

/-! ### Days -/
def badDays (D : Int) (J Q : List Int) : Int := if Q.length ≠ J.length then 3 else if Q.any (badDay D) then 1 else 0
theorem badDays_zero {D n : Nat} {J Q : List Int} (hn : J.length = n) (h : DaysOk D n Q) : badDays D J Q = 0 := by
  unfold badDays
  rw [if_neg (by rw [h.len, hn]; exact fun h => h rfl), days_good h]; rfl
theorem badDays_ok {D n : Nat} {J Q : List Int} (hn : J.length = n) (h : badDays D J Q = 0) : DaysOk D n Q := by
  unfold badDays at h
  by_cases h1 : Q.length = J.length
  · rw [if_neg (fun h2 => h2 h1)] at h
    cases h3 : Q.any (badDay D) with
    | true => rw [h3] at h; simp at h
    | false => exact days_of (by omega) h3
  · rw [if_pos h1] at h; omega

end Go.Proofs.YtehhmgbgkemidaaDoor
