/- The least and the greatest of a row, where a number lies in it, squares; round.Loads; that the package rounds. -/
import Derived.Test.YtbgfflbddflokaaWkLoads
import Derived.Test.YtbgfflbddflokaaSum
namespace Go.Proofs.Ytbgfflbddflokaa
open Go.RowKit

theorem take_nextD (L : List Int) (k : Nat) (h : k < L.length) : L.take (k + 1) = L.take k ++ [L.getD k 0] := by
  rw [List.take_succ_eq_append_getElem h, List.getD_eq_getElem?_getD, List.getElem?_eq_getElem h]; rfl
theorem top_next {L : List Int} {M : Int} (h : IsTop L M) (x : Int) : IsTop (L ++ [x]) (if M < x then x else M) := by
  refine ⟨by split <;> simp [h.1], fun y hy => ?_⟩
  rcases List.mem_append.1 hy with hy | hy
  · have := h.2 y hy; split <;> omega
  · simp only [List.mem_singleton] at hy; subst hy; split <;> omega
def IsBot (L : List Int) (m : Int) : Prop := m ∈ L ∧ ∀ x ∈ L, m ≤ x
theorem bot_next {L : List Int} {M : Int} (h : IsBot L M) (x : Int) : IsBot (L ++ [x]) (if x < M then x else M) := by
  refine ⟨by split <;> simp [h.1], fun y hy => ?_⟩
  rcases List.mem_append.1 hy with hy | hy
  · have := h.2 y hy; split <;> omega
  · simp only [List.mem_singleton] at hy; subst hy; split <;> omega

set_option maxRecDepth 100000 in
theorem max_any (a : Option Addr) (L : List Int) (n c : Nat) (w : World) (hc : CellsAt w a (ints L)) (hn : L.length = n) (h0 : 0 < n) (hl : n ≤ 1000000) :
    Calls Try.prog 49 #[.slice a n c] w fun e w' => (∃ M, e = .returned (.int .i64 M) ∧ IsTop L M) ∧ w = w' := by
  obtain ⟨b, o, rfl, d0⟩ := hc 0 _ (ints_get L 0 (by omega))
  have hst : IsTop (L.take 1) (L.getD 0 0) := by
    rw [take_nextD L 0 (by omega)]; exact ⟨by simp, fun x hx => by simp at hx; simp [hx]⟩
  obtain ⟨x0, hx0⟩ : ∃ x0, x0 = L.getD 0 0 := ⟨_, rfl⟩
  rw [← hx0] at d0 hst
  rw [Nat.add_zero] at d0
  have HN := Lib.hid hn
  clear hn hx0
  go_enter Try.func49, Try.ntmps49
  go_wp2_with (fail)
  go_loop [3, 4] (fun m i => ∃ (k : Nat) (M : Int), 1 ≤ k ∧ k ≤ n ∧ i = .int .i64 k ∧ m = .int .i64 M ∧ IsTop (L.take k) M) (fun _ i => n - (intOf i).toNat)
  case atStart => exact ⟨1, x0, by omega, by omega, rfl, rfl, hst⟩
  case round =>
    obtain ⟨k, M, hk1, hk, rfl, rfl, htop⟩ := hrel
    have HT := Lib.hid htop
    clear htop
    by_cases hlt : k < n
    · obtain ⟨b2, o2, he, dk⟩ := hc k _ (ints_get L k (by rw [HN.out]; exact hlt))
      cases he
      have htn := top_next HT.out (L.getD k 0)
      rw [← take_nextD L k (by rw [HN.out]; exact hlt)] at htn
      obtain ⟨x, hx⟩ : ∃ x, x = L.getD k 0 := ⟨_, rfl⟩
      rw [← hx] at dk htn
      have HTN := Lib.hid htn
      clear hx htn
      by_cases hMx : M < x
      · have HTN2 : Hid (IsTop (L.take (k + 1)) x) := by have := HTN.out; rwa [if_pos hMx] at this
        go_wp2_with (fail)
        go_round
        case rel => exact ⟨k + 1, x, by omega, by omega, by go_num, rfl, HTN2.out⟩
        case measure => simp [intOf]; omega
      · have HTN2 : Hid (IsTop (L.take (k + 1)) M) := by have := HTN.out; rwa [if_neg hMx] at this
        go_wp2_with (fail)
        go_round
        case rel => exact ⟨k + 1, M, by omega, by omega, by go_num, rfl, HTN2.out⟩
        case measure => simp [intOf]; omega
    · obtain rfl : k = n := by omega
      go_wp2_with (fail)
      go_ret
      exact ⟨⟨M, rfl, by have := HT.out; rwa [List.take_of_length_le (by rw [HN.out]; exact Nat.le_refl _)] at this⟩, rfl⟩

set_option maxRecDepth 100000 in
theorem min_any (a : Option Addr) (L : List Int) (n c : Nat) (w : World) (hc : CellsAt w a (ints L)) (hn : L.length = n) (h0 : 0 < n) (hl : n ≤ 1000000) :
    Calls Try.prog 103 #[.slice a n c] w fun e w' => (∃ M, e = .returned (.int .i64 M) ∧ IsBot L M) ∧ w = w' := by
  obtain ⟨b, o, rfl, d0⟩ := hc 0 _ (ints_get L 0 (by omega))
  have hst : IsBot (L.take 1) (L.getD 0 0) := by
    rw [take_nextD L 0 (by omega)]; exact ⟨by simp, fun x hx => by simp at hx; simp [hx]⟩
  obtain ⟨x0, hx0⟩ : ∃ x0, x0 = L.getD 0 0 := ⟨_, rfl⟩
  rw [← hx0] at d0 hst
  rw [Nat.add_zero] at d0
  have HN := Lib.hid hn
  clear hn hx0
  go_enter Try.func103, Try.ntmps103
  go_wp2_with (fail)
  go_loop [3, 4] (fun m i => ∃ (k : Nat) (M : Int), 1 ≤ k ∧ k ≤ n ∧ i = .int .i64 k ∧ m = .int .i64 M ∧ IsBot (L.take k) M) (fun _ i => n - (intOf i).toNat)
  case atStart => exact ⟨1, x0, by omega, by omega, rfl, rfl, hst⟩
  case round =>
    obtain ⟨k, M, hk1, hk, rfl, rfl, htop⟩ := hrel
    have HT := Lib.hid htop
    clear htop
    by_cases hlt : k < n
    · obtain ⟨b2, o2, he, dk⟩ := hc k _ (ints_get L k (by rw [HN.out]; exact hlt))
      cases he
      have htn := bot_next HT.out (L.getD k 0)
      rw [← take_nextD L k (by rw [HN.out]; exact hlt)] at htn
      obtain ⟨x, hx⟩ : ∃ x, x = L.getD k 0 := ⟨_, rfl⟩
      rw [← hx] at dk htn
      have HTN := Lib.hid htn
      clear hx htn
      by_cases hMx : x < M
      · have HTN2 : Hid (IsBot (L.take (k + 1)) x) := by have := HTN.out; rwa [if_pos hMx] at this
        have hMx2 : ¬ M ≤ x := by omega
        have hMx3 : ¬ M < x := by omega
        go_wp2_with (fail)
        go_round
        case rel => exact ⟨k + 1, x, by omega, by omega, by go_num, rfl, HTN2.out⟩
        case measure => simp [intOf]; omega
      · have HTN2 : Hid (IsBot (L.take (k + 1)) M) := by have := HTN.out; rwa [if_neg hMx] at this
        go_wp2_with (fail)
        all_goals go_round
        all_goals first | (simp [intOf]; omega) | skip
        all_goals first
          | exact ⟨k + 1, M, by omega, by omega, by go_num, rfl, HTN2.out⟩
          | exact ⟨k + 1, M, by omega, by omega, by go_num, by congr 1; omega, HTN2.out⟩
    · obtain rfl : k = n := by omega
      go_wp2_with (fail)
      go_ret
      exact ⟨⟨M, rfl, by have := HT.out; rwa [List.take_of_length_le (by rw [HN.out]; exact Nat.le_refl _)] at this⟩, rfl⟩

set_option maxRecDepth 100000 in
theorem index_any (a : Option Addr) (L : List Int) (n c : Nat) (x : Int) (w : World) (hc : CellsAt w a (ints L)) (hn : L.length = n) (hx : x ∈ L) (hl : n ≤ 1000000) :
    Calls Try.prog 102 #[.slice a n c, .int .i64 x] w fun e w' => (∃ i : Nat, e = .returned (.int .i64 i) ∧ i < n ∧ L.getD i 0 = x) ∧ w = w' := by
  have HN := Lib.hid hn
  have HX := Lib.hid hx
  clear hn hx
  go_enter Try.func102, Try.ntmps102
  go_wp2_with (fail)
  go_loop [8] (fun i => ∃ k : Nat, k ≤ n ∧ i = .int .i64 k ∧ (∀ j, j < k → L.getD j 0 ≠ x)) (fun i => n - (intOf i).toNat)
  case atStart => exact ⟨0, by omega, rfl, fun j hj => by omega⟩
  case round =>
    obtain ⟨k, hk, rfl, hno⟩ := hrel
    have HNO := Lib.hid hno
    clear hno
    by_cases hlt : k < n
    · obtain ⟨b2, o2, rfl, dk⟩ := hc k _ (ints_get L k (by rw [HN.out]; exact hlt))
      obtain ⟨y, hy⟩ : ∃ y, y = L.getD k 0 := ⟨_, rfl⟩
      rw [← hy] at dk
      have HY := Lib.hid hy
      clear hy
      by_cases hxy : x = y
      · subst hxy
        go_wp2_with (fail)
        go_ret
        exact ⟨⟨k, rfl, hlt, HY.out.symm⟩, rfl⟩
      · have hb : (x == y) = false := by simpa using hxy
        go_wp2_with (fail)
        go_round
        case rel =>
          refine ⟨k + 1, by omega, by go_num, fun j hj => ?_⟩
          by_cases hjk : j = k
          · subst hjk; rw [← HY.out]; exact fun e => hxy e.symm
          · exact HNO.out j (by omega)
        case measure => simp [intOf]; omega
    · exfalso
      obtain ⟨i, hi, hix⟩ := mem_get HX.out 0
      exact HNO.out i (by rw [HN.out] at hi; omega) hix

theorem sq_next (L : List Int) (k : Nat) (h : k < L.length) : sq (L.take (k + 1)) = sq (L.take k) + L.getD k 0 * L.getD k 0 := by
  rw [take_nextD L k h]; simp [sq]
theorem sq_bound (L : List Int) (h : ∀ x ∈ L, 0 ≤ x ∧ x ≤ 1000000) (k : Nat) : 0 ≤ sq (L.take k) ∧ sq (L.take k) ≤ 1000000000000 * k := by
  induction k with
  | zero => simp [sq]
  | succ k ih =>
    by_cases hk : k < L.length
    · rw [sq_next L k hk]
      have hb := h _ (get_mem L k 0 hk)
      obtain ⟨x, hx⟩ : ∃ x, x = L.getD k 0 := ⟨_, rfl⟩
      rw [← hx] at hb ⊢
      have h1 : 0 ≤ x * x := Int.mul_nonneg hb.1 hb.1
      have h2 : x * x ≤ 1000000 * 1000000 := Int.mul_le_mul hb.2 hb.2 hb.1 (by omega)
      omega
    · rw [List.take_of_length_le (by omega)]
      rw [List.take_of_length_le (by omega)] at ih
      omega
set_option maxRecDepth 100000 in
theorem squares_any (a : Option Addr) (L : List Int) (n c : Nat) (w : World) (hc : CellsAt w a (ints L)) (hn : L.length = n) (hl : n ≤ 1000) (hb : ∀ x ∈ L, 0 ≤ x ∧ x ≤ 1000000) :
    Calls Try.prog 50 #[.slice a n c] w fun e w' => e = .returned (.int .i64 (sq L)) ∧ w = w' := by
  have HN := Lib.hid hn
  have hB := sq_bound L hb
  have hlast : L.take n = L := List.take_of_length_le (by omega)
  have HLAST := Lib.hid hlast
  have HNX := Lib.hid (sq_next L)
  have HB := Lib.hid hB
  have HBB := Lib.hid hb
  clear hn hlast hB hb
  go_enter Try.func50, Try.ntmps50
  go_wp2_with (fail)
  go_loop [3, 8] (fun s i => ∃ k : Nat, k ≤ n ∧ i = .int .i64 k ∧ s = .int .i64 (sq (L.take k))) (fun _ i => n - (intOf i).toNat)
  case atStart => exact ⟨0, by omega, rfl, rfl⟩
  case round =>
    obtain ⟨k, hk, rfl, rfl⟩ := hrel
    by_cases hlt : k < n
    · obtain ⟨b2, o2, rfl, dk⟩ := hc k _ (ints_get L k (by rw [HN.out]; exact hlt))
      have h1 := HB.out k
      have h2 := HBB.out _ (get_mem L k 0 (by rw [HN.out]; exact hlt))
      have hnx := HNX.out k (by rw [HN.out]; exact hlt)
      obtain ⟨x, hx⟩ : ∃ x, x = L.getD k 0 := ⟨_, rfl⟩
      obtain ⟨s, hs⟩ : ∃ s, s = sq (L.take k) := ⟨_, rfl⟩
      rw [← hx] at dk h2 hnx
      rw [← hs] at h1 hnx
      rw [← hs]
      have h3 : 0 ≤ x * x := Int.mul_nonneg h2.1 h2.1
      have h4 : x * x ≤ 1000000 * 1000000 := Int.mul_le_mul h2.2 h2.2 h2.1 (by omega)
      have HX := Lib.hid hnx
      clear hx hs hnx
      go_wp2_with (fail)
      go_round
      case rel => exact ⟨k + 1, by omega, by go_num, by rw [HX.out]⟩
      case measure => simp [intOf]; omega
    · obtain rfl : k = n := by omega
      go_wp2_with (fail)
      go_ret
      exact ⟨ret_int (by rw [HLAST.out]), rfl⟩

set_option maxRecDepth 100000 in
theorem loads_any (n D : Nat) (ja : Option Addr) (J : List Int) (jc : Nat) (qa : Option Addr) (Q : List Int) (qc : Nat) (w : World) (hj : CellsAt w ja (ints J)) (hq : CellsAt w qa (ints Q)) (hn : J.length = n) (hl : n ≤ 60) (hJ : JobsOk J) (hQ : DaysOk D n Q) (h1 : 1 ≤ D) (h2 : D ≤ 7) :
    Calls Try.prog 47 #[.agg #[.slice ja n jc, .int .i64 D], .slice qa n qc] w fun e w' => ∃ g, e = .returned (.tuple #[.slice (some ⟨g, 0, none⟩) D D, .int .i64 0]) ∧ w'.ownsRow w.heap.size 3 1 (.slice (some ⟨g, 0, none⟩) D D) D (ints (ldL J Q D n)) ∧ w.grownBy w' none := by
  obtain ⟨w1, hw1⟩ : ∃ w1, w1 = w.alloc (.cells #[.slice ja n jc, .int .i64 D] 79) := ⟨_, rfl⟩
  have hg1 : w.grownBy w1 none := by rw [hw1]; exact gr_alloc (gr_refl w none) _
  have hP1 : w1.heap[w.heap.size]? = some (.cells #[.slice ja n jc, .int .i64 D] 79 (0, 0)) := by rw [hw1]; exact heap_alloc_new w _
  obtain ⟨b0, b1, _, _⟩ := blk2 hP1
  have hP := lt_of_block hP1
  have hbz := badDays_zero hn hQ
  have DF := Lib.hid (daysFault_n n n ja J jc D qa Q qc w1 hn hQ.len (hj.keep0 hg1) (hq.keep0 hg1) (by rw [hQ.len]; omega) (by omega) (by omega) (by omega) hJ)
  rw [hbz] at DF
  have HN := Lib.hid hn
  clear hP1 hbz hn
  go_enter Try.func47, Try.ntmps47
  go_wp2_with (fail)
  rw [← hw1]
  clear hw1
  refine DF.out.mono ?_
  rintro e w2 ⟨rfl, hg2⟩
  have c0 := (gr_cell hg2 hP).trans b0
  have c1 := (gr_cell hg2 hP).trans b1
  have hg2' := gr_trans hg1 hg2
  go_wp2_with (fail)
  refine (loads0_any n D ja J jc qa Q qc w2 (hj.keep0 hg2') (hq.keep0 hg2') HN.out hl hJ hQ h1 h2).mono ?_
  rintro e w3 ⟨g, rfl, hown, hg3⟩
  go_wp2_with (fail)
  go_ret2
  exact ⟨g, rfl, own_base hown hg2'.size, gr_trans hg2' hg3⟩
end Go.Proofs.Ytbgfflbddflokaa
