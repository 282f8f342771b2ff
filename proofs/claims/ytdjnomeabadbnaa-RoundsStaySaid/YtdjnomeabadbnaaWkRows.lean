/- The least and the greatest of a row, where a number lies in it, squares; round.Loads; that the package rounds. -/
import Derived.Test.YtdjnomeabadbnaaWkLoads
import Derived.Test.YtdjnomeabadbnaaSum
namespace Go.Proofs.Ytdjnomeabadbnaa
open Go.RowKit

theorem take_nextD (L : List Int) (k : Nat) (h : k < L.length) : L.take (k + 1) = L.take k ++ [L.getD k 0] := by
  rw [List.take_succ_eq_append_getElem h, List.getD_eq_getElem?_getD, List.getElem?_eq_getElem h]; rfl
theorem top_next {L : List Int} {M : Int} (h : IsTop L M) (x : Int) : IsTop (L ++ [x]) (if M < x then x else M) := by
  refine ⟨by split <;> simp [h.1], fun y hy => ?_⟩
  rcases List.mem_append.1 hy with hy | hy
  · have := h.2 y hy; split <;> omega
  · simp only [List.mem_singleton] at hy; subst hy; split <;> omega
def IsBot (L : List Int) (m : Int) : Prop := m ∈ L ∧ ∀ x ∈ L, m ≤ x
theorem bot_next {L : List Int} {M : Int} (h : IsBot L M) (x : Int) : IsBot (L ++ [x]) (if x < M then x else M) := by
  refine ⟨by split <;> simp [h.1], fun y hy => ?_⟩
  rcases List.mem_append.1 hy with hy | hy
  · have := h.2 y hy; split <;> omega
  · simp only [List.mem_singleton] at hy; subst hy; split <;> omega

set_option maxRecDepth 100000 in
theorem min_any (a : Option Addr) (L : List Int) (n c : Nat) (w : World) (hc : CellsAt w a (ints L)) (hn : L.length = n) (h0 : 0 < n) (hl : n ≤ 1000000) :
    Calls Try.prog 45 #[.slice a n c] w fun e w' => (∃ M, e = .returned (.int .i64 M) ∧ IsBot L M) ∧ w = w' := by
  obtain ⟨b, o, rfl, d0⟩ := hc 0 _ (ints_get L 0 (by omega))
  have hst : IsBot (L.take 1) (L.getD 0 0) := by
    rw [take_nextD L 0 (by omega)]; exact ⟨by simp, fun x hx => by simp at hx; simp [hx]⟩
  obtain ⟨x0, hx0⟩ : ∃ x0, x0 = L.getD 0 0 := ⟨_, rfl⟩
  rw [← hx0] at d0 hst
  rw [Nat.add_zero] at d0
  have HN := Lib.hid hn
  clear hn hx0
  go_enter Try.func45, Try.ntmps45
  go_wp2_with (fail)
  go_loop [3, 4] (fun m i => ∃ (k : Nat) (M : Int), 1 ≤ k ∧ k ≤ n ∧ i = .int .i64 k ∧ m = .int .i64 M ∧ IsBot (L.take k) M) (fun _ i => n - (intOf i).toNat)
  case atStart => exact ⟨1, x0, by omega, by omega, rfl, rfl, hst⟩
  case round =>
    obtain ⟨k, M, hk1, hk, rfl, rfl, htop⟩ := hrel
    have HT := Lib.hid htop
    clear htop
    by_cases hlt : k < n
    · obtain ⟨b2, o2, he, dk⟩ := hc k _ (ints_get L k (by rw [HN.out]; exact hlt))
      cases he
      have htn := bot_next HT.out (L.getD k 0)
      rw [← take_nextD L k (by rw [HN.out]; exact hlt)] at htn
      obtain ⟨x, hx⟩ : ∃ x, x = L.getD k 0 := ⟨_, rfl⟩
      rw [← hx] at dk htn
      have HTN := Lib.hid htn
      clear hx htn
      by_cases hMx : x < M
      · have HTN2 : Hid (IsBot (L.take (k + 1)) x) := by have := HTN.out; rwa [if_pos hMx] at this
        have hMx2 : ¬ M ≤ x := by omega
        have hMx3 : ¬ M < x := by omega
        go_wp2_with (fail)
        go_round
        case rel => exact ⟨k + 1, x, by omega, by omega, by go_num, rfl, HTN2.out⟩
        case measure => simp [intOf]; omega
      · have HTN2 : Hid (IsBot (L.take (k + 1)) M) := by have := HTN.out; rwa [if_neg hMx] at this
        go_wp2_with (fail)
        all_goals go_round
        all_goals first | (simp [intOf]; omega) | skip
        all_goals first
          | exact ⟨k + 1, M, by omega, by omega, by go_num, rfl, HTN2.out⟩
          | exact ⟨k + 1, M, by omega, by omega, by go_num, by congr 1; omega, HTN2.out⟩
    · obtain rfl : k = n := by omega
      go_wp2_with (fail)
      go_ret
      exact ⟨⟨M, rfl, by have := HT.out; rwa [List.take_of_length_le (by rw [HN.out]; exact Nat.le_refl _)] at this⟩, rfl⟩

set_option maxRecDepth 100000 in
theorem index_any (a : Option Addr) (L : List Int) (n c : Nat) (x : Int) (w : World) (hc : CellsAt w a (ints L)) (hn : L.length = n) (hx : x ∈ L) (hl : n ≤ 1000000) :
    Calls Try.prog 44 #[.slice a n c, .int .i64 x] w fun e w' => (∃ i : Nat, e = .returned (.int .i64 i) ∧ i < n ∧ L.getD i 0 = x) ∧ w = w' := by
  have HN := Lib.hid hn
  have HX := Lib.hid hx
  clear hn hx
  go_enter Try.func44, Try.ntmps44
  go_wp2_with (fail)
  go_loop [8] (fun i => ∃ k : Nat, k ≤ n ∧ i = .int .i64 k ∧ (∀ j, j < k → L.getD j 0 ≠ x)) (fun i => n - (intOf i).toNat)
  case atStart => exact ⟨0, by omega, rfl, fun j hj => by omega⟩
  case round =>
    obtain ⟨k, hk, rfl, hno⟩ := hrel
    have HNO := Lib.hid hno
    clear hno
    by_cases hlt : k < n
    · obtain ⟨b2, o2, rfl, dk⟩ := hc k _ (ints_get L k (by rw [HN.out]; exact hlt))
      obtain ⟨y, hy⟩ : ∃ y, y = L.getD k 0 := ⟨_, rfl⟩
      rw [← hy] at dk
      have HY := Lib.hid hy
      clear hy
      by_cases hxy : x = y
      · subst hxy
        go_wp2_with (fail)
        go_ret
        exact ⟨⟨k, rfl, hlt, HY.out.symm⟩, rfl⟩
      · have hb : (x == y) = false := by simpa using hxy
        go_wp2_with (fail)
        go_round
        case rel =>
          refine ⟨k + 1, by omega, by go_num, fun j hj => ?_⟩
          by_cases hjk : j = k
          · subst hjk; rw [← HY.out]; exact fun e => hxy e.symm
          · exact HNO.out j (by omega)
        case measure => simp [intOf]; omega
    · exfalso
      obtain ⟨i, hi, hix⟩ := mem_get HX.out 0
      exact HNO.out i (by rw [HN.out] at hi; omega) hix

theorem sq_next (L : List Int) (k : Nat) (h : k < L.length) : sq (L.take (k + 1)) = sq (L.take k) + L.getD k 0 * L.getD k 0 := by
  rw [take_nextD L k h]; simp [sq]
theorem sq_bound (L : List Int) (h : ∀ x ∈ L, 0 ≤ x ∧ x ≤ 1000000) (k : Nat) : 0 ≤ sq (L.take k) ∧ sq (L.take k) ≤ 1000000000000 * k := by
  induction k with
  | zero => simp [sq]
  | succ k ih =>
    by_cases hk : k < L.length
    · rw [sq_next L k hk]
      have hb := h _ (get_mem L k 0 hk)
      obtain ⟨x, hx⟩ : ∃ x, x = L.getD k 0 := ⟨_, rfl⟩
      rw [← hx] at hb ⊢
      have h1 : 0 ≤ x * x := Int.mul_nonneg hb.1 hb.1
      have h2 : x * x ≤ 1000000 * 1000000 := Int.mul_le_mul hb.2 hb.2 hb.1 (by omega)
      omega
    · rw [List.take_of_length_le (by omega)]
      rw [List.take_of_length_le (by omega)] at ih
      omega
end Go.Proofs.Ytdjnomeabadbnaa
