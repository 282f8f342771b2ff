/- The loads of days of jobs, as the program adds them up; the least and the greatest of a row; squares. -/
import Derived.Test.YtehhmgbgkemidaaDoorPkSAk
import Derived.Test.YtehhmgbgkemidaaDoorPkSAc
import Derived.Deep.OwnRows
import Derived.Deep.CutRange
import Derived.Test.YtehhmgbgkemidaaDoorPkSAf
namespace Go.Proofs.YtehhmgbgkemidaaDoor
open Go.RowKit

def LoadsPost (J Q : List Int) (D n : Nat) (w : World) (e : Ending) (w' : World) : Prop := ∃ g, e = .returned (.slice (some ⟨g, 0, none⟩) D D) ∧ w'.ownsRow w.heap.size 3 1 (.slice (some ⟨g, 0, none⟩) D D) D (ints (ldL J Q D n)) ∧ w.grownBy w' none
end Go.Proofs.YtehhmgbgkemidaaDoor

/-! The least and the greatest of a row, where a number lies in it, squares; round.Loads; that the package rounds. -/
namespace Go.Proofs.YtehhmgbgkemidaaDoor
open Go.RowKit

theorem take_nextD (L : List Int) (k : Nat) (h : k < L.length) : L.take (k + 1) = L.take k ++ [L.getD k 0] := by
  rw [List.take_succ_eq_append_getElem h, List.getD_eq_getElem?_getD, List.getElem?_eq_getElem h]; rfl
theorem top_next {L : List Int} {M : Int} (h : IsTop L M) (x : Int) : IsTop (L ++ [x]) (if M < x then x else M) := by
  refine ⟨by split <;> simp [h.1], fun y hy => ?_⟩
  rcases List.mem_append.1 hy with hy | hy
  · have := h.2 y hy; split <;> omega
  · simp only [List.mem_singleton] at hy; subst hy; split <;> omega
def IsBot (L : List Int) (m : Int) : Prop := m ∈ L ∧ ∀ x ∈ L, m ≤ x
theorem bot_next {L : List Int} {M : Int} (h : IsBot L M) (x : Int) : IsBot (L ++ [x]) (if x < M then x else M) := by
  refine ⟨by split <;> simp [h.1], fun y hy => ?_⟩
  rcases List.mem_append.1 hy with hy | hy
  · have := h.2 y hy; split <;> omega
  · simp only [List.mem_singleton] at hy; subst hy; split <;> omega

set_option maxRecDepth 100000 in
theorem index_any (a : Option Addr) (L : List Int) (n c : Nat) (x : Int) (w : World) (hc : CellsAt w a (ints L)) (hn : L.length = n) (hx : x ∈ L) (hl : n ≤ 1000000) :
    Calls Tryd.prog 41 #[.slice a n c, .int .i64 x] w fun e w' => (∃ i : Nat, e = .returned (.int .i64 i) ∧ i < n ∧ L.getD i 0 = x) ∧ w = w' := by
  have HN := Lib.hid hn
  have HX := Lib.hid hx
  clear hn hx
  go_enter Tryd.func41, Tryd.ntmps41
  go_wp2_with (fail)
  go_loop [8] (fun i => ∃ k : Nat, k ≤ n ∧ i = .int .i64 k ∧ (∀ j, j < k → L.getD j 0 ≠ x)) (fun i => n - (intOf i).toNat)
  case atStart => exact ⟨0, by omega, rfl, fun j hj => by omega⟩
  case round =>
    obtain ⟨k, hk, rfl, hno⟩ := hrel
    have HNO := Lib.hid hno
    clear hno
    by_cases hlt : k < n
    · obtain ⟨b2, o2, rfl, dk⟩ := hc k _ (ints_get L k (by rw [HN.out]; exact hlt))
      obtain ⟨y, hy⟩ : ∃ y, y = L.getD k 0 := ⟨_, rfl⟩
      rw [← hy] at dk
      have HY := Lib.hid hy
      clear hy
      by_cases hxy : x = y
      · subst hxy
        go_wp2_with (fail)
        go_ret
        exact ⟨⟨k, rfl, hlt, HY.out.symm⟩, rfl⟩
      · have hb : (x == y) = false := by simpa using hxy
        go_wp2_with (fail)
        go_round
        case rel =>
          refine ⟨k + 1, by omega, by go_num, fun j hj => ?_⟩
          by_cases hjk : j = k
          · subst hjk; rw [← HY.out]; exact fun e => hxy e.symm
          · exact HNO.out j (by omega)
        case measure => simp [intOf]; omega
    · exfalso
      obtain ⟨i, hi, hix⟩ := mem_get HX.out 0
      exact HNO.out i (by rw [HN.out] at hi; omega) hix

theorem sq_next (L : List Int) (k : Nat) (h : k < L.length) : sq (L.take (k + 1)) = sq (L.take k) + L.getD k 0 * L.getD k 0 := by
  rw [take_nextD L k h]; simp [sq]
theorem sq_bound (L : List Int) (h : ∀ x ∈ L, 0 ≤ x ∧ x ≤ 1000000) (k : Nat) : 0 ≤ sq (L.take k) ∧ sq (L.take k) ≤ 1000000000000 * k := by
  induction k with
  | zero => simp [sq]
  | succ k ih =>
    by_cases hk : k < L.length
    · rw [sq_next L k hk]
      have hb := h _ (get_mem L k 0 hk)
      obtain ⟨x, hx⟩ : ∃ x, x = L.getD k 0 := ⟨_, rfl⟩
      rw [← hx] at hb ⊢
      have h1 : 0 ≤ x * x := Int.mul_nonneg hb.1 hb.1
      have h2 : x * x ≤ 1000000 * 1000000 := Int.mul_le_mul hb.2 hb.2 hb.1 (by omega)
      omega
    · rw [List.take_of_length_le (by omega)]
      rw [List.take_of_length_le (by omega)] at ih
      omega
end Go.Proofs.YtehhmgbgkemidaaDoor
