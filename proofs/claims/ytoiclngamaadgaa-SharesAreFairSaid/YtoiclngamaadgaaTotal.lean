/- A row's total. -/
import Derived.Test.YtoiclngamaadgaaMakeInts
import Derived.Test.YtoiclngamaadgaaSum
import Derived.Test.YtoiclngamaadgaaFlat
namespace Go.Proofs.Ytoiclngamaadgaa
open Go.RowKit

set_option maxRecDepth 100000 in
set_option maxHeartbeats 4000000 in
theorem total_any (L : List Int) (a : Option Addr) (c : Nat) (w : World) (h : ∀ i, (hi : i < L.length) → ∃ b o, a = some ⟨b, o, none⟩ ∧ w.cell? ⟨b, o + i, none⟩ = some (.int .i64 L[i])) (hb : ∀ x ∈ L, -2000000000 ≤ x ∧ x ≤ 2000000000) (hl : L.length ≤ 1000) :
    Calls Try.prog 11 #[.slice a L.length c] w fun e w' => e = .returned (.int .i64 L.sum) ∧ w' = w := by
  have hS : Hid (∀ k : Nat, k ≤ 1000 → -2000000000 * 1000 ≤ (L.take k).sum ∧ (L.take k).sum ≤ 2000000000 * 1000) := fun k hk => by
    have := sum_bound L (-2000000000) 2000000000 (by decide) (by decide) hb k
    omega
  have H := Lib.hid h
  clear h
  go_enter Try.func11, Try.ntmps11
  go_wp2_with (fail)
  go_loop [3, 8] (fun n i => ∃ k : Nat, k ≤ L.length ∧ i = .int .i64 k ∧ n = .int .i64 (L.take k).sum) (fun _ i => L.length - (intOf i).toNat)
  case atStart => exact ⟨0, Nat.zero_le _, rfl, by simp⟩
  case round =>
    obtain ⟨k, hk, rfl, rfl⟩ := hrel
    by_cases hlt : k < L.length
    · obtain ⟨b, o, rfl, d0⟩ := H.out k hlt
      have NX := Lib.hid (sum_next L k hlt)
      rw [getD_eq _ _ _ hlt] at NX
      have h1 := hS.out k (by omega)
      have h2 := hb L[k] (List.getElem_mem _)
      obtain ⟨x, hx⟩ : ∃ x, x = L[k] := ⟨_, rfl⟩
      rw [← hx] at d0 h2 NX
      obtain ⟨S, hSs⟩ : ∃ S, S = (L.take k).sum := ⟨_, rfl⟩
      rw [← hSs] at h1 NX
      rw [← hSs]
      clear hx hSs
      go_wp2_with (fail)
      go_round
      case rel => exact ⟨k + 1, by omega, by go_num, by rw [NX.out]⟩
      case measure => simp [intOf]; omega
    · obtain rfl : k = L.length := by omega
      go_wp2_with (fail)
      go_ret
      exact ⟨rfl, rfl⟩
end Go.Proofs.Ytoiclngamaadgaa
