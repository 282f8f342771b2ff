/- worth and total of package coilkeep: they leave the world alone. -/
import Derived.Test.YtbgfflbddflokaaTotals
import Derived.Test.YtbgfflbddflokaaVend2
namespace Go.Proofs.Ytbgfflbddflokaa
open Go.RowKit

set_option maxRecDepth 100000 in
theorem keepTotal_same (xs : List Int) (a : Option Addr) (c : Nat) (w : World) (hc : CellsAt w a (ints xs)) (hl : xs.length ≤ 1000000) (hb : ∀ x ∈ xs, -1000000000000 ≤ x ∧ x ≤ 1000000000000) :
    Calls Try.prog 17 #[.slice a xs.length c] w fun e w' => e = .returned (.int .i64 xs.sum) ∧ w' = w := by
  have HB := Lib.hid (sum_bound xs (-1000000000000) 1000000000000 (by omega) (by omega) hb); clear hb
  go_enter Try.func17, Try.ntmps17
  go_wp2_with (fail)
  go_loop [3, 8] (fun s i => ∃ k : Nat, k ≤ xs.length ∧ i = .int .i64 k ∧ s = .int .i64 (xs.take k).sum) (fun _ i => xs.length - (intOf i).toNat)
  case atStart => exact ⟨0, Nat.zero_le _, rfl, rfl⟩
  case round =>
    obtain ⟨k, hk, rfl, rfl⟩ := hrel
    by_cases hlt : k < xs.length
    · obtain ⟨b, off, rfl, d0⟩ := hc k _ (ints_get xs k hlt)
      obtain ⟨b0, b1⟩ := HB.out k
      obtain ⟨b2, b3⟩ := HB.out (k + 1)
      have hnx := sum_next xs k hlt
      obtain ⟨x, hx⟩ : ∃ x, x = xs.getD k 0 := ⟨_, rfl⟩
      obtain ⟨s, hs⟩ : ∃ s, s = (xs.take k).sum := ⟨_, rfl⟩
      rw [← hx] at d0 hnx
      rw [← hs] at hnx b0 b1
      rw [← hs]
      rw [hnx] at b2 b3
      have HNX := Lib.hid hnx; clear hnx
      have HX := Lib.hid hx; clear hx
      have HS := Lib.hid hs; clear hs
      go_wp2_with (fail)
      go_round
      case rel => exact ⟨k + 1, by omega, by go_num, by rw [HNX.out]⟩
      case measure => simp [intOf]; omega
    · have hkl : k = xs.length := by omega
      have hfin : Hid ((xs.take k).sum = xs.sum) := by show _ = _; rw [hkl, List.take_length]
      have HK := Lib.hid hkl; clear hkl
      go_wp2_with (fail)
      go_ret
      exact ⟨ret_int hfin.out, rfl⟩

set_option maxRecDepth 100000 in
theorem worth_same (t : List Tube) (xs : List Int) (a : Option Addr) (c : Nat) (a2 : Option Addr) (c2 : Nat) (w : World) (hc : CellsAt w a (tubes t)) (hx : CellsAt w a2 (ints xs)) (hlen : xs.length ≤ t.length) (ho : OkTubes t) (hbx : ∀ x ∈ xs, -1000000 ≤ x ∧ x ≤ 1000000) :
    Calls Try.prog 13 #[.slice a t.length c, .slice a2 xs.length c2] w fun e w' => e = .returned (.int .i64 (worthM t xs)) ∧ w' = w := by
  have hl := ho.len
  have hT := worthL_len t xs hlen
  have hB := Lib.hid (sum_bound (worthL t xs) (-10000000000) 10000000000 (by decide) (by decide) (worthL_mem t xs hlen ho hbx))
  have hN := Lib.hid (sum_next (worthL t xs))
  go_enter Try.func13, Try.ntmps13
  go_wp2_with (fail)
  go_loop [5, 10] (fun s i => ∃ k : Nat, k ≤ xs.length ∧ i = .int .i64 k ∧ s = .int .i64 ((worthL t xs).take k).sum) (fun _ i => xs.length - (intOf i).toNat)
  case atStart => exact ⟨0, Nat.zero_le _, rfl, rfl⟩
  case round =>
    obtain ⟨k, hk, rfl, rfl⟩ := hrel
    have hb := hB.out k
    obtain ⟨s, hs⟩ : ∃ s, s = ((worthL t xs).take k).sum := ⟨_, rfl⟩
    rw [← hs] at hb
    rw [← hs]
    obtain ⟨hb0, hb1⟩ := hb
    have HS := Lib.hid hs; clear hs
    by_cases hlt : k < xs.length
    · obtain ⟨b, off, rfl, hcs⟩ := tubes_cells hc k (by omega)
      obtain ⟨c0, c1, _⟩ := hcs k (by omega)
      obtain ⟨b2, o2, rfl, d0⟩ := hx k _ (ints_get xs k hlt)
      have hg := worthL_get t xs k hlen hlt
      have hnx := hN.out k (by omega)
      have hm := worthL_mem t xs hlen ho hbx ((worthL t xs).getD k 0) (by rw [getD_eq _ _ _ (by omega)]; exact List.getElem_mem _)
      rw [hg] at hm
      rw [hg, ← HS.out] at hnx
      obtain ⟨x, hxe⟩ : ∃ x, x = xs.getD k 0 := ⟨_, rfl⟩
      obtain ⟨v, hv⟩ : ∃ v, v = (tubeAt t k).value := ⟨_, rfl⟩
      rw [← hxe] at d0 hm hnx
      rw [← hv] at c0 hm hnx
      obtain ⟨hm0, hm1⟩ := hm
      have HNX := Lib.hid hnx
      clear hcs hg hnx
      have HX := Lib.hid hxe; clear hxe
      have HV := Lib.hid hv; clear hv
      go_wp2_with (fail)
      go_round
      case rel => exact ⟨k + 1, by omega, by go_num, by rw [HNX.out]⟩
      case measure => simp [intOf]; omega
    · have hkl : k = xs.length := by omega
      have HK := Lib.hid hkl; clear hkl
      go_wp2_with (fail)
      go_ret
      exact ⟨ret_int (by rw [HS.out, worthM, HK.out, ← hT, List.take_length]), rfl⟩
end Go.Proofs.Ytbgfflbddflokaa
