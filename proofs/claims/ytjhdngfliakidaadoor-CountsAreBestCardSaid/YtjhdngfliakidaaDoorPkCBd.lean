/- Sums of ints: the packages' own. -/
import Derived.Test.YtjhdngfliakidaaDoorPkCAd
import Derived.Test.YtjhdngfliakidaaDoorPkCAm
namespace Go.Proofs.YtjhdngfliakidaaDoor
open Go.RowKit

set_option maxRecDepth 100000 in
theorem keepTotal_any (xs : List Int) (a : Option Addr) (c : Nat) (w : World) (hc : CellsAt w a (ints xs)) (hl : xs.length ≤ 1000000) (hb : ∀ x ∈ xs, -1000000000000 ≤ x ∧ x ≤ 1000000000000) :
    Calls Tryd.prog 26 #[.slice a xs.length c] w fun e w' => e = .returned (.int .i64 xs.sum) ∧ w.grownBy w' none := by
  have HB := Lib.hid (sum_bound xs (-1000000000000) 1000000000000 (by omega) (by omega) hb); clear hb
  go_enter Tryd.func26, Tryd.ntmps26
  go_wp2_with (fail)
  go_loopw [3, 8] (fun s i wr => ∃ k : Nat, k ≤ xs.length ∧ i = .int .i64 k ∧ s = .int .i64 (xs.take k).sum ∧ w.grownBy wr none) (fun _ i _ => xs.length - (intOf i).toNat)
  case atStart => exact ⟨0, Nat.zero_le _, rfl, rfl, gr_refl _ _⟩
  case round =>
    obtain ⟨k, hk, rfl, rfl, hgr⟩ := hrel
    obtain ⟨wo, rfl⟩ : ∃ wo : World, wo = wr := ⟨_, rfl⟩
    by_cases hlt : k < xs.length
    · obtain ⟨b, off, rfl, d0⟩ := (hc.keep0 hgr) k _ (ints_get xs k hlt)
      obtain ⟨b0, b1⟩ := HB.out k
      obtain ⟨b2, b3⟩ := HB.out (k + 1)
      have hnx := sum_next xs k hlt
      obtain ⟨x, hx⟩ : ∃ x, x = xs.getD k 0 := ⟨_, rfl⟩
      obtain ⟨s, hs⟩ : ∃ s, s = (xs.take k).sum := ⟨_, rfl⟩
      rw [← hx] at d0 hnx
      rw [← hs] at hnx b0 b1
      rw [← hs]
      rw [hnx] at b2 b3
      have HNX := Lib.hid hnx; clear hnx
      have HX := Lib.hid hx; clear hx
      have HS := Lib.hid hs; clear hs
      go_wp2_with (fail)
      go_roundw
      case rel => exact ⟨k + 1, by omega, by go_num, by rw [HNX.out], hgr⟩
      case measure => simp [intOf]; omega
    · have hkl : k = xs.length := by omega
      have hfin : Hid ((xs.take k).sum = xs.sum) := by show _ = _; rw [hkl, List.take_length]
      have HK := Lib.hid hkl; clear hkl
      go_wp2_with (fail)
      go_ret
      exact ⟨ret_int hfin.out, hgr⟩

end Go.Proofs.YtjhdngfliakidaaDoor
