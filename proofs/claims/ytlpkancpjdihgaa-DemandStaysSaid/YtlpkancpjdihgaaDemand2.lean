/- Package demand on days: the check of the program. -/
import Derived.Test.YtlpkancpjdihgaaDemand
namespace Go.Proofs.Ytlpkancpjdihgaa
open Go.RowKit

set_option maxRecDepth 100000 in
set_option maxHeartbeats 2000000 in
theorem checkDays_any (l : List Sale) (a : Option Addr) (c : Nat) (w : World) (hc : CellsAt w a (sales l)) (hl : l.length ≤ 1000000) :
    Calls Try.prog 90 #[.slice a l.length c] w (FaultPost (OkDays l) w) := by
  by_cases h4 : 400 < l.length
  · go_enter Try.func90, Try.ntmps90
    go_wp2
    go_ret
    exact fault_bad 2 (by decide) (fun h => by have := h.len; omega) (gr_refl _ _)
  · have h4' : l.length ≤ 400 := by omega
    go_enter Try.func90, Try.ntmps90
    go_wp2
    go_loopw [10] (fun i wr => ∃ k : Nat, k ≤ l.length ∧ i = .int .i64 k ∧ (∀ j, j < k → OkSale l j) ∧ w.grownBy wr none) (fun i _ => l.length - (intOf i).toNat)
    case atStart => exact ⟨0, Nat.zero_le _, rfl, fun j hj => by omega, gr_refl _ _⟩
    case round =>
      obtain ⟨k, hk, rfl, hok, hgr⟩ := hrel
      have HOK := Lib.hid hok; clear hok
      obtain ⟨wo, rfl⟩ : ∃ wo : World, wo = wr := ⟨_, rfl⟩
      by_cases hlt : k < l.length
      · obtain ⟨b, off, rfl, hcs⟩ := sales_cells (hc.keep0 hgr) k hlt
        obtain ⟨c0, c1, c2⟩ := hcs k hlt
        have hbl := lt_of_cell c0
        obtain ⟨x, hx⟩ : ∃ x, x = sAt l k := ⟨_, rfl⟩
        rw [← hx] at c0 c1 c2
        have HX := Lib.hid hx; clear hx
        have HCS := Lib.hid hcs; clear hcs
        by_cases hd0 : x.day < 0
        · go_wp2
          go_ret
          exact fault_bad 1 (by decide) (not_days hlt fun o => by have := o.d0; rw [← HX.out] at this; omega) (gr_alloc hgr _)
        by_cases hd1 : 4000 < x.day
        · go_wp2
          go_ret
          exact fault_bad 1 (by decide) (not_days hlt fun o => by have := o.d1; rw [← HX.out] at this; omega) (gr_alloc hgr _)
        have hin : wo.cell? ⟨b, off + (k - 1) * 3, none⟩ = some (.int .i64 (sAt l (k - 1)).day) := (HCS.out (k - 1) (by omega)).1
        obtain ⟨y, hy⟩ : ∃ y, y = (sAt l (k - 1)).day := ⟨_, rfl⟩
        rw [← hy] at hin
        have HY := Lib.hid hy; clear hy
        by_cases hk0 : k = 0
        · have hkb : decide (0 < k) = false := by simp; omega
          have HK := Lib.hid hk0; clear hk0
          by_cases hs0 : x.sold < 0
          · go_wp2
            go_quiet (fail)
            go_wp2
            go_ret
            exact fault_bad 1 (by decide) (not_days hlt fun o => by have := o.s0; rw [← HX.out] at this; omega) (gr_drewN (gr_alloc hgr _) _)
          by_cases hs1 : 1000 < x.sold
          · go_wp2
            go_quiet (fail)
            go_wp2
            go_ret
            exact fault_bad 1 (by decide) (not_days hlt fun o => by have := o.s1; rw [← HX.out] at this; omega) (gr_drewN (gr_alloc hgr _) _)
          go_wp2
          go_quiet (fail)
          go_wp2
          go_roundw
          case rel =>
            refine ⟨k + 1, by omega, by go_num, ?_, gr_drewN (gr_alloc hgr _) _⟩
            intro j hj
            by_cases hjk : j = k
            · subst hjk
              exact ⟨by rw [← HX.out]; omega, by rw [← HX.out]; omega, by intro h; exact absurd HK.out (by omega), by rw [← HX.out]; omega, by rw [← HX.out]; omega⟩
            · exact HOK.out j (by omega)
          case measure => simp [intOf]; omega
        · obtain ⟨k', rfl⟩ : ∃ k', k = k' + 1 := ⟨k - 1, by omega⟩
          rw [show k' + 1 - 1 = k' by omega] at hin HY
          by_cases hle : x.day ≤ y
          · go_wp2
            go_quiet (fail)
            go_wp2
            go_ret
            exact fault_bad 7 (by decide) (not_days hlt fun o => by have := o.up (by omega); rw [← HX.out, show k' + 1 - 1 = k' by omega, ← HY.out] at this; omega) (gr_drewN (gr_alloc hgr _) _)
          by_cases hs0 : x.sold < 0
          · go_wp2
            go_quiet (fail)
            go_wp2
            go_ret
            exact fault_bad 1 (by decide) (not_days hlt fun o => by have := o.s0; rw [← HX.out] at this; omega) (gr_drewN (gr_alloc hgr _) _)
          by_cases hs1 : 1000 < x.sold
          · go_wp2
            go_quiet (fail)
            go_wp2
            go_ret
            exact fault_bad 1 (by decide) (not_days hlt fun o => by have := o.s1; rw [← HX.out] at this; omega) (gr_drewN (gr_alloc hgr _) _)
          go_wp2
          go_quiet (fail)
          go_wp2
          go_roundw
          case rel =>
            refine ⟨(k' + 1) + 1, by omega, by go_num, ?_, gr_drewN (gr_alloc hgr _) _⟩
            intro j hj
            by_cases hjk : j = (k' + 1)
            · subst hjk
              exact ⟨by rw [← HX.out]; omega, by rw [← HX.out]; omega, by intro h; rw [← HX.out, show k' + 1 - 1 = k' by omega, ← HY.out]; omega, by rw [← HX.out]; omega, by rw [← HX.out]; omega⟩
            · exact HOK.out j (by omega)
          case measure => simp [intOf]; omega
      · have hkl : k = l.length := by omega
        have HK := Lib.hid hkl; clear hkl
        go_wp2
        go_ret
        exact fault_good ⟨h4', fun j hj => HOK.out j (by have := HK.out; omega)⟩ hgr
end Go.Proofs.Ytlpkancpjdihgaa
