/- The reference's look at tubes. -/
import Derived.Test.YtdjnomeabadbnaaDoorVend
namespace Go.Proofs.YtdjnomeabadbnaaDoor
open Go.RowKit

set_option maxRecDepth 100000 in
set_option maxHeartbeats 3000000 in
theorem tubesFault_any (l : List Tube) (a : Option Addr) (c : Nat) (w : World) (hc : CellsAt w a (tubes l)) (hl : l.length ≤ 1000000) :
    Calls Tryd.prog 71 #[.slice a l.length c] w (FaultPost (OkTubes l) w) := by
  by_cases h4 : 10 < l.length
  · go_enter Tryd.func71, Tryd.ntmps71
    go_wp2_with (fail)
    go_ret
    exact fault_bad 2 (by decide) (fun h => by have := h.len; omega) (gr_refl _ _)
  · have h4' : l.length ≤ 10 := by omega
    go_enter Tryd.func71, Tryd.ntmps71
    go_wp2_with (fail)
    go_loopw [10] (fun i wr => ∃ k : Nat, k ≤ l.length ∧ i = .int .i64 k ∧ (∀ j, j < k → OkTube l j) ∧ w.grownBy wr none) (fun i _ => l.length - (intOf i).toNat)
    case atStart => exact ⟨0, Nat.zero_le _, rfl, fun j hj => by omega, gr_refl _ _⟩
    case round =>
      obtain ⟨k, hk, rfl, hok, hgr⟩ := hrel
      have HOK := Lib.hid hok; clear hok
      obtain ⟨wo, rfl⟩ : ∃ wo : World, wo = wr := ⟨_, rfl⟩
      by_cases hlt : k < l.length
      · obtain ⟨b, off, rfl, hcs⟩ := tubes_cells (hc.keep0 hgr) k hlt
        obtain ⟨c0, c1, c2⟩ := hcs k hlt
        have hbl := lt_of_cell c0
        have hin : wo.cell? ⟨b, off + (k - 1) * 3, none⟩ = some (.int .i64 (tubeAt l (k - 1)).value) := (hcs (k - 1) (by omega)).1
        obtain ⟨x, hx⟩ : ∃ x, x = tubeAt l k := ⟨_, rfl⟩
        rw [← hx] at c0 c1 c2
        have HX := Lib.hid hx; clear hx hcs
        obtain ⟨y, hy⟩ : ∃ y, y = (tubeAt l (k - 1)).value := ⟨_, rfl⟩
        rw [← hy] at hin
        have HY := Lib.hid hy; clear hy
        by_cases hd0 : x.value < 1
        · go_wp2
          go_ret
          exact fault_bad 1 (by decide) (not_tubes hlt fun o => by have := o.v0; rw [← HX.out] at this; omega) (gr_alloc hgr _)
        by_cases hd1 : 10000 < x.value
        · go_wp2
          go_ret
          exact fault_bad 1 (by decide) (not_tubes hlt fun o => by have := o.v1; rw [← HX.out] at this; omega) (gr_alloc hgr _)
        by_cases hk0 : k = 0
        · have hkb : decide (0 < k) = false := by simp; omega
          have HK := Lib.hid hk0; clear hk0
          by_cases hm0 : x.most < 0
          · go_wp2
            go_quiet (fail)
            go_wp2
            go_ret
            exact fault_bad 1 (by decide) (not_tubes hlt fun o => by have := o.m0; rw [← HX.out] at this; omega) (gr_drewN (gr_alloc hgr _) _)
          by_cases hm1 : 1000 < x.most
          · go_wp2
            go_quiet (fail)
            go_wp2
            go_ret
            exact fault_bad 1 (by decide) (not_tubes hlt fun o => by have := o.m1; rw [← HX.out] at this; omega) (gr_drewN (gr_alloc hgr _) _)
          by_cases hc0 : x.count < 0
          · go_wp2
            go_quiet (fail)
            go_wp2
            go_ret
            exact fault_bad 1 (by decide) (not_tubes hlt fun o => by have := o.c0; rw [← HX.out] at this; omega) (gr_drewN (gr_alloc hgr _) _)
          by_cases hc1 : x.most < x.count
          · go_wp2
            go_quiet (fail)
            go_wp2
            go_ret
            exact fault_bad 1 (by decide) (not_tubes hlt fun o => by have := o.c1; rw [← HX.out] at this; omega) (gr_drewN (gr_alloc hgr _) _)
          go_wp2
          go_quiet (fail)
          go_wp2
          go_roundw
          case rel =>
            refine ⟨k + 1, by omega, by go_num, ?_, gr_drewN (gr_alloc hgr _) _⟩
            intro j hj
            by_cases hjk : j = k
            · subst hjk
              exact ⟨by rw [← HX.out]; omega, by rw [← HX.out]; omega, by intro h; exact absurd HK.out (by omega), by rw [← HX.out]; omega, by rw [← HX.out]; omega, by rw [← HX.out]; omega, by rw [← HX.out]; omega⟩
            · exact HOK.out j (by omega)
          case measure => simp [intOf]; omega
        · obtain ⟨k', rfl⟩ : ∃ k', k = k' + 1 := ⟨k - 1, by omega⟩
          rw [show k' + 1 - 1 = k' by omega] at hin HY
          by_cases hle : x.value ≤ y
          · go_wp2
            go_quiet (fail)
            go_wp2
            go_ret
            exact fault_bad 7 (by decide) (not_tubes hlt fun o => by have := o.up (by omega); rw [← HX.out, show k' + 1 - 1 = k' by omega, ← HY.out] at this; omega) (gr_drewN (gr_alloc hgr _) _)
          by_cases hm0 : x.most < 0
          · go_wp2
            go_quiet (fail)
            go_wp2
            go_ret
            exact fault_bad 1 (by decide) (not_tubes hlt fun o => by have := o.m0; rw [← HX.out] at this; omega) (gr_drewN (gr_alloc hgr _) _)
          by_cases hm1 : 1000 < x.most
          · go_wp2
            go_quiet (fail)
            go_wp2
            go_ret
            exact fault_bad 1 (by decide) (not_tubes hlt fun o => by have := o.m1; rw [← HX.out] at this; omega) (gr_drewN (gr_alloc hgr _) _)
          by_cases hc0 : x.count < 0
          · go_wp2
            go_quiet (fail)
            go_wp2
            go_ret
            exact fault_bad 1 (by decide) (not_tubes hlt fun o => by have := o.c0; rw [← HX.out] at this; omega) (gr_drewN (gr_alloc hgr _) _)
          by_cases hc1 : x.most < x.count
          · go_wp2
            go_quiet (fail)
            go_wp2
            go_ret
            exact fault_bad 1 (by decide) (not_tubes hlt fun o => by have := o.c1; rw [← HX.out] at this; omega) (gr_drewN (gr_alloc hgr _) _)
          go_wp2
          go_quiet (fail)
          go_wp2
          go_roundw
          case rel =>
            refine ⟨(k' + 1) + 1, by omega, by go_num, ?_, gr_drewN (gr_alloc hgr _) _⟩
            intro j hj
            by_cases hjk : j = (k' + 1)
            · subst hjk
              exact ⟨by rw [← HX.out]; omega, by rw [← HX.out]; omega, by intro h; rw [← HX.out, show k' + 1 - 1 = k' by omega, ← HY.out]; omega, by rw [← HX.out]; omega, by rw [← HX.out]; omega, by rw [← HX.out]; omega, by rw [← HX.out]; omega⟩
            · exact HOK.out j (by omega)
          case measure => simp [intOf]; omega
      · have hkl : k = l.length := by omega
        have HK := Lib.hid hkl; clear hkl
        go_wp2
        go_ret
        exact fault_good ⟨h4', fun j hj => HOK.out j (by have := HK.out; omega)⟩ hgr
end Go.Proofs.YtdjnomeabadbnaaDoor
