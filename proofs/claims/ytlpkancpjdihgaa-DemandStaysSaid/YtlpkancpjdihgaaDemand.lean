/- Package demand on days: what is checked, sums, rates. -/
import Derived.Test.YtlpkancpjdihgaaDays
import Derived.Test.YtlpkancpjdihgaaFault
namespace Go.Proofs.Ytlpkancpjdihgaa
open Go.RowKit

def sAt (l : List Sale) (i : Nat) : Sale := l.getD i ⟨0, 0, false⟩
structure OkSale (l : List Sale) (i : Nat) : Prop where
  d0 : 0 ≤ (sAt l i).day
  d1 : (sAt l i).day ≤ 4000
  up : 0 < i → (sAt l (i - 1)).day < (sAt l i).day
  s0 : 0 ≤ (sAt l i).sold
  s1 : (sAt l i).sold ≤ 1000
structure OkDays (l : List Sale) : Prop where
  len : l.length ≤ 400
  ok : ∀ i, i < l.length → OkSale l i

theorem sales_get (l : List Sale) (i : Nat) (h : i < l.length) : (sales l)[i * 3]? = some (.int .i64 (sAt l i).day) ∧ (sales l)[i * 3 + 1]? = some (.int .i64 (sAt l i).sold) ∧ (sales l)[i * 3 + 2]? = some (.bool (sAt l i).out) := by
  induction l generalizing i with
  | nil => simp at h
  | cons a l ih =>
    cases i with
    | zero => simp [sales, encSale, sAt]
    | succ i =>
      have := ih i (by simpa using h)
      rw [show (i + 1) * 3 = i * 3 + 3 by omega]
      simpa [sales, encSale, sAt] using this
/-- The cells of one element. -/
theorem sales_cells {w : World} {a : Option Addr} {l : List Sale} (hc : CellsAt w a (sales l)) (i : Nat) (h : i < l.length) : ∃ b off, a = some ⟨b, off, none⟩ ∧ ∀ j, j < l.length →
    w.cell? ⟨b, off + j * 3, none⟩ = some (.int .i64 (sAt l j).day) ∧ w.cell? ⟨b, off + j * 3 + 1, none⟩ = some (.int .i64 (sAt l j).sold) ∧ w.cell? ⟨b, off + j * 3 + 2, none⟩ = some (.bool (sAt l j).out) := by
  obtain ⟨g1, _, _⟩ := sales_get l i h
  obtain ⟨b, off, rfl, _⟩ := hc _ _ g1
  refine ⟨b, off, rfl, fun j hj => ?_⟩
  obtain ⟨g1, g2, g3⟩ := sales_get l j hj
  obtain ⟨b1, o1, e1, c1⟩ := hc _ _ g1
  obtain ⟨b2, o2, e2, c2⟩ := hc _ _ g2
  obtain ⟨b3, o3, e3, c3⟩ := hc _ _ g3
  cases e1; cases e2; cases e3
  exact ⟨c1, c2, c3⟩

theorem not_days {l : List Sale} {k : Nat} (hk : k < l.length) (h : ¬ OkSale l k) : ¬ OkDays l := fun o => h (o.ok k hk)

set_option maxRecDepth 100000 in
set_option maxHeartbeats 2000000 in
theorem daysFault_any (l : List Sale) (a : Option Addr) (c : Nat) (w : World) (hc : CellsAt w a (sales l)) (hl : l.length ≤ 1000000) :
    Calls Try.prog 17 #[.slice a l.length c] w (FaultPost (OkDays l) w) := by
  by_cases h4 : 400 < l.length
  · go_enter Try.func17, Try.ntmps17
    go_wp2_with (fail)
    go_ret
    exact fault_bad 2 (by decide) (fun h => by have := h.len; omega) (gr_refl _ _)
  · have h4' : l.length ≤ 400 := by omega
    go_enter Try.func17, Try.ntmps17
    go_wp2_with (fail)
    go_loopw [10] (fun i wr => ∃ k : Nat, k ≤ l.length ∧ i = .int .i64 k ∧ (∀ j, j < k → OkSale l j) ∧ w.grownBy wr none) (fun i _ => l.length - (intOf i).toNat)
    case atStart => exact ⟨0, Nat.zero_le _, rfl, fun j hj => by omega, gr_refl _ _⟩
    case round =>
      obtain ⟨k, hk, rfl, hok, hgr⟩ := hrel
      have HOK := Lib.hid hok; clear hok
      obtain ⟨wo, rfl⟩ : ∃ wo : World, wo = wr := ⟨_, rfl⟩
      by_cases hlt : k < l.length
      · obtain ⟨b, off, rfl, hcs⟩ := sales_cells (hc.keep0 hgr) k hlt
        obtain ⟨c0, c1, c2⟩ := hcs k hlt
        have hbl := lt_of_cell c0
        obtain ⟨x, hx⟩ : ∃ x, x = sAt l k := ⟨_, rfl⟩
        rw [← hx] at c0 c1 c2
        have HX := Lib.hid hx; clear hx
        have HCS := Lib.hid hcs; clear hcs
        by_cases hd0 : x.day < 0
        · go_wp2_with (fail)
          go_ret
          exact fault_bad 1 (by decide) (not_days hlt fun o => by have := o.d0; rw [← HX.out] at this; omega) (gr_alloc hgr _)
        by_cases hd1 : 4000 < x.day
        · go_wp2_with (fail)
          go_ret
          exact fault_bad 1 (by decide) (not_days hlt fun o => by have := o.d1; rw [← HX.out] at this; omega) (gr_alloc hgr _)
        have hin : wo.cell? ⟨b, off + (k - 1) * 3, none⟩ = some (.int .i64 (sAt l (k - 1)).day) := (HCS.out (k - 1) (by omega)).1
        obtain ⟨y, hy⟩ : ∃ y, y = (sAt l (k - 1)).day := ⟨_, rfl⟩
        rw [← hy] at hin
        have HY := Lib.hid hy; clear hy
        by_cases hk0 : k = 0
        · have hkb : decide (0 < k) = false := by simp; omega
          have HK := Lib.hid hk0; clear hk0
          by_cases hs0 : x.sold < 0
          · go_wp2_with (fail)
            go_quiet (fail)
            go_wp2_with (fail)
            go_ret
            exact fault_bad 1 (by decide) (not_days hlt fun o => by have := o.s0; rw [← HX.out] at this; omega) (gr_drewN (gr_alloc hgr _) _)
          by_cases hs1 : 1000 < x.sold
          · go_wp2_with (fail)
            go_quiet (fail)
            go_wp2_with (fail)
            go_ret
            exact fault_bad 1 (by decide) (not_days hlt fun o => by have := o.s1; rw [← HX.out] at this; omega) (gr_drewN (gr_alloc hgr _) _)
          go_wp2_with (fail)
          go_quiet (fail)
          go_wp2_with (fail)
          go_roundw
          case rel =>
            refine ⟨k + 1, by omega, by go_num, ?_, gr_drewN (gr_alloc hgr _) _⟩
            intro j hj
            by_cases hjk : j = k
            · subst hjk
              exact ⟨by rw [← HX.out]; omega, by rw [← HX.out]; omega, by intro h; exact absurd HK.out (by omega), by rw [← HX.out]; omega, by rw [← HX.out]; omega⟩
            · exact HOK.out j (by omega)
          case measure => simp [intOf]; omega
        · obtain ⟨k', rfl⟩ : ∃ k', k = k' + 1 := ⟨k - 1, by omega⟩
          rw [show k' + 1 - 1 = k' by omega] at hin HY
          by_cases hle : x.day ≤ y
          · go_wp2_with (fail)
            go_quiet (fail)
            go_wp2_with (fail)
            go_ret
            exact fault_bad 7 (by decide) (not_days hlt fun o => by have := o.up (by omega); rw [← HX.out, show k' + 1 - 1 = k' by omega, ← HY.out] at this; omega) (gr_drewN (gr_alloc hgr _) _)
          by_cases hs0 : x.sold < 0
          · go_wp2_with (fail)
            go_quiet (fail)
            go_wp2_with (fail)
            go_ret
            exact fault_bad 1 (by decide) (not_days hlt fun o => by have := o.s0; rw [← HX.out] at this; omega) (gr_drewN (gr_alloc hgr _) _)
          by_cases hs1 : 1000 < x.sold
          · go_wp2_with (fail)
            go_quiet (fail)
            go_wp2_with (fail)
            go_ret
            exact fault_bad 1 (by decide) (not_days hlt fun o => by have := o.s1; rw [← HX.out] at this; omega) (gr_drewN (gr_alloc hgr _) _)
          go_wp2_with (fail)
          go_quiet (fail)
          go_wp2_with (fail)
          go_roundw
          case rel =>
            refine ⟨(k' + 1) + 1, by omega, by go_num, ?_, gr_drewN (gr_alloc hgr _) _⟩
            intro j hj
            by_cases hjk : j = (k' + 1)
            · subst hjk
              exact ⟨by rw [← HX.out]; omega, by rw [← HX.out]; omega, by intro h; rw [← HX.out, show k' + 1 - 1 = k' by omega, ← HY.out]; omega, by rw [← HX.out]; omega, by rw [← HX.out]; omega⟩
            · exact HOK.out j (by omega)
          case measure => simp [intOf]; omega
      · have hkl : k = l.length := by omega
        have HK := Lib.hid hkl; clear hkl
        go_wp2_with (fail)
        go_ret
        exact fault_good ⟨h4', fun j hj => HOK.out j (by have := HK.out; omega)⟩ hgr
end Go.Proofs.Ytlpkancpjdihgaa
