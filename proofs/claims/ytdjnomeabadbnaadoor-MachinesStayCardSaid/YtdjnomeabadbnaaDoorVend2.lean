/- Package vend: totals. -/
import Derived.Test.YtdjnomeabadbnaaDoorVend
import Derived.Test.YtdjnomeabadbnaaDoorSum
namespace Go.Proofs.YtdjnomeabadbnaaDoor
open Go.RowKit

def totL (l : List Tube) : List Int := l.map fun t => t.value * t.count
def totT (l : List Tube) : Int := (totL l).sum
theorem tube_prod {l : List Tube} (h : OkTubes l) (k : Nat) (hk : k < l.length) (c : Int) (hc0 : 0 ≤ c) (hc1 : c ≤ 1000000) : 0 ≤ (tubeAt l k).value * c ∧ (tubeAt l k).value * c ≤ 10000000000 := by
  have o := h.ok k hk
  have := o.v0
  have := o.v1
  have h1 := Int.mul_nonneg (show 0 ≤ (tubeAt l k).value by omega) hc0
  have h2 := Int.mul_le_mul o.v1 hc1 hc0 (by decide)
  omega
theorem totL_get {l : List Tube} (k : Nat) (hk : k < l.length) : (totL l).getD k 0 = (tubeAt l k).value * (tubeAt l k).count := by
  rw [totL, tubeAt, List.getD_eq_getElem?_getD, List.getD_eq_getElem?_getD, List.getElem?_map, List.getElem?_eq_getElem hk]; rfl
theorem totL_mem {l : List Tube} (h : OkTubes l) : ∀ x ∈ totL l, 0 ≤ x ∧ x ≤ 10000000000 := by
  intro x hx
  obtain ⟨k, hk, rfl⟩ := List.getElem_of_mem hx
  have hkl : k < l.length := by simpa [totL] using hk
  have := totL_get k hkl
  rw [List.getD_eq_getElem?_getD, List.getElem?_eq_getElem hk] at this
  have o := h.ok k hkl
  have h3 := tube_prod h k hkl _ o.c0 (by have := o.c1; have := o.m1; omega)
  rw [← this] at h3
  exact h3

set_option maxRecDepth 100000 in
theorem total_any (l : List Tube) (a : Option Addr) (c : Nat) (w : World) (hc : CellsAt w a (tubes l)) (ho : OkTubes l) :
    Calls Tryd.prog 93 #[.slice a l.length c] w fun e w' => e = .returned (.int .i64 (totT l)) ∧ w.grownBy w' none := by
  have hl := ho.len
  have hT : (totL l).length = l.length := by simp [totL]
  have hB := Lib.hid (sum_bound (totL l) 0 10000000000 (by decide) (by decide) (totL_mem ho))
  have hN := Lib.hid (sum_next (totL l))
  go_enter Tryd.func93, Tryd.ntmps93
  go_wp2_with (fail)
  go_loopw [3, 8] (fun s i wr => ∃ k : Nat, k ≤ l.length ∧ i = .int .i64 k ∧ s = .int .i64 ((totL l).take k).sum ∧ w.grownBy wr none) (fun _ i _ => l.length - (intOf i).toNat)
  case atStart => exact ⟨0, Nat.zero_le _, rfl, rfl, gr_refl _ _⟩
  case round =>
    obtain ⟨k, hk, rfl, rfl, hgr⟩ := hrel
    obtain ⟨wo, rfl⟩ : ∃ wo : World, wo = wr := ⟨_, rfl⟩
    have hb := hB.out k
    obtain ⟨s, hs⟩ : ∃ s, s = ((totL l).take k).sum := ⟨_, rfl⟩
    rw [← hs] at hb
    rw [← hs]
    obtain ⟨hb0, hb1⟩ := hb
    have HS := Lib.hid hs; clear hs
    by_cases hlt : k < l.length
    · obtain ⟨b, off, rfl, hcs⟩ := tubes_cells (hc.keep0 hgr) k hlt
      obtain ⟨c0, c1, c2⟩ := hcs k hlt
      have hbl := lt_of_cell c0
      have o := ho.ok k hlt
      obtain ⟨p0, p1⟩ := tube_prod ho k hlt _ o.c0 (by have := o.c1; have := o.m1; omega)
      have hg := totL_get k hlt
      have hnx := hN.out k (by omega)
      rw [hg, ← HS.out] at hnx
      obtain ⟨x, hx⟩ : ∃ x, x = tubeAt l k := ⟨_, rfl⟩
      rw [← hx] at c0 c1 c2 p0 p1 hnx
      have HNX := Lib.hid hnx
      clear hcs o hg hnx
      have HX := Lib.hid hx; clear hx
      go_wp2_with (fail)
      go_roundw
      case rel => exact ⟨k + 1, by omega, by go_num, by rw [HNX.out], gr_alloc hgr _⟩
      case measure => simp [intOf]; omega
    · have hkl : k = l.length := by omega
      have HK := Lib.hid hkl; clear hkl
      go_wp2_with (fail)
      go_ret
      exact ⟨ret_int (by rw [HS.out, totT, HK.out, ← hT, List.take_length]), hgr⟩

theorem total_ok (l : List Tube) (a : Option Addr) (c : Nat) (w : World) (hc : CellsAt w a (tubes l)) (ho : OkTubes l) :
    Calls Tryd.prog 27 #[.slice a l.length c] w fun e w' => e = .returned (.tuple #[.int .i64 (totT l), .int .i64 0]) ∧ w.grownBy w' none := by
  have hl := ho.len
  go_enter Tryd.func27, Tryd.ntmps27
  go_wp2_with (fail)
  refine (checkTubes_any l a c _ hc (by omega)).mono ?_
  rintro e w1 ⟨r, rfl, hr, hg1⟩
  have hr0 := hr.2 ho
  subst hr0; clear hr
  go_wp2_with (fail)
  refine (total_any l a c _ (hc.keep0 hg1) ho).mono ?_
  rintro e w2 ⟨rfl, hg2⟩
  go_wp2_with (fail)
  go_ret2
  exact ⟨rfl, gr_trans hg1 hg2⟩

def oneTube : List Tube := [⟨10, 3, 5⟩]
theorem oneTube_ok : OkTubes oneTube := by
  refine ⟨by decide, fun i hi => ?_⟩
  obtain rfl : i = 0 := by simp [oneTube] at hi; omega
  constructor <;> simp [oneTube, tubeAt]
theorem vends_any (w : World) : Calls Tryd.prog 11 #[] w fun e w' => e = .returned (.bool true) ∧ w.grownBy w' none := by
  go_enter Tryd.func11, Tryd.ntmps11
  go_wp2_with (fail)
  refine (total_ok oneTube _ _ _ (CellsAt.new w (tubes oneTube).toArray 41) oneTube_ok).mono ?_
  rintro e w1 ⟨rfl, hg1⟩
  rw [show totT oneTube = 30 from rfl]
  go_wp2_with (fail)
  go_ret
  exact ⟨rfl, gr_trans (gr_alloc (gr_refl _ _) _) hg1⟩

/-- What coins are worth. -/
def worthL (t : List Tube) (xs : List Int) : List Int := List.zipWith (fun x (t : Tube) => x * t.value) xs t
def worthM (t : List Tube) (xs : List Int) : Int := (worthL t xs).sum
theorem worthL_len (t : List Tube) (xs : List Int) (h : xs.length ≤ t.length) : (worthL t xs).length = xs.length := by simp [worthL]; omega
theorem worthL_get (t : List Tube) (xs : List Int) (k : Nat) (h : xs.length ≤ t.length) (hk : k < xs.length) : (worthL t xs).getD k 0 = xs.getD k 0 * (tubeAt t k).value := by
  have hk2 : k < t.length := by omega
  rw [worthL, tubeAt, List.getD_eq_getElem?_getD, List.getD_eq_getElem?_getD, List.getD_eq_getElem?_getD, List.getElem?_zipWith, List.getElem?_eq_getElem hk, List.getElem?_eq_getElem hk2]
  rfl
theorem worthL_mem (t : List Tube) (xs : List Int) (h : xs.length ≤ t.length) (ho : OkTubes t) (hx : ∀ x ∈ xs, -1000000 ≤ x ∧ x ≤ 1000000) : ∀ x ∈ worthL t xs, -10000000000 ≤ x ∧ x ≤ 10000000000 := by
  intro x hm
  obtain ⟨k, hk, rfl⟩ := List.getElem_of_mem hm
  rw [worthL_len t xs h] at hk
  have hg := worthL_get t xs k h hk
  rw [getD_eq _ _ _ (by rw [worthL_len t xs h]; exact hk)] at hg
  rw [hg]
  have o := ho.ok k (by omega)
  have := o.v0
  have := o.v1
  have hb := hx _ (show xs.getD k 0 ∈ xs by rw [getD_eq _ _ _ hk]; exact List.getElem_mem hk)
  have h1 : xs.getD k 0 * (tubeAt t k).value ≤ 1000000 * (tubeAt t k).value := Int.mul_le_mul_of_nonneg_right hb.2 (by omega)
  have h2 : -1000000 * (tubeAt t k).value ≤ xs.getD k 0 * (tubeAt t k).value := Int.mul_le_mul_of_nonneg_right hb.1 (by omega)
  omega

end Go.Proofs.YtdjnomeabadbnaaDoor
