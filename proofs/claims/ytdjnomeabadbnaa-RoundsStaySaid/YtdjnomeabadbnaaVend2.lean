/- Package vend: totals. -/
import Derived.Test.YtdjnomeabadbnaaVend
import Derived.Test.YtdjnomeabadbnaaSum
namespace Go.Proofs.Ytdjnomeabadbnaa
open Go.RowKit

def totL (l : List Tube) : List Int := l.map fun t => t.value * t.count
def totT (l : List Tube) : Int := (totL l).sum
theorem tube_prod {l : List Tube} (h : OkTubes l) (k : Nat) (hk : k < l.length) (c : Int) (hc0 : 0 ≤ c) (hc1 : c ≤ 1000000) : 0 ≤ (tubeAt l k).value * c ∧ (tubeAt l k).value * c ≤ 10000000000 := by
  have o := h.ok k hk
  have := o.v0
  have := o.v1
  have h1 := Int.mul_nonneg (show 0 ≤ (tubeAt l k).value by omega) hc0
  have h2 := Int.mul_le_mul o.v1 hc1 hc0 (by decide)
  omega
theorem totL_get {l : List Tube} (k : Nat) (hk : k < l.length) : (totL l).getD k 0 = (tubeAt l k).value * (tubeAt l k).count := by
  rw [totL, tubeAt, List.getD_eq_getElem?_getD, List.getD_eq_getElem?_getD, List.getElem?_map, List.getElem?_eq_getElem hk]; rfl
theorem totL_mem {l : List Tube} (h : OkTubes l) : ∀ x ∈ totL l, 0 ≤ x ∧ x ≤ 10000000000 := by
  intro x hx
  obtain ⟨k, hk, rfl⟩ := List.getElem_of_mem hx
  have hkl : k < l.length := by simpa [totL] using hk
  have := totL_get k hkl
  rw [List.getD_eq_getElem?_getD, List.getElem?_eq_getElem hk] at this
  have o := h.ok k hkl
  have h3 := tube_prod h k hkl _ o.c0 (by have := o.c1; have := o.m1; omega)
  rw [← this] at h3
  exact h3

def oneTube : List Tube := [⟨10, 3, 5⟩]
theorem oneTube_ok : OkTubes oneTube := by
  refine ⟨by decide, fun i hi => ?_⟩
  obtain rfl : i = 0 := by simp [oneTube] at hi; omega
  constructor <;> simp [oneTube, tubeAt]
/-- What coins are worth. -/
def worthL (t : List Tube) (xs : List Int) : List Int := List.zipWith (fun x (t : Tube) => x * t.value) xs t
def worthM (t : List Tube) (xs : List Int) : Int := (worthL t xs).sum
theorem worthL_len (t : List Tube) (xs : List Int) (h : xs.length ≤ t.length) : (worthL t xs).length = xs.length := by simp [worthL]; omega
theorem worthL_get (t : List Tube) (xs : List Int) (k : Nat) (h : xs.length ≤ t.length) (hk : k < xs.length) : (worthL t xs).getD k 0 = xs.getD k 0 * (tubeAt t k).value := by
  have hk2 : k < t.length := by omega
  rw [worthL, tubeAt, List.getD_eq_getElem?_getD, List.getD_eq_getElem?_getD, List.getD_eq_getElem?_getD, List.getElem?_zipWith, List.getElem?_eq_getElem hk, List.getElem?_eq_getElem hk2]
  rfl
theorem worthL_mem (t : List Tube) (xs : List Int) (h : xs.length ≤ t.length) (ho : OkTubes t) (hx : ∀ x ∈ xs, -1000000 ≤ x ∧ x ≤ 1000000) : ∀ x ∈ worthL t xs, -10000000000 ≤ x ∧ x ≤ 10000000000 := by
  intro x hm
  obtain ⟨k, hk, rfl⟩ := List.getElem_of_mem hm
  rw [worthL_len t xs h] at hk
  have hg := worthL_get t xs k h hk
  rw [getD_eq _ _ _ (by rw [worthL_len t xs h]; exact hk)] at hg
  rw [hg]
  have o := ho.ok k (by omega)
  have := o.v0
  have := o.v1
  have hb := hx _ (show xs.getD k 0 ∈ xs by rw [getD_eq _ _ _ hk]; exact List.getElem_mem hk)
  have h1 : xs.getD k 0 * (tubeAt t k).value ≤ 1000000 * (tubeAt t k).value := Int.mul_le_mul_of_nonneg_right hb.2 (by omega)
  have h2 : -1000000 * (tubeAt t k).value ≤ xs.getD k 0 * (tubeAt t k).value := Int.mul_le_mul_of_nonneg_right hb.1 (by omega)
  omega

end Go.Proofs.Ytdjnomeabadbnaa
