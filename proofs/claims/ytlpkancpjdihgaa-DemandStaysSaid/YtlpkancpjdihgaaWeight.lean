/- demand.weight, sold, gain, priced. -/
import Derived.Test.YtlpkancpjdihgaaTotals
import Derived.Test.YtlpkancpjdihgaaHistFault
namespace Go.Proofs.Ytlpkancpjdihgaa
open Go.RowKit

set_option maxRecDepth 100000 in
theorem weight_any (xs : List Int) (a : Option Addr) (c : Nat) (w : World) (hc : CellsAt w a (ints xs)) (hl : xs.length ≤ 1000000) (hb : ∀ x ∈ xs, -1000000000000 ≤ x ∧ x ≤ 1000000000000) :
    Calls Try.prog 116 #[.slice a xs.length c] w fun e w' => e = .returned (.int .i64 xs.sum) ∧ w.grownBy w' none := by
  have HB := Lib.hid (sum_bound xs (-1000000000000) 1000000000000 (by omega) (by omega) hb); clear hb
  go_enter Try.func116, Try.ntmps116
  go_wp2_with (fail)
  go_loopw [3, 8] (fun s i wr => ∃ k : Nat, k ≤ xs.length ∧ i = .int .i64 k ∧ s = .int .i64 (xs.take k).sum ∧ w.grownBy wr none) (fun _ i _ => xs.length - (intOf i).toNat)
  case atStart => exact ⟨0, Nat.zero_le _, rfl, rfl, gr_refl _ _⟩
  case round =>
    obtain ⟨k, hk, rfl, rfl, hgr⟩ := hrel
    obtain ⟨wo, rfl⟩ : ∃ wo : World, wo = wr := ⟨_, rfl⟩
    by_cases hlt : k < xs.length
    · obtain ⟨b, off, rfl, d0⟩ := (hc.keep0 hgr) k _ (ints_get xs k hlt)
      obtain ⟨b0, b1⟩ := HB.out k
      obtain ⟨b2, b3⟩ := HB.out (k + 1)
      have hnx := sum_next xs k hlt
      obtain ⟨x, hx⟩ : ∃ x, x = xs.getD k 0 := ⟨_, rfl⟩
      obtain ⟨s, hs⟩ : ∃ s, s = (xs.take k).sum := ⟨_, rfl⟩
      rw [← hx] at d0 hnx
      rw [← hs] at hnx b0 b1
      rw [← hs]
      rw [hnx] at b2 b3
      have HNX := Lib.hid hnx; clear hnx
      have HX := Lib.hid hx; clear hx
      have HS := Lib.hid hs; clear hs
      go_wp2_with (fail)
      go_roundw
      case rel => exact ⟨k + 1, by omega, by go_num, by rw [HNX.out], hgr⟩
      case measure => simp [intOf]; omega
    · have hkl : k = xs.length := by omega
      have hfin : Hid ((xs.take k).sum = xs.sum) := by show _ = _; rw [hkl, List.take_length]
      have HK := Lib.hid hkl; clear hkl
      go_wp2_with (fail)
      go_ret
      exact ⟨ret_int hfin.out, hgr⟩

/-- What is sold of a load, by the first k numbers. -/
def soldTo (h : List Int) (load : Int) : Nat → Int
  | 0 => 0
  | k + 1 => soldTo h load k + min (k : Int) load * h.getD k 0
theorem soldTo_bound (h : List Int) (load : Int) (hl0 : 0 ≤ load) (hl1 : load ≤ 2001) (hh : ∀ x ∈ h, 0 ≤ x ∧ x ≤ 1000000000) (k : Nat) (hk : k ≤ h.length) : 0 ≤ soldTo h load k ∧ soldTo h load k ≤ 2001000000000 * k := by
  induction k with
  | zero => simp [soldTo]
  | succ k ih =>
    have h1 := ih (by omega)
    have hx : h.getD k 0 ∈ h := by rw [List.getD_eq_getElem?_getD, List.getElem?_eq_getElem (by omega)]; exact List.getElem_mem _
    have h2 := hh _ hx
    simp only [soldTo]
    have h3 : 0 ≤ min (k : Int) load := by omega
    have h4 : min (k : Int) load ≤ 2001 := by omega
    have h5 : 0 ≤ min (k : Int) load * h.getD k 0 := Int.mul_nonneg h3 h2.1
    have h6 : min (k : Int) load * h.getD k 0 ≤ 2001 * 1000000000 := Int.mul_le_mul h4 h2.2 h2.1 (by omega)
    omega
def soldM (h : List Int) (load : Int) : Int := soldTo h load h.length
def gainM (h : List Int) (load margin waste : Int) : Int := margin * soldM h load - waste * (load * h.sum - soldM h load)

set_option maxRecDepth 100000 in
theorem sold_any (h : List Int) (load : Int) (a : Option Addr) (c : Nat) (w : World) (hc : CellsAt w a (ints h)) (hl : h.length ≤ 2001) (hl0 : 0 ≤ load) (hl1 : load ≤ 2001) (hh : ∀ x ∈ h, 0 ≤ x ∧ x ≤ 1000000000) :
    Calls Try.prog 159 #[.slice a h.length c, .int .i64 load] w fun e w' => e = .returned (.int .i64 (soldM h load)) ∧ w.grownBy w' none := by
  have HB := Lib.hid (soldTo_bound h load hl0 hl1 hh)
  have HH := Lib.hid hh; clear hh
  go_enter Try.func159, Try.ntmps159
  go_wp2_with (fail)
  go_loopw [5, 10] (fun s i wr => ∃ k : Nat, k ≤ h.length ∧ i = .int .i64 k ∧ s = .int .i64 (soldTo h load k) ∧ wr = w) (fun _ i _ => h.length - (intOf i).toNat)
  case atStart => exact ⟨0, Nat.zero_le _, rfl, rfl, rfl⟩
  case round =>
    obtain ⟨k, hk, rfl, rfl, hwe⟩ := hrel
    subst hwe
    by_cases hlt : k < h.length
    · obtain ⟨b, off, rfl, d0⟩ := hc k _ (ints_get h k hlt)
      have hxm : h.getD k 0 ∈ h := by rw [List.getD_eq_getElem?_getD, List.getElem?_eq_getElem hlt]; exact List.getElem_mem _
      obtain ⟨hx0, hx1⟩ := HH.out _ hxm
      obtain ⟨hb0, hb1⟩ := HB.out k hk
      obtain ⟨hc0, hc1⟩ := HB.out (k + 1) hlt
      have hnx : soldTo h load (k + 1) = soldTo h load k + min (k : Int) load * h.getD k 0 := rfl
      obtain ⟨x, hx⟩ : ∃ x, x = h.getD k 0 := ⟨_, rfl⟩
      obtain ⟨s, hs⟩ : ∃ s, s = soldTo h load k := ⟨_, rfl⟩
      obtain ⟨m, hm⟩ : ∃ m, m = min (k : Int) load := ⟨_, rfl⟩
      rw [← hx] at d0 hnx hx0 hx1
      rw [← hs] at hnx hb0 hb1
      rw [← hm] at hnx
      rw [← hs]
      have hmin : (if load < (k : Int) then load else (k : Int)) = m := by rw [hm]; split <;> omega
      have hm0 : 0 ≤ m := by omega
      have hm1 : m ≤ 2001 := by omega
      obtain ⟨p, hp⟩ : ∃ p, m * x = p := ⟨_, rfl⟩
      have hp0 : 0 ≤ p := by rw [← hp]; exact Int.mul_nonneg hm0 hx0
      have hp1 : p ≤ 2001 * 1000000000 := by rw [← hp]; exact Int.mul_le_mul hm1 hx1 hx0 (by omega)
      rw [hp] at hnx
      rw [hnx] at hc0 hc1
      have HNX := Lib.hid hnx
      clear hnx hx hs hm hxm
      go_wp2_with (fail)
      go_roundw
      case rel => exact ⟨k + 1, by omega, by go_num, by rw [HNX.out], trivial⟩
      case measure => simp [intOf]; omega
    · have hkl : k = h.length := by omega
      have hfin : Hid (soldTo h load k = soldM h load) := by show _ = _; rw [hkl]; rfl
      have HK := Lib.hid hkl; clear hkl
      go_wp2_with (fail)
      go_ret
      exact ⟨ret_int hfin.out, gr_refl _ _⟩
theorem sum_nonneg' (h : List Int) (hh : ∀ x ∈ h, 0 ≤ x) : 0 ≤ h.sum := by
  induction h with
  | nil => simp
  | cons a t ih =>
    have := hh a (by simp)
    have := ih (fun x hx => hh x (by simp [hx]))
    simp only [List.sum_cons]; omega

set_option maxRecDepth 100000 in
theorem gain_any (h : List Int) (load margin waste : Int) (a : Option Addr) (c : Nat) (w : World) (hc : CellsAt w a (ints h)) (hl : h.length ≤ 100) (hl0 : 0 ≤ load) (hl1 : load ≤ 100) (hm0 : 0 ≤ margin) (hm1 : margin ≤ 1000) (hw0 : 0 ≤ waste) (hw1 : waste ≤ 1000)
    (hh : ∀ x ∈ h, 0 ≤ x ∧ x ≤ 1000000000) (hs1 : h.sum ≤ 1000000000) :
    Calls Try.prog 115 #[.slice a h.length c, .int .i64 load, .int .i64 margin, .int .i64 waste] w fun e w' => e = .returned (.int .i64 (gainM h load margin waste)) ∧ w.grownBy w' none := by
  have hb := soldTo_bound h load hl0 (by omega) hh h.length (Nat.le_refl _)
  have hs0 := sum_nonneg' h (fun x hx => (hh x hx).1)
  have hfin : gainM h load margin waste = margin * soldM h load - waste * (load * h.sum - soldM h load) := rfl
  have HS := Lib.hid (fun (w' : World) (g : w.grownBy w' none) => sold_any h load a c w' (hc.keep0 g) (by omega) hl0 (by omega) hh)
  have HW := Lib.hid (fun (w' : World) (g : w.grownBy w' none) => weight_any h a c w' (hc.keep0 g) (by omega) (fun x hx => by have := hh x hx; omega))
  obtain ⟨n, hn⟩ : ∃ n, n = soldM h load := ⟨_, rfl⟩
  have hb0 : 0 ≤ n := by rw [hn]; exact hb.1
  have hb1 : n ≤ 201000000000000 := by rw [hn]; have := hb.2; unfold soldM; omega
  obtain ⟨s, hs⟩ : ∃ s, s = h.sum := ⟨_, rfl⟩
  rw [← hn] at HS hfin
  rw [← hs] at HW hfin hs0 hs1
  obtain ⟨p1, hp1⟩ : ∃ p, margin * n = p := ⟨_, rfl⟩
  have hp10 : 0 ≤ p1 := by rw [← hp1]; exact Int.mul_nonneg hm0 hb0
  have hp11 : p1 ≤ 1000 * 201000000000000 := by rw [← hp1]; exact Int.mul_le_mul hm1 hb1 hb0 (by omega)
  obtain ⟨p2, hp2⟩ : ∃ p, load * s = p := ⟨_, rfl⟩
  have hp20 : 0 ≤ p2 := by rw [← hp2]; exact Int.mul_nonneg hl0 hs0
  have hp21 : p2 ≤ 100 * 1000000000 := by rw [← hp2]; exact Int.mul_le_mul hl1 hs1 hs0 (by omega)
  obtain ⟨d, hd⟩ : ∃ d, p2 - n = d := ⟨_, rfl⟩
  obtain ⟨p3, hp3⟩ : ∃ p, waste * d = p := ⟨_, rfl⟩
  have hd0 : -201000000000000 ≤ d := by omega
  have hd1 : d ≤ 201000000000000 := by omega
  have hp30 : -(1000 * 201000000000000) ≤ p3 := by
    have h1 : waste * (-201000000000000) ≤ waste * d := Int.mul_le_mul_of_nonneg_left hd0 hw0
    have h2 : 1000 * (-201000000000000 : Int) ≤ waste * (-201000000000000) := by omega
    omega
  have hp31 : p3 ≤ 1000 * 201000000000000 := by
    have h1 : waste * d ≤ waste * 201000000000000 := Int.mul_le_mul_of_nonneg_left hd1 hw0
    omega
  rw [hp1, hp2, hd, hp3] at hfin
  have HF := Lib.hid hfin
  clear hfin hn hs hb hh hc hl hl0 hl1 hm0 hm1 hw0 hw1
  go_enter Try.func115, Try.ntmps115
  go_wp2_with (fail)
  refine (HS.out w (gr_refl _ _)).mono ?_
  rintro e w1 ⟨rfl, hg1⟩
  go_wp2_with (fail)
  refine (HW.out w1 hg1).mono ?_
  rintro e w2 ⟨rfl, hg2⟩
  go_wp2_with (fail)
  go_ret
  exact ⟨ret_int (by rw [HF.out]), gr_trans hg1 hg2⟩

set_option maxRecDepth 100000 in
theorem priced_any (margin waste : Int) (w : World) (hm0 : 0 ≤ margin) (hm1 : margin ≤ 1000) (hw0 : 0 ≤ waste) (hw1 : waste ≤ 1000) :
    Calls Try.prog 114 #[.int .i64 margin, .int .i64 waste] w fun e w' => e = .returned (.bool true) ∧ w = w' := by
  have d1 : Hid ((decide (margin < 0) || decide (10000 < margin)) = false) := by show _ = _; simp; omega
  have d2 : Hid ((decide (waste < 0) || decide (10000 < waste)) = false) := by show _ = _; simp; omega
  clear hm0 hm1 hw0 hw1
  go_enter Try.func114, Try.ntmps114
  go_wp2_with (fail)
  refine (out_any margin 0 10000 w).mono ?_
  rintro e w1 ⟨rfl, rfl⟩
  rw [d1.out]
  go_wp2_with (fail)
  refine (out_any waste 0 10000 _).mono ?_
  rintro e w1 ⟨rfl, rfl⟩
  rw [d2.out]
  go_wp2_with (fail)
  go_ret
  exact ⟨rfl, rfl⟩
end Go.Proofs.Ytlpkancpjdihgaa
