/- Wallets of the sites a, b and c, as they lie in memory; keys, sites, rights. -/
import Derived.Test.YtjhfglhoiplfmaaDoorPkDAm
import Derived.Test.YtjhfglhoiplfmaaDoorPkDAc
import Derived.Test.YtjhfglhoiplfmaaDoorPkDAy
import Derived.Deep.DeepFit
import Derived.IntWalk
import Derived.WalkLawsBesides
import Derived.Test.YtjhfglhoiplfmaaDoorPkDAa
import Derived.Test.YtjhfglhoiplfmaaDoorPkDAd
namespace Go.Proofs.YtjhfglhoiplfmaaDoor
open Go.RowKit

def sA : ByteArray := ⟨#[97]⟩
def sB : ByteArray := ⟨#[98]⟩
def sC : ByteArray := ⟨#[99]⟩
/-- The site of a number. -/
def siteV (i : Nat) : Value := if i = 0 then .string { data := #[97] } else if i = 1 then .string { data := #[98] } else .string { data := #[99] }
structure WalAt (w : World) (B : Nat → Prop) (x y z : Value) (A : Wal) : Prop where
  s : ∃ b o c, x = .slice (some ⟨b, o, none⟩) 3 c ∧ c ≤ maxLen ∧ B b ∧ ∀ i, i < 3 → w.cell? ⟨b, o + i, none⟩ = some (siteV i)
  r : ∃ b o c, y = .slice (some ⟨b, o, none⟩) 3 c ∧ c ≤ maxLen ∧ B b ∧ ∀ i, i < 3 → ∃ b2 o2 c2, w.cell? ⟨b, o + i, none⟩ = some (.slice (some ⟨b2, o2, none⟩) 3 c2) ∧ c2 ≤ maxLen ∧ B b2 ∧ ∀ j, j < 3 → w.cell? ⟨b2, o2 + j, none⟩ = some (.int .i64 (A.r i j))
  u : ∃ b o c, z = .slice (some ⟨b, o, none⟩) 3 c ∧ c ≤ maxLen ∧ B b ∧ ∀ i, i < 3 → w.cell? ⟨b, o + i, none⟩ = some (.int .i64 (A.u i))
theorem keep_cell {w w1 : World} {B : Nat → Prop} {r : Option Nat} (g : w.grownBy w1 r) (hr : ∀ q, r = some q → ¬ B q) {b o : Nat} {v : Value} (hb : B b) (h : w.cell? ⟨b, o, none⟩ = some v) : w1.cell? ⟨b, o, none⟩ = some v :=
  g.cell h (fun e => hr b e.symm hb)
theorem WalAt.keep {w w1 : World} {B : Nat → Prop} {x y z : Value} {A : Wal} {r : Option Nat} (h : WalAt w B x y z A) (g : w.grownBy w1 r) (hr : ∀ q, r = some q → ¬ B q) : WalAt w1 B x y z A := by
  obtain ⟨⟨b1, o1, c1, e1, m1, k1, h1⟩, ⟨b2, o2, c2, e2, m2, k2, h2⟩, ⟨b3, o3, c3, e3, m3, k3, h3⟩⟩ := h
  refine ⟨⟨b1, o1, c1, e1, m1, k1, fun i hi => keep_cell g hr k1 (h1 i hi)⟩, ⟨b2, o2, c2, e2, m2, k2, fun i hi => ?_⟩, ⟨b3, o3, c3, e3, m3, k3, fun i hi => keep_cell g hr k3 (h3 i hi)⟩⟩
  obtain ⟨b4, o4, c4, h4, m4, k4, h5⟩ := h2 i hi
  exact ⟨b4, o4, c4, keep_cell g hr k2 h4, m4, k4, fun j hj => keep_cell g hr k4 (h5 j hj)⟩
theorem WalAt.keep0 {w w1 : World} {B : Nat → Prop} {x y z : Value} {A : Wal} (h : WalAt w B x y z A) (g : w.grownBy w1 none) : WalAt w1 B x y z A := h.keep g (fun q e => by cases e)
theorem WalAt.weak {w : World} {B B' : Nat → Prop} {x y z : Value} {A : Wal} (h : WalAt w B x y z A) (hb : ∀ b, b < w.heap.size → B b → B' b) : WalAt w B' x y z A := by
  obtain ⟨⟨b1, o1, c1, e1, m1, k1, h1⟩, ⟨b2, o2, c2, e2, m2, k2, h2⟩, ⟨b3, o3, c3, e3, m3, k3, h3⟩⟩ := h
  refine ⟨⟨b1, o1, c1, e1, m1, hb b1 (lt_of_cell (h1 0 (by omega))) k1, h1⟩, ⟨b2, o2, c2, e2, m2, ?_, fun i hi => ?_⟩, ⟨b3, o3, c3, e3, m3, hb b3 (lt_of_cell (h3 0 (by omega))) k3, h3⟩⟩
  · obtain ⟨_, _, _, h4, _⟩ := h2 0 (by omega)
    exact hb b2 (lt_of_cell h4) k2
  · obtain ⟨b4, o4, c4, h4, m4, k4, h5⟩ := h2 i hi
    exact ⟨b4, o4, c4, h4, m4, hb b4 (lt_of_cell (h5 0 (by omega))) k4, h5⟩

theorem key_a (w : World) : Calls Tryd.prog 75 #[.string { data := #[97] }] w fun e w' => e = .returned (.bool true) ∧ w = w' := by
  go_enter Tryd.func75, Tryd.ntmps75
  go_wp2_with (fail)
  go_loop [24] (fun i => ∃ k : Nat, k ≤ 1 ∧ i = .int .i64 k) (fun i => 1 - (intOf i).toNat)
  case atStart => exact ⟨0, by omega, rfl⟩
  case round =>
    obtain ⟨k, hk, rfl⟩ := hrel
    obtain rfl | rfl : k = 0 ∨ k = 1 := by omega
    · go_wp2_with (fail)
      go_round
      case rel => exact ⟨1, by omega, by go_num⟩
      case measure => simp [intOf]
    · go_wp2_with (fail)
      go_ret
      exact ⟨rfl, rfl⟩
theorem key_b (w : World) : Calls Tryd.prog 75 #[.string { data := #[98] }] w fun e w' => e = .returned (.bool true) ∧ w = w' := by
  go_enter Tryd.func75, Tryd.ntmps75
  go_wp2_with (fail)
  go_loop [24] (fun i => ∃ k : Nat, k ≤ 1 ∧ i = .int .i64 k) (fun i => 1 - (intOf i).toNat)
  case atStart => exact ⟨0, by omega, rfl⟩
  case round =>
    obtain ⟨k, hk, rfl⟩ := hrel
    obtain rfl | rfl : k = 0 ∨ k = 1 := by omega
    · go_wp2_with (fail)
      go_round
      case rel => exact ⟨1, by omega, by go_num⟩
      case measure => simp [intOf]
    · go_wp2_with (fail)
      go_ret
      exact ⟨rfl, rfl⟩
theorem key_c (w : World) : Calls Tryd.prog 75 #[.string { data := #[99] }] w fun e w' => e = .returned (.bool true) ∧ w = w' := by
  go_enter Tryd.func75, Tryd.ntmps75
  go_wp2_with (fail)
  go_loop [24] (fun i => ∃ k : Nat, k ≤ 1 ∧ i = .int .i64 k) (fun i => 1 - (intOf i).toNat)
  case atStart => exact ⟨0, by omega, rfl⟩
  case round =>
    obtain ⟨k, hk, rfl⟩ := hrel
    obtain rfl | rfl : k = 0 ∨ k = 1 := by omega
    · go_wp2_with (fail)
      go_round
      case rel => exact ⟨1, by omega, by go_num⟩
      case measure => simp [intOf]
    · go_wp2_with (fail)
      go_ret
      exact ⟨rfl, rfl⟩
theorem key_site (i : Nat) (hi : i < 3) (w : World) : Calls Tryd.prog 75 #[siteV i] w fun e w' => e = .returned (.bool true) ∧ w = w' := by
  obtain rfl | rfl | rfl : i = 0 ∨ i = 1 ∨ i = 2 := by omega
  · exact key_a w
  · exact key_b w
  · exact key_c w

theorem sites_ok (b o c : Nat) (w : World) (hs : ∀ i, i < 3 → w.cell? ⟨b, o + i, none⟩ = some (siteV i)) :
    Calls Tryd.prog 99 #[.slice (some ⟨b, o, none⟩) 3 c] w fun e w' => e = .returned (.int .i64 0) ∧ w = w' := by
  have h0 : w.cell? ⟨b, o, none⟩ = some (.string { data := #[97] }) := hs 0 (by omega)
  have h1 : w.cell? ⟨b, o + 1, none⟩ = some (.string { data := #[98] }) := hs 1 (by omega)
  have h2 : w.cell? ⟨b, o + 2, none⟩ = some (.string { data := #[99] }) := hs 2 (by omega)
  clear hs
  have l1 : Op.bytesLess ({ data := #[98] } : ByteArray).toList ({ data := #[97] } : ByteArray).toList = false := by kernel_rfl
  have l2 : (({ data := #[98] } : ByteArray).toList == ({ data := #[97] } : ByteArray).toList) = false := by kernel_rfl
  have l3 : Op.bytesLess ({ data := #[99] } : ByteArray).toList ({ data := #[98] } : ByteArray).toList = false := by kernel_rfl
  have l4 : (({ data := #[99] } : ByteArray).toList == ({ data := #[98] } : ByteArray).toList) = false := by kernel_rfl
  go_enter Tryd.func99, Tryd.ntmps99
  go_wp2_with (fail)
  go_loop [15] (fun i => ∃ k : Nat, k ≤ 3 ∧ i = .int .i64 k) (fun i => 3 - (intOf i).toNat)
  case atStart => exact ⟨0, by omega, rfl⟩
  case round =>
    obtain ⟨k, hk, rfl⟩ := hrel
    obtain rfl | rfl | rfl | rfl : k = 0 ∨ k = 1 ∨ k = 2 ∨ k = 3 := by omega
    · go_wp2_with (fail)
      refine (key_a w).mono ?_
      rintro e w' ⟨rfl, rfl⟩
      go_wp2_with (fail)
      go_round
      case rel => exact ⟨1, by omega, by go_num⟩
      case measure => simp [intOf]
    · go_wp2_with (fail)
      refine (key_b w).mono ?_
      rintro e w' ⟨rfl, rfl⟩
      go_wp2_with (fail)
      go_round
      case rel => exact ⟨2, by omega, by go_num⟩
      case measure => simp [intOf]
    · go_wp2_with (fail)
      refine (key_c w).mono ?_
      rintro e w' ⟨rfl, rfl⟩
      go_wp2_with (fail)
      go_round
      case rel => exact ⟨3, by omega, by go_num⟩
      case measure => simp [intOf]
    · go_wp2_with (fail)
      go_ret
      exact ⟨rfl, rfl⟩

theorem rightsTo_bound {A : Wal} {X : Int} (hr : ∀ i j, i < 3 → j < 3 → 0 ≤ A.r i j ∧ A.r i j ≤ X) (hu : ∀ i, i < 3 → 0 ≤ A.u i ∧ A.u i ≤ X) (i : Nat) (hi : i < 3) (m : Nat) (hm : m ≤ 3) : -(4 * X) ≤ rightsTo A i m ∧ rightsTo A i m ≤ 4 * X := by
  have key : ∀ m, m ≤ 3 → -((m + 1) * X) ≤ rightsTo A i m ∧ rightsTo A i m ≤ (m + 1) * X := by
    intro m
    induction m with
    | zero => intro _; have := hr i i hi hi; have := hu i hi; simp only [rightsTo]; constructor <;> simp <;> omega
    | succ m ih =>
      intro hm
      obtain ⟨h1, h2⟩ := ih (by omega)
      have h3 := hr m i (by omega) hi
      have h4 := hr i m hi (by omega)
      have e : (((m + 1 : Nat) : Int) + 1) * X = ((m : Int) + 1) * X + X := by rw [Int.natCast_add, Int.add_mul ((m : Int) + _)]; simp
      rw [e]
      simp only [rightsTo]
      split <;> constructor <;> omega
  obtain ⟨h1, h2⟩ := key m hm
  have hX : 0 ≤ X := by have := hr i i hi hi; omega
  have h3 : ((m : Int) + 1) * X ≤ 4 * X := Int.mul_le_mul_of_nonneg_right (by omega) hX
  omega

end Go.Proofs.YtjhfglhoiplfmaaDoor

/-! Slices as elements of slices; what CheckWallet asks of them. -/
namespace Go.Proofs.YtjhfglhoiplfmaaDoor
open Go.RowKit

def encSl (x : Option Addr × Nat × Nat) : List Value := [.slice x.1 x.2.1 x.2.2]

end Go.Proofs.YtjhfglhoiplfmaaDoor

/-! Package slices at elements []int: with a function value. Written by mkfind.py. -/
namespace Go.Proofs.YtjhfglhoiplfmaaDoor
open Go.RowKit

end Go.Proofs.YtjhfglhoiplfmaaDoor
