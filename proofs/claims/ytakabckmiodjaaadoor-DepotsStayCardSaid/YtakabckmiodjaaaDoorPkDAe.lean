/- Wallets of the sites a, b and c, as they lie in memory; keys, sites, rights. -/
import Derived.Test.YtakabckmiodjaaaDoorPkDAa
import Derived.Test.YtakabckmiodjaaaDoorPkDAc
import Derived.Test.YtakabckmiodjaaaDoorPkDAd
import Derived.Deep.DeepFit
import Derived.IntWalk
import Derived.WalkLawsBesides
import Derived.Test.YtakabckmiodjaaaDoorPkDAb
namespace Go.Proofs.YtakabckmiodjaaaDoor
open Go.RowKit

def sA : ByteArray := ⟨#[97]⟩
def sB : ByteArray := ⟨#[98]⟩
def sC : ByteArray := ⟨#[99]⟩
/-- The site of a number. -/
def siteV (i : Nat) : Value := if i = 0 then .string { data := #[97] } else if i = 1 then .string { data := #[98] } else .string { data := #[99] }
structure WalAt (w : World) (B : Nat → Prop) (x y z : Value) (A : Wal) : Prop where
  s : ∃ b o c, x = .slice (some ⟨b, o, none⟩) 3 c ∧ c ≤ maxLen ∧ B b ∧ ∀ i, i < 3 → w.cell? ⟨b, o + i, none⟩ = some (siteV i)
  r : ∃ b o c, y = .slice (some ⟨b, o, none⟩) 3 c ∧ c ≤ maxLen ∧ B b ∧ ∀ i, i < 3 → ∃ b2 o2 c2, w.cell? ⟨b, o + i, none⟩ = some (.slice (some ⟨b2, o2, none⟩) 3 c2) ∧ c2 ≤ maxLen ∧ B b2 ∧ ∀ j, j < 3 → w.cell? ⟨b2, o2 + j, none⟩ = some (.int .i64 (A.r i j))
  u : ∃ b o c, z = .slice (some ⟨b, o, none⟩) 3 c ∧ c ≤ maxLen ∧ B b ∧ ∀ i, i < 3 → w.cell? ⟨b, o + i, none⟩ = some (.int .i64 (A.u i))
theorem keep_cell {w w1 : World} {B : Nat → Prop} {r : Option Nat} (g : w.grownBy w1 r) (hr : ∀ q, r = some q → ¬ B q) {b o : Nat} {v : Value} (hb : B b) (h : w.cell? ⟨b, o, none⟩ = some v) : w1.cell? ⟨b, o, none⟩ = some v :=
  g.cell h (fun e => hr b e.symm hb)
theorem WalAt.keep {w w1 : World} {B : Nat → Prop} {x y z : Value} {A : Wal} {r : Option Nat} (h : WalAt w B x y z A) (g : w.grownBy w1 r) (hr : ∀ q, r = some q → ¬ B q) : WalAt w1 B x y z A := by
  obtain ⟨⟨b1, o1, c1, e1, m1, k1, h1⟩, ⟨b2, o2, c2, e2, m2, k2, h2⟩, ⟨b3, o3, c3, e3, m3, k3, h3⟩⟩ := h
  refine ⟨⟨b1, o1, c1, e1, m1, k1, fun i hi => keep_cell g hr k1 (h1 i hi)⟩, ⟨b2, o2, c2, e2, m2, k2, fun i hi => ?_⟩, ⟨b3, o3, c3, e3, m3, k3, fun i hi => keep_cell g hr k3 (h3 i hi)⟩⟩
  obtain ⟨b4, o4, c4, h4, m4, k4, h5⟩ := h2 i hi
  exact ⟨b4, o4, c4, keep_cell g hr k2 h4, m4, k4, fun j hj => keep_cell g hr k4 (h5 j hj)⟩
theorem WalAt.keep0 {w w1 : World} {B : Nat → Prop} {x y z : Value} {A : Wal} (h : WalAt w B x y z A) (g : w.grownBy w1 none) : WalAt w1 B x y z A := h.keep g (fun q e => by cases e)
theorem WalAt.weak {w : World} {B B' : Nat → Prop} {x y z : Value} {A : Wal} (h : WalAt w B x y z A) (hb : ∀ b, b < w.heap.size → B b → B' b) : WalAt w B' x y z A := by
  obtain ⟨⟨b1, o1, c1, e1, m1, k1, h1⟩, ⟨b2, o2, c2, e2, m2, k2, h2⟩, ⟨b3, o3, c3, e3, m3, k3, h3⟩⟩ := h
  refine ⟨⟨b1, o1, c1, e1, m1, hb b1 (lt_of_cell (h1 0 (by omega))) k1, h1⟩, ⟨b2, o2, c2, e2, m2, ?_, fun i hi => ?_⟩, ⟨b3, o3, c3, e3, m3, hb b3 (lt_of_cell (h3 0 (by omega))) k3, h3⟩⟩
  · obtain ⟨_, _, _, h4, _⟩ := h2 0 (by omega)
    exact hb b2 (lt_of_cell h4) k2
  · obtain ⟨b4, o4, c4, h4, m4, k4, h5⟩ := h2 i hi
    exact ⟨b4, o4, c4, h4, m4, hb b4 (lt_of_cell (h5 0 (by omega))) k4, h5⟩

theorem key_a (w : World) : Calls Tryd.prog 73 #[.string { data := #[97] }] w fun e w' => e = .returned (.bool true) ∧ w = w' := by
  go_enter Tryd.func73, Tryd.ntmps73
  go_wp2_with (fail)
  go_loop [24] (fun i => ∃ k : Nat, k ≤ 1 ∧ i = .int .i64 k) (fun i => 1 - (intOf i).toNat)
  case atStart => exact ⟨0, by omega, rfl⟩
  case round =>
    obtain ⟨k, hk, rfl⟩ := hrel
    obtain rfl | rfl : k = 0 ∨ k = 1 := by omega
    · go_wp2_with (fail)
      go_round
      case rel => exact ⟨1, by omega, by go_num⟩
      case measure => simp [intOf]
    · go_wp2_with (fail)
      go_ret
      exact ⟨rfl, rfl⟩
theorem key_b (w : World) : Calls Tryd.prog 73 #[.string { data := #[98] }] w fun e w' => e = .returned (.bool true) ∧ w = w' := by
  go_enter Tryd.func73, Tryd.ntmps73
  go_wp2_with (fail)
  go_loop [24] (fun i => ∃ k : Nat, k ≤ 1 ∧ i = .int .i64 k) (fun i => 1 - (intOf i).toNat)
  case atStart => exact ⟨0, by omega, rfl⟩
  case round =>
    obtain ⟨k, hk, rfl⟩ := hrel
    obtain rfl | rfl : k = 0 ∨ k = 1 := by omega
    · go_wp2_with (fail)
      go_round
      case rel => exact ⟨1, by omega, by go_num⟩
      case measure => simp [intOf]
    · go_wp2_with (fail)
      go_ret
      exact ⟨rfl, rfl⟩
theorem key_c (w : World) : Calls Tryd.prog 73 #[.string { data := #[99] }] w fun e w' => e = .returned (.bool true) ∧ w = w' := by
  go_enter Tryd.func73, Tryd.ntmps73
  go_wp2_with (fail)
  go_loop [24] (fun i => ∃ k : Nat, k ≤ 1 ∧ i = .int .i64 k) (fun i => 1 - (intOf i).toNat)
  case atStart => exact ⟨0, by omega, rfl⟩
  case round =>
    obtain ⟨k, hk, rfl⟩ := hrel
    obtain rfl | rfl : k = 0 ∨ k = 1 := by omega
    · go_wp2_with (fail)
      go_round
      case rel => exact ⟨1, by omega, by go_num⟩
      case measure => simp [intOf]
    · go_wp2_with (fail)
      go_ret
      exact ⟨rfl, rfl⟩
theorem key_site (i : Nat) (hi : i < 3) (w : World) : Calls Tryd.prog 73 #[siteV i] w fun e w' => e = .returned (.bool true) ∧ w = w' := by
  obtain rfl | rfl | rfl : i = 0 ∨ i = 1 ∨ i = 2 := by omega
  · exact key_a w
  · exact key_b w
  · exact key_c w

theorem sites_ok (b o c : Nat) (w : World) (hs : ∀ i, i < 3 → w.cell? ⟨b, o + i, none⟩ = some (siteV i)) :
    Calls Tryd.prog 66 #[.slice (some ⟨b, o, none⟩) 3 c] w fun e w' => e = .returned (.int .i64 0) ∧ w = w' := by
  have h0 : w.cell? ⟨b, o, none⟩ = some (.string { data := #[97] }) := hs 0 (by omega)
  have h1 : w.cell? ⟨b, o + 1, none⟩ = some (.string { data := #[98] }) := hs 1 (by omega)
  have h2 : w.cell? ⟨b, o + 2, none⟩ = some (.string { data := #[99] }) := hs 2 (by omega)
  clear hs
  have l1 : Op.bytesLess ({ data := #[98] } : ByteArray).toList ({ data := #[97] } : ByteArray).toList = false := by kernel_rfl
  have l2 : (({ data := #[98] } : ByteArray).toList == ({ data := #[97] } : ByteArray).toList) = false := by kernel_rfl
  have l3 : Op.bytesLess ({ data := #[99] } : ByteArray).toList ({ data := #[98] } : ByteArray).toList = false := by kernel_rfl
  have l4 : (({ data := #[99] } : ByteArray).toList == ({ data := #[98] } : ByteArray).toList) = false := by kernel_rfl
  go_enter Tryd.func66, Tryd.ntmps66
  go_wp2_with (fail)
  go_loop [15] (fun i => ∃ k : Nat, k ≤ 3 ∧ i = .int .i64 k) (fun i => 3 - (intOf i).toNat)
  case atStart => exact ⟨0, by omega, rfl⟩
  case round =>
    obtain ⟨k, hk, rfl⟩ := hrel
    obtain rfl | rfl | rfl | rfl : k = 0 ∨ k = 1 ∨ k = 2 ∨ k = 3 := by omega
    · go_wp2_with (fail)
      refine (key_a w).mono ?_
      rintro e w' ⟨rfl, rfl⟩
      go_wp2_with (fail)
      go_round
      case rel => exact ⟨1, by omega, by go_num⟩
      case measure => simp [intOf]
    · go_wp2_with (fail)
      refine (key_b w).mono ?_
      rintro e w' ⟨rfl, rfl⟩
      go_wp2_with (fail)
      go_round
      case rel => exact ⟨2, by omega, by go_num⟩
      case measure => simp [intOf]
    · go_wp2_with (fail)
      refine (key_c w).mono ?_
      rintro e w' ⟨rfl, rfl⟩
      go_wp2_with (fail)
      go_round
      case rel => exact ⟨3, by omega, by go_num⟩
      case measure => simp [intOf]
    · go_wp2_with (fail)
      go_ret
      exact ⟨rfl, rfl⟩

theorem rightsTo_bound {A : Wal} {X : Int} (hr : ∀ i j, i < 3 → j < 3 → 0 ≤ A.r i j ∧ A.r i j ≤ X) (hu : ∀ i, i < 3 → 0 ≤ A.u i ∧ A.u i ≤ X) (i : Nat) (hi : i < 3) (m : Nat) (hm : m ≤ 3) : -(4 * X) ≤ rightsTo A i m ∧ rightsTo A i m ≤ 4 * X := by
  have key : ∀ m, m ≤ 3 → -((m + 1) * X) ≤ rightsTo A i m ∧ rightsTo A i m ≤ (m + 1) * X := by
    intro m
    induction m with
    | zero => intro _; have := hr i i hi hi; have := hu i hi; simp only [rightsTo]; constructor <;> simp <;> omega
    | succ m ih =>
      intro hm
      obtain ⟨h1, h2⟩ := ih (by omega)
      have h3 := hr m i (by omega) hi
      have h4 := hr i m hi (by omega)
      have e : (((m + 1 : Nat) : Int) + 1) * X = ((m : Int) + 1) * X + X := by rw [Int.natCast_add, Int.add_mul ((m : Int) + _)]; simp
      rw [e]
      simp only [rightsTo]
      split <;> constructor <;> omega
  obtain ⟨h1, h2⟩ := key m hm
  have hX : 0 ≤ X := by have := hr i i hi hi; omega
  have h3 : ((m : Int) + 1) * X ≤ 4 * X := Int.mul_le_mul_of_nonneg_right (by omega) hX
  omega

set_option maxRecDepth 100000 in
set_option maxHeartbeats 1000000 in
theorem rights_any (x y z : Value) (A : Wal) (B : Nat → Prop) (i : Nat) (w : World) (ha : WalAt w B x y z A) (hi : i < 3) (hr : ∀ i j, i < 3 → j < 3 → 0 ≤ A.r i j ∧ A.r i j ≤ 1000000000) (hu : ∀ i, i < 3 → 0 ≤ A.u i ∧ A.u i ≤ 1000000000) :
    Calls Tryd.prog 72 #[.agg #[x, y, z], .int .i64 i] w fun e w' => e = .returned (.int .i64 (rightsTo A i 3)) ∧ w.grownBy w' none := by
  have hg1 := gr_alloc (gr_refl w none) (.cells #[x, y, z] 29)
  have ha1 := ha.keep0 hg1
  obtain ⟨⟨b1, o1, c1, rfl, m1, k1, h1⟩, ⟨b2, o2, c2, rfl, m2, k2, h2⟩, ⟨b3, o3, c3, rfl, m3, k3, h3⟩⟩ := ha1
  obtain ⟨w1, hw1⟩ : ∃ w1, w1 = w.alloc (.cells #[.slice (some ⟨b1, o1, none⟩) 3 c1, .slice (some ⟨b2, o2, none⟩) 3 c2, .slice (some ⟨b3, o3, none⟩) 3 c3] 29) := ⟨_, rfl⟩
  have p0 : w1.cell? ⟨w.heap.size, 0, none⟩ = some (.slice (some ⟨b1, o1, none⟩) 3 c1) := by rw [hw1]; exact made_cell (gr_refl _ _) 0 rfl
  have p1 : w1.cell? ⟨w.heap.size, 1, none⟩ = some (.slice (some ⟨b2, o2, none⟩) 3 c2) := by rw [hw1]; exact made_cell (gr_refl _ _) 1 rfl
  have p2 : w1.cell? ⟨w.heap.size, 2, none⟩ = some (.slice (some ⟨b3, o3, none⟩) 3 c3) := by rw [hw1]; exact made_cell (gr_refl _ _) 2 rfl
  rw [← hw1] at h1 h2 h3 hg1
  have H2 := Lib.hid h2
  obtain ⟨b4, o4, c4, d4, m4, k4, h5⟩ := h2 i hi
  have e1 := h5 i hi
  have e2 := h3 i hi
  have H5 := Lib.hid h5
  have hrii := hr i i hi hi
  have hui := hu i hi
  have HB := Lib.hid (rightsTo_bound hr hu i hi)
  have HR := Lib.hid hr
  have hR0 : rightsTo A i 0 = A.r i i - A.u i := rfl
  obtain ⟨r0, hr0⟩ : ∃ r0, r0 = A.r i i := ⟨_, rfl⟩
  obtain ⟨u0, hu0⟩ : ∃ u0, u0 = A.u i := ⟨_, rfl⟩
  rw [← hr0] at e1 hrii hR0
  rw [← hu0] at e2 hui hR0
  have HR0 := Lib.hid hR0
  have HE1 := Lib.hid hr0
  obtain ⟨q1, q2⟩ := hrii
  obtain ⟨q3, q4⟩ := hui
  clear h1 h2 h3 h5 hr hu hR0 hr0 hu0 ha
  go_enter Tryd.func72, Tryd.ntmps72
  go_wp2_with (fail)
  rw [← hw1]
  clear hw1
  go_quiet (fail)
  go_wp2_with (fail)
  go_loopw [5, 24] (fun s j wr => ∃ m : Nat, m ≤ 3 ∧ j = .int .i64 m ∧ s = .int .i64 (rightsTo A i m) ∧ w1.grownBy wr none) (fun _ j _ => 3 - (intOf j).toNat)
  case atStart => exact ⟨0, by omega, rfl, by rw [HR0.out], gr_drewN (gr_refl _ _) _⟩
  case round =>
    obtain ⟨m, hm, rfl, rfl, hgr⟩ := hrel
    obtain ⟨wo, rfl⟩ : ∃ wo : World, wo = wr := ⟨_, rfl⟩
    have hb := HB.out m hm
    obtain ⟨s, hs⟩ : ∃ s, s = rightsTo A i m := ⟨_, rfl⟩
    rw [← hs] at hb
    rw [← hs]
    obtain ⟨hb1, hb2⟩ := hb
    have p0' := (gr_cell hgr (lt_of_cell p0)).trans p0
    have p1' := (gr_cell hgr (lt_of_cell p1)).trans p1
    by_cases hlt : m < 3
    · have hnx : rightsTo A i (m + 1) = if m = i then s else s + (A.r m i - A.r i m) := by rw [hs]; rfl
      by_cases hmi : m = i
      · rw [if_pos hmi] at hnx
        have HNX := Lib.hid hnx
        have HS := Lib.hid hs
        clear hnx hs
        subst hmi
        have hne : ((m : Int) != (m : Int)) = false := by simp
        go_wp2_with (fail)
        go_roundw
        case rel => exact ⟨m + 1, by omega, by go_num, by rw [HNX.out], hgr⟩
        case measure => simp [intOf]; omega
      · rw [if_neg hmi] at hnx
        obtain ⟨b6, o6, c6, d6, m6, _, h7⟩ := H2.out m hlt
        have d6' := (gr_cell hgr (lt_of_cell d6)).trans d6
        have e3 := (gr_cell hgr (lt_of_cell (h7 i hi))).trans (h7 i hi)
        have e4 := (gr_cell hgr (lt_of_cell (H5.out m hlt))).trans (H5.out m hlt)
        have d4' := (gr_cell hgr (lt_of_cell d4)).trans d4
        have y1 := HR.out m i hlt hi
        have y2 := HR.out i m hi hlt
        obtain ⟨v1, hv1⟩ : ∃ v1, v1 = A.r m i := ⟨_, rfl⟩
        obtain ⟨v2, hv2⟩ : ∃ v2, v2 = A.r i m := ⟨_, rfl⟩
        rw [← hv1] at e3 hnx y1
        rw [← hv2] at e4 hnx y2
        obtain ⟨y3, y4⟩ := y1
        obtain ⟨y5, y6⟩ := y2
        have HNX := Lib.hid hnx
        have HS := Lib.hid hs
        have hne : ((m : Int) != (i : Int)) = true := by simp; omega
        have hw1 : IntKind.i64.wrap (v1 - v2) = v1 - v2 := IntWalk.i64_in _ (by omega)
        have hw2 : IntKind.i64.wrap (s + (v1 - v2)) = s + (v1 - v2) := IntWalk.i64_in _ (by omega)
        clear hnx hs hv1 hv2 h7 d6
        go_wp2_with (fail)
        go_quiet (fail)
        go_wp2_with (fail)
        go_roundw
        case rel => exact ⟨m + 1, by omega, by go_num, by rw [HNX.out], gr_drewN hgr _⟩
        case measure => simp [intOf]; omega
    · have hm3 : m = 3 := by omega
      have hfin : Hid (s = rightsTo A i 3) := by show _ = _; rw [hs, hm3]
      clear hs hm3
      go_wp2_with (fail)
      go_ret
      exact ⟨ret_int hfin.out, gr_trans hg1 hgr⟩
end Go.Proofs.YtakabckmiodjaaaDoor

/-! Slices as elements of slices; what CheckWallet asks of them. -/
namespace Go.Proofs.YtakabckmiodjaaaDoor
open Go.RowKit

def encSl (x : Option Addr × Nat × Nat) : List Value := [.slice x.1 x.2.1 x.2.2]

theorem check1_any (x : Option Addr × Nat × Nat) (n : Nat) (p : Nat) (w : World) (hn : w.cell? ⟨p, 0, none⟩ = some (.int .i64 n)) (h1 : x.2.1 = n) :
    Calls Tryd.prog 68 #[.slice x.1 x.2.1 x.2.2, .pointer (some ⟨p, 0, none⟩)] w fun e w' => e = .returned (.bool false) ∧ w.grownBy w' none := by
  have hne : ((n : Int) != (n : Int)) = false := by simp
  rw [h1]
  go_enter Tryd.func68, Tryd.ntmps68
  go_wp2_with (fail)
  go_ret
  exact ⟨rfl, gr_refl _ _⟩
theorem check1_fn : ∀ (args : Array Value) (w : World), (callFunc 68 args).run Tryd.prog w = .ok (.enter 68 args) w := fun _ _ => by kernel_rfl
theorem check2_any (x : Int) (w : World) : Calls Tryd.prog 71 #[.int .i64 x] w fun e w' => e = .returned (.bool (decide (x < 0) || decide (1000000000 < x))) ∧ w = w' := by
  go_enter Tryd.func71, Tryd.ntmps71
  go_wp2_with (go_at_call 27; refine (out_any _ _ _ _).mono ?_; rintro e w' ⟨rfl, rfl⟩)
  all_goals (go_ret; exact ⟨rfl, rfl⟩)
theorem check2_fn : IsFn 71 := fun _ _ => by kernel_rfl
end Go.Proofs.YtakabckmiodjaaaDoor

/-! Package slices at elements []int: with a function value. Written by mkfind.py. -/
namespace Go.Proofs.YtakabckmiodjaaaDoor
open Go.RowKit

set_option maxRecDepth 100000 in
set_option maxHeartbeats 1000000 in
theorem indexFunc_sl (F : FuncId) (p : Nat) (P : Option Addr × Nat × Nat → Bool) (xs : List (Option Addr × Nat × Nat)) (a : Option Addr) (c : Nat) (w : World) (hc : CellsAt w a (flat encSl xs)) (hl : xs.length ≤ 137438953472)
    (hE : ∀ (args : Array Value) (w : World), (callFunc F args).run Tryd.prog w = .ok (.enter F args) w)
    (hF : ∀ x ∈ xs, ∀ w1, w.grownBy w1 none → Calls Tryd.prog F #[.slice x.1 x.2.1 x.2.2, .pointer (some ⟨p, 0, none⟩)] w1 fun e w2 => e = .returned (.bool (P x)) ∧ w1.grownBy w2 none) :
    Calls Tryd.prog 91 #[.slice a xs.length c, Value.func (.func F) #[] #[.pointer (some ⟨p, 0, none⟩)]] w fun e w' => e = .returned (.int .i64 (findA P xs)) ∧ w.grownBy w' none := by
  have HF := Lib.hid hF; clear hF
  go_enter Tryd.func91, Tryd.ntmps91
  go_wp2_with (fail)
  go_loopw [8] (fun i wr => ∃ k : Nat, k ≤ xs.length ∧ i = .int .i64 k ∧ (∀ j (hj : j < xs.length), j < k → P xs[j] = false) ∧ w.grownBy wr none) (fun i _ => xs.length - (intOf i).toNat)
  case atStart => exact ⟨0, Nat.zero_le _, rfl, fun j _ hj => absurd hj (Nat.not_lt_zero _), gr_refl _ _⟩
  case round =>
    obtain ⟨k, hk, rfl, hno, hgr⟩ := hrel
    obtain ⟨wo, rfl⟩ : ∃ wo : World, wo = wr := ⟨_, rfl⟩
    have HNO := Lib.hid hno; clear hno
    by_cases hlt : k < xs.length
    · obtain ⟨b, off, rfl, hcs⟩ := flat_cells (enc := encSl) (m := 1) (fun _ => rfl) (by decide) (hc.keep0 hgr) (by omega)
      have hmem : xs[k] ∈ xs := List.getElem_mem hlt
      obtain ⟨x, hx⟩ : ∃ x, x = xs[k] := ⟨_, rfl⟩
      have HX := Lib.hid hx
      have d0 : wo.cell? ⟨b, off + k, none⟩ = some (.slice x.1 x.2.1 x.2.2) := by have := hcs k hlt 0 _ rfl; simpa [← HX.out] using this
      rw [← hx] at hmem
      clear hx
      have HM := Lib.hid hmem; clear hmem hcs
      go_wp2_with (fail)
      refine (HF.out x HM.out wo hgr).mono ?_
      rintro e w1 ⟨rfl, hg1⟩
      cases hp : P x with
      | true =>
        have HP := Lib.hid hp; clear hp
        go_wp2_with (fail)
        go_ret
        refine ⟨ret_int (findA_at hlt (by rw [← HX.out]; exact HP.out) (fun j hj => HNO.out j (by omega) hj)).symm, gr_trans hgr hg1⟩
      | false =>
        have HP := Lib.hid hp; clear hp
        go_wp2_with (fail)
        go_roundw
        case rel =>
          refine ⟨k + 1, by omega, by go_num, fun j hjl hj => ?_, gr_trans hgr hg1⟩
          by_cases hjk : j = k
          · subst hjk; rw [← HX.out]; exact HP.out
          · exact HNO.out j hjl (by omega)
        case measure => simp [intOf]; omega
    · have hkl : k = xs.length := by omega
      have HK := Lib.hid hkl; clear hkl
      go_wp2_with (fail)
      go_ret
      exact ⟨ret_int (findA_none (fun j hj => HNO.out j hj (by rw [HK.out]; exact hj))).symm, hgr⟩

theorem containsFunc_sl (F : FuncId) (p : Nat) (P : Option Addr × Nat × Nat → Bool) (xs : List (Option Addr × Nat × Nat)) (a : Option Addr) (c : Nat) (w : World) (hc : CellsAt w a (flat encSl xs)) (hl : xs.length ≤ 137438953472)
    (hE : ∀ (args : Array Value) (w : World), (callFunc F args).run Tryd.prog w = .ok (.enter F args) w)
    (hF : ∀ x ∈ xs, ∀ w1, w.grownBy w1 none → Calls Tryd.prog F #[.slice x.1 x.2.1 x.2.2, .pointer (some ⟨p, 0, none⟩)] w1 fun e w2 => e = .returned (.bool (P x)) ∧ w1.grownBy w2 none) :
    Calls Tryd.prog 67 #[.slice a xs.length c, Value.func (.func F) #[] #[.pointer (some ⟨p, 0, none⟩)]] w fun e w' => e = .returned (.bool (xs.any P)) ∧ w.grownBy w' none := by
  have HA := Lib.hid (any_findA P xs)
  go_enter Tryd.func67, Tryd.ntmps67
  go_wp2_with (fail)
  refine (indexFunc_sl F p P xs a c _ hc hl hE hF).mono ?_
  rintro e w1 ⟨rfl, hg1⟩
  go_wp2_with (fail)
  go_ret
  exact ⟨ret_bool (by rw [HA.out]), hg1⟩
end Go.Proofs.YtakabckmiodjaaaDoor
