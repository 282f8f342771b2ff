/- base.Plain at plain strings. -/
import Derived.Test.YthikknnadmebgaaGreatDoorPkSAt
import Derived.Test.YthikknnadmebgaaGreatDoorPkSAk
import Derived.WalkLawsBesides
import Derived.Deep.DrawnRows
namespace Go.Proofs.YthikknnadmebgaaGreatDoor
open Go.RowKit
attribute [local go_sem ↓] Go.wp_at_zero Go.wp_at_succ

structure PlainS (s : ByteArray) : Prop where
  len : s.size ≤ 1000
  byte : ∀ (i : Nat) (h : i < s.size), 32 ≤ (s[i].toNat : Int) ∧ (s[i].toNat : Int) ≠ 127
  valid : Lib.validD s.data.toList = true
  pre : Lib.hasPrefix s.data.toList [32] = false
  suf : Lib.hasSuffix s.data.toList [32] = false
  two : Lib.contains s.data.toList [32, 32] = false
set_option maxRecDepth 100000 in
set_option maxHeartbeats 1000000 in
theorem plain_ok (s : ByteArray) (hs : PlainS s) (w : World) (E : EnvW w) :
    Calls Tryz.prog 87 #[.string s] w fun e w' => e = .returned (.bool true) ∧ w.grownBy w' none := by
  have hl := hs.len
  have HB : Hid (∀ (i : Nat) (h : i < s.size), 32 ≤ (s[i].toNat : Int) ∧ (s[i].toNat : Int) ≠ 127) := hs.byte
  have cv := Any.utf8_ValidString lays196 s w (by omega) E.tabs
  rw [hs.valid] at cv
  have CV := Lib.hid cv
  have CP := Lib.hid (fun (W : World) => Any.strings_HasPrefix lays99 s ⟨#[32]⟩ W)
  have CS := Lib.hid (fun (W : World) => Any.strings_HasSuffix lays100 s ⟨#[32]⟩ W (by omega))
  have CC := Lib.hid (fun (W : World) (g : w.grownBy W none) => Any.strings_Contains_shaped laysM144 s ⟨#[32, 32]⟩ W (E.keep g).shp (by omega))
  have h1 : Lib.hasPrefix s.data.toList [32] = false := hs.pre
  have h2 : Lib.hasSuffix s.data.toList [32] = false := hs.suf
  have h3 : Lib.contains s.data.toList [32, 32] = false := hs.two
  have H1 := Lib.hid h1
  have H2 := Lib.hid h2
  have H3 := Lib.hid h3
  clear h1 h2 h3 hs E cv
  go_enter Tryz.func87, Tryz.ntmps87
  go_wp2_with (fail)
  go_loop [6] (fun i => ∃ k : Nat, k ≤ s.size ∧ i = .int .i64 k) (fun i => s.size - (intOf i).toNat)
  case atStart => exact ⟨0, by omega, rfl⟩
  case round =>
    obtain ⟨k, hk, rfl⟩ := hrel
    by_cases hkn : k < s.size
    · obtain ⟨b0, b1⟩ := HB.out k hkn
      have b2 : ((s[k].toNat : Int) == 127) = false := beq_eq_false_iff_ne.2 b1
      have hlim : (s[k].toNat : Int) < 256 := by have := s[k].toNat_lt; omega
      go_wp2_with (fail)
      go_round
      case rel => exact ⟨k + 1, by omega, by go_num⟩
      case measure => simp [intOf]; omega
    · obtain rfl : k = s.size := by omega
      go_wp2_with (fail)
      refine CV.out.mono ?_
      rintro e w1 ⟨rfl, hb⟩
      have g1 := Lib.hid (below_grown hb)
      clear hb
      go_wp2_with (fail)
      refine (CP.out w1).mono ?_
      rintro e w2 ⟨rfl, rfl⟩
      rw [H1.out]
      go_wp2_with (fail)
      refine (CS.out w2).mono ?_
      rintro e w3 ⟨rfl, rfl⟩
      rw [H2.out]
      go_wp2_with (fail)
      refine (CC.out w3 g1.out).mono ?_
      rintro e w4 ⟨rfl, rfl⟩
      rw [H3.out]
      go_wp2_with (fail)
      go_ret
      exact ⟨rfl, g1.out⟩
theorem plain_lits (s : ByteArray) (h : s = ⟨#[98, 97, 103, 32, 111, 110, 101]⟩ ∨ s = ⟨#[120]⟩ ∨ s = ⟨#[195, 169, 116, 195, 169]⟩) : PlainS s := by
  rcases h with rfl | rfl | rfl
  · exact ⟨by decide, by decide, by kernel_rfl, by kernel_rfl, by kernel_rfl, by kernel_rfl⟩
  · exact ⟨by decide, by decide, by kernel_rfl, by kernel_rfl, by kernel_rfl, by kernel_rfl⟩
  · exact ⟨by decide, by decide, by kernel_rfl, by kernel_rfl, by kernel_rfl, by kernel_rfl⟩
end Go.Proofs.YthikknnadmebgaaGreatDoor
