/- meter.Share of what cannot be divided among. -/
import Derived.Test.YtoiclngamaadgaaFairPure
namespace Go.Proofs.Ytoiclngamaadgaa
open Go.RowKit
attribute [local go_sem ↓] Go.wp_at_zero Go.wp_at_succ

set_option maxRecDepth 100000 in
set_option maxHeartbeats 2000000 in
theorem meterShare_no (tot : Int) (ws : List Int) (a : Option Addr) (c : Nat) (w : World) (hc : CellsAt w a (ints ws)) (hn : ws.length < 20)
    (ht0 : 0 ≤ tot) (ht1 : tot ≤ 1000000000) (hno : ¬ FitW ws) :
    Calls Try.prog 20 #[.int .i64 tot, .slice a ws.length c] w fun e w' => ∃ r : Int, e = .returned (.tuple #[.slice none 0 0, .int .i64 r]) ∧ r ≠ 0 ∧ w = w' := by
  have H := Lib.hid hc
  have HNO := Lib.hid hno
  have d1 : (decide (tot < 0) || decide (1000000000 < tot)) = false := by simp; omega
  have F0 : Hid ((0 : Int) = (ws.take 0).sum) := by show _ = _; simp
  clear hc hno
  go_enter Try.func20, Try.ntmps20
  go_wp2_with (fail)
  refine (out_any tot 0 1000000000 w).mono ?_
  rintro e w1 ⟨rfl, rfl⟩
  rw [d1]
  have hz5 : decide ((5000 : Int) < (ws.length : Int)) = false := decide_eq_false (by omega)
  by_cases hp : 0 < ws.length
  · have hz : ((ws.length : Int) == 0) = false := beq_eq_false_iff_ne.2 (by omega)
    go_wp2_with (fail)
    go_loopw [6, 22] (fun s i wr => ∃ k : Nat, k ≤ ws.length ∧ i = .int .i64 k ∧ s = .int .i64 (ws.take k).sum ∧ (∀ x ∈ ws.take k, 0 ≤ x ∧ x ≤ 1000000) ∧ w = wr) (fun _ i _ => ws.length - (intOf i).toNat)
    case atStart => exact ⟨0, Nat.zero_le _, rfl, congrArg _ F0.out, (fun x hx => by simp at hx), rfl⟩
    case round =>
      obtain ⟨k, hk, rfl, rfl, hall, rfl⟩ := hrel
      by_cases hlt : k < ws.length
      · obtain ⟨b, off, rfl, d0⟩ := H.out k _ (by rw [show (ints ws)[k]? = _ from ints_at ws k hlt])
        rw [getD_eq ws k 0 hlt] at d0
        have hS := sum_bd 1000000 (ws.take k) hall
        have hSl : (ws.take k).length = k := by simp; omega
        rw [hSl] at hS
        have NX : Hid ((ws.take (k + 1)).sum = (ws.take k).sum + ws[k]) := by show _ = _; rw [take_snoc ws k hlt, sumI_app]; simp
        have AL : Hid (0 ≤ ws[k] → ws[k] ≤ 1000000 → ∀ x ∈ ws.take (k + 1), 0 ≤ x ∧ x ≤ 1000000) := fun h1 h2 x hx => by
          rw [take_snoc ws k hlt] at hx
          rcases List.mem_append.1 hx with hx | hx
          · exact hall x hx
          · have : x = ws[k] := by simpa using hx
            rw [this]; exact ⟨h1, h2⟩
        obtain ⟨x, hx⟩ : ∃ x, x = ws[k] := ⟨_, rfl⟩
        rw [← hx] at d0 NX AL
        obtain ⟨S, hSe⟩ : ∃ S, S = (ws.take k).sum := ⟨_, rfl⟩
        rw [← hSe] at hS NX
        rw [← hSe]
        clear hx hSe hSl hall
        by_cases hb : 0 ≤ x ∧ x ≤ 1000000
        · obtain ⟨hb0, hb1⟩ := hb
          have d2 : (decide (x < 0) || decide (1000000 < x)) = false := by simp; omega
          have AL2 := Lib.hid (AL.out hb0 hb1)
          clear AL
          go_wp2_with (fail)
          refine (out_any x 0 1000000 w).mono ?_
          rintro e w1 ⟨rfl, rfl⟩
          rw [d2]
          go_wp2_with (fail)
          go_roundw
          case rel => exact ⟨k + 1, by omega, by go_num, by rw [NX.out], AL2.out, trivial⟩
          case measure => simp [intOf]; omega
        · have d2 : (decide (x < 0) || decide (1000000 < x)) = true := by simp; omega
          have HB := Lib.hid hb
          clear hb AL
          go_wp2_with (fail)
          refine (out_any x 0 1000000 w).mono ?_
          rintro e w1 ⟨rfl, rfl⟩
          rw [d2]
          go_wp2_with (fail)
          go_ret2
          exact ⟨1, rfl, by decide, rfl⟩
      · obtain rfl : k = ws.length := by omega
        rw [List.take_length] at hall
        rw [List.take_length]
        have hs0 : ws.sum = 0 := by
          have h0 := (sum_bd 1000000 ws hall).1
          rcases Int.lt_or_eq_of_le h0 with h | h
          · exact absurd ⟨hp, hall, h⟩ HNO.out
          · exact h.symm
        rw [hs0]
        clear hall
        go_wp2_with (fail)
        go_ret2
        exact ⟨1, rfl, by decide, rfl⟩
  · have hz : ((ws.length : Int) == 0) = true := beq_iff_eq.2 (by omega)
    have hl0 : ws.length = 0 := by omega
    have HL0 := Lib.hid hl0
    clear hp hl0
    go_wp2_with (fail)
    go_ret2
    exact ⟨8, rfl, by decide, rfl⟩
end Go.Proofs.Ytoiclngamaadgaa
