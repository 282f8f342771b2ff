/- The comparison by which a coil is rotated. -/
import Derived.Test.YtoiclngamaadgaaSortPc
import Derived.Test.YtoiclngamaadgaaCompare
import Derived.Test.YtoiclngamaadgaaLotAt
import Derived.Test.YtoiclngamaadgaaGrewTail
namespace Go.Proofs.Ytoiclngamaadgaa
open Go.RowKit
attribute [local go_sem ↓] Go.wp_at_zero Go.wp_at_succ

def cmpN (a b : Int) : Int := if a < b then -1 else if b < a then 1 else 0
theorem nanInt_any (x : Int) (w : World) : Calls Try.prog 112 #[.int .i64 x] w fun e w' => e = .returned (.bool false) ∧ w = w' := by
  go_enter Try.func112, Try.ntmps112
  go_wp2_with (fail)
  go_ret
  exact ⟨ret_bool (by simp), rfl⟩
theorem cmpInt_any (a b : Int) (w : World) : Calls Try.prog 74 #[.int .i64 a, .int .i64 b] w fun e w' => e = .returned (.int .i64 (cmpN a b)) ∧ w = w' := by
  go_enter Try.func74, Try.ntmps74
  go_wp2_with (fail)
  refine (nanInt_any a w).mono ?_
  rintro e w1 ⟨rfl, rfl⟩
  go_wp2_with (fail)
  refine (nanInt_any b w).mono ?_
  rintro e w1 ⟨rfl, rfl⟩
  by_cases h1 : a < b
  · have HC : Hid (cmpN a b = -1) := by show _ = _; unfold cmpN; rw [if_pos h1]
    go_wp2_with (fail)
    go_ret
    exact ⟨ret_int HC.out.symm, rfl⟩
  · by_cases h2 : b < a
    · have HC : Hid (cmpN a b = 1) := by show _ = _; unfold cmpN; rw [if_neg h1, if_pos h2]
      go_wp2_with (fail)
      go_ret
      exact ⟨ret_int HC.out.symm, rfl⟩
    · have HC : Hid (cmpN a b = 0) := by show _ = _; unfold cmpN; rw [if_neg h1, if_neg h2]
      go_wp2_with (fail)
      go_ret
      exact ⟨ret_int HC.out.symm, rfl⟩
def orI (a b : Int) : Int := if a = 0 then b else a
set_option maxRecDepth 100000 in
theorem orInt_any (a b : Int) (g c : Nat) (w : World) (h0 : w.cell? ⟨g, 0, none⟩ = some (.int .i64 a)) (h1 : w.cell? ⟨g, 1, none⟩ = some (.int .i64 b)) :
    Calls Try.prog 119 #[.slice (some ⟨g, 0, none⟩) 2 c] w fun e w' => e = .returned (.int .i64 (orI a b)) ∧ w = w' := by
  unfold orI
  go_enter Try.func119, Try.ntmps119
  go_wp2_with (fail)
  go_loop [8] (fun i => (i = .int .i64 0 ∨ (i = .int .i64 1 ∧ a = 0) ∨ (i = .int .i64 2 ∧ a = 0 ∧ b = 0))) (fun i => 2 - (intOf i).toNat)
  case atStart => exact .inl rfl
  case round =>
    rcases hrel with rfl | ⟨rfl, rfl⟩ | ⟨rfl, rfl, rfl⟩
    · by_cases ha : a = 0
      · subst ha
        go_wp2_with (fail)
        go_round
        case rel => exact .inr (.inl (by simp))
        case measure => simp [intOf]
      · have ha2 : (a != 0) = true := by simpa using ha
        go_wp2_with (fail)
        go_ret
        exact ⟨rfl, rfl⟩
    · by_cases hb : b = 0
      · subst hb
        go_wp2_with (fail)
        go_round
        case rel => exact .inr (.inr (by simp))
        case measure => simp [intOf]
      · have hb2 : (b != 0) = true := by simpa using hb
        go_wp2_with (fail)
        go_ret
        exact ⟨rfl, rfl⟩
    · go_wp2_with (fail)
      go_ret
      exact ⟨rfl, rfl⟩
def rotCm (xs : List Lot) (x y : Piece) : Int := orI (cmpN (lotGet xs x.lot).exp (lotGet xs y.lot).exp) (cmpB x.lot y.lot)
theorem rotCm_bd (xs : List Lot) (x y : Piece) : -1 ≤ rotCm xs x y ∧ rotCm xs x y ≤ 1 := by
  have := cmpB_bd x.lot y.lot
  unfold rotCm orI cmpN
  split <;> split at * <;> (try split at *) <;> omega
theorem rotCm_neg {xs : List Lot} {x y : Piece} : rotCm xs x y < 0 ↔ (lotGet xs x.lot).exp < (lotGet xs y.lot).exp ∨ ((lotGet xs x.lot).exp = (lotGet xs y.lot).exp ∧ x.lot.data.toList < y.lot.data.toList) := by
  rw [← cmpB_neg]
  unfold rotCm orI cmpN
  by_cases h1 : (lotGet xs x.lot).exp < (lotGet xs y.lot).exp
  · rw [if_pos h1]; simp [h1]
  · rw [if_neg h1]
    by_cases h2 : (lotGet xs y.lot).exp < (lotGet xs x.lot).exp
    · rw [if_pos h2]; simp; omega
    · rw [if_neg h2]; simp; omega
theorem rotCm_ok (xs : List Lot) : CmpOk (rotCm xs) := by
  refine ⟨fun a b h => ?_, fun a b c h1 h2 h3 => ?_⟩
  · rw [rotCm_neg] at h ⊢
    rintro (g | ⟨g, g2⟩)
    · rcases h with h | ⟨h, _⟩ <;> omega
    · rcases h with h | ⟨_, h2⟩
      · omega
      · exact ltL_irrefl _ (ltL_trans h2 g2)
  · rw [rotCm_neg] at h1 h2 h3
    have tri := fun (x y : ByteArray) => compareBytes_sign x.data.toList y.data.toList
    rcases h3 with h3 | ⟨h3, h4⟩
    · have a1 : ¬ (lotGet xs b.lot).exp < (lotGet xs a.lot).exp := fun h => h1 (.inl h)
      have a2 : ¬ (lotGet xs c.lot).exp < (lotGet xs b.lot).exp := fun h => h2 (.inl h)
      omega
    · have a1 : ¬ (lotGet xs b.lot).exp < (lotGet xs a.lot).exp := fun h => h1 (.inl h)
      have a2 : ¬ (lotGet xs c.lot).exp < (lotGet xs b.lot).exp := fun h => h2 (.inl h)
      have e1 : (lotGet xs b.lot).exp = (lotGet xs a.lot).exp := by omega
      have e2 : (lotGet xs c.lot).exp = (lotGet xs b.lot).exp := by omega
      have n1 : ¬ b.lot.data.toList < a.lot.data.toList := fun h => h1 (.inr ⟨e1, h⟩)
      have n2 : ¬ c.lot.data.toList < b.lot.data.toList := fun h => h2 (.inr ⟨e2, h⟩)
      rcases tri a.lot b.lot with ⟨_, h⟩ | ⟨_, h⟩ | ⟨_, h⟩
      · exact n2 (ltL_trans h4 h)
      · rw [h] at h4; exact n2 h4
      · exact n1 h
end Go.Proofs.Ytoiclngamaadgaa
