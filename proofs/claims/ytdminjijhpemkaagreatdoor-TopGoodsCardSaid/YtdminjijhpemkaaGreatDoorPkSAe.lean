/- strings.Compare, and what its sign means. -/
import Derived.Test.YtdminjijhpemkaaGreatDoorPkSAa
import Derived.Test.YtdminjijhpemkaaGreatDoorChecked
import Derived.Shelf.Small.Strs
namespace Go.Proofs.YtdminjijhpemkaaGreatDoor
open Go.RowKit

def cmpRen : Go.Shelf.Ren := ⟨fun | 106 => 53 | 213 => 105 | 265 => 147 | n => n, fun | 3 => 3 | 9 => 9 | n => n, fun n => n⟩
theorem cmpLays : Lays.n106 Tryz.prog cmpRen := {
  mixed := by kernel_rfl
  f106 := by kernel_rfl
  f213 := by kernel_rfl
  f265 := by kernel_rfl
  t3 := by kernel_rfl
  a3 := fun _ => by kernel_rfl
  z3 := fun _ => by kernel_rfl
  v3 := fun _ => by kernel_rfl
  t9 := by kernel_rfl
  a9 := fun _ => by kernel_rfl
  z9 := fun _ => by kernel_rfl
  v9 := fun _ => by kernel_rfl }
def cmpB (a b : ByteArray) : Int := Lib.compareBytes a.data.toList b.data.toList
theorem compare_any (a b : ByteArray) (w : World) : Calls Tryz.prog 53 #[.string a, .string b] w fun e w' => e = .returned (.int .i64 (cmpB a b)) ∧ w = w' :=
  (Any.strings_Compare cmpLays a b w).mono fun _ _ h => ⟨h.1, h.2.symm⟩
theorem compareBytes_sign (a b : List UInt8) : (Lib.compareBytes a b = -1 ∧ a < b) ∨ (Lib.compareBytes a b = 0 ∧ a = b) ∨ (Lib.compareBytes a b = 1 ∧ b < a) := by
  induction a generalizing b with
  | nil =>
    cases b with
    | nil => exact .inr (.inl ⟨rfl, rfl⟩)
    | cons y b => exact .inl ⟨rfl, List.Lex.nil⟩
  | cons x a ih =>
    cases b with
    | nil => exact .inr (.inr ⟨rfl, List.Lex.nil⟩)
    | cons y b =>
      simp only [Lib.compareBytes]
      by_cases h1 : x < y
      · rw [if_pos h1]; exact .inl ⟨rfl, List.Lex.rel h1⟩
      · rw [if_neg h1]
        by_cases h2 : y < x
        · rw [if_pos h2]; exact .inr (.inr ⟨rfl, List.Lex.rel h2⟩)
        · rw [if_neg h2]
          have hxy : x = y := by
            apply UInt8.toNat_inj.1
            have := mt UInt8.lt_iff_toNat_lt.2 h1
            have := mt UInt8.lt_iff_toNat_lt.2 h2
            omega
          subst hxy
          rcases ih b with ⟨e, h⟩ | ⟨e, h⟩ | ⟨e, h⟩
          · exact .inl ⟨e, List.Lex.cons h⟩
          · exact .inr (.inl ⟨e, by rw [h]⟩)
          · exact .inr (.inr ⟨e, List.Lex.cons h⟩)
theorem ltL_irrefl (a : List UInt8) : ¬ a < a := List.lt_irrefl a
theorem ltL_trans {a b c : List UInt8} (h : a < b) (g : b < c) : a < c := List.lt_trans h g
theorem cmpB_neg {a b : ByteArray} : cmpB a b < 0 ↔ a.data.toList < b.data.toList := by
  unfold cmpB
  rcases compareBytes_sign a.data.toList b.data.toList with ⟨e, h⟩ | ⟨e, h⟩ | ⟨e, h⟩
  · rw [e]; exact ⟨fun _ => h, fun _ => by decide⟩
  · rw [e, h]; exact ⟨fun h => absurd h (by decide), fun h => absurd h (ltL_irrefl _)⟩
  · rw [e]; exact ⟨fun h => absurd h (by decide), fun g => absurd (ltL_trans g h) (ltL_irrefl _)⟩
theorem cmpB_zero {a b : ByteArray} : cmpB a b = 0 ↔ a = b := by
  unfold cmpB
  rcases compareBytes_sign a.data.toList b.data.toList with ⟨e, h⟩ | ⟨e, h⟩ | ⟨e, h⟩
  · rw [e]; exact ⟨fun h => absurd h (by decide), fun g => by subst g; exact absurd h (ltL_irrefl _)⟩
  · rw [e]
    refine ⟨fun _ => ?_, fun _ => rfl⟩
    cases a; cases b
    simp at h
    rw [h]
  · rw [e]; exact ⟨fun h => absurd h (by decide), fun g => by subst g; exact absurd h (ltL_irrefl _)⟩
theorem cmpB_bd (a b : ByteArray) : -1 ≤ cmpB a b ∧ cmpB a b ≤ 1 := by
  unfold cmpB
  rcases compareBytes_sign a.data.toList b.data.toList with ⟨e, h⟩ | ⟨e, h⟩ | ⟨e, h⟩ <;> rw [e] <;> decide
theorem cmpB_anti (a b : ByteArray) : cmpB b a = - cmpB a b := by
  unfold cmpB
  rcases compareBytes_sign a.data.toList b.data.toList with ⟨e, h⟩ | ⟨e, h⟩ | ⟨e, h⟩ <;> rcases compareBytes_sign b.data.toList a.data.toList with ⟨f, g⟩ | ⟨f, g⟩ | ⟨f, g⟩ <;> rw [e, f] <;> first | rfl | (exfalso; first | exact ltL_irrefl _ (ltL_trans h g) | (rw [g] at h; exact ltL_irrefl _ h) | (rw [h] at g; exact ltL_irrefl _ g))
theorem bytesLess_lt : ∀ (x y : List UInt8), x < y → Op.bytesLess x y = true
  | [], [], h => absurd h (ltL_irrefl _)
  | [], _ :: _, _ => rfl
  | _ :: _, [], h => by cases h
  | a :: x, b :: y, h => by
    simp only [Op.bytesLess]
    cases h with
    | rel h => simp [h]
    | cons h => simp [bytesLess_lt x y h]
/-- 'not <=' between strings, as the walk spells it. -/
theorem leS_false {a b : ByteArray} (h : (Op.bytesLess a.toList b.toList || a.toList == b.toList) = false) : b.data.toList < a.data.toList := by
  rw [Bool.or_eq_false_iff] at h
  obtain ⟨h1, h2⟩ := h
  rw [ByteArray.toList_eq, ByteArray.toList_eq] at h1 h2
  have h1 : ¬ a.data.toList < b.data.toList := fun h => by rw [bytesLess_lt _ _ h] at h1; cases h1
  rcases compareBytes_sign a.data.toList b.data.toList with ⟨_, h⟩ | ⟨_, h⟩ | ⟨_, h⟩
  · exact absurd h h1
  · simp [h] at h2
  · exact h
end Go.Proofs.YtdminjijhpemkaaGreatDoor
