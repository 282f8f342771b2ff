/- What shelf.Parse calls: strings.Cut and strings.Split at one byte over the world's shape, and the test of a word. -/
import Derived.Test.YthikknnadmebgaaGreatDoorPkSBl
import Derived.Test.YthikknnadmebgaaGreatDoorPkSBp
import Derived.Test.YthikknnadmebgaaGreatDoorPkSBm
import Derived.Test.YthikknnadmebgaaGreatDoorPkSAe
import Derived.Test.YthikknnadmebgaaGreatDoorPkSBh
import Derived.Test.YthikknnadmebgaaGreatDoorPkSBk
import Derived.ShapedOpen
import Derived.ChangeAgain
namespace Go.Proofs.YthikknnadmebgaaGreatDoor
open Go.RowKit Go.Sort
attribute [local go_sem ↓] Go.wp_at_zero Go.wp_at_succ

theorem cutC_any (c : UInt8) (p q : List UInt8) (hp : c ∉ p) (hl : p.length + q.length ≤ 100000) (w : World) (E : w.ShapedOpen Tryz.prog) :
    Calls Tryz.prog 83 #[.string ⟨(p ++ c :: q).toArray⟩, .string ⟨#[c]⟩] w fun e w' => e = .returned (.tuple #[.string ⟨p.toArray⟩, .string ⟨q.toArray⟩, .bool true]) ∧ w.grownBy w' none := by
  have hc : Lib.cut (p ++ c :: q) [c] = (p, q, true) := by
    unfold Lib.cut
    rw [index_hit c p q hp, if_pos (by omega)]
    simp
  have hz : (⟨(p ++ c :: q).toArray⟩ : ByteArray).size = (p ++ c :: q).length := by
    show (p ++ c :: q).toArray.size = _
    rw [List.size_toArray]
  refine (Any.strings_Cut_shaped laysM145 ⟨(p ++ c :: q).toArray⟩ ⟨#[c]⟩ w E (by rw [hz]; simp only [List.length_append, List.length_cons]; omega)).mono ?_
  rintro e w' ⟨rfl, n, rfl⟩
  refine ⟨?_, gr_drewN (gr_refl w none) n⟩
  show Ending.returned (.tuple #[.string ⟨(Lib.cut (p ++ c :: q) [c]).1.toArray⟩, .string ⟨(Lib.cut (p ++ c :: q) [c]).2.1.toArray⟩, .bool (Lib.cut (p ++ c :: q) [c]).2.2]) = _
  rw [hc]
theorem splitC_any (s : ByteArray) (c : UInt8) (w : World) (E : w.ShapedOpen Tryz.prog) (hs : s.size < 4294967281) (ps : List (List UInt8)) (hp : splitL c s.data.toList = ps) (hn : Lib.count s.data.toList [c] + 1 = ps.length) :
    Calls Tryz.prog 54 #[.string s, .string ⟨#[c]⟩] w fun e w' => e = .returned (.slice (some ⟨w.heap.size, 0, none⟩) ps.length ps.length) ∧ w' = w.alloc (.cells (ps.map (fun l => Value.string ⟨l.toArray⟩)).toArray 9) :=
  (Any.strings_Split_shaped laysM146 s ⟨#[c]⟩ w E hs (Nat.le_refl 1)).mono fun e w' h => by
    obtain ⟨rfl, rfl⟩ := h
    have hc : Lib.countB s ⟨#[c]⟩ + 1 = ps.length := hn
    rw [hc, splitB_list, hp, List.map_map]
    exact ⟨rfl, rfl⟩
def dotB : ByteArray := ⟨#[46]⟩
def tokOdd (k : ByteArray) : Bool := decide (k ≠ dotB) && !keyB k
theorem tok_back {k : ByteArray} (h : SlotOk k) : tokOdd ⟨(tokB k).toArray⟩ = false ∧ (if (⟨(tokB k).toArray⟩ : ByteArray) = dotB then e0B else ⟨(tokB k).toArray⟩) = k := by
  unfold tokB
  by_cases he : k = e0B
  · rw [if_pos he]
    refine ⟨by unfold tokOdd; rw [decide_eq_false (by simp [dotB])]; rfl, ?_⟩
    rw [if_pos (show (⟨#[46]⟩ : ByteArray) = dotB from rfl), he]
  · rw [if_neg he]
    have hk : keyB k = true := h.resolve_left he
    have e : (⟨k.data.toList.toArray⟩ : ByteArray) = k := by rw [Array.toArray_toList]
    rw [e]
    refine ⟨by unfold tokOdd; rw [hk]; simp, ?_⟩
    rw [if_neg]
    intro e2
    have := (key_bytes hk).1 46 (by rw [e2]; simp [dotB])
    exact this.2 rfl
end Go.Proofs.YthikknnadmebgaaGreatDoor

/-! cmp.Or of two strings. -/
namespace Go.Proofs.YthikknnadmebgaaGreatDoor
open Go.RowKit
attribute [local go_sem ↓] Go.wp_at_zero Go.wp_at_succ

def orDot (k : ByteArray) : ByteArray := ⟨(tokB k).toArray⟩
theorem orDot_e0 : orDot e0B = dotB := rfl
theorem orDot_ne {k : ByteArray} (h : k ≠ e0B) : orDot k = k := by
  unfold orDot tokB
  rw [if_neg h, Array.toArray_toList]
set_option maxRecDepth 100000 in
theorem orStr_any (k : ByteArray) (g c : Nat) (w : World) (h0 : w.cell? ⟨g, 0, none⟩ = some (.string k)) (h1 : w.cell? ⟨g, 1, none⟩ = some (.string ⟨#[46]⟩)) :
    Calls Tryz.prog 82 #[.slice (some ⟨g, 0, none⟩) 2 c] w fun e w' => e = .returned (.string (orDot k)) ∧ w = w' := by
  go_enter Tryz.func82, Tryz.ntmps82
  go_wp2_with (fail)
  go_loop [8] (fun i => (i = .int .i64 0 ∨ (i = .int .i64 1 ∧ k = e0B))) (fun i => 2 - (intOf i).toNat)
  case atStart => exact .inl rfl
  case round =>
    rcases hrel with rfl | ⟨rfl, rfl⟩
    · by_cases ha : k = e0B
      · subst ha
        have hz0 : e0B.toList.isEmpty = true := by rw [ByteArray.toList_eq]; rfl
        go_wp2_with (fail)
        go_round
        case rel => exact .inr (by simp)
        case measure => simp [intOf]
      · have ho := orDot_ne ha
        have HO := Lib.hid ho
        have hz : k.toList.isEmpty = false := by
          cases h : k.toList.isEmpty with
          | false => rfl
          | true => exact absurd (empty_e0 h) ha
        clear ho
        go_wp2_with (fail)
        go_ret
        exact ⟨congrArg (fun s => Ending.returned (.string s)) HO.out.symm, rfl⟩
    · have hd : (ByteArray.toList ⟨#[46]⟩).isEmpty = false := by rw [ByteArray.toList_eq]; rfl
      go_wp2_with (fail)
      go_ret
      exact ⟨rfl, rfl⟩
end Go.Proofs.YthikknnadmebgaaGreatDoor
