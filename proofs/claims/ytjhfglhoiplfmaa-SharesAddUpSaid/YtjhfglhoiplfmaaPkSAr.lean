/- What a key is: base.Key at every string. -/
import Derived.Test.YtjhfglhoiplfmaaPkSAb
import Derived.Test.YtjhfglhoiplfmaaPkSAq
import Derived.WalkLawsBesides
import Derived.WalkSpells
import Derived.Deep.DeepFit
namespace Go.Proofs.Ytjhfglhoiplfmaa
open Go.RowKit

/-- A byte of a key. -/
def chB (n : Int) : Bool := (decide (97 ≤ n) && decide (n ≤ 122)) || (decide (48 ≤ n) && decide (n ≤ 57)) || n == 45 || n == 95
def keyL (l : List UInt8) : Bool := match l with
  | [] => false
  | c :: _ => decide (l.length ≤ 40) && decide (97 ≤ (c.toNat : Int)) && decide ((c.toNat : Int) ≤ 122) && l.all (fun c => chB c.toNat)
def keyB (s : ByteArray) : Bool := keyL s.data.toList

theorem key_cons {s : ByteArray} (h : 0 < s.size) : ∃ r, s.data.toList = s[0] :: r := by
  have hs : 0 < s.data.toList.length := by simpa using h
  match hm : s.data.toList, hs with
  | c :: r, _ =>
    refine ⟨r, ?_⟩
    have : s.data.toList[0]'(by rw [hm]; simp) = s[0] := rfl
    simp only [hm, List.getElem_cons_zero] at this
    rw [this]
theorem key_take (s : ByteArray) (k : Nat) (h : k < s.size) : s.data.toList.take (k + 1) = s.data.toList.take k ++ [s[k]] := by
  rw [List.take_succ_eq_append_getElem (by simpa using h)]; rfl

/-! What the reference takes for a key: as base.Key does. -/

theorem gr_of_below {w w1 : World} (h : Below w.heap.size w w1) : w.grownBy w1 none := ⟨h.os, h.tape, h.output, h.size, fun k hk _ => h.block k hk⟩
theorem dropWhile_nil {α : Type} (p : α → Bool) (l : List α) : l.dropWhile p = [] ↔ ∀ x ∈ l, p x = true := by
  induction l with
  | nil => simp
  | cons a l ih =>
    by_cases h : p a = true
    · simp [List.dropWhile, h, ih]
    · simp [List.dropWhile, h]
theorem dropWhile_head {α : Type} (p : α → Bool) (l : List α) (h : ∀ x ∈ l.dropWhile p, p x = true) : l.dropWhile p = [] := by
  induction l with
  | nil => rfl
  | cons a l ih =>
    by_cases hp : p a = true
    · simp only [List.dropWhile, hp] at h ⊢
      exact ih h
    · have hd : (a :: l).dropWhile p = a :: l := by simp [List.dropWhile, hp]
      rw [hd] at h
      exact absurd (h a (List.mem_cons_self ..)) hp
theorem trimS_nil (l cs : List UInt8) : (Lib.trimS l cs).isEmpty = l.all (fun b => cs.contains b) := by
  unfold Lib.trimS Lib.trimLeftS Lib.trimRightS
  rw [Bool.eq_iff_iff, List.isEmpty_iff, dropWhile_nil, List.all_eq_true]
  constructor
  · intro h
    have h1 : (l.reverse.dropWhile fun b => cs.contains b) = [] := dropWhile_head _ _ (fun x hx => h x (by simpa using hx))
    rw [dropWhile_nil] at h1
    exact fun x hx => h1 x (by simpa using hx)
  · intro h
    have h1 : (l.reverse.dropWhile fun b => cs.contains b) = [] := (dropWhile_nil _ _).2 (fun x hx => h x (by simpa using hx))
    rw [h1]
    intro x hx
    simp at hx
def setK : ByteArray := { data := #[97, 98, 99, 100, 101, 102, 103, 104, 105, 106, 107, 108, 109, 110, 111, 112, 113, 114, 115, 116, 117, 118, 119, 120, 121, 122, 48, 49, 50, 51, 52, 53, 54, 55, 56, 57, 45, 95] }
def setS : ByteArray := { data := #[97, 98, 99, 100, 101, 102, 103, 104, 105, 106, 107, 108, 109, 110, 111, 112, 113, 114, 115, 116, 117, 118, 119, 120, 121, 122] }
theorem all_bytes (p : UInt8 → Bool) (h : ((List.range 256).all fun n => p (UInt8.ofNat n)) = true) (b : UInt8) : p b = true := by
  have := List.all_eq_true.1 h b.toNat (List.mem_range.2 b.toNat_lt)
  simpa using this
theorem setK_chB (b : UInt8) : setK.data.toList.contains b = chB b.toNat := by
  have := all_bytes (fun b => setK.data.toList.contains b == chB b.toNat) (by kernel_rfl) b
  simpa using this
theorem setS_low (b : UInt8) : setS.data.toList.contains b = (decide (97 ≤ (b.toNat : Int)) && decide ((b.toNat : Int) ≤ 122)) := by
  have := all_bytes (fun b => setS.data.toList.contains b == (decide (97 ≤ (b.toNat : Int)) && decide ((b.toNat : Int) ≤ 122))) (by kernel_rfl) b
  simpa using this
def BoolB (b : Bool) (w : World) (e : Ending) (w' : World) : Prop := e = .returned (.bool b) ∧ w.grownBy w' none
theorem first_byte {s : ByteArray} (h : 0 < s.size) : (s.extract 0 1).data.toList = [s[0]] := by
  obtain ⟨r, hr⟩ := key_cons h
  rw [ByteArray.data_extract, Array.toList_extract, List.extract_eq_take_drop, List.drop_zero, hr]
  rfl
end Go.Proofs.Ytjhfglhoiplfmaa
