/- What a key is: base.Key at every string. -/
import Derived.Test.YtdminjijhpemkaaGreatDoorPkSAc
import Derived.Test.YtdminjijhpemkaaGreatDoorPkSAi
import Derived.WalkLawsBesides
import Derived.WalkSpells
import Derived.Deep.DeepFit
namespace Go.Proofs.YtdminjijhpemkaaGreatDoor
open Go.RowKit

/-- A byte of a key. -/
def chB (n : Int) : Bool := (decide (97 ≤ n) && decide (n ≤ 122)) || (decide (48 ≤ n) && decide (n ≤ 57)) || n == 45 || n == 95
def keyL (l : List UInt8) : Bool := match l with
  | [] => false
  | c :: _ => decide (l.length ≤ 40) && decide (97 ≤ (c.toNat : Int)) && decide ((c.toNat : Int) ≤ 122) && l.all (fun c => chB c.toNat)
def keyB (s : ByteArray) : Bool := keyL s.data.toList

theorem key_cons {s : ByteArray} (h : 0 < s.size) : ∃ r, s.data.toList = s[0] :: r := by
  have hs : 0 < s.data.toList.length := by simpa using h
  match hm : s.data.toList, hs with
  | c :: r, _ =>
    refine ⟨r, ?_⟩
    have : s.data.toList[0]'(by rw [hm]; simp) = s[0] := rfl
    simp only [hm, List.getElem_cons_zero] at this
    rw [this]
theorem key_take (s : ByteArray) (k : Nat) (h : k < s.size) : s.data.toList.take (k + 1) = s.data.toList.take k ++ [s[k]] := by
  rw [List.take_succ_eq_append_getElem (by simpa using h)]; rfl

set_option maxRecDepth 100000 in
set_option maxHeartbeats 1000000 in
theorem key_any (s : ByteArray) (w : World) (hs : s.size ≤ 9223372036854775807) : Calls Tryz.prog 82 #[.string s] w fun e w' => e = .returned (.bool (keyB s)) ∧ w = w' := by
  by_cases h0 : 0 < s.size
  · obtain ⟨r, hr⟩ := key_cons h0
    have hem : s.toList.isEmpty = false := by rw [ByteArray.toList_eq, hr]; rfl
    have hlen : s.data.toList.length = s.size := by simp
    have HR := Lib.hid hr
    have HL := Lib.hid hlen
    clear hr hlen
    by_cases h1 : s.size ≤ 40
    · by_cases h2 : (97 : Int) ≤ (s[0].toNat : Int)
      · by_cases h3 : (s[0].toNat : Int) ≤ 122
        · have HK : Hid (keyB s = s.data.toList.all (fun c => chB c.toNat)) := by
            show _ = _
            unfold keyB keyL
            rw [HR.out]
            have : (s[0] :: r).length ≤ 40 := by rw [← HR.out, HL.out]; exact h1
            simp only [this, h2, h3, decide_true, Bool.true_and]
          go_enter Tryz.func82, Tryz.ntmps82
          go_wp2_with (fail)
          go_loop [24] (fun i => ∃ k : Nat, k ≤ s.size ∧ i = .int .i64 k ∧ (s.data.toList.take k).all (fun c => chB c.toNat) = true) (fun i => s.size - (intOf i).toNat)
          case atStart => exact ⟨0, by omega, rfl, rfl⟩
          case round =>
            obtain ⟨k, hk, rfl, hall⟩ := hrel
            have HA := Lib.hid hall
            clear hall
            by_cases hkn : k < s.size
            · have HT := Lib.hid (key_take s k hkn)
              have hlim : (s[k].toNat : Int) < 256 := by have := s[k].toNat_lt; omega
              have HS1 : Hid (chB s[k].toNat = true → (s.data.toList.take (k + 1)).all (fun c => chB c.toNat) = true) := by
                intro h
                rw [HT.out, List.all_append, HA.out]
                simp [h]
              have HS2 : Hid (chB s[k].toNat = false → keyB s = false) := by
                intro h
                rw [HK.out, List.all_eq_false]
                exact ⟨s[k], List.getElem_mem (by simpa using hkn), by simp [h]⟩
              have hbc : ∀ n : Int, chB n = ((decide (97 ≤ n) && decide (n ≤ 122)) || (decide (48 ≤ n) && decide (n ≤ 57)) || n == 45 || n == 95) := fun _ => rfl
              have HBC := Lib.hid hbc
              clear hbc
              go_wp2_with (fail)
              all_goals first
                | (go_ret; exact ⟨ret_bool (HS2.out (by clear HS1 HS2 HBC HA HK HT HR HL; simp only [chB, Bool.or_eq_false_iff, Bool.and_eq_false_iff, decide_eq_false_iff_not, beq_eq_false_iff_ne, Bool.not_eq_true'] at *; omega)).symm, rfl⟩)
                | (go_round
                   case rel => exact ⟨k + 1, by omega, by go_num, HS1.out (by clear HS1 HS2 HBC HA HK HT HR HL; simp only [chB, Bool.or_eq_true, Bool.and_eq_true, Bool.not_eq_false', decide_eq_true_eq, beq_iff_eq] at *; omega)⟩
                   case measure => simp [intOf]; omega)
            · obtain rfl : k = s.size := by omega
              have hfin : keyB s = true := by
                rw [HK.out]
                have := HA.out
                rwa [List.take_of_length_le (by rw [HL.out]; exact Nat.le_refl _)] at this
              have HF := Lib.hid hfin
              clear hfin
              go_wp2_with (fail)
              go_ret
              exact ⟨ret_bool HF.out.symm, rfl⟩
        · have HK : Hid (keyB s = false) := by
            show _ = _
            unfold keyB keyL
            rw [HR.out]
            simp only [h3, decide_false, Bool.and_false, Bool.false_and]
          have h3' : 122 < (s[0].toNat : Int) := by omega
          clear h3
          go_enter Tryz.func82, Tryz.ntmps82
          go_wp2_with (fail)
          go_ret
          exact ⟨ret_bool HK.out.symm, rfl⟩
      · have HK : Hid (keyB s = false) := by
          show _ = _
          unfold keyB keyL
          rw [HR.out]
          simp only [h2, decide_false, Bool.and_false, Bool.false_and]
        have h3' : (s[0].toNat : Int) < 97 := by omega
        clear h2
        go_enter Tryz.func82, Tryz.ntmps82
        go_wp2_with (fail)
        go_ret
        exact ⟨ret_bool HK.out.symm, rfl⟩
    · have HK : Hid (keyB s = false) := by
        show _ = _
        unfold keyB keyL
        rw [HR.out]
        have : ¬ (s[0] :: r).length ≤ 40 := by rw [← HR.out, HL.out]; exact h1
        simp only [this, decide_false, Bool.false_and]
      have h3' : 40 < s.size := by omega
      clear h1
      go_enter Tryz.func82, Tryz.ntmps82
      go_wp2_with (fail)
      go_ret
      exact ⟨ret_bool HK.out.symm, rfl⟩
  · have hz : s.data.toList = [] := List.eq_nil_of_length_eq_zero (by rw [show s.data.toList.length = s.size by simp]; omega)
    have hem : s.toList.isEmpty = true := by rw [ByteArray.toList_eq, hz]; rfl
    have HK : Hid (keyB s = false) := by show _ = _; unfold keyB keyL; rw [hz]
    clear hz h0
    go_enter Tryz.func82, Tryz.ntmps82
    go_wp2_with (fail)
    go_ret
    exact ⟨ret_bool HK.out.symm, rfl⟩

/-! What the reference takes for a key: as base.Key does. -/

theorem gr_of_below {w w1 : World} (h : Below w.heap.size w w1) : w.grownBy w1 none := ⟨h.os, h.tape, h.output, h.size, fun k hk _ => h.block k hk⟩
theorem dropWhile_nil {α : Type} (p : α → Bool) (l : List α) : l.dropWhile p = [] ↔ ∀ x ∈ l, p x = true := by
  induction l with
  | nil => simp
  | cons a l ih =>
    by_cases h : p a = true
    · simp [List.dropWhile, h, ih]
    · simp [List.dropWhile, h]
theorem dropWhile_head {α : Type} (p : α → Bool) (l : List α) (h : ∀ x ∈ l.dropWhile p, p x = true) : l.dropWhile p = [] := by
  induction l with
  | nil => rfl
  | cons a l ih =>
    by_cases hp : p a = true
    · simp only [List.dropWhile, hp] at h ⊢
      exact ih h
    · have hd : (a :: l).dropWhile p = a :: l := by simp [List.dropWhile, hp]
      rw [hd] at h
      exact absurd (h a (List.mem_cons_self ..)) hp
theorem trimS_nil (l cs : List UInt8) : (Lib.trimS l cs).isEmpty = l.all (fun b => cs.contains b) := by
  unfold Lib.trimS Lib.trimLeftS Lib.trimRightS
  rw [Bool.eq_iff_iff, List.isEmpty_iff, dropWhile_nil, List.all_eq_true]
  constructor
  · intro h
    have h1 : (l.reverse.dropWhile fun b => cs.contains b) = [] := dropWhile_head _ _ (fun x hx => h x (by simpa using hx))
    rw [dropWhile_nil] at h1
    exact fun x hx => h1 x (by simpa using hx)
  · intro h
    have h1 : (l.reverse.dropWhile fun b => cs.contains b) = [] := (dropWhile_nil _ _).2 (fun x hx => h x (by simpa using hx))
    rw [h1]
    intro x hx
    simp at hx
def setK : ByteArray := { data := #[97, 98, 99, 100, 101, 102, 103, 104, 105, 106, 107, 108, 109, 110, 111, 112, 113, 114, 115, 116, 117, 118, 119, 120, 121, 122, 48, 49, 50, 51, 52, 53, 54, 55, 56, 57, 45, 95] }
def setS : ByteArray := { data := #[97, 98, 99, 100, 101, 102, 103, 104, 105, 106, 107, 108, 109, 110, 111, 112, 113, 114, 115, 116, 117, 118, 119, 120, 121, 122] }
theorem all_bytes (p : UInt8 → Bool) (h : ((List.range 256).all fun n => p (UInt8.ofNat n)) = true) (b : UInt8) : p b = true := by
  have := List.all_eq_true.1 h b.toNat (List.mem_range.2 b.toNat_lt)
  simpa using this
theorem setK_chB (b : UInt8) : setK.data.toList.contains b = chB b.toNat := by
  have := all_bytes (fun b => setK.data.toList.contains b == chB b.toNat) (by kernel_rfl) b
  simpa using this
theorem setS_low (b : UInt8) : setS.data.toList.contains b = (decide (97 ≤ (b.toNat : Int)) && decide ((b.toNat : Int) ≤ 122)) := by
  have := all_bytes (fun b => setS.data.toList.contains b == (decide (97 ≤ (b.toNat : Int)) && decide ((b.toNat : Int) ≤ 122))) (by kernel_rfl) b
  simpa using this
def BoolB (b : Bool) (w : World) (e : Ending) (w' : World) : Prop := e = .returned (.bool b) ∧ w.grownBy w' none
theorem made_any (s cs : ByteArray) (w : World) (hs : s.size ≤ 9223372036854775807) (hcs : cs.size ≤ 1000) (ha : cs.data.toList.all (fun b => decide (b.toNat < 128)) = true) :
    Calls Tryz.prog 118 #[.string s, .string cs] w (BoolB (s.data.toList.all (fun b => cs.data.toList.contains b)) w) := by
  have TR := Lib.hid (Any.strings_Trim_laid lays160 (by kernel_rfl) s cs w hs (by omega) (ascii_of_all ha))
  have TN := Lib.hid (trimS_nil s.data.toList cs.data.toList)
  obtain ⟨L, hL⟩ : ∃ L, L = Lib.trimS s.data.toList cs.data.toList := ⟨_, rfl⟩
  rw [← hL] at TR TN
  clear hL
  go_enter Tryz.func118, Tryz.ntmps118
  go_wp2_with (fail)
  refine TR.out.mono ?_
  rintro e w' ⟨rfl, hb⟩
  have hg := gr_of_below hb
  clear hb
  have hl : (ByteArray.mk L.toArray).toList.isEmpty = L.isEmpty := by rw [ByteArray.toList_eq]
  obtain ⟨S, hS⟩ : ∃ S, S = ByteArray.mk L.toArray := ⟨_, rfl⟩
  rw [← hS] at hl
  rw [← hS]
  have HL := Lib.hid hl
  clear hl hS
  go_wp2_with (fail)
  go_ret
  exact ⟨ret_bool (by rw [← TN.out, ← HL.out]), hg⟩
theorem first_byte {s : ByteArray} (h : 0 < s.size) : (s.extract 0 1).data.toList = [s[0]] := by
  obtain ⟨r, hr⟩ := key_cons h
  rw [ByteArray.data_extract, Array.toList_extract, List.extract_eq_take_drop, List.drop_zero, hr]
  rfl
set_option maxRecDepth 100000 in
set_option maxHeartbeats 1000000 in
theorem keyOf_any (s : ByteArray) (w : World) (hs : s.size ≤ 9223372036854775807) : Calls Tryz.prog 68 #[.string s] w (BoolB (keyB s) w) := by
  by_cases h0 : 0 < s.size
  · obtain ⟨r, hr⟩ := key_cons h0
    have hlen : s.data.toList.length = s.size := by simp
    have HR := Lib.hid hr
    have HL := Lib.hid hlen
    clear hr hlen
    by_cases h1 : s.size ≤ 40
    · have MA := Lib.hid (made_any s setK w hs (by decide) (by decide))
      have HK : Hid (keyB s = (s.data.toList.all (fun b => setK.data.toList.contains b) && (s.extract 0 1).data.toList.all (fun b => setS.data.toList.contains b))) := by
        show _ = _
        have e1 : (fun b : UInt8 => setK.data.toList.contains b) = fun b => chB b.toNat := funext setK_chB
        rw [first_byte h0, List.all_cons, List.all_nil, Bool.and_true, setS_low, e1]
        unfold keyB keyL
        rw [HR.out]
        have : (s[0] :: r).length ≤ 40 := by rw [← HR.out, HL.out]; exact h1
        simp only [this, decide_true, Bool.true_and]
        rw [Bool.and_comm (List.all _ _)]
      have MB := Lib.hid (fun w1 => made_any (s.extract 0 1) setS w1 (by simp; omega) (by decide) (by decide))
      go_enter Tryz.func68, Tryz.ntmps68
      go_wp2_with (fail)
      refine MA.out.mono ?_
      rintro e w1 ⟨rfl, hg1⟩
      obtain ⟨b, hb⟩ : ∃ b, b = s.data.toList.all (fun b => setK.data.toList.contains b) := ⟨_, rfl⟩
      rw [← hb] at HK ⊢
      clear hb MA
      cases b with
      | false =>
        go_wp2_with (fail)
        go_ret
        exact ⟨ret_bool (by rw [HK.out]; rfl), hg1⟩
      | true =>
        go_wp2_with (fail)
        refine (MB.out _).mono ?_
        rintro e w2 ⟨rfl, hg2⟩
        obtain ⟨b, hb⟩ : ∃ b, b = (s.extract 0 1).data.toList.all (fun b => setS.data.toList.contains b) := ⟨_, rfl⟩
        rw [← hb] at HK ⊢
        clear hb MB
        go_wp2_with (fail)
        go_ret
        exact ⟨ret_bool (by rw [HK.out]; rfl), gr_trans hg1 hg2⟩
    · have HK : Hid (keyB s = false) := by
        show _ = _
        unfold keyB keyL
        rw [HR.out]
        have : ¬ (s[0] :: r).length ≤ 40 := by rw [← HR.out, HL.out]; exact h1
        simp only [this, decide_false, Bool.false_and]
      go_enter Tryz.func68, Tryz.ntmps68
      go_wp2_with (fail)
      go_ret
      exact ⟨ret_bool HK.out.symm, gr_refl _ _⟩
  · have hz : s.data.toList = [] := List.eq_nil_of_length_eq_zero (by rw [show s.data.toList.length = s.size by simp]; omega)
    have HK : Hid (keyB s = false) := by show _ = _; unfold keyB keyL; rw [hz]
    have hs0 : s.size = 0 := by omega
    clear hz h0
    go_enter Tryz.func68, Tryz.ntmps68
    go_wp2_with (fail)
    go_ret
    exact ⟨ret_bool HK.out.symm, gr_refl _ _⟩
end Go.Proofs.YtdminjijhpemkaaGreatDoor
