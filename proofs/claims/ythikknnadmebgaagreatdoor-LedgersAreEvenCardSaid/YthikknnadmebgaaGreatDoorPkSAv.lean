/- Where a ware is. -/
import Derived.Test.YthikknnadmebgaaGreatDoorPkSAr
import Derived.Test.YthikknnadmebgaaGreatDoorPkSAa
namespace Go.Proofs.YthikknnadmebgaaGreatDoor
open Go.RowKit
attribute [local go_sem ↓] Go.wp_at_zero Go.wp_at_succ

def wrIs (K : ByteArray) (x : Wr) : Bool := x.key.toList == K.toList
theorem set3_heapD {w : World} {g t : Nat} {a b c : Value} (h : w.heap[g]? = some (.cells #[a, b, c] t (0, 0))) (x y z : Value) : (((w.setCell ⟨g, 0, none⟩ x).setCell ⟨g, 1, none⟩ y).setCell ⟨g, 2, none⟩ z).heap[g]? = some (.cells #[x, y, z] t (0, 0)) := by
  have h1 := heap_setCell_same w g 0 _ t x h
  have h2 := heap_setCell_same _ g 1 _ t y h1
  exact heap_setCell_same _ g 2 _ t z h2
def WofPost (N : List Wr) (K : ByteArray) (w : World) (e : Ending) (w' : World) : Prop := ∃ (s g : ByteArray) (p : Int), e = .returned (.tuple #[.agg #[.string s, .int .i64 p, .string g], .bool (N.any (wrIs K))]) ∧ w.grownBy w' none
end Go.Proofs.YthikknnadmebgaaGreatDoor

/-! What is wrong with a basket: the document's answer, and the program's. -/
namespace Go.Proofs.YthikknnadmebgaaGreatDoor
open Go.RowKit
attribute [local go_sem ↓] Go.wp_at_zero Go.wp_at_succ

structure BkOk (N : List Wr) (x : Nm) : Prop where
  has : N.any (wrIs x.key) = true
  m0 : 1 ≤ x.many
  m1 : x.many ≤ 100
def BkAt (N : List Wr) (B : List Nm) (j : Nat) (hj : j < B.length) : Prop := BkOk N B[j] ∧ ∀ (_ : 0 < j), leS B[j].key (B[j - 1]'(by omega)).key = false
def BksOk (N : List Wr) (B : List Nm) : Prop := ∀ j (hj : j < B.length), BkAt N B j hj
theorem findA_has {α : Type} {P : α → Bool} {xs : List α} (h : xs.any P = true) : ∃ i : Nat, i < xs.length ∧ findA P xs = (i : Int) ∧ i = xs.findIdx P := by
  rw [List.any_eq_true] at h
  have h1 := List.findIdx_lt_length.2 h
  exact ⟨_, h1, by unfold findA; rw [if_pos h1], rfl⟩
end Go.Proofs.YthikknnadmebgaaGreatDoor

/-! What is wrong with deals: the document's answer, and the program's. -/
namespace Go.Proofs.YthikknnadmebgaaGreatDoor
open Go.RowKit
attribute [local go_sem ↓] Go.wp_at_zero Go.wp_at_succ

def deIs (G : ByteArray) (x : De) : Bool := x.group.toList == G.toList
structure DeOk (x : De) : Prop where
  key : keyB x.key = true
  grp : keyB x.group = true
  m0 : 2 ≤ x.many
  m1 : x.many ≤ 20
  f0 : 1 ≤ x.free
  f1 : x.free ≤ x.many - 1
def DeAt (B : List De) (j : Nat) (hj : j < B.length) : Prop := DeOk B[j] ∧ (∀ (_ : 0 < j), leS B[j].key (B[j - 1]'(by omega)).key = false) ∧ (B.take j).any (deIs B[j].group) = false
def DesOk (B : List De) : Prop := ∀ j (hj : j < B.length), DeAt B j hj
theorem flat_pre {α : Type} {enc : α → List Value} {w : World} {a : Option Addr} {L : List α} (h : CellsAt w a (flat enc L)) (k : Nat) : CellsAt w a (flat enc (L.take k)) := by
  intro j v hj
  refine h j v ?_
  have e : flat enc L = flat enc (L.take k) ++ flat enc (L.drop k) := by rw [← flat_append, List.take_append_drop]
  have hl : j < (flat enc (L.take k)).length := by
    rcases Nat.lt_or_ge j (flat enc (L.take k)).length with h1 | h1
    · exact h1
    · rw [List.getElem?_eq_none h1] at hj; cases hj
  rw [e, List.getElem?_append_left hl]
  exact hj
end Go.Proofs.YthikknnadmebgaaGreatDoor

/-! Package slices at elements coilrack/api.Named: with a function value. Written by mkfind.py. -/
namespace Go.Proofs.YthikknnadmebgaaGreatDoor
open Go.RowKit

set_option maxRecDepth 100000 in
set_option maxHeartbeats 1000000 in
theorem indexFunc_NmQ (F : FuncId) (q0 : Nat) (P : Nm → Bool) (xs : List (Nm)) (a : Option Addr) (c : Nat) (w : World) (hc : CellsAt w a (flat encNm xs)) (hl : xs.length ≤ 137438953472)
    (hE : ∀ (args : Array Value) (w : World), (callFunc F args).run Tryz.prog w = .ok (.enter F args) w)
    (hF : ∀ x ∈ xs, ∀ w1, w.grownBy w1 none → Calls Tryz.prog F #[.agg #[.string x.key, .int .i64 x.many], .pointer (some ⟨q0, 0, none⟩)] w1 fun e w2 => e = .returned (.bool (P x)) ∧ w1.grownBy w2 none) :
    Calls Tryz.prog 50 #[.slice a xs.length c, Value.func (.func F) #[] #[.pointer (some ⟨q0, 0, none⟩)]] w fun e w' => e = .returned (.int .i64 (findA P xs)) ∧ w.grownBy w' none := by
  have HF := Lib.hid hF; clear hF
  go_enter Tryz.func50, Tryz.ntmps50
  go_wp2_with (fail)
  go_loopw [8] (fun i wr => ∃ k : Nat, k ≤ xs.length ∧ i = .int .i64 k ∧ (∀ j (hj : j < xs.length), j < k → P xs[j] = false) ∧ w.grownBy wr none) (fun i _ => xs.length - (intOf i).toNat)
  case atStart => exact ⟨0, Nat.zero_le _, rfl, fun j _ hj => absurd hj (Nat.not_lt_zero _), gr_refl _ _⟩
  case round =>
    obtain ⟨k, hk, rfl, hno, hgr⟩ := hrel
    obtain ⟨wo, rfl⟩ : ∃ wo : World, wo = wr := ⟨_, rfl⟩
    have HNO := Lib.hid hno; clear hno
    by_cases hlt : k < xs.length
    · obtain ⟨b, off, rfl, hcs⟩ := flat_cells (enc := encNm) (m := 2) (fun _ => rfl) (by decide) (hc.keep0 hgr) (by omega)
      have hmem : xs[k] ∈ xs := List.getElem_mem hlt
      obtain ⟨x, hx⟩ : ∃ x, x = xs[k] := ⟨_, rfl⟩
      have HX := Lib.hid hx
      have d0 : wo.cell? ⟨b, off + k * 2, none⟩ = some (.string x.key) := by have := hcs k hlt 0 _ rfl; simpa [← HX.out] using this
      have d1 : wo.cell? ⟨b, off + k * 2 + 1, none⟩ = some (.int .i64 x.many) := by have := hcs k hlt 1 _ rfl; simpa [← HX.out] using this
      rw [← hx] at hmem
      clear hx
      have HM := Lib.hid hmem; clear hmem hcs
      go_wp2_with (fail)
      refine (HF.out x HM.out wo hgr).mono ?_
      rintro e w1 ⟨rfl, hg1⟩
      cases hp : P x with
      | true =>
        have HP := Lib.hid hp; clear hp
        go_wp2_with (fail)
        go_ret
        refine ⟨ret_int (findA_at hlt (by rw [← HX.out]; exact HP.out) (fun j hj => HNO.out j (by omega) hj)).symm, gr_trans hgr hg1⟩
      | false =>
        have HP := Lib.hid hp; clear hp
        go_wp2_with (fail)
        go_roundw
        case rel =>
          refine ⟨k + 1, by omega, by go_num, fun j hjl hj => ?_, gr_trans hgr hg1⟩
          by_cases hjk : j = k
          · subst hjk; rw [← HX.out]; exact HP.out
          · exact HNO.out j hjl (by omega)
        case measure => simp [intOf]; omega
    · have hkl : k = xs.length := by omega
      have HK := Lib.hid hkl; clear hkl
      go_wp2_with (fail)
      go_ret
      exact ⟨ret_int (findA_none (fun j hj => HNO.out j hj (by rw [HK.out]; exact hj))).symm, hgr⟩

theorem containsFunc_NmQ (F : FuncId) (q0 : Nat) (P : Nm → Bool) (xs : List (Nm)) (a : Option Addr) (c : Nat) (w : World) (hc : CellsAt w a (flat encNm xs)) (hl : xs.length ≤ 137438953472)
    (hE : ∀ (args : Array Value) (w : World), (callFunc F args).run Tryz.prog w = .ok (.enter F args) w)
    (hF : ∀ x ∈ xs, ∀ w1, w.grownBy w1 none → Calls Tryz.prog F #[.agg #[.string x.key, .int .i64 x.many], .pointer (some ⟨q0, 0, none⟩)] w1 fun e w2 => e = .returned (.bool (P x)) ∧ w1.grownBy w2 none) :
    Calls Tryz.prog 14 #[.slice a xs.length c, Value.func (.func F) #[] #[.pointer (some ⟨q0, 0, none⟩)]] w fun e w' => e = .returned (.bool (xs.any P)) ∧ w.grownBy w' none := by
  have HA := Lib.hid (any_findA P xs)
  go_enter Tryz.func14, Tryz.ntmps14
  go_wp2_with (fail)
  refine (indexFunc_NmQ F q0 P xs a c _ hc hl hE hF).mono ?_
  rintro e w1 ⟨rfl, hg1⟩
  go_wp2_with (fail)
  go_ret
  exact ⟨ret_bool (by rw [HA.out]), hg1⟩
end Go.Proofs.YthikknnadmebgaaGreatDoor
