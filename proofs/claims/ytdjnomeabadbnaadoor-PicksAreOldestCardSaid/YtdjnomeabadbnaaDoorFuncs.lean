/- Package slices at ints: with a function value. -/
import Derived.Test.YtdjnomeabadbnaaDoorMake
namespace Go.Proofs.YtdjnomeabadbnaaDoor
open Go.RowKit

/-- A function of the program's own text. -/
def IsFn (F : FuncId) : Prop := ∀ (args : Array Value) (w : World), (callFunc F args).run Tryd.prog w = .ok (.enter F args) w
/-- What is asked of a function value: it answers P of each element, and writes nothing that was there. -/
def Answers (F : FuncId) (caps : Array Value) (P : Int → Bool) (xs : List Int) (w : World) : Prop :=
  ∀ x ∈ xs, ∀ w1, w.grownBy w1 none → Calls Tryd.prog F (#[.int .i64 x] ++ caps) w1 fun e w2 => e = .returned (.bool (P x)) ∧ w1.grownBy w2 none
theorem getD_eq' (l : List Int) (k : Nat) (d : Int) (h : k < l.length) : l.getD k d = l[k] := by
  rw [List.getD_eq_getElem?_getD, List.getElem?_eq_getElem h]; rfl
def findM (P : Int → Bool) (xs : List Int) : Int := if xs.findIdx P < xs.length then (xs.findIdx P : Nat) else -1

set_option maxRecDepth 100000 in
theorem indexFunc_int (F : FuncId) (P : Int → Bool) (xs : List Int) (a : Option Addr) (c : Nat) (w : World) (hc : CellsAt w a (ints xs)) (hl : xs.length ≤ 137438953472) (hE : IsFn F) (hF : Answers F #[] P xs w) :
    Calls Tryd.prog 137 #[.slice a xs.length c, .func (.func F) #[] #[]] w fun e w' => e = .returned (.int .i64 (findM P xs)) ∧ w.grownBy w' none := by
  have HF := Lib.hid hF; clear hF
  have hE' : ∀ (args : Array Value) (w : World), (callFunc F args).run Tryd.prog w = .ok (.enter F args) w := hE
  clear hE
  go_enter Tryd.func137, Tryd.ntmps137
  go_wp2_with (fail)
  go_loopw [8] (fun i wr => ∃ k : Nat, k ≤ xs.length ∧ i = .int .i64 k ∧ (∀ j, j < k → P (xs.getD j 0) = false) ∧ w.grownBy wr none) (fun i _ => xs.length - (intOf i).toNat)
  case atStart => exact ⟨0, Nat.zero_le _, rfl, fun j hj => by omega, gr_refl _ _⟩
  case round =>
    obtain ⟨k, hk, rfl, hno, hgr⟩ := hrel
    obtain ⟨wo, rfl⟩ : ∃ wo : World, wo = wr := ⟨_, rfl⟩
    have HNO := Lib.hid hno; clear hno
    by_cases hlt : k < xs.length
    · obtain ⟨b, off, rfl, d0⟩ := (hc.keep0 hgr) k _ (ints_get xs k hlt)
      have hmem : xs.getD k 0 ∈ xs := by rw [List.getD_eq_getElem?_getD, List.getElem?_eq_getElem hlt]; exact List.getElem_mem hlt
      obtain ⟨x, hx⟩ : ∃ x, x = xs.getD k 0 := ⟨_, rfl⟩
      rw [← hx] at d0 hmem
      have HX := Lib.hid hx; clear hx
      have HM := Lib.hid hmem; clear hmem
      go_wp2_with (fail)
      refine (HF.out x HM.out wo hgr).mono ?_
      rintro e w1 ⟨rfl, hg1⟩
      cases hp : P x with
      | true =>
        have HP := Lib.hid hp; clear hp
        go_wp2_with (fail)
        go_ret
        refine ⟨ret_int ?_, gr_trans hgr hg1⟩
        have : xs.findIdx P = k := by
          rw [List.findIdx_eq hlt]
          refine ⟨by rw [← getD_eq' xs k 0 hlt, ← HX.out]; exact HP.out, fun j hj => ?_⟩
          have := HNO.out j hj
          rwa [getD_eq' xs j 0 (by omega)] at this
        unfold findM
        rw [this, if_pos hlt]
      | false =>
        have HP := Lib.hid hp; clear hp
        go_wp2_with (fail)
        go_roundw
        case rel =>
          refine ⟨k + 1, by omega, by go_num, fun j hj => ?_, gr_trans hgr hg1⟩
          by_cases hjk : j = k
          · subst hjk; rw [← HX.out]; exact HP.out
          · exact HNO.out j (by omega)
        case measure => simp [intOf]; omega
    · have hkl : k = xs.length := by omega
      have HK := Lib.hid hkl; clear hkl
      go_wp2_with (fail)
      go_ret
      refine ⟨ret_int ?_, hgr⟩
      have : ¬ xs.findIdx P < xs.length := by
        rw [List.findIdx_lt_length]
        rintro ⟨y, hy, hpy⟩
        obtain ⟨j, hj, rfl⟩ := List.getElem_of_mem hy
        have := HNO.out j (by rw [HK.out]; exact hj)
        rw [getD_eq' xs j 0 hj] at this
        rw [this] at hpy
        cases hpy
      unfold findM
      rw [if_neg this]

theorem containsFunc_int (F : FuncId) (P : Int → Bool) (xs : List Int) (a : Option Addr) (c : Nat) (w : World) (hc : CellsAt w a (ints xs)) (hl : xs.length ≤ 137438953472) (hE : IsFn F) (hF : Answers F #[] P xs w) :
    Calls Tryd.prog 79 #[.slice a xs.length c, .func (.func F) #[] #[]] w fun e w' => e = .returned (.bool (xs.any P)) ∧ w.grownBy w' none := by
  have hany : xs.any P = decide (0 ≤ findM P xs) := by
    unfold findM
    by_cases h : xs.findIdx P < xs.length
    · rw [if_pos h, List.any_eq_true.2 (List.findIdx_lt_length.1 h)]; simp
    · rw [if_neg h]
      have : xs.any P = false := by
        rw [List.any_eq_false]
        intro x hx hp
        exact h (List.findIdx_lt_length.2 ⟨x, hx, hp⟩)
      rw [this]; rfl
  have HA := Lib.hid hany; clear hany
  go_enter Tryd.func79, Tryd.ntmps79
  go_wp2_with (fail)
  refine (indexFunc_int F P xs a c _ hc hl hE hF).mono ?_
  rintro e w1 ⟨rfl, hg1⟩
  go_wp2_with (fail)
  go_ret
  exact ⟨ret_bool (by rw [HA.out]), hg1⟩
end Go.Proofs.YtdjnomeabadbnaaDoor
