/- Strings and rows of ints as elements. -/
import Derived.Test.YtehhmgbgkemidaaGreatDoorPkSAc
import Derived.Test.YtehhmgbgkemidaaGreatDoorPkSAa
namespace Go.Proofs.YtehhmgbgkemidaaGreatDoor
open Go.RowKit

theorem eStr : ElemT Tryz.prog 34 9 (.string { data := #[] }) 1 16 := ⟨by kernel_rfl, by kernel_rfl, by decide, by decide, by decide⟩
end Go.Proofs.YtehhmgbgkemidaaGreatDoor

/-! Package slices at elements string: with a function value. Written by mkfind.py. -/
namespace Go.Proofs.YtehhmgbgkemidaaGreatDoor
open Go.RowKit

set_option maxRecDepth 100000 in
set_option maxHeartbeats 1000000 in
theorem indexFunc_Str0 (F : FuncId)  (P : ByteArray → Bool) (xs : List (ByteArray)) (a : Option Addr) (c : Nat) (w : World) (hc : CellsAt w a (flat (fun s => [Value.string s]) xs)) (hl : xs.length ≤ 137438953472)
    (hE : ∀ (args : Array Value) (w : World), (callFunc F args).run Tryz.prog w = .ok (.enter F args) w)
    (hF : ∀ x ∈ xs, ∀ w1, w.grownBy w1 none → Calls Tryz.prog F #[.string x] w1 fun e w2 => e = .returned (.bool (P x)) ∧ w1.grownBy w2 none) :
    Calls Tryz.prog 115 #[.slice a xs.length c, Value.func (.func F) #[] #[]] w fun e w' => e = .returned (.int .i64 (findA P xs)) ∧ w.grownBy w' none := by
  have HF := Lib.hid hF; clear hF
  go_enter Tryz.func115, Tryz.ntmps115
  go_wp2_with (fail)
  go_loopw [8] (fun i wr => ∃ k : Nat, k ≤ xs.length ∧ i = .int .i64 k ∧ (∀ j (hj : j < xs.length), j < k → P xs[j] = false) ∧ w.grownBy wr none) (fun i _ => xs.length - (intOf i).toNat)
  case atStart => exact ⟨0, Nat.zero_le _, rfl, fun j _ hj => absurd hj (Nat.not_lt_zero _), gr_refl _ _⟩
  case round =>
    obtain ⟨k, hk, rfl, hno, hgr⟩ := hrel
    obtain ⟨wo, rfl⟩ : ∃ wo : World, wo = wr := ⟨_, rfl⟩
    have HNO := Lib.hid hno; clear hno
    by_cases hlt : k < xs.length
    · obtain ⟨b, off, rfl, hcs⟩ := flat_cells (enc := (fun s => [Value.string s])) (m := 1) (fun _ => rfl) (by decide) (hc.keep0 hgr) (by omega)
      have hmem : xs[k] ∈ xs := List.getElem_mem hlt
      obtain ⟨x, hx⟩ : ∃ x, x = xs[k] := ⟨_, rfl⟩
      have HX := Lib.hid hx
      have d0 : wo.cell? ⟨b, off + k, none⟩ = some (.string x) := by have := hcs k hlt 0 _ rfl; simpa [← HX.out] using this
      rw [← hx] at hmem
      clear hx
      have HM := Lib.hid hmem; clear hmem hcs
      go_wp2_with (fail)
      refine (HF.out x HM.out wo hgr).mono ?_
      rintro e w1 ⟨rfl, hg1⟩
      cases hp : P x with
      | true =>
        have HP := Lib.hid hp; clear hp
        go_wp2_with (fail)
        go_ret
        refine ⟨ret_int (findA_at hlt (by rw [← HX.out]; exact HP.out) (fun j hj => HNO.out j (by omega) hj)).symm, gr_trans hgr hg1⟩
      | false =>
        have HP := Lib.hid hp; clear hp
        go_wp2_with (fail)
        go_roundw
        case rel =>
          refine ⟨k + 1, by omega, by go_num, fun j hjl hj => ?_, gr_trans hgr hg1⟩
          by_cases hjk : j = k
          · subst hjk; rw [← HX.out]; exact HP.out
          · exact HNO.out j hjl (by omega)
        case measure => simp [intOf]; omega
    · have hkl : k = xs.length := by omega
      have HK := Lib.hid hkl; clear hkl
      go_wp2_with (fail)
      go_ret
      exact ⟨ret_int (findA_none (fun j hj => HNO.out j hj (by rw [HK.out]; exact hj))).symm, hgr⟩

theorem containsFunc_Str0 (F : FuncId)  (P : ByteArray → Bool) (xs : List (ByteArray)) (a : Option Addr) (c : Nat) (w : World) (hc : CellsAt w a (flat (fun s => [Value.string s]) xs)) (hl : xs.length ≤ 137438953472)
    (hE : ∀ (args : Array Value) (w : World), (callFunc F args).run Tryz.prog w = .ok (.enter F args) w)
    (hF : ∀ x ∈ xs, ∀ w1, w.grownBy w1 none → Calls Tryz.prog F #[.string x] w1 fun e w2 => e = .returned (.bool (P x)) ∧ w1.grownBy w2 none) :
    Calls Tryz.prog 54 #[.slice a xs.length c, Value.func (.func F) #[] #[]] w fun e w' => e = .returned (.bool (xs.any P)) ∧ w.grownBy w' none := by
  have HA := Lib.hid (any_findA P xs)
  go_enter Tryz.func54, Tryz.ntmps54
  go_wp2_with (fail)
  refine (indexFunc_Str0 F  P xs a c _ hc hl hE hF).mono ?_
  rintro e w1 ⟨rfl, hg1⟩
  go_wp2_with (fail)
  go_ret
  exact ⟨ret_bool (by rw [HA.out]), hg1⟩
end Go.Proofs.YtehhmgbgkemidaaGreatDoor

/-! Numbers: as the stream makes them. -/
namespace Go.Proofs.YtehhmgbgkemidaaGreatDoor
open Go.RowKit
variable {lw : Nat}

/-- Numbers below m that are drawn one behind the other. -/
def genM (l : List Int) (k : Nat) (m : Int) : Nat → List Int
  | 0 => []
  | n + 1 => genM l k m n ++ [nxt l (k + n) m]
theorem genM_len (l : List Int) (k : Nat) (m : Int) (n : Nat) : (genM l k m n).length = n := by
  induction n with
  | zero => rfl
  | succ n ih => simp [genM, ih]
def numsA (l : List Int) (k n : Nat) (most : Int) : List Int := if flipM l (k + n) 15 then genM l k (most + 1) n ++ [1] else genM l k (most + 1) n
def numsB (l : List Int) (k n : Nat) (most : Int) : Bool := flipM l (k + n + 1) 15 && decide (0 < (numsA l k n most).length)
def numsM (l : List Int) (k n : Nat) (most : Int) : List Int :=
  if numsB l k n most then (numsA l k n most).set (nxt l (k + n + 2) (numsA l k n most).length).toNat (pickM l (k + n + 3) [-1, 1000001, 1099511627776]) else numsA l k n most
def numsK (l : List Int) (k n : Nat) (most : Int) : Nat := if numsB l k n most then k + n + 4 else k + n + 2
theorem numsA_len (l : List Int) (k n : Nat) (most : Int) : (numsA l k n most).length ≤ n + 1 := by
  unfold numsA; split <;> simp [genM_len]
theorem numsM_len (l : List Int) (k n : Nat) (most : Int) : (numsM l k n most).length ≤ n + 1 := by
  unfold numsM; split <;> simp [numsA_len]
theorem numsK_le (l : List Int) (k n : Nat) (most : Int) : numsK l k n most ≤ k + n + 4 := by
  unfold numsK; split <;> omega

end Go.Proofs.YtehhmgbgkemidaaGreatDoor
