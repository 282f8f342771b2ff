/- slices.Index and slices.Contains of ints. -/
import Derived.Test.YtdjnomeabadbnaaDoorKitB
import Derived.Test.YtdjnomeabadbnaaDoorMakeInts
import Derived.Test.YtdjnomeabadbnaaDoorMake
import Derived.Test.YtdjnomeabadbnaaDoorFlat
import Derived.Test.YtdjnomeabadbnaaDoorStepApp
import Derived.Deep.QuietTactic
namespace Go.Proofs.YtdjnomeabadbnaaDoor
open Go.RowKit

def BoolOf (b : Bool) (w : World) (e : Ending) (w' : World) : Prop := e = .returned (.bool b) ∧ w = w'
set_option maxRecDepth 100000 in
/-- slices.Index of ints: the place, or -1. -/
theorem index_gen (a : Option Addr) (L : List Int) (c : Nat) (x : Int) (w : World) (hc : CellsAt w a (ints L)) (hl : L.length ≤ 1000000) :
    Calls Tryd.prog 132 #[.slice a L.length c, .int .i64 x] w fun e w' => e = .returned (.int .i64 (findA (fun y => x == y) L)) ∧ w = w' := by
  go_enter Tryd.func132, Tryd.ntmps132
  go_wp2_with (fail)
  go_loop [8] (fun i => ∃ k : Nat, k ≤ L.length ∧ i = .int .i64 k ∧ (∀ j (hj : j < L.length), j < k → (x == L[j]) = false)) (fun i => L.length - (intOf i).toNat)
  case atStart => exact ⟨0, by omega, rfl, fun j _ hj => by omega⟩
  case round =>
    obtain ⟨k, hk, rfl, hno⟩ := hrel
    have HNO := Lib.hid hno
    clear hno
    by_cases hlt : k < L.length
    · obtain ⟨b2, o2, rfl, dk⟩ := hc k _ (ints_get L k hlt)
      obtain ⟨y, hy⟩ : ∃ y, y = L.getD k 0 := ⟨_, rfl⟩
      rw [← hy] at dk
      have hy2 : L[k] = y := by rw [hy, getD_eq L k 0 hlt]
      have HY := Lib.hid hy2
      clear hy hy2
      by_cases hxy : x = y
      · subst hxy
        go_wp2_with (fail)
        go_ret
        exact ⟨ret_int (findA_at hlt (by rw [HY.out]; simp) (fun j hj => HNO.out j (by omega) hj)).symm, rfl⟩
      · have hb : (x == y) = false := by simpa using hxy
        have HB := Lib.hid hb
        go_wp2_with (fail)
        go_round
        case rel =>
          refine ⟨k + 1, by omega, by go_num, fun j hjl hj => ?_⟩
          by_cases hjk : j = k
          · subst hjk; rw [HY.out]; exact HB.out
          · exact HNO.out j hjl (by omega)
        case measure => simp [intOf]; omega
    · obtain rfl : k = L.length := by omega
      go_wp2_with (fail)
      go_ret
      exact ⟨ret_int (findA_none (fun j hj => HNO.out j hj hj)).symm, rfl⟩
theorem contains_int (a : Option Addr) (L : List Int) (c : Nat) (x : Int) (w : World) (hc : CellsAt w a (ints L)) (hl : L.length ≤ 1000000) :
    Calls Tryd.prog 72 #[.slice a L.length c, .int .i64 x] w (BoolOf (L.any (fun y => x == y)) w) := by
  have HA := Lib.hid (any_findA (fun y => x == y) L)
  go_enter Tryd.func72, Tryd.ntmps72
  go_wp2_with (fail)
  refine (index_gen a L c x w hc hl).mono ?_
  rintro e w1 ⟨rfl, rfl⟩
  go_wp2_with (fail)
  go_ret
  exact ⟨ret_bool (by rw [HA.out]), rfl⟩

end Go.Proofs.YtdjnomeabadbnaaDoor
