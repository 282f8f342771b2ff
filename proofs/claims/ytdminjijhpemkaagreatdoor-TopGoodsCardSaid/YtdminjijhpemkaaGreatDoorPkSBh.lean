/- Package shelf and its reference: where an offer is; what is unknown; small tests. -/
import Derived.Test.YtdminjijhpemkaaGreatDoorPkSBg
import Derived.Test.YtdminjijhpemkaaGreatDoorPkSAc
import Derived.Test.YtdminjijhpemkaaGreatDoorPkSAj
import Derived.WalkLawsBesides
namespace Go.Proofs.YtdminjijhpemkaaGreatDoor
open Go.RowKit

theorem ret_i {a b : Int} (h : a = b) : Ending.returned (.int .i64 a) = .returned (.int .i64 b) := by rw [h]
/-- A product that is no offer. -/
def strangeB (os : List Offer) (k : ByteArray) : Bool := !k.toList.isEmpty && decide (offIx os k < 0)
theorem strs_flat (xs : List ByteArray) : flat (fun s => [Value.string s]) xs = strs xs := by
  induction xs with
  | nil => rfl
  | cons x xs ih => show [Value.string x] ++ flat _ xs = _; rw [ih]; rfl
def oddB (k : ByteArray) : Bool := !k.toList.isEmpty && !keyB k
set_option maxRecDepth 100000 in
theorem day_any (n : Int) (w : World) : Calls Tryz.prog 95 #[.int .i64 n] w fun e w' => e = .returned (.bool (!(decide (n < 0) || decide (4000 < n)))) ∧ w = w' := by
  go_enter Tryz.func95, Tryz.ntmps95
  go_wp2_with (fail)
  refine (out_any n 0 4000 w).mono ?_
  rintro e w2 ⟨rfl, rfl⟩
  obtain ⟨b, hb⟩ : ∃ b, b = (decide (n < 0) || decide (4000 < n)) := ⟨_, rfl⟩
  rw [← hb]
  have HB := Lib.hid hb
  clear hb
  go_wp2_with (fail)
  go_ret
  exact ⟨ret_bool (by rw [HB.out]), rfl⟩
end Go.Proofs.YtdminjijhpemkaaGreatDoor
