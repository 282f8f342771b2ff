/- Package shelf and its reference: where an offer is; what is unknown; small tests. -/
import Derived.Test.YtdjnomeabadbnaaDoorFindOffer
import Derived.Test.YtdjnomeabadbnaaDoorFindStrC
import Derived.Test.YtdjnomeabadbnaaDoorFindStr0
import Derived.Test.YtdjnomeabadbnaaDoorKey
import Derived.Test.YtdjnomeabadbnaaDoorBase
import Derived.WalkLawsBesides
namespace Go.Proofs.YtdjnomeabadbnaaDoor
open Go.RowKit

theorem ret_i {a b : Int} (h : a = b) : Ending.returned (.int .i64 a) = .returned (.int .i64 b) := by rw [h]
/-- A product that is no offer. -/
def strangeB (os : List Offer) (k : ByteArray) : Bool := !k.toList.isEmpty && decide (offIx os k < 0)
theorem strs_flat (xs : List ByteArray) : flat (fun s => [Value.string s]) xs = strs xs := by
  induction xs with
  | nil => rfl
  | cons x xs ih => show [Value.string x] ++ flat _ xs = _; rw [ih]; rfl
def oddB (k : ByteArray) : Bool := !k.toList.isEmpty && !keyB k
set_option maxRecDepth 100000 in
theorem odd_any (k : ByteArray) (w : World) (hs : k.size ≤ 9223372036854775807) : Calls Tryd.prog 143 #[.string k] w fun e w' => e = .returned (.bool (oddB k)) ∧ w.grownBy w' none := by
  have HS : Hid (oddB k = (!k.toList.isEmpty && !keyB k)) := rfl
  cases he : k.toList.isEmpty with
  | true =>
    have he2 : k.toList = [] := by simpa using he
    have HE : Hid (oddB k = false) := by show _ = _; rw [HS.out, he]; rfl
    go_enter Tryd.func143, Tryd.ntmps143
    go_wp2_with (fail)
    go_ret
    exact ⟨ret_bool HE.out.symm, gr_refl _ _⟩
  | false =>
    have he2 : (!k.toList.isEmpty) = true := by rw [he]; rfl
    have he3 : ¬ k.toList = [] := by intro e; rw [e] at he; cases he
    have HE : Hid (oddB k = !keyB k) := by show _ = _; rw [HS.out, he]; rfl
    go_enter Tryd.func143, Tryd.ntmps143
    go_wp2_with (fail)
    refine (key_any k w hs).mono ?_
    rintro e w2 ⟨rfl, rfl⟩
    go_wp2_with (fail)
    go_ret
    exact ⟨ret_bool HE.out.symm, gr_refl _ _⟩
set_option maxRecDepth 100000 in
theorem day_any (n : Int) (w : World) : Calls Tryd.prog 91 #[.int .i64 n] w fun e w' => e = .returned (.bool (!(decide (n < 0) || decide (4000 < n)))) ∧ w = w' := by
  go_enter Tryd.func91, Tryd.ntmps91
  go_wp2_with (fail)
  refine (out_any n 0 4000 w).mono ?_
  rintro e w2 ⟨rfl, rfl⟩
  obtain ⟨b, hb⟩ : ∃ b, b = (decide (n < 0) || decide (4000 < n)) := ⟨_, rfl⟩
  rw [← hb]
  have HB := Lib.hid hb
  clear hb
  go_wp2_with (fail)
  go_ret
  exact ⟨ret_bool (by rw [HB.out]), rfl⟩
end Go.Proofs.YtdjnomeabadbnaaDoor
