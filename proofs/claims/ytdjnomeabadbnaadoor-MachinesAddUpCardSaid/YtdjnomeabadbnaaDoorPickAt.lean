/- The stream's Pick of numbers that lie somewhere below the newest block. -/
import Derived.Test.YtdjnomeabadbnaaDoorMake
namespace Go.Proofs.YtdjnomeabadbnaaDoor
open Go.RowKit
variable {lw : Nat}

set_option maxRecDepth 100000 in
theorem pick_at (l : List Int) (k : Nat) (xs : List Int) (p b : Nat) (w : World) (hs : StreamAt w p lw l k) (hk : k < 1000000000) (h0 : 0 < xs.length) (h1 : xs.length ≤ 1000) (hc : CellsAt w (some ⟨b, 0, none⟩) (ints xs)) (hb : p ≠ b) :
    Calls Tryd.prog 29 #[.pointer (some ⟨p, 0, none⟩), .slice (some ⟨b, 0, none⟩) xs.length xs.length] w
      fun e w' => e = .returned (.int .i64 (pickM l k xs)) ∧ StreamAt w' p lw l (k + 1) ∧ w.grownBy w' (some p) := by
  have hr := nxt_range l k xs.length (by omega)
  obtain ⟨i, hi⟩ : ∃ i : Nat, nxt l k xs.length = i := ⟨(nxt l k xs.length).toNat, by omega⟩
  have hil : i < xs.length := by omega
  have hfin : Hid (pickM l k xs = xs.getD i 0) := by show _ = _; unfold pickM; rw [hi]; rfl
  have HI := Lib.hid hi; clear hi hr
  obtain ⟨x, hx⟩ : ∃ x, x = xs.getD i 0 := ⟨_, rfl⟩
  have HX := Lib.hid hx; clear hx
  have hcell : w.cell? ⟨b, i, none⟩ = some (.int .i64 x) := by
    obtain ⟨b', off, he, hx⟩ := hc i (.int .i64 x) (by rw [HX.out]; exact ints_get xs i hil)
    cases he
    simpa using hx
  go_enter Tryd.func29, Tryd.ntmps29
  go_wp2_with (fail)
  refine (next_any l k _ p w hs hk (by omega)).mono ?_
  rintro e w1 ⟨rfl, hs1, hg1⟩
  rw [HI.out]
  have c1 : w1.cell? ⟨b, i, none⟩ = some (.int .i64 x) := hg1.cell hcell (by simp; omega)
  go_wp2_with (fail)
  go_ret
  exact ⟨ret_int (by rw [hfin.out, HX.out]), hs1, hg1⟩
end Go.Proofs.YtdjnomeabadbnaaDoor
