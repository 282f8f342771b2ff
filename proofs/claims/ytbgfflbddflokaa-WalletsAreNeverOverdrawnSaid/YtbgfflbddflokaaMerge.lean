/- depot.pairFault and Merge of right wallets. -/
import Derived.Test.YtbgfflbddflokaaCredit
import Derived.Test.YtbgfflbddflokaaEqualStr
import Derived.Deep.CutRange
namespace Go.Proofs.Ytbgfflbddflokaa
open Go.RowKit

def siteBs : List ByteArray := [{ data := #[97] }, { data := #[98] }, { data := #[99] }]
theorem WalAt.strs {w : World} {B : Nat → Prop} {x y z : Value} {A : Wal} (h : WalAt w B x y z A) : ∃ b o c, x = .slice (some ⟨b, o, none⟩) 3 c ∧ CellsAt w (some ⟨b, o, none⟩) (strs siteBs) := by
  obtain ⟨b, o, c, rfl, _, _, hs⟩ := h.s
  refine ⟨b, o, c, rfl, ?_⟩
  intro j v hj
  have hj3 : j < 3 := by have := (List.getElem?_eq_some_iff.1 hj).1; simpa [Go.Proofs.Ytbgfflbddflokaa.strs, siteBs] using this
  refine ⟨b, o, rfl, ?_⟩
  rw [hs j hj3, ← hj]
  obtain rfl | rfl | rfl : j = 0 ∨ j = 1 ∨ j = 2 := by omega
  all_goals rfl

set_option maxRecDepth 100000 in
set_option maxHeartbeats 4000000 in
theorem pairFault_ok (x y z x' y' z' : Value) (A A' : Wal) (X : Int) (B : Nat → Prop) (w : World) (ha : WalAt w B x y z A) (ha' : WalAt w B x' y' z' A') (hok : WOk A X) (hok' : WOk A' X) (hX : X ≤ 1000000000) :
    Calls Try.prog 72 #[.agg #[x, y, z], .agg #[x', y', z']] w fun e w' => e = .returned (.int .i64 0) ∧ w.grownBy w' none := by
  obtain ⟨w1, hw1⟩ : ∃ w1, w1 = (w.alloc (.cells #[x, y, z] 50)).alloc (.cells #[x', y', z'] 50) := ⟨_, rfl⟩
  have hgR : w.grownBy w1 none := by rw [hw1]; exact gr_alloc (gr_alloc (gr_refl w none) _) _
  have hlt1 : w.heap.size + 1 < w1.heap.size := by rw [hw1]; simp
  have hQ1 : w1.heap[w.heap.size + 1]? = some (.cells #[x', y', z'] 50 (0, 0)) := by rw [hw1]; simpa using heap_alloc_new (w.alloc (.cells #[x, y, z] 50)) _
  have hP1 : w1.heap[w.heap.size]? = some (.cells #[x, y, z] 50 (0, 0)) := by rw [hw1, heap_alloc_old (h := by simp)]; exact heap_alloc_new w _
  have ha1 := ha.keep0 hgR
  have ha2 := ha'.keep0 hgR
  have CW1 := Lib.hid (fun (w' : World) (h : w1.grownBy w' none) => checkWallet_ok x y z A X B w' (ha1.keep0 h) hok hX)
  have CW2 := Lib.hid (fun (w' : World) (h : w1.grownBy w' none) => checkWallet_ok x' y' z' A' X B w' (ha2.keep0 h) hok' hX)
  obtain ⟨sb, so, sc, hx, hs1⟩ := ha1.strs
  obtain ⟨sb', so', sc', hx', hs2⟩ := ha2.strs
  obtain ⟨rb, ro, rc, hy, _, _, _⟩ := ha1.r
  obtain ⟨ub, uo, uc, hz, _, _, _⟩ := ha1.u
  obtain ⟨rb', ro', rc', hy', _, _, _⟩ := ha2.r
  obtain ⟨ub', uo', uc', hz', _, _, _⟩ := ha2.u
  subst hx hy hz hx' hy' hz'
  obtain ⟨p0, p1, p2, _, _, _⟩ := blk_cells hP1
  obtain ⟨q0, q1, q2, _, _, _⟩ := blk_cells hQ1
  have hgd := gr_drew (gr_refl w1 none)
  have hlt0 : w.heap.size < w1.heap.size := by omega
  clear ha ha' hok hok' ha1 ha2 hP1 hQ1
  go_enter Try.func72, Try.ntmps72
  go_wp2_with (fail)
  rw [← hw1]
  clear hw1
  go_cut [5] from 6 to 11 (fun s wx => s = .int .i64 0 ∧ w1.grownBy wx none)
  case first =>
    go_region_held3 (fun w' => (w'.cell? ⟨w.heap.size, 0, none⟩ = some (.slice (some ⟨sb, so, none⟩) 3 sc) ∧ w'.cell? ⟨w.heap.size, 1, none⟩ = some (.slice (some ⟨rb, ro, none⟩) 3 rc) ∧ w'.cell? ⟨w.heap.size, 2, none⟩ = some (.slice (some ⟨ub, uo, none⟩) 3 uc)) ∧ w'.cell? ⟨w.heap.size + 1, 0, none⟩ = some (.slice (some ⟨sb', so', none⟩) 3 sc') ∧ w'.cell? ⟨w.heap.size + 1, 1, none⟩ = some (.slice (some ⟨rb', ro', none⟩) 3 rc') ∧ w'.cell? ⟨w.heap.size + 1, 2, none⟩ = some (.slice (some ⟨ub', uo', none⟩) 3 uc'))
      (first | exact ⟨⟨p0, p1, p2⟩, q0, q1, q2⟩ | exact ⟨⟨s0, s1, s2⟩, t0, t1, t2⟩ | exact ⟨⟨u0, u1, u2⟩, v0, v1, v2⟩ | exact ⟨⟨cellA u0 _, cellA u1 _, cellA u2 _⟩, cellA v0 _, cellA v1 _, cellA v2 _⟩)
      (first | (go_at_call 73; revert hg3; intro hg3; (first | (with_reducible refine (CW1.out w3 hg3).mono ?_) | (with_reducible refine (CW2.out w3 hg3).mono ?_)); rintro e w4 ⟨rfl, hg4'⟩; have hg4 := gr_trans hg3 hg4'; have u0 := (gr_cell hg4 (lt_of_cell p0)).trans p0; have u1 := (gr_cell hg4 (lt_of_cell p1)).trans p1; have u2 := (gr_cell hg4 (lt_of_cell p2)).trans p2; have v0 := (gr_cell hg4 (lt_of_cell q0)).trans q0; have v1 := (gr_cell hg4 (lt_of_cell q1)).trans q1; have v2 := (gr_cell hg4 (lt_of_cell q2)).trans q2)
             | (go_at_call 73; (first | (with_reducible refine (CW1.out w1.drew hgd).mono ?_) | (with_reducible refine (CW2.out w1.drew hgd).mono ?_)); rintro e w3 ⟨rfl, hg3'⟩; have hg3 := gr_trans hgd hg3'; have s0 := (gr_cell hg3 (lt_of_cell p0)).trans p0; have s1 := (gr_cell hg3 (lt_of_cell p1)).trans p1; have s2 := (gr_cell hg3 (lt_of_cell p2)).trans p2; have t0 := (gr_cell hg3 (lt_of_cell q0)).trans q0; have t1 := (gr_cell hg3 (lt_of_cell q1)).trans q1; have t2 := (gr_cell hg3 (lt_of_cell q2)).trans q2)
             | (go_at_call 90; (with_reducible refine (or_zeros w4.heap.size 2 _ ?_ ?_).mono ?_); (· exact made_cell (gr_refl _ _) 0 rfl); (· exact made_cell (gr_refl _ _) 1 rfl); rintro e w5 ⟨rfl, rfl⟩)
             | fail)
    all_goals (go_wp2_with (fail))
    all_goals (go_meet; exact ⟨rfl, gr_alloc hg4 _⟩)
  case rest =>
  obtain ⟨rfl, hgc⟩ := hcut
  have s0 := (gr_cell hgc (lt_of_cell p0)).trans p0
  have t0 := (gr_cell hgc (lt_of_cell q0)).trans q0
  have EQ := Lib.hid (equal_str siteBs (some ⟨sb, so, none⟩) (some ⟨sb', so', none⟩) sc sc' wc (hs1.keep0 hgc) (hs2.keep0 hgc) (by decide))
  rw [show siteBs.length = 3 from rfl] at EQ
  have hgrc := gr_trans hgR hgc
  clear p0 p1 p2 q0 q1 q2 hs1 hs2 hgd hgc CW1 CW2
  go_wp2_with (fail)
  refine EQ.out.mono ?_
  rintro e w6 ⟨rfl, hg6⟩
  go_wp2_with (fail)
  go_ret
  exact ⟨rfl, gr_trans hgrc hg6⟩
end Go.Proofs.Ytbgfflbddflokaa
