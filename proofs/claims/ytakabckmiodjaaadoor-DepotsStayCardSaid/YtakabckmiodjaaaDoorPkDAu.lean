/- depot.Balance, coilref.SameWallet, coilkeep.depots. -/
import Derived.Test.YtakabckmiodjaaaDoorPkDAq
import Derived.Test.YtakabckmiodjaaaDoorPkDAo
import Derived.Test.YtakabckmiodjaaaDoorPkDAg
namespace Go.Proofs.YtakabckmiodjaaaDoor
open Go.RowKit

theorem depots_any (w : World) : Calls Tryd.prog 10 #[] w fun e w' => e = .returned (.bool true) ∧ w.grownBy w' none := by
  have hg0 := gr_alloc (gr_refl w none) (.cells #[.string { data := #[97] }, .string { data := #[98] }] 9)
  have hs : ∀ i, i < 2 → (w.alloc (.cells #[.string { data := #[97] }, .string { data := #[98] }] 9)).cell? ⟨w.heap.size, 0 + i, none⟩ = some (siteV i) := by
    intro i hi
    rw [Nat.zero_add]
    obtain rfl | rfl : i = 0 ∨ i = 1 := by omega
    · exact made_cell (gr_refl _ _) 0 rfl
    · exact made_cell (gr_refl _ _) 1 rfl
  have EM := Lib.hid (empty_any 2 w.heap.size 0 2 _ (by omega) (by omega) hs)
  clear hs
  go_enter Tryd.func10, Tryd.ntmps10
  go_wp2_with (fail)
  refine EM.out.mono ?_
  rintro e w1 ⟨x, y, z, vs, rfl, hx, hy, hz, _, hg1⟩
  have hyo := hy.outer
  rw [show (zerosT 2).length = 2 from rfl] at hyo
  obtain ⟨gx, cx, rfl, _, _, _, _⟩ := own_some hx (by omega)
  obtain ⟨gy, cy, rfl, _, _, _, _⟩ := own_some hyo (by omega)
  obtain ⟨gz, cz, rfl, _, _, _, _⟩ := own_some hz (by omega)
  have hgr := gr_trans hg0 hg1
  clear hx hy hz hyo hg0 hg1 EM
  go_wp2_with (fail)
  go_ret
  exact ⟨rfl, gr_alloc hgr _⟩

def balTo (A : Wal) : Nat → Int
  | 0 => 0
  | m + 1 => balTo A m + rightsTo A m 3

set_option maxRecDepth 100000 in
set_option maxHeartbeats 2000000 in
theorem sameWallet_any (x y z x' y' z' : Value) (A : Wal) (B : Nat → Prop) (w : World) (ha : WalAt w B x y z A) (ha' : WalAt w B x' y' z' A) (hf : WForm A) :
    Calls Tryd.prog 11 #[.agg #[x, y, z], .agg #[x', y', z']] w fun e w' => e = .returned (.bool true) ∧ w.grownBy w' none := by
  obtain ⟨w1, hw1⟩ : ∃ w1, w1 = (w.alloc (.cells #[x, y, z] 29)).alloc (.cells #[x', y', z'] 29) := ⟨_, rfl⟩
  have hgR : w.grownBy w1 none := by rw [hw1]; exact gr_alloc (gr_alloc (gr_refl w none) _) _
  have hQ1 : w1.heap[w.heap.size + 1]? = some (.cells #[x', y', z'] 29 (0, 0)) := by rw [hw1]; exact (heap_two w _ _).2
  have hP1 : w1.heap[w.heap.size]? = some (.cells #[x, y, z] 29 (0, 0)) := by rw [hw1]; exact (heap_two w _ _).1
  have ha1 := ha.keep0 hgR
  have ha2 := ha'.keep0 hgR
  have rowsAt : ∀ {v : Value} {b o c : Nat} {x y z : Value}, WalAt w1 B x y z A → y = .slice (some ⟨b, o, none⟩) 3 c → RowsAt w1 (some ⟨b, o, none⟩) A.T := by
    intro _ b o c x y z h e
    obtain ⟨b', o', c', he, hr⟩ := h.rows hf
    rw [e] at he
    cases he
    intro i hi
    obtain ⟨ra, rc, h1, h2, _⟩ := hr i (by have := hf.lenT; omega)
    exact ⟨b, o, ra, rc, rfl, h1, h2⟩
  obtain ⟨sb, so, sc, hx, hs1⟩ := ha1.strs
  obtain ⟨sb', so', sc', hx', hs2⟩ := ha2.strs
  obtain ⟨rb, ro, rc, hy, _, _, _⟩ := ha1.r
  obtain ⟨ub, uo, uc, hz, _, hu1⟩ := ha1.used hf
  obtain ⟨rb', ro', rc', hy', _, _, _⟩ := ha2.r
  obtain ⟨ub', uo', uc', hz', _, hu2⟩ := ha2.used hf
  have hr1 := rowsAt (v := undef) ha1 hy
  have hr2 := rowsAt (v := undef) ha2 hy'
  subst hx hy hz hx' hy' hz'
  obtain ⟨p0, p1, p2, _, _, _⟩ := blk_cells hP1
  obtain ⟨q0, q1, q2, _, _, _⟩ := blk_cells hQ1
  have E1 := Lib.hid (equal_str siteBs (some ⟨sb, so, none⟩) (some ⟨sb', so', none⟩) sc sc' w1 hs1 hs2 (by decide))
  rw [show siteBs.length = 3 from rfl] at E1
  have E2 := Lib.hid (fun (w' : World) (h : w1.grownBy w' none) => equal_int A.U (some ⟨ub, uo, none⟩) (some ⟨ub', uo', none⟩) uc uc' w' (hu1.keep0 h) (hu2.keep0 h) (by rw [hf.lenU]; omega))
  rw [hf.lenU] at E2
  have E3 := Lib.hid (fun (w' : World) (h : w1.grownBy w' none) => equal_rows A.T (some ⟨rb, ro, none⟩) (some ⟨rb', ro', none⟩) rc rc' w' (hr1.keep0 h) (hr2.keep0 h) (by rw [hf.lenT]; omega) (fun r hr => by
    obtain ⟨i, hi, rfl⟩ := List.getElem_of_mem hr
    have hl := hf.lenR i (by have := hf.lenT; omega)
    rw [getD_eq _ _ _ hi] at hl
    omega))
  rw [hf.lenT] at E3
  clear ha ha' ha1 ha2 hP1 hQ1 hs1 hs2 hu1 hu2 hr1 hr2 rowsAt hf
  go_enter Tryd.func11, Tryd.ntmps11
  go_wp2_with (fail)
  rw [← hw1]
  clear hw1
  refine E1.out.mono ?_
  rintro e w2 ⟨rfl, hg2⟩
  have s1 := (gr_cell hg2 (lt_of_cell p1)).trans p1
  have s2 := (gr_cell hg2 (lt_of_cell p2)).trans p2
  have t1 := (gr_cell hg2 (lt_of_cell q1)).trans q1
  have t2 := (gr_cell hg2 (lt_of_cell q2)).trans q2
  go_wp2_with (fail)
  refine (E2.out w2 hg2).mono ?_
  rintro e w3 ⟨rfl, hg3⟩
  have u1 := (gr_cell hg3 (lt_of_cell s1)).trans s1
  have v1 := (gr_cell hg3 (lt_of_cell t1)).trans t1
  have hg13 := gr_trans hg2 hg3
  go_wp2_with (fail)
  refine (E3.out w3 hg13).mono ?_
  rintro e w4 ⟨rfl, hg4⟩
  go_wp2_with (fail)
  go_ret
  exact ⟨rfl, gr_trans hgR (gr_trans hg13 hg4)⟩
end Go.Proofs.YtakabckmiodjaaaDoor
