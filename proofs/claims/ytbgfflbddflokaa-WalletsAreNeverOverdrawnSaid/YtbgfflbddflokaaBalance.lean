/- depot.Balance, coilref.SameWallet, coilkeep.depots. -/
import Derived.Test.YtbgfflbddflokaaMerge2
import Derived.Test.YtbgfflbddflokaaEmpty
import Derived.Test.YtbgfflbddflokaaEqualInt
namespace Go.Proofs.Ytbgfflbddflokaa
open Go.RowKit

theorem depots_any (w : World) : Calls Try.prog 26 #[] w fun e w' => e = .returned (.bool true) ∧ w.grownBy w' none := by
  have hg0 := gr_alloc (gr_refl w none) (.cells #[.string { data := #[97] }, .string { data := #[98] }] 9)
  have hs : ∀ i, i < 2 → (w.alloc (.cells #[.string { data := #[97] }, .string { data := #[98] }] 9)).cell? ⟨w.heap.size, 0 + i, none⟩ = some (siteV i) := by
    intro i hi
    rw [Nat.zero_add]
    obtain rfl | rfl : i = 0 ∨ i = 1 := by omega
    · exact made_cell (gr_refl _ _) 0 rfl
    · exact made_cell (gr_refl _ _) 1 rfl
  have EM := Lib.hid (empty_any 2 w.heap.size 0 2 _ (by omega) (by omega) hs)
  clear hs
  go_enter Try.func26, Try.ntmps26
  go_wp2_with (fail)
  refine EM.out.mono ?_
  rintro e w1 ⟨x, y, z, vs, rfl, hx, hy, hz, _, hg1⟩
  have hyo := hy.outer
  rw [show (zerosT 2).length = 2 from rfl] at hyo
  obtain ⟨gx, cx, rfl, _, _, _, _⟩ := own_some hx (by omega)
  obtain ⟨gy, cy, rfl, _, _, _, _⟩ := own_some hyo (by omega)
  obtain ⟨gz, cz, rfl, _, _, _, _⟩ := own_some hz (by omega)
  have hgr := gr_trans hg0 hg1
  clear hx hy hz hyo hg0 hg1 EM
  go_wp2_with (fail)
  go_ret
  exact ⟨rfl, gr_alloc hgr _⟩

def balTo (A : Wal) : Nat → Int
  | 0 => 0
  | m + 1 => balTo A m + rightsTo A m 3

set_option maxRecDepth 100000 in
set_option maxHeartbeats 2000000 in
theorem balance_any (x y z : Value) (A : Wal) (X : Int) (B : Nat → Prop) (w : World) (ha : WalAt w B x y z A) (hok : WOk A X) (hX : X ≤ 1000000000) :
    Calls Try.prog 25 #[.agg #[x, y, z]] w fun e w' => e = .returned (.tuple #[.int .i64 (balTo A 3), .int .i64 0]) ∧ w.grownBy w' none := by
  have hg1 := gr_alloc (gr_refl w none) (.cells #[x, y, z] 50)
  have ha1 := ha.keep0 hg1
  obtain ⟨w1, hw1⟩ : ∃ w1, w1 = w.alloc (.cells #[x, y, z] 50) := ⟨_, rfl⟩
  have hP1 : w1.heap[w.heap.size]? = some (.cells #[x, y, z] 50 (0, 0)) := by rw [hw1]; exact heap_alloc_new w _
  rw [← hw1] at hg1 ha1
  have CW := Lib.hid (checkWallet_ok x y z A X B w1 ha1 hok hX)
  have HA := Lib.hid ha1
  have HOK := Lib.hid hok
  obtain ⟨sb, so, sc, rfl, _, _, _⟩ := ha1.s
  obtain ⟨rb, ro, rc, rfl, hrc, _, _⟩ := ha1.r
  obtain ⟨ub, uo, uc, rfl, huc, _, _⟩ := ha1.u
  obtain ⟨p0, p1, p2, _, _, _⟩ := blk_cells hP1
  clear ha hok ha1 hP1
  go_enter Try.func25, Try.ntmps25
  go_wp2_with (fail)
  rw [← hw1]
  clear hw1
  go_wp2_with (fail)
  refine CW.out.mono ?_
  rintro e w2 ⟨rfl, hg2⟩
  have hgr2 := gr_trans hg1 hg2
  have q0 := (gr_cell hg2 (lt_of_cell p0)).trans p0
  have q1 := (gr_cell hg2 (lt_of_cell p1)).trans p1
  have q2 := (gr_cell hg2 (lt_of_cell p2)).trans p2
  have HA2 := Lib.hid (HA.out.keep0 hg2)
  clear p0 p1 p2 hg2 hg1 CW
  go_wp2_with (fail)
  go_loopw [5, 15] (fun s i wr => ∃ m : Nat, m ≤ 3 ∧ i = .int .i64 m ∧ s = .int .i64 (balTo A m) ∧ -(m * 4000000000) ≤ balTo A m ∧ balTo A m ≤ m * 4000000000 ∧ w2.grownBy wr none) (fun _ i _ => 3 - (intOf i).toNat)
  case atStart => exact ⟨0, by omega, rfl, rfl, by simp [balTo], by simp [balTo], gr_refl _ _⟩
  case round =>
    obtain ⟨m, hm, rfl, rfl, hb1, hb2, hgo⟩ := hrel
    obtain ⟨wo, rfl⟩ : ∃ wo : World, wo = wr := ⟨_, rfl⟩
    obtain ⟨s, hs⟩ : ∃ s, s = balTo A m := ⟨_, rfl⟩
    rw [← hs] at hb1 hb2
    rw [← hs]
    by_cases hlt : m < 3
    · have q0' := (gr_cell hgo (lt_of_cell q0)).trans q0
      have q1' := (gr_cell hgo (lt_of_cell q1)).trans q1
      have q2' := (gr_cell hgo (lt_of_cell q2)).trans q2
      have RT := Lib.hid (rights_any _ _ _ A B m wo (HA2.out.keep0 hgo) hlt (fun i j hi hj => by have := HOK.out.r0 i j hi hj; omega) (fun i hi => by have := HOK.out.u0 i hi; omega))
      have hrb := rightsTo_bound HOK.out.r0 HOK.out.u0 m hlt 3 (by omega)
      have hnx : balTo A (m + 1) = s + rightsTo A m 3 := by rw [hs]; rfl
      obtain ⟨r, hr⟩ : ∃ r, r = rightsTo A m 3 := ⟨_, rfl⟩
      rw [← hr] at hrb RT hnx
      obtain ⟨hr1, hr2⟩ := hrb
      have HNX := Lib.hid hnx
      clear hr hs hnx
      go_wp2_with (fail)
      refine RT.out.mono ?_
      rintro e w8 ⟨rfl, hg8⟩
      go_wp2_with (fail)
      go_roundw
      case rel => exact ⟨m + 1, by omega, by go_num, by rw [HNX.out], by rw [HNX.out]; simp; omega, by rw [HNX.out]; simp; omega, gr_trans hgo hg8⟩
      case measure => simp [intOf]; omega
    · have hm3 : m = 3 := by omega
      have hfin : Hid (s = balTo A 3) := by show _ = _; rw [hs, hm3]
      clear hs hm3
      go_wp2_with (fail)
      go_ret2
      exact ⟨by rw [hfin.out]; rfl, gr_trans hgr2 hgo⟩

set_option maxRecDepth 100000 in
set_option maxHeartbeats 2000000 in
theorem sameWallet_any (x y z x' y' z' : Value) (A : Wal) (B : Nat → Prop) (w : World) (ha : WalAt w B x y z A) (ha' : WalAt w B x' y' z' A) (hf : WForm A) :
    Calls Try.prog 27 #[.agg #[x, y, z], .agg #[x', y', z']] w fun e w' => e = .returned (.bool true) ∧ w.grownBy w' none := by
  obtain ⟨w1, hw1⟩ : ∃ w1, w1 = (w.alloc (.cells #[x, y, z] 50)).alloc (.cells #[x', y', z'] 50) := ⟨_, rfl⟩
  have hgR : w.grownBy w1 none := by rw [hw1]; exact gr_alloc (gr_alloc (gr_refl w none) _) _
  have hQ1 : w1.heap[w.heap.size + 1]? = some (.cells #[x', y', z'] 50 (0, 0)) := by rw [hw1]; exact (heap_two w _ _).2
  have hP1 : w1.heap[w.heap.size]? = some (.cells #[x, y, z] 50 (0, 0)) := by rw [hw1]; exact (heap_two w _ _).1
  have ha1 := ha.keep0 hgR
  have ha2 := ha'.keep0 hgR
  have rowsAt : ∀ {v : Value} {b o c : Nat} {x y z : Value}, WalAt w1 B x y z A → y = .slice (some ⟨b, o, none⟩) 3 c → RowsAt w1 (some ⟨b, o, none⟩) A.T := by
    intro _ b o c x y z h e
    obtain ⟨b', o', c', he, hr⟩ := h.rows hf
    rw [e] at he
    cases he
    intro i hi
    obtain ⟨ra, rc, h1, h2, _⟩ := hr i (by have := hf.lenT; omega)
    exact ⟨b, o, ra, rc, rfl, h1, h2⟩
  obtain ⟨sb, so, sc, hx, hs1⟩ := ha1.strs
  obtain ⟨sb', so', sc', hx', hs2⟩ := ha2.strs
  obtain ⟨rb, ro, rc, hy, _, _, _⟩ := ha1.r
  obtain ⟨ub, uo, uc, hz, _, hu1⟩ := ha1.used hf
  obtain ⟨rb', ro', rc', hy', _, _, _⟩ := ha2.r
  obtain ⟨ub', uo', uc', hz', _, hu2⟩ := ha2.used hf
  have hr1 := rowsAt (v := undef) ha1 hy
  have hr2 := rowsAt (v := undef) ha2 hy'
  subst hx hy hz hx' hy' hz'
  obtain ⟨p0, p1, p2, _, _, _⟩ := blk_cells hP1
  obtain ⟨q0, q1, q2, _, _, _⟩ := blk_cells hQ1
  have E1 := Lib.hid (equal_str siteBs (some ⟨sb, so, none⟩) (some ⟨sb', so', none⟩) sc sc' w1 hs1 hs2 (by decide))
  rw [show siteBs.length = 3 from rfl] at E1
  have E2 := Lib.hid (fun (w' : World) (h : w1.grownBy w' none) => equal_int A.U (some ⟨ub, uo, none⟩) (some ⟨ub', uo', none⟩) uc uc' w' (hu1.keep0 h) (hu2.keep0 h) (by rw [hf.lenU]; omega))
  rw [hf.lenU] at E2
  have E3 := Lib.hid (fun (w' : World) (h : w1.grownBy w' none) => equal_rows A.T (some ⟨rb, ro, none⟩) (some ⟨rb', ro', none⟩) rc rc' w' (hr1.keep0 h) (hr2.keep0 h) (by rw [hf.lenT]; omega) (fun r hr => by
    obtain ⟨i, hi, rfl⟩ := List.getElem_of_mem hr
    have hl := hf.lenR i (by have := hf.lenT; omega)
    rw [getD_eq _ _ _ hi] at hl
    omega))
  rw [hf.lenT] at E3
  clear ha ha' ha1 ha2 hP1 hQ1 hs1 hs2 hu1 hu2 hr1 hr2 rowsAt hf
  go_enter Try.func27, Try.ntmps27
  go_wp2_with (fail)
  rw [← hw1]
  clear hw1
  refine E1.out.mono ?_
  rintro e w2 ⟨rfl, hg2⟩
  have s1 := (gr_cell hg2 (lt_of_cell p1)).trans p1
  have s2 := (gr_cell hg2 (lt_of_cell p2)).trans p2
  have t1 := (gr_cell hg2 (lt_of_cell q1)).trans q1
  have t2 := (gr_cell hg2 (lt_of_cell q2)).trans q2
  go_wp2_with (fail)
  refine (E2.out w2 hg2).mono ?_
  rintro e w3 ⟨rfl, hg3⟩
  have u1 := (gr_cell hg3 (lt_of_cell s1)).trans s1
  have v1 := (gr_cell hg3 (lt_of_cell t1)).trans t1
  have hg13 := gr_trans hg2 hg3
  go_wp2_with (fail)
  refine (E3.out w3 hg13).mono ?_
  rintro e w4 ⟨rfl, hg4⟩
  go_wp2_with (fail)
  go_ret
  exact ⟨rfl, gr_trans hgR (gr_trans hg13 hg4)⟩
end Go.Proofs.Ytbgfflbddflokaa
