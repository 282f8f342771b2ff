/- depot.pairFault and Merge of right wallets. -/
import Derived.Test.YtakabckmiodjaaaDoorPkDAk
import Derived.Test.YtakabckmiodjaaaDoorPkDAp
import Derived.Deep.CutRange
namespace Go.Proofs.YtakabckmiodjaaaDoor
open Go.RowKit

def siteBs : List ByteArray := [{ data := #[97] }, { data := #[98] }, { data := #[99] }]
theorem WalAt.strs {w : World} {B : Nat → Prop} {x y z : Value} {A : Wal} (h : WalAt w B x y z A) : ∃ b o c, x = .slice (some ⟨b, o, none⟩) 3 c ∧ CellsAt w (some ⟨b, o, none⟩) (strs siteBs) := by
  obtain ⟨b, o, c, rfl, _, _, hs⟩ := h.s
  refine ⟨b, o, c, rfl, ?_⟩
  intro j v hj
  have hj3 : j < 3 := by have := (List.getElem?_eq_some_iff.1 hj).1; simpa [Go.Proofs.YtakabckmiodjaaaDoor.strs, siteBs] using this
  refine ⟨b, o, rfl, ?_⟩
  rw [hs j hj3, ← hj]
  obtain rfl | rfl | rfl : j = 0 ∨ j = 1 ∨ j = 2 := by omega
  all_goals rfl

set_option maxRecDepth 100000 in
set_option maxHeartbeats 4000000 in
theorem pairFault_ok (x y z x' y' z' : Value) (A A' : Wal) (X : Int) (B : Nat → Prop) (w : World) (ha : WalAt w B x y z A) (ha' : WalAt w B x' y' z' A') (hok : WOk A X) (hok' : WOk A' X) (hX : X ≤ 1000000000) :
    Calls Tryd.prog 31 #[.agg #[x, y, z], .agg #[x', y', z']] w fun e w' => e = .returned (.int .i64 0) ∧ w.grownBy w' none := by
  obtain ⟨w1, hw1⟩ : ∃ w1, w1 = (w.alloc (.cells #[x, y, z] 29)).alloc (.cells #[x', y', z'] 29) := ⟨_, rfl⟩
  have hgR : w.grownBy w1 none := by rw [hw1]; exact gr_alloc (gr_alloc (gr_refl w none) _) _
  have hlt1 : w.heap.size + 1 < w1.heap.size := by rw [hw1]; simp
  have hQ1 : w1.heap[w.heap.size + 1]? = some (.cells #[x', y', z'] 29 (0, 0)) := by rw [hw1]; simpa using heap_alloc_new (w.alloc (.cells #[x, y, z] 29)) _
  have hP1 : w1.heap[w.heap.size]? = some (.cells #[x, y, z] 29 (0, 0)) := by rw [hw1, heap_alloc_old (h := by simp)]; exact heap_alloc_new w _
  have ha1 := ha.keep0 hgR
  have ha2 := ha'.keep0 hgR
  have CW1 := Lib.hid (fun (w' : World) (h : w1.grownBy w' none) => checkWallet_ok x y z A X B w' (ha1.keep0 h) hok hX)
  have CW2 := Lib.hid (fun (w' : World) (h : w1.grownBy w' none) => checkWallet_ok x' y' z' A' X B w' (ha2.keep0 h) hok' hX)
  obtain ⟨sb, so, sc, hx, hs1⟩ := ha1.strs
  obtain ⟨sb', so', sc', hx', hs2⟩ := ha2.strs
  obtain ⟨rb, ro, rc, hy, _, _, _⟩ := ha1.r
  obtain ⟨ub, uo, uc, hz, _, _, _⟩ := ha1.u
  obtain ⟨rb', ro', rc', hy', _, _, _⟩ := ha2.r
  obtain ⟨ub', uo', uc', hz', _, _, _⟩ := ha2.u
  subst hx hy hz hx' hy' hz'
  obtain ⟨p0, p1, p2, _, _, _⟩ := blk_cells hP1
  obtain ⟨q0, q1, q2, _, _, _⟩ := blk_cells hQ1
  have hgd := gr_drew (gr_refl w1 none)
  have hlt0 : w.heap.size < w1.heap.size := by omega
  clear ha ha' hok hok' ha1 ha2 hP1 hQ1
  go_enter Tryd.func31, Tryd.ntmps31
  go_wp2_with (fail)
  rw [← hw1]
  clear hw1
  go_cut [5] from 6 to 11 (fun s wx => s = .int .i64 0 ∧ w1.grownBy wx none)
  case first =>
    go_region_held3 (fun w' => (w'.cell? ⟨w.heap.size, 0, none⟩ = some (.slice (some ⟨sb, so, none⟩) 3 sc) ∧ w'.cell? ⟨w.heap.size, 1, none⟩ = some (.slice (some ⟨rb, ro, none⟩) 3 rc) ∧ w'.cell? ⟨w.heap.size, 2, none⟩ = some (.slice (some ⟨ub, uo, none⟩) 3 uc)) ∧ w'.cell? ⟨w.heap.size + 1, 0, none⟩ = some (.slice (some ⟨sb', so', none⟩) 3 sc') ∧ w'.cell? ⟨w.heap.size + 1, 1, none⟩ = some (.slice (some ⟨rb', ro', none⟩) 3 rc') ∧ w'.cell? ⟨w.heap.size + 1, 2, none⟩ = some (.slice (some ⟨ub', uo', none⟩) 3 uc'))
      (first | exact ⟨⟨p0, p1, p2⟩, q0, q1, q2⟩ | exact ⟨⟨s0, s1, s2⟩, t0, t1, t2⟩ | exact ⟨⟨u0, u1, u2⟩, v0, v1, v2⟩ | exact ⟨⟨cellA u0 _, cellA u1 _, cellA u2 _⟩, cellA v0 _, cellA v1 _, cellA v2 _⟩)
      (first | (go_at_call 32; revert hg3; intro hg3; (first | (with_reducible refine (CW1.out w3 hg3).mono ?_) | (with_reducible refine (CW2.out w3 hg3).mono ?_)); rintro e w4 ⟨rfl, hg4'⟩; have hg4 := gr_trans hg3 hg4'; have u0 := (gr_cell hg4 (lt_of_cell p0)).trans p0; have u1 := (gr_cell hg4 (lt_of_cell p1)).trans p1; have u2 := (gr_cell hg4 (lt_of_cell p2)).trans p2; have v0 := (gr_cell hg4 (lt_of_cell q0)).trans q0; have v1 := (gr_cell hg4 (lt_of_cell q1)).trans q1; have v2 := (gr_cell hg4 (lt_of_cell q2)).trans q2)
             | (go_at_call 32; (first | (with_reducible refine (CW1.out w1.drew hgd).mono ?_) | (with_reducible refine (CW2.out w1.drew hgd).mono ?_)); rintro e w3 ⟨rfl, hg3'⟩; have hg3 := gr_trans hgd hg3'; have s0 := (gr_cell hg3 (lt_of_cell p0)).trans p0; have s1 := (gr_cell hg3 (lt_of_cell p1)).trans p1; have s2 := (gr_cell hg3 (lt_of_cell p2)).trans p2; have t0 := (gr_cell hg3 (lt_of_cell q0)).trans q0; have t1 := (gr_cell hg3 (lt_of_cell q1)).trans q1; have t2 := (gr_cell hg3 (lt_of_cell q2)).trans q2)
             | (go_at_call 49; (with_reducible refine (or_zeros w4.heap.size 2 _ ?_ ?_).mono ?_); (· exact made_cell (gr_refl _ _) 0 rfl); (· exact made_cell (gr_refl _ _) 1 rfl); rintro e w5 ⟨rfl, rfl⟩)
             | fail)
    all_goals (go_wp2_with (fail))
    all_goals (go_meet; exact ⟨rfl, gr_alloc hg4 _⟩)
  case rest =>
  obtain ⟨rfl, hgc⟩ := hcut
  have s0 := (gr_cell hgc (lt_of_cell p0)).trans p0
  have t0 := (gr_cell hgc (lt_of_cell q0)).trans q0
  have EQ := Lib.hid (equal_str siteBs (some ⟨sb, so, none⟩) (some ⟨sb', so', none⟩) sc sc' wc (hs1.keep0 hgc) (hs2.keep0 hgc) (by decide))
  rw [show siteBs.length = 3 from rfl] at EQ
  have hgrc := gr_trans hgR hgc
  clear p0 p1 p2 q0 q1 q2 hs1 hs2 hgd hgc CW1 CW2
  go_wp2_with (fail)
  refine EQ.out.mono ?_
  rintro e w6 ⟨rfl, hg6⟩
  go_wp2_with (fail)
  go_ret
  exact ⟨rfl, gr_trans hgrc hg6⟩
end Go.Proofs.YtakabckmiodjaaaDoor

/-! depot.Merge of right wallets of which each row is known by one of them. -/
namespace Go.Proofs.YtakabckmiodjaaaDoor
open Go.RowKit

/-- A copy of A in which numbers up to a place are the greater ones of A and A'. -/
structure MxTo (A A' : Wal) (iu i j : Nat) (C : Wal) : Prop where
  r : ∀ a b, a < 3 → b < 3 → C.r a b = if a < i ∨ (a = i ∧ b < j) then max (A.r a b) (A'.r a b) else A.r a b
  u : ∀ a, a < 3 → C.u a = if a < iu then max (A.u a) (A'.u a) else A.u a
theorem MxTo.start (A A' : Wal) : MxTo A A' 0 0 0 A := ⟨fun a b _ _ => by rw [if_neg (by omega)], fun a _ => by rw [if_neg (by omega)]⟩
theorem MxTo.stepU {A A' C : Wal} {i : Nat} (h : MxTo A A' i i 0 C) (hf : WForm C) (hi : i < 3) : C.u i = A.u i ∧ MxTo A A' (i + 1) i 0 (putU C i (max (A.u i) (A'.u i))) := by
  have h1 := h.u i hi
  rw [if_neg (by omega)] at h1
  refine ⟨h1, fun a b ha hb => by rw [putU_r]; exact h.r a b ha hb, fun a ha => ?_⟩
  rw [putU_u hf i _ hi]
  by_cases e : a = i
  · subst e; rw [if_pos rfl, if_pos (by omega)]
  · rw [if_neg e, h.u a ha]
    by_cases e2 : a < i
    · rw [if_pos e2, if_pos (by omega)]
    · rw [if_neg e2, if_neg (by omega)]
theorem MxTo.stepR {A A' C : Wal} {iu i j : Nat} (h : MxTo A A' iu i j C) (hf : WForm C) (hi : i < 3) (hj : j < 3) : C.r i j = A.r i j ∧ MxTo A A' iu i (j + 1) (putR C i j (max (A.r i j) (A'.r i j))) := by
  have h1 := h.r i j hi hj
  rw [if_neg (by omega)] at h1
  refine ⟨h1, fun a b ha hb => ?_, fun a ha => by rw [putR_u]; exact h.u a ha⟩
  rw [putR_r hf i j _ hi hj]
  by_cases e : a = i ∧ b = j
  · obtain ⟨rfl, rfl⟩ := e
    rw [if_pos ⟨rfl, rfl⟩, if_pos (by omega)]
  · rw [if_neg e, h.r a b ha hb]
    by_cases e2 : a < i ∨ (a = i ∧ b < j)
    · rw [if_pos e2, if_pos (by omega)]
    · rw [if_neg e2, if_neg (by omega)]
theorem MxTo.row {A A' C : Wal} {i : Nat} (h : MxTo A A' (i + 1) i 3 C) : MxTo A A' (i + 1) (i + 1) 0 C := by
  refine ⟨fun a b ha hb => ?_, h.u⟩
  rw [h.r a b ha hb]
  by_cases e : a < i ∨ (a = i ∧ b < 3)
  · rw [if_pos e, if_pos (by omega)]
  · rw [if_neg e, if_neg (by omega)]
theorem MxTo.last {A A' C : Wal} (h : MxTo A A' 3 3 0 C) : IsMax A A' C := by
  intro i hi
  refine ⟨fun j hj => ?_, ?_⟩
  · rw [h.r i j hi hj, if_pos (by omega)]
  · rw [h.u i hi, if_pos hi]
theorem wal_block_ne {w : World} {g7 g j t : Nat} {a1 a2 a3 : Option Addr} {n1 n2 n3 c1 c2 c3 : Nat} {v : Int} (h : w.heap[g7]? = some (.cells #[.slice a1 n1 c1, .slice a2 n2 c2, .slice a3 n3 c3] t (0, 0))) (hj : j < 3) (hc : w.cell? ⟨g, j, none⟩ = some (.int .i64 v)) : g ≠ g7 := by
  rintro rfl
  obtain ⟨k0, k1, k2, _, _, _⟩ := blk_cells h
  obtain rfl | rfl | rfl : j = 0 ∨ j = 1 ∨ j = 2 := by omega
  · rw [k0] at hc; cases hc
  · rw [k1] at hc; cases hc
  · rw [k2] at hc; cases hc
def MergePost (A A' : Wal) (w : World) (e : Ending) (w' : World) : Prop := ∃ x y z vs C, e = .returned (.tuple #[.agg #[x, y, z], .int .i64 0]) ∧ WalOwn w' w.heap.size x y z C vs ∧ IsMax A A' C ∧ w.grownBy w' none

set_option maxRecDepth 100000 in
set_option maxHeartbeats 8000000 in
theorem merge_any (x y z x' y' z' : Value) (A A' : Wal) (X : Int) (B : Nat → Prop) (w : World) (ha : WalAt w B x y z A) (ha' : WalAt w B x' y' z' A') (hok : WOk A X) (hok' : WOk A' X) (hX : X ≤ 1000000000) (hcmp : ∀ i, i < 3 → RowLe A A' i ∨ RowLe A' A i) :
    Calls Tryd.prog 8 #[.agg #[x, y, z], .agg #[x', y', z']] w (MergePost A A' w) := by
  obtain ⟨dt, hd1⟩ := und_parts (P := Tryd.prog) (t := 29) (by kernel_rfl)
  obtain ⟨w1, hw1⟩ : ∃ w1, w1 = ((w.alloc (.cells #[x, y, z] 29)).alloc (.cells #[x', y', z'] 29)).alloc (.cells #[.slice none 0 0, .slice none 0 0, .slice none 0 0] 29) := ⟨_, rfl⟩
  have hgR : w.grownBy w1 none := by rw [hw1]; exact gr_alloc (gr_alloc (gr_alloc (gr_refl w none) _) _) _
  have hlt1 : w.heap.size + 2 < w1.heap.size := by rw [hw1]; simp
  have hR1 : w1.heap[w.heap.size + 2]? = some (.cells #[.slice none 0 0, .slice none 0 0, .slice none 0 0] 29 (0, 0)) := by rw [hw1]; simpa using heap_alloc_new ((w.alloc (.cells #[x, y, z] 29)).alloc (.cells #[x', y', z'] 29)) _
  have hQ1 : w1.heap[w.heap.size + 1]? = some (.cells #[x', y', z'] 29 (0, 0)) := by rw [hw1, heap_alloc_old (h := by simp)]; simpa using heap_alloc_new (w.alloc (.cells #[x, y, z] 29)) _
  have hP1 : w1.heap[w.heap.size]? = some (.cells #[x, y, z] 29 (0, 0)) := by rw [hw1, heap_alloc_old (h := by simp; omega), heap_alloc_old (h := by simp)]; exact heap_alloc_new w _
  have ha1 := ha.keep0 hgR
  have ha2 := ha'.keep0 hgR
  have PF := Lib.hid (pairFault_ok x y z x' y' z' A A' X B w1 ha1 ha2 hok hok' hX)
  have HA1 := Lib.hid ha1
  have HA2 := Lib.hid ha2
  have HOK := Lib.hid hok
  have HOK2 := Lib.hid hok'
  have HCMP := Lib.hid hcmp
  obtain ⟨sb, so, sc, hx, _, _, _⟩ := ha1.s
  obtain ⟨rb, ro, rc, hy, _, _, _⟩ := ha1.r
  obtain ⟨ub, uo, uc, hz, _, _, _⟩ := ha1.u
  obtain ⟨sb', so', sc', hx', _, _, _⟩ := ha2.s
  obtain ⟨rb', ro', rc', hy', _, _, _⟩ := ha2.r
  obtain ⟨ub', uo', uc', hz', _, _, _⟩ := ha2.u
  subst hx hy hz hx' hy' hz'
  have HP1 := Lib.hid hP1
  have HQ1 := Lib.hid hQ1
  have HR1 := Lib.hid hR1
  obtain ⟨p0, p1, p2, _, _, _⟩ := blk_cells hP1
  obtain ⟨q0, q1, q2, _, _, _⟩ := blk_cells hQ1
  clear ha ha' hok hok' ha1 ha2 hP1 hQ1 hR1 hcmp
  go_enter Tryd.func8, Tryd.ntmps8
  go_wp2_with (fail)
  rw [← hw1]
  clear hw1
  have hlt0 : w.heap.size < w1.heap.size := by omega
  have hlt2 : w.heap.size + 1 < w1.heap.size := by omega
  go_wp2_with (fail)
  refine PF.out.mono ?_
  rintro e w2 ⟨rfl, hg2⟩
  have p0' := (gr_cell hg2 (lt_of_cell p0)).trans p0
  have p1' := (gr_cell hg2 (lt_of_cell p1)).trans p1
  have p2' := (gr_cell hg2 (lt_of_cell p2)).trans p2
  have hsz2 := hg2.size
  have HQ2 := Lib.hid ((hg2.block _ hlt2 (by simp)).trans HQ1.out)
  have HR2 := Lib.hid ((hg2.block _ hlt1 (by simp)).trans HR1.out)
  have OW := Lib.hid (owned_any _ _ _ A B w2 (HA1.out.keep0 hg2) HOK.out.form)
  have HB2 := Lib.hid (HA2.out.keep0 hg2)
  have hgr2 := gr_trans hgR hg2
  clear p0 p1 p2 q0 q1 q2 hg2 PF
  go_wp2_with (fail)
  refine OW.out.mono ?_
  rintro e w3 ⟨x3, y3, z3, vs, rfl, how, hg3⟩
  obtain ⟨gx, cx, hx, _, _, _, _⟩ := own_some how.s (by omega)
  obtain ⟨gy, cy, hy, _, _, _, _⟩ := own_some how.r.outer (by rw [how.f.lenT]; omega)
  obtain ⟨gz, cz, hz, _, _, _, _⟩ := own_some how.u (by omega)
  rw [how.f.lenT] at hy
  subst hx hy hz
  obtain ⟨w4, hw4⟩ : ∃ w4, w4 = w3.alloc (.cells #[.slice (some ⟨gx, 0, none⟩) 3 cx, .slice (some ⟨gy, 0, none⟩) 3 cy, .slice (some ⟨gz, 0, none⟩) 3 cz] 29) := ⟨_, rfl⟩
  have hg4 : w3.grownBy w4 none := by rw [hw4]; exact gr_alloc (gr_refl _ _) _
  have hB4 : w4.heap[w3.heap.size]? = some (.cells #[.slice (some ⟨gx, 0, none⟩) 3 cx, .slice (some ⟨gy, 0, none⟩) 3 cy, .slice (some ⟨gz, 0, none⟩) 3 cz] 29 (0, 0)) := by rw [hw4]; exact heap_alloc_new w3 _
  have how4 := how.keep0 hg4
  have hg24 := gr_trans hg3 hg4
  have hsz3 := hg3.size
  obtain ⟨b0, b1, b2, _, _, _⟩ := blk_cells hB4
  clear OW p0' p1' p2' how hg3 hg4
  go_wp2_with (fail)
  rw [← hw4]
  clear hw4
  obtain ⟨g7, hg7⟩ : ∃ g7, g7 = w3.heap.size := ⟨_, rfl⟩
  rw [← hg7] at hB4 b0 b1 b2 hsz3 ⊢
  clear hg7
  have HB4 := Lib.hid hB4
  clear hB4
  go_wp2_with (fail)
  go_loopw [22] (fun i wr => ∃ (k : Nat) (C : Wal), k ≤ 3 ∧ i = .int .i64 k ∧ WalOwn wr w2.heap.size (.slice (some ⟨gx, 0, none⟩) 3 cx) (.slice (some ⟨gy, 0, none⟩) 3 cy) (.slice (some ⟨gz, 0, none⟩) 3 cz) C vs ∧ MxTo A A' k k 0 C ∧ w2.grownBy wr none ∧
    wr.heap[g7]? = some (.cells #[.slice (some ⟨gx, 0, none⟩) 3 cx, .slice (some ⟨gy, 0, none⟩) 3 cy, .slice (some ⟨gz, 0, none⟩) 3 cz] 29 (0, 0))) (fun i _ => 3 - (intOf i).toNat)
  case atStart => exact ⟨0, A, by omega, rfl, how4, MxTo.start A A', hg24, HB4.out⟩
  case round =>
    obtain ⟨k, C, hk, rfl, how, hmx, hgr, hb7⟩ := hrel
    obtain ⟨wo, rfl⟩ : ∃ wo : World, wo = wr := ⟨_, rfl⟩
    have HMX := Lib.hid hmx
    have HOW := Lib.hid how
    have HB7 := Lib.hid hb7
    obtain ⟨b0, b1, b2, _, _, _⟩ := blk_cells hb7
    have hQ := (hgr.block (w.heap.size + 1) (by omega) (by simp)).trans HQ2.out
    obtain ⟨q0, q1, q2, _, _, _⟩ := blk_cells hQ
    have HBW := Lib.hid (HB2.out.keep0 hgr)
    clear hmx how hb7 hQ
    by_cases hlt : k < 3
    · obtain ⟨hcu, hmu⟩ := HMX.out.stepU HOW.out.f hlt
      obtain ⟨_, _, he, d0, d1, hgb, hset⟩ := HOW.out.setU k hlt
      cases he
      obtain ⟨_, _, _, he, _, _, hu'⟩ := HBW.out.u
      cases he
      have e0 := hu' k hlt
      have hne7 := wal_block_ne HB7.out hlt d0
      rw [hcu] at d0
      obtain ⟨a0, ha0⟩ : ∃ a0, a0 = A.u k := ⟨_, rfl⟩
      obtain ⟨a1, ha1⟩ : ∃ a1, a1 = A'.u k := ⟨_, rfl⟩
      rw [← ha0] at d0 hmu
      rw [← ha1] at e0 hmu
      have HMU := Lib.hid hmu
      have HSET := Lib.hid hset
      have hki : (0 : Int) ≤ (k : Int) := by omega
      have hk3 : (k : Int) < 3 := by omega
      clear hcu hmu hset hu' ha0 ha1
      have hmid : ∀ v : Int, WalOwn (wo.setCell ⟨gz, k, none⟩ (.int .i64 v)).drew w2.heap.size (.slice (some ⟨gx, 0, none⟩) 3 cx) (.slice (some ⟨gy, 0, none⟩) 3 cy) (.slice (some ⟨gz, 0, none⟩) 3 cz) (putU C k v) vs ∧ w2.grownBy (wo.setCell ⟨gz, k, none⟩ (.int .i64 v)).drew none ∧
          (wo.setCell ⟨gz, k, none⟩ (.int .i64 v)).drew.heap[g7]? = some (.cells #[.slice (some ⟨gx, 0, none⟩) 3 cx, .slice (some ⟨gy, 0, none⟩) 3 cy, .slice (some ⟨gz, 0, none⟩) 3 cz] 29 (0, 0)) := fun v =>
        ⟨(HSET.out v).keep0 (gr_drew (gr_refl _ none)), gr_drew (gr_new hgr hgb _), ((gr_set (q := ⟨gz, k, none⟩) (gr_refl wo (some gz)) rfl (.int .i64 v)).block g7 (lt_of_block HB7.out) (by simp; exact fun e => hne7 e.symm)).trans HB7.out⟩
      have HMID := Lib.hid hmid
      clear hmid
      go_wp2_with (fail)
      go_cut [] from 25 to 39 (fun wx => wx = (wo.setCell ⟨gz, k, none⟩ (.int .i64 (max a0 a1))).drew)
      case first =>
        go_region
        all_goals (go_wp2_with (fail))
        all_goals (go_meet; first | rfl | (rw [show max a0 a1 = a0 by omega]) | (rw [show max a0 a1 = a1 by omega]))
      case rest =>
      obtain ⟨how5, hgr5, hb75⟩ := HMID.out (max a0 a1)
      rw [← hcut] at how5 hgr5 hb75
      obtain ⟨b0, b1, b2, _, _, _⟩ := blk_cells hb75
      clear hcut d0 d1 e0 q0 q1 q2 hgr HMID HSET HB7 HOW HMX HBW hgb hne7
      have hszc := hgr5.size
      go_wp2_with (fail)
      go_loopw [43] (fun j wr => ∃ (m : Nat) (C : Wal), m ≤ 3 ∧ j = .int .i64 m ∧ WalOwn wr w2.heap.size (.slice (some ⟨gx, 0, none⟩) 3 cx) (.slice (some ⟨gy, 0, none⟩) 3 cy) (.slice (some ⟨gz, 0, none⟩) 3 cz) C vs ∧ MxTo A A' (k + 1) k m C ∧ w2.grownBy wr none ∧
        wr.heap[g7]? = some (.cells #[.slice (some ⟨gx, 0, none⟩) 3 cx, .slice (some ⟨gy, 0, none⟩) 3 cy, .slice (some ⟨gz, 0, none⟩) 3 cz] 29 (0, 0))) (fun j _ => 3 - (intOf j).toNat)
      case atStart => exact ⟨0, _, by omega, rfl, how5, HMU.out, hgr5, hb75⟩
      case round =>
        obtain ⟨m, C2, hm, rfl, how, hmx, hgr, hb7⟩ := hrel
        obtain ⟨wi, rfl⟩ : ∃ wi : World, wi = wr := ⟨_, rfl⟩
        have HMX := Lib.hid hmx
        have HOW := Lib.hid how
        have HB7 := Lib.hid hb7
        by_cases hltm : m < 3
        · obtain ⟨b0, b1, b2, _, _, _⟩ := blk_cells hb7
          have hQ := (hgr.block (w.heap.size + 1) (by omega) (by simp)).trans HQ2.out
          obtain ⟨q0, q1, q2, _, _, _⟩ := blk_cells hQ
          have HBW := Lib.hid (HB2.out.keep0 hgr)
          clear hmx how hb7 hQ
          obtain ⟨hcr, hmr⟩ := HMX.out.stepR HOW.out.f hlt hltm
          obtain ⟨_, _, g, c, he, r0, d0, d1, hgb, hgne, hset⟩ := HOW.out.setR k m hlt hltm
          cases he
          obtain ⟨_, _, _, he, _, _, hr'⟩ := HBW.out.r
          cases he
          obtain ⟨b4, o4, c4, r0', _, _, hr''⟩ := hr' k hlt
          have e0 := hr'' m hltm
          have hne7 := wal_block_ne HB7.out hltm d0
          rw [hcr] at d0
          obtain ⟨a2, ha2⟩ : ∃ a2, a2 = A.r k m := ⟨_, rfl⟩
          obtain ⟨a3, ha3⟩ : ∃ a3, a3 = A'.r k m := ⟨_, rfl⟩
          rw [← ha2] at d0 hmr
          rw [← ha3] at e0 hmr
          have HMR := Lib.hid hmr
          have HSET := Lib.hid hset
          have hmi : (0 : Int) ≤ (m : Int) := by omega
          have hm3 : (m : Int) < 3 := by omega
          clear hcr hmr hset hr' hr'' ha2 ha3
          have hmid : ∀ v : Int, WalOwn (wi.setCell ⟨g, m, none⟩ (.int .i64 v)).drew w2.heap.size (.slice (some ⟨gx, 0, none⟩) 3 cx) (.slice (some ⟨gy, 0, none⟩) 3 cy) (.slice (some ⟨gz, 0, none⟩) 3 cz) (putR C2 k m v) vs ∧ w2.grownBy (wi.setCell ⟨g, m, none⟩ (.int .i64 v)).drew none ∧
              (wi.setCell ⟨g, m, none⟩ (.int .i64 v)).drew.heap[g7]? = some (.cells #[.slice (some ⟨gx, 0, none⟩) 3 cx, .slice (some ⟨gy, 0, none⟩) 3 cy, .slice (some ⟨gz, 0, none⟩) 3 cz] 29 (0, 0)) := fun v =>
            ⟨(HSET.out v).keep0 (gr_drew (gr_refl _ none)), gr_drew (gr_new hgr hgb _), ((gr_set (q := ⟨g, m, none⟩) (gr_refl wi (some g)) rfl (.int .i64 v)).block g7 (lt_of_block HB7.out) (by simp; exact fun e => hne7 e.symm)).trans HB7.out⟩
          have HMID := Lib.hid hmid
          clear hmid
          go_wp2_with (fail)
          go_region
          all_goals (go_wp2_with (fail))
          all_goals go_roundw
          all_goals first | (simp [intOf]; omega) | skip
          all_goals (
            obtain ⟨h1, h2, h3⟩ := HMID.out (max a2 a3)
            refine ⟨m + 1, _, by omega, by go_num, ?_, HMR.out, ?_, ?_⟩
            all_goals (rw [show (if a2 < a3 then a3 else a2) = max a2 a3 by split <;> omega]; first | exact h1 | exact h2 | exact h3))
        · have hm3 : m = 3 := by omega
          have hfin := HMX.out
          rw [hm3] at hfin
          have HFIN := Lib.hid hfin.row
          clear hfin hm3 hmx how hb7
          go_wp2_with (fail)
          go_roundw
          case rel => exact ⟨k + 1, C2, by omega, by go_num, HOW.out, HFIN.out, hgr, HB7.out⟩
          case measure => simp [intOf]; omega
    · have hk3 : k = 3 := by omega
      have hfin := HMX.out
      rw [hk3] at hfin
      have HFIN := Lib.hid hfin.last
      clear hfin hk3
      have hokC := merge_ok HOK.out HOK2.out HCMP.out HFIN.out HOW.out.f
      have hat := HOW.out.at
      have CW := Lib.hid (fun (w' : World) (h : wo.grownBy w' none) => checkWallet_ok _ _ _ C X _ w' (hat.keep0 h) hokC hX)
      have hR := (hgr.block (w.heap.size + 2) (by omega) (by simp)).trans HR2.out
      have HR := Lib.hid hR
      have hgd := gr_drew (gr_refl wo none)
      have hgrw := gr_trans hgr2 hgr
      have hsw : w.heap.size + 2 < w2.heap.size := by omega
      have hg7l := lt_of_block HB7.out
      have hne7 : w.heap.size + 2 < g7 := by omega
      clear hokC hat hR hgr HMX HBW q0 q1 q2
      go_wp2_with (fail)
      go_region_held3 (fun w' => w'.cell? ⟨g7, 0, none⟩ = some (.slice (some ⟨gx, 0, none⟩) 3 cx) ∧ w'.cell? ⟨g7, 1, none⟩ = some (.slice (some ⟨gy, 0, none⟩) 3 cy) ∧ w'.cell? ⟨g7, 2, none⟩ = some (.slice (some ⟨gz, 0, none⟩) 3 cz))
        (first | exact ⟨b0, b1, b2⟩ | exact ⟨u0, u1, u2⟩ | exact ⟨v0, v1, v2⟩ | exact ⟨cell_set3' v0 (by omega) _ _ _, cell_set3' v1 (by omega) _ _ _, cell_set3' v2 (by omega) _ _ _⟩)
        (first | (go_at_call 32; (with_reducible refine (CW.out wo.drew hgd).mono ?_); rintro e w5 ⟨rfl, hg5'⟩; have hg5 := gr_trans hgd hg5'; have u0 := (gr_cell hg5 (lt_of_cell b0)).trans b0; have u1 := (gr_cell hg5 (lt_of_cell b1)).trans b1; have u2 := (gr_cell hg5 (lt_of_cell b2)).trans b2)
               | (go_at_call 29; (with_reducible refine (done_ok _ _ _ _ _ _ _ _ _ _).mono ?_); rintro e w6 ⟨rfl, hg6'⟩; have hg6 := gr_trans hg5 hg6'; have v0 := (gr_cell hg6 (lt_of_cell b0)).trans b0; have v1 := (gr_cell hg6 (lt_of_cell b1)).trans b1; have v2 := (gr_cell hg6 (lt_of_cell b2)).trans b2; have hR6 := (hg6.block (w.heap.size + 2) (lt_of_block HR.out) (by simp)).trans HR.out; obtain ⟨k0, k1, k2, f0, f1, f2⟩ := blk_cells hR6)
               | fail)
      go_wp2_with (fail)
      refine bodyPost_ret (results_cell_slot (p := 4) (q := 5) (by kernel_rfl) _ _ (w.heap.size + 2) _ #[.slice (some ⟨gx, 0, none⟩) 3 cx, .slice (some ⟨gy, 0, none⟩) 3 cy, .slice (some ⟨gz, 0, none⟩) 3 cz] _ (.struct dt) _ rfl rfl (set3_heap hR6 _ _ _) hd1 rfl (by kernel_rfl)) rfl ⟨_, _, _, vs, C, rfl, ?_, HFIN.out, ?_⟩
      · exact ((HOW.out.keep0 hg6).keepS (set3_gr w6 (w.heap.size + 2) _ _ _) (by omega)).low (by omega)
      · exact gr_grown (gr_trans hgrw hg6) (set3_gr w6 (w.heap.size + 2) _ _ _) (fun q hq => by cases hq; omega)
end Go.Proofs.YtakabckmiodjaaaDoor
