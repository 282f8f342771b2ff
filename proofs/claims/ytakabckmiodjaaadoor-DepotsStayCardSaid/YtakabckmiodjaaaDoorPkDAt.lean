/- The reference's spending of right wallets. -/
import Derived.Test.YtakabckmiodjaaaDoorPkDAr
import Derived.Test.YtakabckmiodjaaaDoorPkDAk
import Derived.Test.YtakabckmiodjaaaDoorPkDAs
import Derived.Test.YtakabckmiodjaaaDoorPkDAq
import Derived.Deep.CutRange
namespace Go.Proofs.YtakabckmiodjaaaDoor
open Go.RowKit

set_option maxRecDepth 100000 in
set_option maxHeartbeats 2000000 in
theorem spentRef_any (x y z : Value) (A : Wal) (X : Int) (B : Nat → Prop) (i : Nat) (cents : Int) (w : World) (ha : WalAt w B x y z A) (hok : WOk A X) (hX : X + cents ≤ 1000000000) (hi : i < 3) (hc1 : 1 ≤ cents) :
    Calls Tryd.prog 23 #[.agg #[x, y, z], siteV i, .int .i64 cents] w (OpPost (cents ≤ rightsTo A i 3) (putU A i (A.u i + cents)) w) := by
  obtain ⟨dt, hd1⟩ := und_parts (P := Tryd.prog) (t := 29) (by kernel_rfl)
  have hX0 : 0 ≤ X := by have := hok.r0 0 0 (by omega) (by omega); omega
  obtain ⟨w1, hw1⟩ : ∃ w1, w1 = (w.alloc (.cells #[x, y, z] 29)).alloc (.cells #[.slice none 0 0, .slice none 0 0, .slice none 0 0] 29) := ⟨_, rfl⟩
  have hgR : w.grownBy w1 none := by rw [hw1]; exact gr_alloc (gr_alloc (gr_refl w none) _) _
  have hlt1 : w.heap.size + 1 < w1.heap.size := by rw [hw1]; simp
  have hR1 : w1.heap[w.heap.size + 1]? = some (.cells #[.slice none 0 0, .slice none 0 0, .slice none 0 0] 29 (0, 0)) := by rw [hw1]; simpa using heap_alloc_new (w.alloc (.cells #[x, y, z] 29)) _
  have hP1 : w1.heap[w.heap.size]? = some (.cells #[x, y, z] 29 (0, 0)) := by rw [hw1, heap_alloc_old (h := by simp)]; exact heap_alloc_new w _
  have ha1 := ha.keep0 hgR
  have hui := hok.u0 i hi
  have HA := Lib.hid ha1
  have HF := Lib.hid hok.form
  have RT := Lib.hid (rightsRef_any x y z A B i w1 ha1 hi (fun i j hi hj => by have := hok.r0 i j hi hj; omega) (fun i hi => by have := hok.u0 i hi; omega))
  obtain ⟨sb, so, sc, rfl, _, _, hs⟩ := ha1.s
  obtain ⟨rb, ro, rc, rfl, hrc, _, _⟩ := ha1.r
  obtain ⟨ub, uo, uc, rfl, huc, hu⟩ := ha1.used hok.form
  have IX := Lib.hid (index_site sb so sc i w1 hs hi)
  have du : w1.cell? ⟨ub, uo + i, none⟩ = some (.int .i64 (A.u i)) := by
    obtain ⟨b, o, e, hcell⟩ := hu i _ (ints_get A.U i (by rw [hok.form.lenU]; exact hi))
    cases e
    exact hcell
  obtain ⟨st, hst⟩ := siteV_str i
  rw [hst] at IX
  rw [hst]
  have HR1 := Lib.hid hR1
  obtain ⟨p0, p1, p2, _, _, _⟩ := blk_cells hP1
  obtain ⟨r, hr⟩ : ∃ r, r = rightsTo A i 3 := ⟨_, rfl⟩
  rw [← hr] at RT
  rw [← hr]
  obtain ⟨u, hu1⟩ : ∃ u, u = A.u i := ⟨_, rfl⟩
  rw [← hu1] at du hui
  have HU := Lib.hid hu1
  have hi0 : (0 : Int) ≤ (i : Int) := by omega
  have hi3 : (i : Int) < 3 := by omega
  have hc9 : cents ≤ 1000000000 := by omega
  clear ha hok ha1 hs hu hst hR1 hP1 hr hu1
  go_enter Tryd.func23, Tryd.ntmps23
  go_wp2_with (fail)
  rw [← hw1]
  clear hw1
  refine IX.out.mono ?_
  rintro e w' ⟨rfl, rfl⟩
  go_wp2_with (fail)
  refine RT.out.mono ?_
  rintro e w2 ⟨rfl, hg2⟩
  have q0 := (gr_cell hg2 (lt_of_cell p0)).trans p0
  have q1 := (gr_cell hg2 (lt_of_cell p1)).trans p1
  have q2 := (gr_cell hg2 (lt_of_cell p2)).trans p2
  have eu := (gr_cell hg2 (lt_of_cell du)).trans du
  have HR2 := Lib.hid ((hg2.block (w.heap.size + 1) hlt1 (by simp)).trans HR1.out)
  have HA2 := Lib.hid (HA.out.keep0 hg2)
  have G2 := Lib.hid (gr_trans hgR hg2)
  have hsz2 := hg2.size
  clear RT IX p0 p1 p2 du hg2 HR1 HA hgR
  by_cases hcan : cents ≤ r
  · have hlt : decide (r < cents) = false := decide_eq_false (by omega)
    go_wp2_with (fail)
    refine (walletCopy_any _ _ _ A B w2 HA2.out HF.out).mono ?_
    rintro e w3 ⟨x3, y3, z3, vs, rfl, how, hg3⟩
    obtain ⟨g, c, hz, d0, d1, hgb, hset⟩ := how.setU i hi
    obtain ⟨gx, cx, hx, _, _, _, _⟩ := own_some how.s (by omega)
    have hout := how.r.outer
    rw [how.f.lenT] at hout
    obtain ⟨gy, cy, hy, _, _, _, _⟩ := own_some hout (by omega)
    subst hx hy hz
    rw [← HU.out] at d0
    have HR3 := Lib.hid ((hg3.block (w.heap.size + 1) (by omega) (by simp)).trans HR2.out)
    have G3 := Lib.hid (gr_trans G2.out hg3)
    have HOW := Lib.hid how
    have hgl := lt_of_cell d0
    have hga := gr_alloc (gr_refl w3 none) (.cells #[.slice (some ⟨gx, 0, none⟩) 3 cx, .slice (some ⟨gy, 0, none⟩) 3 cy, .slice (some ⟨g, 0, none⟩) 3 c] 29)
    have hO := heap_alloc_new w3 (.cells #[.slice (some ⟨gx, 0, none⟩) 3 cx, .slice (some ⟨gy, 0, none⟩) 3 cy, .slice (some ⟨g, 0, none⟩) 3 c] 29)
    have hsz3 := hg3.size
    clear how hout hset q0 q1 q2 eu hg3 HA2 HR2
    go_upto_region 11 with (fail)
    obtain ⟨w4, hw4⟩ : ∃ w4, w4 = w3.alloc (.cells #[.slice (some ⟨gx, 0, none⟩) 3 cx, .slice (some ⟨gy, 0, none⟩) 3 cy, .slice (some ⟨g, 0, none⟩) 3 c] 29) := ⟨_, rfl⟩
    rw [← hw4] at hga hO
    rw [← hw4]
    obtain ⟨O, hOe⟩ : ∃ O, O = w3.heap.size := ⟨_, rfl⟩
    rw [← hOe] at hO
    rw [← hOe]
    have hgO : g < O := by omega
    have hOw : w.heap.size + 1 < O := by omega
    have HOW4 := Lib.hid (HOW.out.keep0 hga)
    have G4 := Lib.hid (gr_trans G3.out hga)
    have HR4 := Lib.hid ((hga.block (w.heap.size + 1) (by omega) (by simp)).trans HR3.out)
    have e0 := (gr_cell hga hgl).trans d0
    have e1 := (gr_free hga hgl (o := i)).trans d1
    obtain ⟨k0, k1, k2, _, _, _⟩ := blk_cells hO
    obtain ⟨g', c', hz', _, _, _, hset4⟩ := HOW4.out.setU i hi
    cases hz'
    have how5 := hset4 (u + cents)
    have hg5 : w4.grownBy (w4.setCell ⟨g, i, none⟩ (.int .i64 (u + cents))) (some g) := gr_set (q := ⟨g, i, none⟩) (gr_refl w4 (some g)) rfl _
    have j0 := (gr_cellS hg5 (lt_of_cell k0) (by omega)).trans k0
    have j1 := (gr_cellS hg5 (lt_of_cell k1) (by omega)).trans k1
    have j2 := (gr_cellS hg5 (lt_of_cell k2) (by omega)).trans k2
    have HR5 := Lib.hid ((hg5.block (w.heap.size + 1) (lt_of_block HR4.out) (by simp; omega)).trans HR4.out)
    have HOW5 := Lib.hid how5
    have G5 := Lib.hid (gr_grown G4.out hg5 (fun q hq => by cases hq; omega))
    clear hw4 hOe hga hO d0 d1 hset4 how5 hg5 HOW HOW4 HR3 HR4 G3 G4 G2
    go_upto_region 12 with (fail)
    obtain ⟨w5, hw5⟩ : ∃ w5, w5 = w4.setCell ⟨g, i, none⟩ (.int .i64 (u + cents)) := ⟨_, rfl⟩
    rw [← hw5] at j0 j1 j2 HR5 HOW5 G5
    rw [← hw5]
    clear hw5 e0 e1 k0 k1 k2
    obtain ⟨l0, l1, l2, f0, f1, f2⟩ := blk_cells HR5.out
    go_wp2_with (fail)
    refine bodyPost_ret (results_cell_slot (p := 6) (q := 7) (by kernel_rfl) _ _ (w.heap.size + 1) _ #[.slice (some ⟨gx, 0, none⟩) 3 cx, .slice (some ⟨gy, 0, none⟩) 3 cy, .slice (some ⟨g, 0, none⟩) 3 c] _ (.struct dt) _ rfl rfl (set3_heap HR5.out _ _ _) hd1 rfl (by kernel_rfl)) rfl ?_
    refine .inl ⟨hcan, _, _, _, vs, rfl, ?_, gr_grown G5.out (set3_gr w5 (w.heap.size + 1) _ _ _) (fun q hq => by cases hq; omega)⟩
    rw [← HU.out]
    exact (HOW5.out.keepS (set3_gr w5 (w.heap.size + 1) _ _ _) (by omega)).low (by omega)
  · have hlt : decide (r < cents) = true := decide_eq_true (by omega)
    obtain ⟨l0, l1, l2, f0, f1, f2⟩ := blk_cells HR2.out
    go_wp2_with (fail)
    refine bodyPost_ret (results_cell_slot (p := 6) (q := 7) (by kernel_rfl) _ _ (w.heap.size + 1) _ #[.slice none 0 0, .slice none 0 0, .slice none 0 0] _ (.struct dt) _ rfl rfl (set3_heap HR2.out _ _ _) hd1 rfl (by kernel_rfl)) rfl ?_
    exact .inr ⟨by omega, rfl, gr_grown G2.out (set3_gr w2 (w.heap.size + 1) _ _ _) (fun q hq => by cases hq; omega)⟩
end Go.Proofs.YtakabckmiodjaaaDoor

/-! The reference's paying in and giving, of right wallets. -/
namespace Go.Proofs.YtakabckmiodjaaaDoor
open Go.RowKit

def GivePost (can : Prop) (A' : Wal) (w : World) (e : Ending) (w' : World) : Prop :=
  (can ∧ WalPost A' w e w') ∨ (¬ can ∧ (∃ r : Int, r ≠ 0 ∧ e = .returned (.tuple #[.agg #[.slice none 0 0, .slice none 0 0, .slice none 0 0], .int .i64 r])) ∧ w.grownBy w' none)
set_option maxRecDepth 100000 in
set_option maxHeartbeats 3000000 in
theorem givenRef_any (x y z : Value) (A : Wal) (X : Int) (B : Nat → Prop) (i j : Nat) (cents : Int) (cr : Bool) (w : World) (ha : WalAt w B x y z A) (hok : WOk A X) (hX : X + cents ≤ 1000000000) (hi : i < 3) (hj : j < 3) (hc1 : 1 ≤ cents) :
    Calls Tryd.prog 22 #[.agg #[x, y, z], siteV i, siteV j, .int .i64 cents, .bool cr] w (GivePost (cr = true ∨ (i ≠ j ∧ cents ≤ rightsTo A i 3)) (putR A i j (A.r i j + cents)) w) := by
  obtain ⟨dt, hd1⟩ := und_parts (P := Tryd.prog) (t := 29) (by kernel_rfl)
  have hX0 : 0 ≤ X := by have := hok.r0 0 0 (by omega) (by omega); omega
  obtain ⟨w1, hw1⟩ : ∃ w1, w1 = (w.alloc (.cells #[x, y, z] 29)).alloc (.cells #[.slice none 0 0, .slice none 0 0, .slice none 0 0] 29) := ⟨_, rfl⟩
  have hgR : w.grownBy w1 none := by rw [hw1]; exact gr_alloc (gr_alloc (gr_refl w none) _) _
  have hlt1 : w.heap.size + 1 < w1.heap.size := by rw [hw1]; simp
  have hR1 : w1.heap[w.heap.size + 1]? = some (.cells #[.slice none 0 0, .slice none 0 0, .slice none 0 0] 29 (0, 0)) := by rw [hw1]; simpa using heap_alloc_new (w.alloc (.cells #[x, y, z] 29)) _
  have hP1 : w1.heap[w.heap.size]? = some (.cells #[x, y, z] 29 (0, 0)) := by rw [hw1, heap_alloc_old (h := by simp)]; exact heap_alloc_new w _
  have ha1 := ha.keep0 hgR
  have hri := hok.r0 i j hi hj
  have HA := Lib.hid ha1
  have HF := Lib.hid hok.form
  have RT := Lib.hid (fun (W : World) (g : w1.grownBy W none) => rightsRef_any x y z A B i W (ha1.keep0 g) hi (fun i j hi hj => by have := hok.r0 i j hi hj; omega) (fun i hi => by have := hok.u0 i hi; omega))
  obtain ⟨sb, so, sc, rfl, _, _, hs⟩ := ha1.s
  obtain ⟨rb, ro, rc, rfl, hrc, _, hrr⟩ := ha1.r
  obtain ⟨ub, uo, uc, rfl, huc, hu⟩ := ha1.used hok.form
  obtain ⟨b2, o2, c2, h3, _, _, h4⟩ := hrr i hi
  have h5 := h4 j hj
  have HS := Lib.hid hs
  have IXI : Hid (∀ m, Calls Tryd.prog 60 #[.slice (some ⟨sb, so, none⟩) 3 sc, siteV i] (w1.drewN m) fun e w' => e = .returned (.int .i64 i) ∧ w' = w1.drewN m) := fun m => (index_site sb so sc i (w1.drewN m) (fun k hk => (gr_cell (gr_drewN (gr_refl _ _) _) (lt_of_cell (HS.out k hk))).trans (HS.out k hk)) hi).mono (fun e w' h => ⟨h.1, h.2.symm⟩)
  have IXJ : Hid (∀ m, Calls Tryd.prog 60 #[.slice (some ⟨sb, so, none⟩) 3 sc, siteV j] (w1.drewN m) fun e w' => e = .returned (.int .i64 j) ∧ w' = w1.drewN m) := fun m => (index_site sb so sc j (w1.drewN m) (fun k hk => (gr_cell (gr_drewN (gr_refl _ _) _) (lt_of_cell (HS.out k hk))).trans (HS.out k hk)) hj).mono (fun e w' h => ⟨h.1, h.2.symm⟩)
  obtain ⟨st, hst⟩ := siteV_str i
  obtain ⟨st2, hst2⟩ := siteV_str j
  rw [hst] at IXI
  rw [hst2] at IXJ
  rw [hst, hst2]
  have HR1 := Lib.hid hR1
  obtain ⟨p0, p1, p2, _, _, _⟩ := blk_cells hP1
  obtain ⟨r, hr⟩ : ∃ r, r = rightsTo A i 3 := ⟨_, rfl⟩
  rw [← hr] at RT
  rw [← hr]
  obtain ⟨u, hu1⟩ : ∃ u, u = A.r i j := ⟨_, rfl⟩
  rw [← hu1] at h5 hri
  have HU := Lib.hid hu1
  have hi0 : (0 : Int) ≤ (i : Int) := by omega
  have hi3 : (i : Int) < 3 := by omega
  have hj0 : (0 : Int) ≤ (j : Int) := by omega
  have hj3 : (j : Int) < 3 := by omega
  have hc9 : cents ≤ 1000000000 := by omega
  clear ha hok ha1 hs hu hst hst2 hR1 hP1 hr hu1 hrr h4
  go_enter Tryd.func22, Tryd.ntmps22
  go_wp2_with (fail)
  rw [← hw1]
  clear hw1
  go_quiet (first | (go_at_call 60; first | (with_reducible exact Calls.quiet_of_same (IXI.out _)) | (with_reducible exact Calls.quiet_of_same (IXJ.out _)) | fail))
  obtain ⟨v1, hv1⟩ : ∃ v1, v1 = w1.drewN nq := ⟨_, rfl⟩
  have hg2 : w1.grownBy v1 none := by rw [hv1]; exact gr_drewN (gr_refl _ _) _
  rw [← hv1]
  clear hv1
  have q0 := (gr_cell hg2 (lt_of_cell p0)).trans p0
  have q1 := (gr_cell hg2 (lt_of_cell p1)).trans p1
  have q2 := (gr_cell hg2 (lt_of_cell p2)).trans p2
  have e3 := (gr_cell hg2 (lt_of_cell h3)).trans h3
  have e5 := (gr_cell hg2 (lt_of_cell h5)).trans h5
  have HRv := Lib.hid ((hg2.block (w.heap.size + 1) hlt1 (by simp)).trans HR1.out)
  have HAv := Lib.hid (HA.out.keep0 hg2)
  have Gv := Lib.hid (gr_trans hgR hg2)
  have hszv := hg2.size
  have RTv := Lib.hid (RT.out v1 hg2)
  clear p0 p1 p2 h3 h5 hg2 HR1 HA hgR RT IXI IXJ HS
  cases cr with
  | true =>
    clear RTv
    go_wp2_with (fail)
    refine (walletCopy_any _ _ _ A B v1 HAv.out HF.out).mono ?_
    rintro e w3 ⟨x3, y3, z3, vs, rfl, how, hg3⟩
    obtain ⟨g0, c0, g, c, hy, r0, d0, d1, hgb, hgne, hset⟩ := how.setR i j hi hj
    obtain ⟨gx, cx, hx, _, _, _, _⟩ := own_some how.s (by omega)
    obtain ⟨gz, cz, hz, _, _, _, _⟩ := own_some how.u (by omega)
    subst hx hy hz
    rw [← HU.out] at d0
    have HR3 := Lib.hid ((hg3.block (w.heap.size + 1) (by omega) (by simp)).trans HRv.out)
    have G3 := Lib.hid (gr_trans Gv.out hg3)
    have HOW := Lib.hid how
    have hgl := lt_of_cell d0
    have hgl0 := lt_of_cell r0
    have hga := gr_alloc (gr_refl w3 none) (.cells #[.slice (some ⟨gx, 0, none⟩) 3 cx, .slice (some ⟨g0, 0, none⟩) 3 c0, .slice (some ⟨gz, 0, none⟩) 3 cz] 29)
    have hO := heap_alloc_new w3 (.cells #[.slice (some ⟨gx, 0, none⟩) 3 cx, .slice (some ⟨g0, 0, none⟩) 3 c0, .slice (some ⟨gz, 0, none⟩) 3 cz] 29)
    have hsz3 := hg3.size
    clear how hset q0 q1 q2 e3 e5 hg3 HAv HRv
    go_upto_region 13 with (fail)
    obtain ⟨w4, hw4⟩ : ∃ w4, w4 = w3.alloc (.cells #[.slice (some ⟨gx, 0, none⟩) 3 cx, .slice (some ⟨g0, 0, none⟩) 3 c0, .slice (some ⟨gz, 0, none⟩) 3 cz] 29) := ⟨_, rfl⟩
    rw [← hw4] at hga hO
    rw [← hw4]
    obtain ⟨O, hOe⟩ : ∃ O, O = w3.heap.size := ⟨_, rfl⟩
    rw [← hOe] at hO
    rw [← hOe]
    have hgO : g < O := by omega
    have hOw : w.heap.size + 1 < O := by omega
    have HOW4 := Lib.hid (HOW.out.keep0 hga)
    have G4 := Lib.hid (gr_trans G3.out hga)
    have HR4 := Lib.hid ((hga.block (w.heap.size + 1) (by omega) (by simp)).trans HR3.out)
    have y0 := (gr_cell hga hgl0).trans r0
    have y1 := (gr_cell hga hgl).trans d0
    have y2 := (gr_free hga hgl (o := j)).trans d1
    obtain ⟨k0, k1, k2, _, _, _⟩ := blk_cells hO
    obtain ⟨g0', c0', g', c', hy', r0', _, _, _, _, hset4⟩ := HOW4.out.setR i j hi hj
    cases hy'
    rw [y0] at r0'
    cases r0'
    have how5 := hset4 (u + cents)
    have hg5 : w4.grownBy (w4.setCell ⟨g, j, none⟩ (.int .i64 (u + cents))) (some g) := gr_set (q := ⟨g, j, none⟩) (gr_refl w4 (some g)) rfl _
    have j0 := (gr_cellS hg5 (lt_of_cell k0) (by omega)).trans k0
    have j1 := (gr_cellS hg5 (lt_of_cell k1) (by omega)).trans k1
    have j2 := (gr_cellS hg5 (lt_of_cell k2) (by omega)).trans k2
    have HR5 := Lib.hid ((hg5.block (w.heap.size + 1) (lt_of_block HR4.out) (by simp; omega)).trans HR4.out)
    have HOW5 := Lib.hid how5
    have G5 := Lib.hid (gr_grown G4.out hg5 (fun q hq => by cases hq; omega))
    clear hw4 hOe hga hO d0 d1 r0 hset4 how5 hg5 HOW HOW4 HR3 HR4 G3 G4 Gv
    go_upto_region 14 with (fail)
    obtain ⟨w5, hw5⟩ : ∃ w5, w5 = w4.setCell ⟨g, j, none⟩ (.int .i64 (u + cents)) := ⟨_, rfl⟩
    rw [← hw5] at j0 j1 j2 HR5 HOW5 G5
    rw [← hw5]
    clear hw5 y0 y1 y2 k0 k1 k2
    obtain ⟨l0, l1, l2, f0, f1, f2⟩ := blk_cells HR5.out
    go_wp2_with (fail)
    refine bodyPost_ret (results_cell_slot (p := 10) (q := 11) (by kernel_rfl) _ _ (w.heap.size + 1) _ #[.slice (some ⟨gx, 0, none⟩) 3 cx, .slice (some ⟨g0, 0, none⟩) 3 c0, .slice (some ⟨gz, 0, none⟩) 3 cz] _ (.struct dt) _ rfl rfl (set3_heap HR5.out _ _ _) hd1 rfl (by kernel_rfl)) rfl ?_
    refine .inl ⟨by simp, _, _, _, vs, rfl, ?_, gr_grown G5.out (set3_gr w5 (w.heap.size + 1) _ _ _) (fun q hq => by cases hq; omega)⟩
    rw [← HU.out]
    exact (HOW5.out.keepS (set3_gr w5 (w.heap.size + 1) _ _ _) (by omega)).low (by omega)
  | false =>
    by_cases hij : i = j
    · subst hij
      obtain ⟨l0, l1, l2, f0, f1, f2⟩ := blk_cells HRv.out
      go_wp2_with (fail)
      refine bodyPost_ret (results_cell_slot (p := 10) (q := 11) (by kernel_rfl) _ _ (w.heap.size + 1) _ #[.slice none 0 0, .slice none 0 0, .slice none 0 0] _ (.struct dt) _ rfl rfl (set3_heap HRv.out _ _ _) hd1 rfl (by kernel_rfl)) rfl ?_
      exact .inr ⟨by simp, ⟨6, by decide, rfl⟩, gr_grown Gv.out (set3_gr v1 (w.heap.size + 1) _ _ _) (fun q hq => by cases hq; omega)⟩
    · have hne : ((i : Int) == (j : Int)) = false := beq_eq_false_iff_ne.2 (by omega)
      have HIJ := Lib.hid hij
      clear hij
      go_wp2_with (fail)
      refine RTv.out.mono ?_
      rintro e w2 ⟨rfl, hg2⟩
      have s0 := (gr_cell hg2 (lt_of_cell q0)).trans q0
      have s1 := (gr_cell hg2 (lt_of_cell q1)).trans q1
      have s2 := (gr_cell hg2 (lt_of_cell q2)).trans q2
      have s3 := (gr_cell hg2 (lt_of_cell e3)).trans e3
      have s5 := (gr_cell hg2 (lt_of_cell e5)).trans e5
      have HR2 := Lib.hid ((hg2.block (w.heap.size + 1) (by omega) (by simp)).trans HRv.out)
      have HA2 := Lib.hid (HAv.out.keep0 hg2)
      have G2 := Lib.hid (gr_trans Gv.out hg2)
      have hsz2 := hg2.size
      clear RTv q0 q1 q2 e3 e5 hg2 HRv HAv Gv
      by_cases hcan : cents ≤ r
      · have hlt : decide (r < cents) = false := decide_eq_false (by omega)
        have HCAN := Lib.hid hcan
        go_wp2_with (fail)
        refine (walletCopy_any _ _ _ A B w2 HA2.out HF.out).mono ?_
        rintro e w3 ⟨x3, y3, z3, vs, rfl, how, hg3⟩
        obtain ⟨g0, c0, g, c, hy, r0, d0, d1, hgb, hgne, hset⟩ := how.setR i j hi hj
        obtain ⟨gx, cx, hx, _, _, _, _⟩ := own_some how.s (by omega)
        obtain ⟨gz, cz, hz, _, _, _, _⟩ := own_some how.u (by omega)
        subst hx hy hz
        rw [← HU.out] at d0
        have HR3 := Lib.hid ((hg3.block (w.heap.size + 1) (by omega) (by simp)).trans HR2.out)
        have G3 := Lib.hid (gr_trans G2.out hg3)
        have HOW := Lib.hid how
        have hgl := lt_of_cell d0
        have hgl0 := lt_of_cell r0
        have hga := gr_alloc (gr_refl w3 none) (.cells #[.slice (some ⟨gx, 0, none⟩) 3 cx, .slice (some ⟨g0, 0, none⟩) 3 c0, .slice (some ⟨gz, 0, none⟩) 3 cz] 29)
        have hO := heap_alloc_new w3 (.cells #[.slice (some ⟨gx, 0, none⟩) 3 cx, .slice (some ⟨g0, 0, none⟩) 3 c0, .slice (some ⟨gz, 0, none⟩) 3 cz] 29)
        have hsz3 := hg3.size
        clear how hset s0 s1 s2 s3 s5 hg3 HA2 HR2
        go_upto_region 13 with (fail)
        obtain ⟨w4, hw4⟩ : ∃ w4, w4 = w3.alloc (.cells #[.slice (some ⟨gx, 0, none⟩) 3 cx, .slice (some ⟨g0, 0, none⟩) 3 c0, .slice (some ⟨gz, 0, none⟩) 3 cz] 29) := ⟨_, rfl⟩
        rw [← hw4] at hga hO
        rw [← hw4]
        obtain ⟨O, hOe⟩ : ∃ O, O = w3.heap.size := ⟨_, rfl⟩
        rw [← hOe] at hO
        rw [← hOe]
        have hgO : g < O := by omega
        have hOw : w.heap.size + 1 < O := by omega
        have HOW4 := Lib.hid (HOW.out.keep0 hga)
        have G4 := Lib.hid (gr_trans G3.out hga)
        have HR4 := Lib.hid ((hga.block (w.heap.size + 1) (by omega) (by simp)).trans HR3.out)
        have y0 := (gr_cell hga hgl0).trans r0
        have y1 := (gr_cell hga hgl).trans d0
        have y2 := (gr_free hga hgl (o := j)).trans d1
        obtain ⟨k0, k1, k2, _, _, _⟩ := blk_cells hO
        obtain ⟨g0', c0', g', c', hy', r0', _, _, _, _, hset4⟩ := HOW4.out.setR i j hi hj
        cases hy'
        rw [y0] at r0'
        cases r0'
        have how5 := hset4 (u + cents)
        have hg5 : w4.grownBy (w4.setCell ⟨g, j, none⟩ (.int .i64 (u + cents))) (some g) := gr_set (q := ⟨g, j, none⟩) (gr_refl w4 (some g)) rfl _
        have j0 := (gr_cellS hg5 (lt_of_cell k0) (by omega)).trans k0
        have j1 := (gr_cellS hg5 (lt_of_cell k1) (by omega)).trans k1
        have j2 := (gr_cellS hg5 (lt_of_cell k2) (by omega)).trans k2
        have HR5 := Lib.hid ((hg5.block (w.heap.size + 1) (lt_of_block HR4.out) (by simp; omega)).trans HR4.out)
        have HOW5 := Lib.hid how5
        have G5 := Lib.hid (gr_grown G4.out hg5 (fun q hq => by cases hq; omega))
        clear hw4 hOe hga hO d0 d1 r0 hset4 how5 hg5 HOW HOW4 HR3 HR4 G3 G4 G2
        go_upto_region 14 with (fail)
        obtain ⟨w5, hw5⟩ : ∃ w5, w5 = w4.setCell ⟨g, j, none⟩ (.int .i64 (u + cents)) := ⟨_, rfl⟩
        rw [← hw5] at j0 j1 j2 HR5 HOW5 G5
        rw [← hw5]
        clear hw5 y0 y1 y2 k0 k1 k2
        obtain ⟨l0, l1, l2, f0, f1, f2⟩ := blk_cells HR5.out
        go_wp2_with (fail)
        refine bodyPost_ret (results_cell_slot (p := 10) (q := 11) (by kernel_rfl) _ _ (w.heap.size + 1) _ #[.slice (some ⟨gx, 0, none⟩) 3 cx, .slice (some ⟨g0, 0, none⟩) 3 c0, .slice (some ⟨gz, 0, none⟩) 3 cz] _ (.struct dt) _ rfl rfl (set3_heap HR5.out _ _ _) hd1 rfl (by kernel_rfl)) rfl ?_
        refine .inl ⟨.inr ⟨HIJ.out, HCAN.out⟩, _, _, _, vs, rfl, ?_, gr_grown G5.out (set3_gr w5 (w.heap.size + 1) _ _ _) (fun q hq => by cases hq; omega)⟩
        rw [← HU.out]
        exact (HOW5.out.keepS (set3_gr w5 (w.heap.size + 1) _ _ _) (by omega)).low (by omega)
      · have hlt : decide (r < cents) = true := decide_eq_true (by omega)
        obtain ⟨l0, l1, l2, f0, f1, f2⟩ := blk_cells HR2.out
        go_wp2_with (fail)
        refine bodyPost_ret (results_cell_slot (p := 10) (q := 11) (by kernel_rfl) _ _ (w.heap.size + 1) _ #[.slice none 0 0, .slice none 0 0, .slice none 0 0] _ (.struct dt) _ rfl rfl (set3_heap HR2.out _ _ _) hd1 rfl (by kernel_rfl)) rfl ?_
        exact .inr ⟨by simp; intro _; omega, ⟨16, by decide, rfl⟩, gr_grown G2.out (set3_gr w2 (w.heap.size + 1) _ _ _) (fun q hq => by cases hq; omega)⟩
end Go.Proofs.YtakabckmiodjaaaDoor

/-! The reference's merging of right wallets. After XMerge2, by gen_merged.py. -/
namespace Go.Proofs.YtakabckmiodjaaaDoor
open Go.RowKit

set_option maxRecDepth 100000 in
set_option maxHeartbeats 2000000 in
theorem mergedRef_any (x y z x' y' z' : Value) (A A' : Wal) (X : Int) (B : Nat → Prop) (w : World) (ha : WalAt w B x y z A) (ha' : WalAt w B x' y' z' A') (hok : WOk A X) (hok' : WOk A' X) (hX : X ≤ 1000000000) (hcmp : ∀ i, i < 3 → RowLe A A' i ∨ RowLe A' A i) :
    Calls Tryd.prog 24 #[.agg #[x, y, z], .agg #[x', y', z']] w (MergePost A A' w) := by
  obtain ⟨dt, hd1⟩ := und_parts (P := Tryd.prog) (t := 29) (by kernel_rfl)
  obtain ⟨w1, hw1⟩ : ∃ w1, w1 = ((w.alloc (.cells #[x, y, z] 29)).alloc (.cells #[x', y', z'] 29)).alloc (.cells #[.slice none 0 0, .slice none 0 0, .slice none 0 0] 29) := ⟨_, rfl⟩
  have hgR : w.grownBy w1 none := by rw [hw1]; exact gr_alloc (gr_alloc (gr_alloc (gr_refl w none) _) _) _
  have hlt1 : w.heap.size + 2 < w1.heap.size := by rw [hw1]; simp
  have hR1 : w1.heap[w.heap.size + 2]? = some (.cells #[.slice none 0 0, .slice none 0 0, .slice none 0 0] 29 (0, 0)) := by rw [hw1]; simpa using heap_alloc_new ((w.alloc (.cells #[x, y, z] 29)).alloc (.cells #[x', y', z'] 29)) _
  have hQ1 : w1.heap[w.heap.size + 1]? = some (.cells #[x', y', z'] 29 (0, 0)) := by rw [hw1, heap_alloc_old (h := by simp)]; simpa using heap_alloc_new (w.alloc (.cells #[x, y, z] 29)) _
  have hP1 : w1.heap[w.heap.size]? = some (.cells #[x, y, z] 29 (0, 0)) := by rw [hw1, heap_alloc_old (h := by simp; omega), heap_alloc_old (h := by simp)]; exact heap_alloc_new w _
  have ha1 := ha.keep0 hgR
  have ha2 := ha'.keep0 hgR
  have PF := Lib.hid (pairFaultRef_ok x y z x' y' z' A A' X B w1 ha1 ha2 hok hok' hX)
  have HA1 := Lib.hid ha1
  have HA2 := Lib.hid ha2
  have HOK := Lib.hid hok
  have HOK2 := Lib.hid hok'
  have HCMP := Lib.hid hcmp
  obtain ⟨sb, so, sc, hx, _, _, _⟩ := ha1.s
  obtain ⟨rb, ro, rc, hy, _, _, _⟩ := ha1.r
  obtain ⟨ub, uo, uc, hz, _, _, _⟩ := ha1.u
  obtain ⟨sb', so', sc', hx', _, _, _⟩ := ha2.s
  obtain ⟨rb', ro', rc', hy', _, _, _⟩ := ha2.r
  obtain ⟨ub', uo', uc', hz', _, _, _⟩ := ha2.u
  subst hx hy hz hx' hy' hz'
  have HP1 := Lib.hid hP1
  have HQ1 := Lib.hid hQ1
  have HR1 := Lib.hid hR1
  obtain ⟨p0, p1, p2, _, _, _⟩ := blk_cells hP1
  obtain ⟨q0, q1, q2, _, _, _⟩ := blk_cells hQ1
  clear ha ha' hok hok' ha1 ha2 hP1 hQ1 hR1 hcmp
  go_enter Tryd.func24, Tryd.ntmps24
  go_wp2_with (fail)
  rw [← hw1]
  clear hw1
  have hlt0 : w.heap.size < w1.heap.size := by omega
  have hlt2 : w.heap.size + 1 < w1.heap.size := by omega
  go_wp2_with (fail)
  refine PF.out.mono ?_
  rintro e w2 ⟨rfl, hg2⟩
  have p0' := (gr_cell hg2 (lt_of_cell p0)).trans p0
  have p1' := (gr_cell hg2 (lt_of_cell p1)).trans p1
  have p2' := (gr_cell hg2 (lt_of_cell p2)).trans p2
  have hsz2 := hg2.size
  have HQ2 := Lib.hid ((hg2.block _ hlt2 (by simp)).trans HQ1.out)
  have HP2 := Lib.hid ((hg2.block _ hlt0 (by simp)).trans HP1.out)
  have HA0 := Lib.hid (HA1.out.keep0 hg2)
  have HR2 := Lib.hid ((hg2.block _ hlt1 (by simp)).trans HR1.out)
  have OW := Lib.hid (walletCopy_any _ _ _ A B w2 (HA1.out.keep0 hg2) HOK.out.form)
  have HB2 := Lib.hid (HA2.out.keep0 hg2)
  have hgr2 := gr_trans hgR hg2
  clear p0 p1 p2 q0 q1 q2 hg2 PF
  go_wp2_with (fail)
  refine OW.out.mono ?_
  rintro e w3 ⟨x3, y3, z3, vs, rfl, how, hg3⟩
  obtain ⟨gx, cx, hx, _, _, _, _⟩ := own_some how.s (by omega)
  obtain ⟨gy, cy, hy, _, _, _, _⟩ := own_some how.r.outer (by rw [how.f.lenT]; omega)
  obtain ⟨gz, cz, hz, _, _, _, _⟩ := own_some how.u (by omega)
  rw [how.f.lenT] at hy
  subst hx hy hz
  obtain ⟨w4, hw4⟩ : ∃ w4, w4 = w3.alloc (.cells #[.slice (some ⟨gx, 0, none⟩) 3 cx, .slice (some ⟨gy, 0, none⟩) 3 cy, .slice (some ⟨gz, 0, none⟩) 3 cz] 29) := ⟨_, rfl⟩
  have hg4 : w3.grownBy w4 none := by rw [hw4]; exact gr_alloc (gr_refl _ _) _
  have hB4 : w4.heap[w3.heap.size]? = some (.cells #[.slice (some ⟨gx, 0, none⟩) 3 cx, .slice (some ⟨gy, 0, none⟩) 3 cy, .slice (some ⟨gz, 0, none⟩) 3 cz] 29 (0, 0)) := by rw [hw4]; exact heap_alloc_new w3 _
  have how4 := how.keep0 hg4
  have hg24 := gr_trans hg3 hg4
  have hsz3 := hg3.size
  obtain ⟨b0, b1, b2, _, _, _⟩ := blk_cells hB4
  clear OW p0' p1' p2' how hg3 hg4
  go_wp2_with (fail)
  rw [← hw4]
  clear hw4
  obtain ⟨g7, hg7⟩ : ∃ g7, g7 = w3.heap.size := ⟨_, rfl⟩
  rw [← hg7] at hB4 b0 b1 b2 hsz3 ⊢
  clear hg7
  have HB4 := Lib.hid hB4
  clear hB4
  go_wp2_with (fail)
  go_loopw [23] (fun i wr => ∃ (k : Nat) (C : Wal), k ≤ 3 ∧ i = .int .i64 k ∧ WalOwn wr w2.heap.size (.slice (some ⟨gx, 0, none⟩) 3 cx) (.slice (some ⟨gy, 0, none⟩) 3 cy) (.slice (some ⟨gz, 0, none⟩) 3 cz) C vs ∧ MxTo A A' k k 0 C ∧ w2.grownBy wr none ∧
    wr.heap[g7]? = some (.cells #[.slice (some ⟨gx, 0, none⟩) 3 cx, .slice (some ⟨gy, 0, none⟩) 3 cy, .slice (some ⟨gz, 0, none⟩) 3 cz] 29 (0, 0))) (fun i _ => 3 - (intOf i).toNat)
  case atStart => exact ⟨0, A, by omega, rfl, how4, MxTo.start A A', hg24, HB4.out⟩
  case round =>
    obtain ⟨k, C, hk, rfl, how, hmx, hgr, hb7⟩ := hrel
    obtain ⟨wo, rfl⟩ : ∃ wo : World, wo = wr := ⟨_, rfl⟩
    have HMX := Lib.hid hmx
    have HOW := Lib.hid how
    have HB7 := Lib.hid hb7
    obtain ⟨b0, b1, b2, _, _, _⟩ := blk_cells hb7
    have hQ := (hgr.block (w.heap.size + 1) (by omega) (by simp)).trans HQ2.out
    obtain ⟨q0, q1, q2, _, _, _⟩ := blk_cells hQ
    have hP := (hgr.block w.heap.size (by omega) (by simp)).trans HP2.out
    obtain ⟨p0, p1, p2, _, _, _⟩ := blk_cells hP
    have HBW := Lib.hid (HB2.out.keep0 hgr)
    have HAW := Lib.hid (HA0.out.keep0 hgr)
    clear hmx how hb7 hQ hP
    by_cases hlt : k < 3
    · obtain ⟨hcu, hmu⟩ := HMX.out.stepU HOW.out.f hlt
      obtain ⟨_, _, he, d0, d1, hgb, hset⟩ := HOW.out.setU k hlt
      cases he
      obtain ⟨_, _, _, he, _, _, hu'⟩ := HBW.out.u
      cases he
      have e0 := hu' k hlt
      obtain ⟨_, _, _, he, _, _, hu2⟩ := HAW.out.u
      cases he
      have x0 := hu2 k hlt
      have hne7 := wal_block_ne HB7.out hlt d0
      rw [hcu] at d0
      obtain ⟨a0, ha0⟩ : ∃ a0, a0 = A.u k := ⟨_, rfl⟩
      obtain ⟨a1, ha1⟩ : ∃ a1, a1 = A'.u k := ⟨_, rfl⟩
      rw [← ha0] at d0 hmu x0
      rw [← ha1] at e0 hmu
      have HMU := Lib.hid hmu
      have HSET := Lib.hid hset
      have hki : (0 : Int) ≤ (k : Int) := by omega
      have hk3 : (k : Int) < 3 := by omega
      clear hcu hmu hset hu' hu2 ha0 ha1
      have hmid : ∀ v : Int, WalOwn (wo.setCell ⟨gz, k, none⟩ (.int .i64 v)).drew w2.heap.size (.slice (some ⟨gx, 0, none⟩) 3 cx) (.slice (some ⟨gy, 0, none⟩) 3 cy) (.slice (some ⟨gz, 0, none⟩) 3 cz) (putU C k v) vs ∧ w2.grownBy (wo.setCell ⟨gz, k, none⟩ (.int .i64 v)).drew none ∧
          (wo.setCell ⟨gz, k, none⟩ (.int .i64 v)).drew.heap[g7]? = some (.cells #[.slice (some ⟨gx, 0, none⟩) 3 cx, .slice (some ⟨gy, 0, none⟩) 3 cy, .slice (some ⟨gz, 0, none⟩) 3 cz] 29 (0, 0)) := fun v =>
        ⟨(HSET.out v).keep0 (gr_drew (gr_refl _ none)), gr_drew (gr_new hgr hgb _), ((gr_set (q := ⟨gz, k, none⟩) (gr_refl wo (some gz)) rfl (.int .i64 v)).block g7 (lt_of_block HB7.out) (by simp; exact fun e => hne7 e.symm)).trans HB7.out⟩
      have HMID := Lib.hid hmid
      clear hmid
      go_wp2_with (fail)
      go_cut [] from 26 to 40 (fun wx => wx = (wo.setCell ⟨gz, k, none⟩ (.int .i64 (max a0 a1))).drew)
      case first =>
        go_region
        all_goals (go_wp2_with (fail))
        all_goals (go_meet; first | rfl | (rw [show max a0 a1 = a0 by omega]) | (rw [show max a0 a1 = a1 by omega]))
      case rest =>
      obtain ⟨how5, hgr5, hb75⟩ := HMID.out (max a0 a1)
      rw [← hcut] at how5 hgr5 hb75
      obtain ⟨b0, b1, b2, _, _, _⟩ := blk_cells hb75
      clear hcut d0 d1 e0 x0 q0 q1 q2 p0 p1 p2 hgr HMID HSET HB7 HOW HMX HBW HAW hgb hne7
      have hszc := hgr5.size
      go_wp2_with (fail)
      go_loopw [44] (fun j wr => ∃ (m : Nat) (C : Wal), m ≤ 3 ∧ j = .int .i64 m ∧ WalOwn wr w2.heap.size (.slice (some ⟨gx, 0, none⟩) 3 cx) (.slice (some ⟨gy, 0, none⟩) 3 cy) (.slice (some ⟨gz, 0, none⟩) 3 cz) C vs ∧ MxTo A A' (k + 1) k m C ∧ w2.grownBy wr none ∧
        wr.heap[g7]? = some (.cells #[.slice (some ⟨gx, 0, none⟩) 3 cx, .slice (some ⟨gy, 0, none⟩) 3 cy, .slice (some ⟨gz, 0, none⟩) 3 cz] 29 (0, 0))) (fun j _ => 3 - (intOf j).toNat)
      case atStart => exact ⟨0, _, by omega, rfl, how5, HMU.out, hgr5, hb75⟩
      case round =>
        obtain ⟨m, C2, hm, rfl, how, hmx, hgr, hb7⟩ := hrel
        obtain ⟨wi, rfl⟩ : ∃ wi : World, wi = wr := ⟨_, rfl⟩
        have HMX := Lib.hid hmx
        have HOW := Lib.hid how
        have HB7 := Lib.hid hb7
        by_cases hltm : m < 3
        · obtain ⟨b0, b1, b2, _, _, _⟩ := blk_cells hb7
          have hQ := (hgr.block (w.heap.size + 1) (by omega) (by simp)).trans HQ2.out
          obtain ⟨q0, q1, q2, _, _, _⟩ := blk_cells hQ
          have hP := (hgr.block w.heap.size (by omega) (by simp)).trans HP2.out
          obtain ⟨p0, p1, p2, _, _, _⟩ := blk_cells hP
          have HBW := Lib.hid (HB2.out.keep0 hgr)
          have HAW := Lib.hid (HA0.out.keep0 hgr)
          clear hmx how hb7 hQ hP
          obtain ⟨hcr, hmr⟩ := HMX.out.stepR HOW.out.f hlt hltm
          obtain ⟨_, _, g, c, he, r0, d0, d1, hgb, hgne, hset⟩ := HOW.out.setR k m hlt hltm
          cases he
          obtain ⟨_, _, _, he, _, _, hr'⟩ := HBW.out.r
          cases he
          obtain ⟨b4, o4, c4, r0', _, _, hr''⟩ := hr' k hlt
          have e0 := hr'' m hltm
          obtain ⟨_, _, _, he, _, _, hr2⟩ := HAW.out.r
          cases he
          obtain ⟨b6, o6, c6, x1, _, _, hr3⟩ := hr2 k hlt
          have x0 := hr3 m hltm
          have hne7 := wal_block_ne HB7.out hltm d0
          rw [hcr] at d0
          obtain ⟨a2, ha2⟩ : ∃ a2, a2 = A.r k m := ⟨_, rfl⟩
          obtain ⟨a3, ha3⟩ : ∃ a3, a3 = A'.r k m := ⟨_, rfl⟩
          rw [← ha2] at d0 hmr x0
          rw [← ha3] at e0 hmr
          have HMR := Lib.hid hmr
          have HSET := Lib.hid hset
          have hmi : (0 : Int) ≤ (m : Int) := by omega
          have hm3 : (m : Int) < 3 := by omega
          clear hcr hmr hset hr' hr'' hr2 hr3 ha2 ha3
          have hmid : ∀ v : Int, WalOwn (wi.setCell ⟨g, m, none⟩ (.int .i64 v)).drew w2.heap.size (.slice (some ⟨gx, 0, none⟩) 3 cx) (.slice (some ⟨gy, 0, none⟩) 3 cy) (.slice (some ⟨gz, 0, none⟩) 3 cz) (putR C2 k m v) vs ∧ w2.grownBy (wi.setCell ⟨g, m, none⟩ (.int .i64 v)).drew none ∧
              (wi.setCell ⟨g, m, none⟩ (.int .i64 v)).drew.heap[g7]? = some (.cells #[.slice (some ⟨gx, 0, none⟩) 3 cx, .slice (some ⟨gy, 0, none⟩) 3 cy, .slice (some ⟨gz, 0, none⟩) 3 cz] 29 (0, 0)) := fun v =>
            ⟨(HSET.out v).keep0 (gr_drew (gr_refl _ none)), gr_drew (gr_new hgr hgb _), ((gr_set (q := ⟨g, m, none⟩) (gr_refl wi (some g)) rfl (.int .i64 v)).block g7 (lt_of_block HB7.out) (by simp; exact fun e => hne7 e.symm)).trans HB7.out⟩
          have HMID := Lib.hid hmid
          clear hmid
          go_wp2_with (fail)
          go_region
          all_goals (go_wp2_with (fail))
          all_goals go_roundw
          all_goals first | (simp [intOf]; omega) | skip
          all_goals (
            obtain ⟨h1, h2, h3⟩ := HMID.out (max a2 a3)
            refine ⟨m + 1, _, by omega, by go_num, ?_, HMR.out, ?_, ?_⟩
            all_goals first | exact h1 | exact h2 | exact h3 | (rw [show (if a2 < a3 then a3 else a2) = max a2 a3 by split <;> omega]; first | exact h1 | exact h2 | exact h3))
        · have hm3 : m = 3 := by omega
          have hfin := HMX.out
          rw [hm3] at hfin
          have HFIN := Lib.hid hfin.row
          clear hfin hm3 hmx how hb7
          go_wp2_with (fail)
          go_roundw
          case rel => exact ⟨k + 1, C2, by omega, by go_num, HOW.out, HFIN.out, hgr, HB7.out⟩
          case measure => simp [intOf]; omega
    · have hk3 : k = 3 := by omega
      have hfin := HMX.out
      rw [hk3] at hfin
      have HFIN := Lib.hid hfin.last
      clear hfin hk3
      have hokC := merge_ok HOK.out HOK2.out HCMP.out HFIN.out HOW.out.f
      have hat := HOW.out.at
      have CW := Lib.hid (fun (w' : World) (h : wo.grownBy w' none) => walletFault_ok _ _ _ C X _ w' (hat.keep0 h) hokC hX)
      have hR := (hgr.block (w.heap.size + 2) (by omega) (by simp)).trans HR2.out
      have HR := Lib.hid hR
      have hgrw := gr_trans hgr2 hgr
      have hsw : w.heap.size + 2 < w2.heap.size := by omega
      have hg7l := lt_of_block HB7.out
      have hne7 : w.heap.size + 2 < g7 := by omega
      clear hokC hat hR hgr HMX HBW HAW q0 q1 q2 p0 p1 p2
      go_wp2_with (fail)
      refine (CW.out wo (gr_refl _ _)).mono ?_
      rintro e w6 ⟨rfl, hg6⟩
      have u0 := (gr_cell hg6 (lt_of_cell b0)).trans b0
      have u1 := (gr_cell hg6 (lt_of_cell b1)).trans b1
      have u2 := (gr_cell hg6 (lt_of_cell b2)).trans b2
      have hR6 := (hg6.block (w.heap.size + 2) (lt_of_block HR.out) (by simp)).trans HR.out
      have HR6 := Lib.hid hR6
      obtain ⟨l0, l1, l2, f0, f1, f2⟩ := blk_cells hR6
      have HG6 := Lib.hid hg6
      clear b0 b1 b2 hR6 hg6 CW
      go_wp2_with (fail)
      refine bodyPost_ret (results_cell_slot (p := 4) (q := 5) (by kernel_rfl) _ _ (w.heap.size + 2) _ #[.slice (some ⟨gx, 0, none⟩) 3 cx, .slice (some ⟨gy, 0, none⟩) 3 cy, .slice (some ⟨gz, 0, none⟩) 3 cz] _ (.struct dt) _ rfl rfl (set3_heap HR6.out _ _ _) hd1 rfl (by kernel_rfl)) rfl ⟨_, _, _, vs, C, rfl, ?_, HFIN.out, ?_⟩
      · exact ((HOW.out.keep0 HG6.out).keepS (set3_gr w6 (w.heap.size + 2) _ _ _) (by omega)).low (by omega)
      · exact gr_grown (gr_trans hgrw HG6.out) (set3_gr w6 (w.heap.size + 2) _ _ _) (fun q hq => by cases hq; omega)
end Go.Proofs.YtakabckmiodjaaaDoor
