/- depot.Give of a right wallet. -/
import Derived.Test.YtbgfflbddflokaaSpend
namespace Go.Proofs.Ytbgfflbddflokaa
open Go.RowKit

theorem site_beq {i j : Nat} {st su : ByteArray} (hi : i < 3) (hj : j < 3) (hij : i ≠ j) (hst : siteV i = .string st) (hsu : siteV j = .string su) : (st.toList == su.toList) = false := by
  obtain rfl | rfl | rfl : i = 0 ∨ i = 1 ∨ i = 2 := by omega
  all_goals (obtain rfl | rfl | rfl : j = 0 ∨ j = 1 ∨ j = 2 := by omega)
  all_goals first
    | exact absurd rfl hij
    | (simp only [siteV] at hst hsu; cases hst; cases hsu; kernel_rfl)

set_option maxRecDepth 100000 in
set_option maxHeartbeats 8000000 in
theorem give_any (x y z : Value) (A : Wal) (X : Int) (B : Nat → Prop) (i j : Nat) (cents : Int) (w : World) (ha : WalAt w B x y z A) (hok : WOk A X) (hX : X + cents ≤ 1000000000) (hi : i < 3) (hj : j < 3) (hij : i ≠ j) (hc1 : 1 ≤ cents) :
    Calls Try.prog 21 #[.agg #[x, y, z], siteV i, siteV j, .int .i64 cents] w (OpPost (cents ≤ rightsTo A i 3) (putR A i j (A.r i j + cents)) w) := by
  obtain ⟨dt, hd1⟩ := und_parts (P := Try.prog) (t := 50) (by kernel_rfl)
  have hX0 : 0 ≤ X := by have := hok.r0 0 0 (by omega) (by omega); omega
  have hdec : Hid ((decide (cents < 1) || decide (1000000000 < cents)) = false) := by show _ = _; simp; omega
  obtain ⟨w1, hw1⟩ : ∃ w1, w1 = (w.alloc (.cells #[x, y, z] 50)).alloc (.cells #[.slice none 0 0, .slice none 0 0, .slice none 0 0] 50) := ⟨_, rfl⟩
  have hgR : w.grownBy w1 none := by rw [hw1]; exact gr_alloc (gr_alloc (gr_refl w none) _) _
  have hlt1 : w.heap.size + 1 < w1.heap.size := by rw [hw1]; simp
  have hR1 : w1.heap[w.heap.size + 1]? = some (.cells #[.slice none 0 0, .slice none 0 0, .slice none 0 0] 50 (0, 0)) := by rw [hw1]; simpa using heap_alloc_new (w.alloc (.cells #[x, y, z] 50)) _
  have hP1 : w1.heap[w.heap.size]? = some (.cells #[x, y, z] 50 (0, 0)) := by rw [hw1, heap_alloc_old (h := by simp)]; exact heap_alloc_new w _
  have ha1 := ha.keep0 hgR
  have hgs := gr_alloc (gr_refl w1 none) (.cells #[siteV i, siteV j] 9)
  have hcs : ∀ k, k < [i, j].length → (w1.alloc (.cells #[siteV i, siteV j] 9)).cell? ⟨w1.heap.size, k, none⟩ = some (siteV ([i, j].getD k 0)) := by
    intro k hk
    have hk2 : k < 2 := by simpa using hk
    obtain rfl | rfl : k = 0 ∨ k = 1 := by omega
    · exact made_cell (gr_refl _ _) 0 rfl
    · exact made_cell (gr_refl _ _) 1 rfl
  have PL := Lib.hid (places_any x y z A X B [i, j] w1.heap.size 2 (w1.alloc (.cells #[siteV i, siteV j] 9)) (ha1.keep0 hgs) hok (by omega) (fun k hk => by simp at hk; omega) hcs (by simp) (by simp))
  have HA := Lib.hid ha1
  have HF := Lib.hid hok.form
  have hri := hok.r0 i j hi hj
  have RT := Lib.hid (fun (w' : World) (h : WalAt w' B x y z A) => rights_any x y z A B i w' h hi (fun a b h1 h2 => by have := hok.r0 a b h1 h2; omega) (fun a h1 => by have := hok.u0 a h1; omega))
  have hrb := rightsTo_bound hok.r0 hok.u0 i hi 3 (by omega)
  obtain ⟨sb, so, sc, rfl, _, _, _⟩ := ha1.s
  obtain ⟨rb, ro, rc, rfl, hrc, _, _⟩ := ha1.r
  obtain ⟨ub, uo, uc, rfl, huc, _, _⟩ := ha1.u
  have HP1 := Lib.hid hP1
  have HR1 := Lib.hid hR1
  obtain ⟨p0, p1, p2, _, _, _⟩ := blk_cells hP1
  obtain ⟨st, hst⟩ := siteV_str i
  obtain ⟨su, hsu⟩ := siteV_str j
  have hne2 := site_beq hi hj hij hst hsu
  rw [hst, hsu] at PL hgs
  rw [hst, hsu]
  clear ha hok ha1 hcs hP1 hR1
  go_enter Try.func21, Try.ntmps21
  go_wp2_with (fail)
  rw [← hw1, show w.heap.size + 1 + 1 = w1.heap.size by rw [hw1]; simp]
  clear hw1
  refine PL.out.mono ?_
  rintro e w2 ⟨vat, rfl, hat, hg2'⟩
  have hg2 := gr_trans hgs hg2'
  obtain ⟨ga, ca, rfl, hga1, hga2, _, _⟩ := own_some hat (by simp)
  have at0 : w2.cell? ⟨ga, 0, none⟩ = some (.int .i64 i) := by rw [hat.cellAt 0 (by simp)]; rfl
  have at1 : w2.cell? ⟨ga, 1, none⟩ = some (.int .i64 j) := by rw [hat.cellAt 1 (by simp)]; rfl
  have hlt0 : w.heap.size < w1.heap.size := by omega
  have q0 := (gr_cell hg2 (lt_of_cell p0)).trans p0
  have q1 := (gr_cell hg2 (lt_of_cell p1)).trans p1
  have q2 := (gr_cell hg2 (lt_of_cell p2)).trans p2
  have HP2 := Lib.hid ((hg2.block w.heap.size hlt0 (by simp)).trans HP1.out)
  have HR2 := Lib.hid ((hg2.block (w.heap.size + 1) hlt1 (by simp)).trans HR1.out)
  have HA2 := Lib.hid (HA.out.keep0 hg2)
  have hgr2 := gr_trans hgR hg2
  have hsz2 := hg2.size
  have hszs : w1.heap.size < (w1.alloc (.cells #[.string st, .string su] 9)).heap.size := by simp
  have hgaw : w1.heap.size < ga := by omega
  clear PL p0 p1 p2 hat hg2 hg2' hgs hszs
  go_wp2_with (fail)
  refine (out_any cents 1 1000000000 w2).mono ?_
  rintro e w' ⟨rfl, rfl⟩
  rw [hdec.out]
  obtain ⟨r, hr⟩ : ∃ r, r = rightsTo A i 3 := ⟨_, rfl⟩
  rw [← hr] at RT hrb
  have HRR := Lib.hid hr
  obtain ⟨hrb1, hrb2⟩ := hrb
  clear hr
  have hii : (0 : Int) ≤ (i : Int) := by omega
  have hii3 : (i : Int) < 3 := by omega
  have HA2d := Lib.hid (HA2.out.keep0 (gr_drew (gr_refl w2 none)))
  have hlt2 : w.heap.size < w2.heap.size := by omega
  go_wp2_with (fail)
  go_cut [34] from 35 to 41 (fun s wx => s = .bool (decide (r < cents)) ∧ w2.grownBy wx none)
  case first =>
    go_region_held3 (fun w' => w'.cell? ⟨w.heap.size, 0, none⟩ = some (.slice (some ⟨sb, so, none⟩) 3 sc) ∧ w'.cell? ⟨w.heap.size, 1, none⟩ = some (.slice (some ⟨rb, ro, none⟩) 3 rc) ∧ w'.cell? ⟨w.heap.size, 2, none⟩ = some (.slice (some ⟨ub, uo, none⟩) 3 uc) ∧ w'.cell? ⟨ga, 0, none⟩ = some (.int .i64 i))
      (first | exact ⟨q0, q1, q2, at0⟩ | exact ⟨t0, t1, t2, t3⟩)
      (first | (go_at_call 71; (with_reducible refine (RT.out w2.drew HA2d.out).mono ?_); rintro e wq ⟨rfl, hgq'⟩; have hgq := gr_trans (gr_drew (gr_refl w2 none)) hgq'; have t0 := (gr_cell hgq (lt_of_cell q0)).trans q0; have t1 := (gr_cell hgq (lt_of_cell q1)).trans q1; have t2 := (gr_cell hgq (lt_of_cell q2)).trans q2; have t3 := (gr_cell hgq (lt_of_cell at0)).trans at0)
             | fail)
    all_goals (go_wp2_with (fail))
    all_goals (go_meet; exact ⟨rfl, hgq⟩)
  case rest =>
  obtain ⟨rfl, hgc⟩ := hcut
  have hszc := hgc.size
  replace q0 := (gr_cell hgc (lt_of_cell q0)).trans q0
  replace q1 := (gr_cell hgc (lt_of_cell q1)).trans q1
  replace q2 := (gr_cell hgc (lt_of_cell q2)).trans q2
  replace at0 := (gr_cell hgc (lt_of_cell at0)).trans at0
  replace at1 := (gr_cell hgc (lt_of_cell at1)).trans at1
  replace HP2 := Lib.hid ((hgc.block w.heap.size (by omega) (by simp)).trans HP2.out)
  replace HR2 := Lib.hid ((hgc.block (w.heap.size + 1) (by omega) (by simp)).trans HR2.out)
  replace HA2 := Lib.hid (HA2.out.keep0 hgc)
  replace hgr2 := gr_trans hgr2 hgc
  replace hga2 : ga < wc.heap.size := by omega
  replace hsz2 : w1.heap.size ≤ wc.heap.size := by omega
  clear hgc HA2d hlt2
  clear hszc
  by_cases hcan : r < cents
  · have hb : decide (r < cents) = true := by simpa using hcan
    rw [hb]
    obtain ⟨k0, k1, k2, f0, f1, f2⟩ := blk_cells HR2.out
    clear hb
    go_wp2_with (fail)
    refine bodyPost_ret (results_cell_slot (p := 8) (q := 9) (by kernel_rfl) _ _ (w.heap.size + 1) _ #[.slice none 0 0, .slice none 0 0, .slice none 0 0] _ (.struct dt) _ rfl rfl (set3_heap HR2.out _ _ _) hd1 rfl (by kernel_rfl)) rfl (.inr ⟨by rw [← HRR.out]; omega, rfl, ?_⟩)
    exact gr_grown hgr2 (set3_gr wc (w.heap.size + 1) _ _ _) (fun q hq => by cases hq; omega)
  have hcan' : cents ≤ r := by omega
  have hb : decide (r < cents) = false := by simpa using hcan'
  rw [hb]
  clear hb hcan
  go_wp2_with (fail)
  refine (owned_any _ _ _ A B wc HA2.out HF.out).mono ?_
  rintro e w3 ⟨x3, y3, z3, vs, rfl, how, hg3⟩
  obtain ⟨g0, c0, g, c, hy, r0, r1, r2, hgb, hgne, hset⟩ := how.setR i j hi hj
  obtain ⟨gx, cx, hx, _, _, _, _⟩ := own_some how.s (by omega)
  obtain ⟨gz, cz, hz, _, _, _, _⟩ := own_some how.u (by omega)
  subst hx hy hz
  have at3 := (gr_cell hg3 (lt_of_cell at0)).trans at0
  have bt3 := (gr_cell hg3 (lt_of_cell at1)).trans at1
  have HP3 := Lib.hid ((hg3.block w.heap.size (by omega) (by simp)).trans HP2.out)
  have HR3 := Lib.hid ((hg3.block (w.heap.size + 1) (by omega) (by simp)).trans HR2.out)
  obtain ⟨p0, p1, p2, f0, f1, f2⟩ := blk_cells HP3.out
  have hgr3 := gr_trans hgr2 hg3
  have HW := Lib.hid (hset (A.r i j + cents))
  clear q0 q1 q2 at0 at1 hg3 hgr2 hset
  go_wp2_with (fail)
  obtain ⟨w4, hw4⟩ : ∃ w4, w4 = ((w3.setCell ⟨w.heap.size, 0, none⟩ (.slice (some ⟨gx, 0, none⟩) 3 cx)).setCell ⟨w.heap.size, 1, none⟩ (.slice (some ⟨g0, 0, none⟩) 3 c0)).setCell ⟨w.heap.size, 2, none⟩ (.slice (some ⟨gz, 0, none⟩) 3 cz) := ⟨_, rfl⟩
  have hg4 : w3.grownBy w4 (some w.heap.size) := by rw [hw4]; exact set3_gr w3 w.heap.size _ _ _
  have hP4 : w4.heap[w.heap.size]? = some (.cells #[.slice (some ⟨gx, 0, none⟩) 3 cx, .slice (some ⟨g0, 0, none⟩) 3 c0, .slice (some ⟨gz, 0, none⟩) 3 cz] 50 (0, 0)) := by rw [hw4]; exact set3_heap HP3.out _ _ _
  rw [← hw4]
  clear hw4 p0 p1 p2 f0 f1 f2
  obtain ⟨p0, p1, p2, _, _, _⟩ := blk_cells hP4
  have hbase : w.heap.size < wc.heap.size := by omega
  have hg0b : wc.heap.size ≤ g0 := (how.r.outer.lt g0 rfl).1
  have at4 := (gr_cellS hg4 (lt_of_cell at3) (by omega)).trans at3
  have bt4 := (gr_cellS hg4 (lt_of_cell bt3) (by omega)).trans bt3
  have s0 := (gr_cellS hg4 (lt_of_cell r0) (by omega)).trans r0
  have s1 := (gr_cellS hg4 (lt_of_cell r1) (by omega)).trans r1
  have s2 := (gr_freeS hg4 (lt_of_cell r1) (by omega)).trans r2
  have hR4 := (hg4.block (w.heap.size + 1) (lt_of_block HR3.out) (by simp)).trans HR3.out
  have hg5 : w4.grownBy (w4.drew.setCell ⟨g, j, none⟩ (.int .i64 (A.r i j + cents))) (some g) := gr_set (q := ⟨g, j, none⟩) (gr_drew (gr_refl w4 (some g))) rfl _
  have hR5 := (hg5.block (w.heap.size + 1) (lt_of_block hR4) (by simp; omega)).trans hR4
  have hset4 := (how.keepS hg4 hbase).setR i j hi hj
  obtain ⟨_, _, g', _, he, r0', _, _, _, _, hset5⟩ := hset4
  cases he
  rw [s0] at r0'
  cases r0'
  have how5 : WalOwn (w4.drew.setCell ⟨g, j, none⟩ (.int .i64 (A.r i j + cents))) wc.heap.size (.slice (some ⟨gx, 0, none⟩) 3 cx) (.slice (some ⟨g0, 0, none⟩) 3 c0) (.slice (some ⟨gz, 0, none⟩) 3 cz) (putR A i j (A.r i j + cents)) vs := (hset5 (A.r i j + cents)).keep0 (gr_drew (gr_refl _ none))
  have MO := Lib.hid (more_any g j (A.r i j) cents w4.drew s1 s2 hri.1 (by omega) (by omega))
  have u0 := (gr_cellS hg5 (lt_of_cell p0) (by omega)).trans p0
  have u1 := (gr_cellS hg5 (lt_of_cell p1) (by omega)).trans p1
  have u2 := (gr_cellS hg5 (lt_of_cell p2) (by omega)).trans p2
  have u3 := (gr_cellS hg5 (lt_of_cell at4) (by omega)).trans at4
  have u5 := (gr_cellS hg5 (lt_of_cell bt4) (by omega)).trans bt4
  have u4 := (gr_cellS hg5 (lt_of_cell s0) hgne).trans s0
  have HOW5 := Lib.hid how5
  have HR5 := Lib.hid hR5
  have hgr4 := gr_grown hgr3 hg4 (fun q hq => by cases hq; exact Nat.le_refl _)
  have hgr5 := gr_grown hgr4 hg5 (fun q hq => by cases hq; omega)
  have hjj : (0 : Int) ≤ (j : Int) := by omega
  have hjj3 : (j : Int) < 3 := by omega
  clear how how5 hset5 hR5 hR4 hP4 HW r0 r1 r2 at3 bt3 hg4 hg5 HP3 HR3 HP2 HR2 HP1 HR1 HA HA2 hgr3 hgr4
  go_region_held3 (fun w' => w'.cell? ⟨w.heap.size, 0, none⟩ = some (.slice (some ⟨gx, 0, none⟩) 3 cx) ∧ w'.cell? ⟨w.heap.size, 1, none⟩ = some (.slice (some ⟨g0, 0, none⟩) 3 c0) ∧ w'.cell? ⟨w.heap.size, 2, none⟩ = some (.slice (some ⟨gz, 0, none⟩) 3 cz) ∧ w'.cell? ⟨ga, 0, none⟩ = some (.int .i64 i) ∧ w'.cell? ⟨ga, 1, none⟩ = some (.int .i64 j) ∧ w'.cell? ⟨g0, i, none⟩ = some (.slice (some ⟨g, 0, none⟩) 3 c))
    (first | exact ⟨p0, p1, p2, at4, bt4, s0⟩ | exact ⟨u0, u1, u2, u3, u5, u4⟩ | exact ⟨v0, v1, v2, v3, v5, v4⟩ | exact ⟨cell_set3' v0 (by omega) _ _ _, cell_set3' v1 (by omega) _ _ _, cell_set3' v2 (by omega) _ _ _, cell_set3' v3 (by omega) _ _ _, cell_set3' v5 (by omega) _ _ _, cell_set3' v4 (by omega) _ _ _⟩)
    (first | (go_at_call 70; (with_reducible refine MO.out.mono ?_); rintro e w5 ⟨rfl, rfl⟩)
           | (go_at_call 69; (with_reducible refine (done_ok _ _ _ _ _ _ _ _ _ _).mono ?_); rintro e w6 ⟨rfl, hg6⟩; have v0 := (gr_cell hg6 (lt_of_cell u0)).trans u0; have v1 := (gr_cell hg6 (lt_of_cell u1)).trans u1; have v2 := (gr_cell hg6 (lt_of_cell u2)).trans u2; have v3 := (gr_cell hg6 (lt_of_cell u3)).trans u3; have v4 := (gr_cell hg6 (lt_of_cell u4)).trans u4; have v5 := (gr_cell hg6 (lt_of_cell u5)).trans u5; have hR6 := (hg6.block (w.heap.size + 1) (lt_of_block HR5.out) (by simp)).trans HR5.out; obtain ⟨k0, k1, k2, f0, f1, f2⟩ := blk_cells hR6)
           | fail)
  go_wp2_with (fail)
  refine bodyPost_ret (results_cell_slot (p := 8) (q := 9) (by kernel_rfl) _ _ (w.heap.size + 1) _ #[.slice (some ⟨gx, 0, none⟩) 3 cx, .slice (some ⟨g0, 0, none⟩) 3 c0, .slice (some ⟨gz, 0, none⟩) 3 cz] _ (.struct dt) _ rfl rfl (set3_heap hR6 _ _ _) hd1 rfl (by kernel_rfl)) rfl (.inl ⟨by rw [← HRR.out]; exact hcan', _, _, _, vs, rfl, ?_, ?_⟩)
  · exact ((HOW5.out.keep0 hg6).keepS (set3_gr w6 (w.heap.size + 1) _ _ _) (by omega)).low (by omega)
  · exact gr_grown (gr_trans hgr5 hg6) (set3_gr w6 (w.heap.size + 1) _ _ _) (fun q hq => by cases hq; omega)
end Go.Proofs.Ytbgfflbddflokaa
