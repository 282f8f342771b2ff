/- depot.Spend of a right wallet. -/
import Derived.Test.YtbgfflbddflokaaCredit
import Derived.Deep.CutRange
namespace Go.Proofs.Ytbgfflbddflokaa
open Go.RowKit

def OpPost (can : Prop) (A' : Wal) (w : World) (e : Ending) (w' : World) : Prop :=
  (can ∧ WalPost A' w e w') ∨ (¬ can ∧ e = .returned (.tuple #[.agg #[.slice none 0 0, .slice none 0 0, .slice none 0 0], .int .i64 16]) ∧ w.grownBy w' none)

set_option maxRecDepth 100000 in
set_option maxHeartbeats 8000000 in
theorem spend_any (x y z : Value) (A : Wal) (X : Int) (B : Nat → Prop) (i : Nat) (cents : Int) (w : World) (ha : WalAt w B x y z A) (hok : WOk A X) (hX : X + cents ≤ 1000000000) (hi : i < 3) (hc1 : 1 ≤ cents) :
    Calls Try.prog 22 #[.agg #[x, y, z], siteV i, .int .i64 cents] w (OpPost (cents ≤ rightsTo A i 3) (putU A i (A.u i + cents)) w) := by
  obtain ⟨dt, hd1⟩ := und_parts (P := Try.prog) (t := 50) (by kernel_rfl)
  have hX0 : 0 ≤ X := by have := hok.r0 0 0 (by omega) (by omega); omega
  have hdec : Hid ((decide (cents < 1) || decide (1000000000 < cents)) = false) := by show _ = _; simp; omega
  obtain ⟨w1, hw1⟩ : ∃ w1, w1 = (w.alloc (.cells #[x, y, z] 50)).alloc (.cells #[.slice none 0 0, .slice none 0 0, .slice none 0 0] 50) := ⟨_, rfl⟩
  have hgR : w.grownBy w1 none := by rw [hw1]; exact gr_alloc (gr_alloc (gr_refl w none) _) _
  have hlt1 : w.heap.size + 1 < w1.heap.size := by rw [hw1]; simp
  have hR1 : w1.heap[w.heap.size + 1]? = some (.cells #[.slice none 0 0, .slice none 0 0, .slice none 0 0] 50 (0, 0)) := by rw [hw1]; simpa using heap_alloc_new (w.alloc (.cells #[x, y, z] 50)) _
  have hP1 : w1.heap[w.heap.size]? = some (.cells #[x, y, z] 50 (0, 0)) := by rw [hw1, heap_alloc_old (h := by simp)]; exact heap_alloc_new w _
  have ha1 := ha.keep0 hgR
  have hgs := gr_alloc (gr_refl w1 none) (.cells #[siteV i] 9)
  have hcs : ∀ k, k < [i].length → (w1.alloc (.cells #[siteV i] 9)).cell? ⟨w1.heap.size, k, none⟩ = some (siteV ([i].getD k 0)) := by
    intro k hk
    obtain rfl : k = 0 := by simpa using hk
    exact made_cell (gr_refl _ _) 0 rfl
  have PL := Lib.hid (places_any x y z A X B [i] w1.heap.size 1 (w1.alloc (.cells #[siteV i] 9)) (ha1.keep0 hgs) hok (by omega) (fun k hk => by simp at hk; omega) hcs (by simp) (by simp))
  have HA := Lib.hid ha1
  have HF := Lib.hid hok.form
  have hri := hok.u0 i hi
  have RT := Lib.hid (fun (w' : World) (h : WalAt w' B x y z A) => rights_any x y z A B i w' h hi (fun a b h1 h2 => by have := hok.r0 a b h1 h2; omega) (fun a h1 => by have := hok.u0 a h1; omega))
  have hrb := rightsTo_bound hok.r0 hok.u0 i hi 3 (by omega)
  obtain ⟨sb, so, sc, rfl, _, _, _⟩ := ha1.s
  obtain ⟨rb, ro, rc, rfl, hrc, _, _⟩ := ha1.r
  obtain ⟨ub, uo, uc, rfl, huc, _, _⟩ := ha1.u
  have HP1 := Lib.hid hP1
  have HR1 := Lib.hid hR1
  obtain ⟨p0, p1, p2, _, _, _⟩ := blk_cells hP1
  obtain ⟨st, hst⟩ := siteV_str i
  rw [hst] at PL hgs
  rw [hst]
  clear ha hok ha1 hcs hP1 hR1
  go_enter Try.func22, Try.ntmps22
  go_wp2_with (fail)
  rw [← hw1, show w.heap.size + 1 + 1 = w1.heap.size by rw [hw1]; simp]
  clear hw1
  refine PL.out.mono ?_
  rintro e w2 ⟨vat, rfl, hat, hg2'⟩
  have hg2 := gr_trans hgs hg2'
  obtain ⟨ga, ca, rfl, hga1, hga2, _, _⟩ := own_some hat (by simp)
  have at0 : w2.cell? ⟨ga, 0, none⟩ = some (.int .i64 i) := by rw [hat.cellAt 0 (by simp)]; rfl
  have hlt0 : w.heap.size < w1.heap.size := by omega
  have q0 := (gr_cell hg2 (lt_of_cell p0)).trans p0
  have q1 := (gr_cell hg2 (lt_of_cell p1)).trans p1
  have q2 := (gr_cell hg2 (lt_of_cell p2)).trans p2
  have HP2 := Lib.hid ((hg2.block w.heap.size hlt0 (by simp)).trans HP1.out)
  have HR2 := Lib.hid ((hg2.block (w.heap.size + 1) hlt1 (by simp)).trans HR1.out)
  have HA2 := Lib.hid (HA.out.keep0 hg2)
  have hgr2 := gr_trans hgR hg2
  have hsz2 := hg2.size
  have hszs : w1.heap.size < (w1.alloc (.cells #[.string st] 9)).heap.size := by simp
  have hgaw : w1.heap.size < ga := by omega
  clear PL p0 p1 p2 hat hg2 hg2' hgs hszs
  go_wp2_with (fail)
  refine (out_any cents 1 1000000000 w2).mono ?_
  rintro e w' ⟨rfl, rfl⟩
  rw [hdec.out]
  obtain ⟨r, hr⟩ : ∃ r, r = rightsTo A i 3 := ⟨_, rfl⟩
  rw [← hr] at RT hrb
  have HRR := Lib.hid hr
  obtain ⟨hrb1, hrb2⟩ := hrb
  clear hr
  have hii : (0 : Int) ≤ (i : Int) := by omega
  have hii3 : (i : Int) < 3 := by omega
  have HA2d := Lib.hid (HA2.out.keep0 (gr_drew (gr_refl w2 none)))
  have hlt2 : w.heap.size < w2.heap.size := by omega
  go_wp2_with (fail)
  go_cut [26] from 27 to 33 (fun s wx => s = .bool (decide (r < cents)) ∧ w2.grownBy wx none)
  case first =>
    go_region_held3 (fun w' => w'.cell? ⟨w.heap.size, 0, none⟩ = some (.slice (some ⟨sb, so, none⟩) 3 sc) ∧ w'.cell? ⟨w.heap.size, 1, none⟩ = some (.slice (some ⟨rb, ro, none⟩) 3 rc) ∧ w'.cell? ⟨w.heap.size, 2, none⟩ = some (.slice (some ⟨ub, uo, none⟩) 3 uc) ∧ w'.cell? ⟨ga, 0, none⟩ = some (.int .i64 i))
      (first | exact ⟨q0, q1, q2, at0⟩ | exact ⟨t0, t1, t2, t3⟩)
      (first | (go_at_call 71; (with_reducible refine (RT.out w2.drew HA2d.out).mono ?_); rintro e wq ⟨rfl, hgq'⟩; have hgq := gr_trans (gr_drew (gr_refl w2 none)) hgq'; have t0 := (gr_cell hgq (lt_of_cell q0)).trans q0; have t1 := (gr_cell hgq (lt_of_cell q1)).trans q1; have t2 := (gr_cell hgq (lt_of_cell q2)).trans q2; have t3 := (gr_cell hgq (lt_of_cell at0)).trans at0)
             | fail)
    all_goals (go_wp2_with (fail))
    all_goals (go_meet; exact ⟨rfl, hgq⟩)
  case rest =>
  obtain ⟨rfl, hgc⟩ := hcut
  have hszc := hgc.size
  replace q0 := (gr_cell hgc (lt_of_cell q0)).trans q0
  replace q1 := (gr_cell hgc (lt_of_cell q1)).trans q1
  replace q2 := (gr_cell hgc (lt_of_cell q2)).trans q2
  replace at0 := (gr_cell hgc (lt_of_cell at0)).trans at0
  replace HP2 := Lib.hid ((hgc.block w.heap.size (by omega) (by simp)).trans HP2.out)
  replace HR2 := Lib.hid ((hgc.block (w.heap.size + 1) (by omega) (by simp)).trans HR2.out)
  replace HA2 := Lib.hid (HA2.out.keep0 hgc)
  replace hgr2 := gr_trans hgr2 hgc
  replace hga2 : ga < wc.heap.size := by omega
  replace hsz2 : w1.heap.size ≤ wc.heap.size := by omega
  clear hgc HA2d hlt2
  clear hszc
  by_cases hcan : r < cents
  · have hb : decide (r < cents) = true := by simpa using hcan
    rw [hb]
    obtain ⟨k0, k1, k2, f0, f1, f2⟩ := blk_cells HR2.out
    clear hb
    go_wp2_with (fail)
    refine bodyPost_ret (results_cell_slot (p := 6) (q := 7) (by kernel_rfl) _ _ (w.heap.size + 1) _ #[.slice none 0 0, .slice none 0 0, .slice none 0 0] _ (.struct dt) _ rfl rfl (set3_heap HR2.out _ _ _) hd1 rfl (by kernel_rfl)) rfl (.inr ⟨by rw [← HRR.out]; omega, rfl, ?_⟩)
    exact gr_grown hgr2 (set3_gr wc (w.heap.size + 1) _ _ _) (fun q hq => by cases hq; omega)
  have hcan' : cents ≤ r := by omega
  have hb : decide (r < cents) = false := by simpa using hcan'
  rw [hb]
  clear hb hcan
  go_wp2_with (fail)
  refine (owned_any _ _ _ A B wc HA2.out HF.out).mono ?_
  rintro e w3 ⟨x3, y3, z3, vs, rfl, how, hg3⟩
  obtain ⟨g0, c0, hy, _, _, _, _⟩ := own_some how.r.outer (by rw [HF.out.lenT]; omega)
  rw [HF.out.lenT] at hy
  obtain ⟨gx, cx, hx, _, _, _, _⟩ := own_some how.s (by omega)
  obtain ⟨gz, cz, hz, r1, r2, hgb, hset⟩ := how.setU i hi
  subst hx hy hz
  have at3 := (gr_cell hg3 (lt_of_cell at0)).trans at0
  have HP3 := Lib.hid ((hg3.block w.heap.size (by omega) (by simp)).trans HP2.out)
  have HR3 := Lib.hid ((hg3.block (w.heap.size + 1) (by omega) (by simp)).trans HR2.out)
  obtain ⟨p0, p1, p2, f0, f1, f2⟩ := blk_cells HP3.out
  have hgr3 := gr_trans hgr2 hg3
  clear q0 q1 q2 at0 hg3 hgr2 hset
  go_wp2_with (fail)
  obtain ⟨w4, hw4⟩ : ∃ w4, w4 = ((w3.setCell ⟨w.heap.size, 0, none⟩ (.slice (some ⟨gx, 0, none⟩) 3 cx)).setCell ⟨w.heap.size, 1, none⟩ (.slice (some ⟨g0, 0, none⟩) 3 c0)).setCell ⟨w.heap.size, 2, none⟩ (.slice (some ⟨gz, 0, none⟩) 3 cz) := ⟨_, rfl⟩
  have hg4 : w3.grownBy w4 (some w.heap.size) := by rw [hw4]; exact set3_gr w3 w.heap.size _ _ _
  have hP4 : w4.heap[w.heap.size]? = some (.cells #[.slice (some ⟨gx, 0, none⟩) 3 cx, .slice (some ⟨g0, 0, none⟩) 3 c0, .slice (some ⟨gz, 0, none⟩) 3 cz] 50 (0, 0)) := by rw [hw4]; exact set3_heap HP3.out _ _ _
  rw [← hw4]
  clear hw4 p0 p1 p2 f0 f1 f2
  obtain ⟨p0, p1, p2, _, _, _⟩ := blk_cells hP4
  have hbase : w.heap.size < wc.heap.size := by omega
  have at4 := (gr_cellS hg4 (lt_of_cell at3) (by omega)).trans at3
  have s1 := (gr_cellS hg4 (lt_of_cell r1) (by omega)).trans r1
  have s2 := (gr_freeS hg4 (lt_of_cell r1) (by omega)).trans r2
  have hR4 := (hg4.block (w.heap.size + 1) (lt_of_block HR3.out) (by simp)).trans HR3.out
  have hg5 : w4.grownBy (w4.drew.setCell ⟨gz, i, none⟩ (.int .i64 (A.u i + cents))) (some gz) := gr_set (q := ⟨gz, i, none⟩) (gr_drew (gr_refl w4 (some gz))) rfl _
  have hR5 := (hg5.block (w.heap.size + 1) (lt_of_block hR4) (by simp; omega)).trans hR4
  have hset4 := (how.keepS hg4 hbase).setU i hi
  obtain ⟨_, _, he, _, _, _, hset5⟩ := hset4
  cases he
  have how5 : WalOwn (w4.drew.setCell ⟨gz, i, none⟩ (.int .i64 (A.u i + cents))) wc.heap.size (.slice (some ⟨gx, 0, none⟩) 3 cx) (.slice (some ⟨g0, 0, none⟩) 3 c0) (.slice (some ⟨gz, 0, none⟩) 3 cz) (putU A i (A.u i + cents)) vs := (hset5 (A.u i + cents)).keep0 (gr_drew (gr_refl _ none))
  have MO := Lib.hid (more_any gz i (A.u i) cents w4.drew s1 s2 hri.1 (by omega) (by omega))
  have u0 := (gr_cellS hg5 (lt_of_cell p0) (by omega)).trans p0
  have u1 := (gr_cellS hg5 (lt_of_cell p1) (by omega)).trans p1
  have u2 := (gr_cellS hg5 (lt_of_cell p2) (by omega)).trans p2
  have u3 := (gr_cellS hg5 (lt_of_cell at4) (by omega)).trans at4
  have HOW5 := Lib.hid how5
  have HR5 := Lib.hid hR5
  have hgr4 := gr_grown hgr3 hg4 (fun q hq => by cases hq; exact Nat.le_refl _)
  have hgr5 := gr_grown hgr4 hg5 (fun q hq => by cases hq; omega)
  clear how how5 hset5 hR5 hR4 hP4 r1 r2 at3 hg4 hg5 HP3 HR3 HP2 HR2 HP1 HR1 HA HA2 hgr3 hgr4
  go_region_held3 (fun w' => w'.cell? ⟨w.heap.size, 0, none⟩ = some (.slice (some ⟨gx, 0, none⟩) 3 cx) ∧ w'.cell? ⟨w.heap.size, 1, none⟩ = some (.slice (some ⟨g0, 0, none⟩) 3 c0) ∧ w'.cell? ⟨w.heap.size, 2, none⟩ = some (.slice (some ⟨gz, 0, none⟩) 3 cz) ∧ w'.cell? ⟨ga, 0, none⟩ = some (.int .i64 i))
    (first | exact ⟨p0, p1, p2, at4⟩ | exact ⟨u0, u1, u2, u3⟩ | exact ⟨v0, v1, v2, v3⟩ | exact ⟨cell_set3' v0 (by omega) _ _ _, cell_set3' v1 (by omega) _ _ _, cell_set3' v2 (by omega) _ _ _, cell_set3' v3 (by omega) _ _ _⟩)
    (first | (go_at_call 70; (with_reducible refine MO.out.mono ?_); rintro e w5 ⟨rfl, rfl⟩)
           | (go_at_call 69; (with_reducible refine (done_ok _ _ _ _ _ _ _ _ _ _).mono ?_); rintro e w6 ⟨rfl, hg6⟩; have v0 := (gr_cell hg6 (lt_of_cell u0)).trans u0; have v1 := (gr_cell hg6 (lt_of_cell u1)).trans u1; have v2 := (gr_cell hg6 (lt_of_cell u2)).trans u2; have v3 := (gr_cell hg6 (lt_of_cell u3)).trans u3; have hR6 := (hg6.block (w.heap.size + 1) (lt_of_block HR5.out) (by simp)).trans HR5.out; obtain ⟨k0, k1, k2, f0, f1, f2⟩ := blk_cells hR6)
           | fail)
  go_wp2_with (fail)
  refine bodyPost_ret (results_cell_slot (p := 6) (q := 7) (by kernel_rfl) _ _ (w.heap.size + 1) _ #[.slice (some ⟨gx, 0, none⟩) 3 cx, .slice (some ⟨g0, 0, none⟩) 3 c0, .slice (some ⟨gz, 0, none⟩) 3 cz] _ (.struct dt) _ rfl rfl (set3_heap hR6 _ _ _) hd1 rfl (by kernel_rfl)) rfl (.inl ⟨by rw [← HRR.out]; exact hcan', _, _, _, vs, rfl, ?_, ?_⟩)
  · exact ((HOW5.out.keep0 hg6).keepS (set3_gr w6 (w.heap.size + 1) _ _ _) (by omega)).low (by omega)
  · exact gr_grown (gr_trans hgr5 hg6) (set3_gr w6 (w.heap.size + 1) _ _ _) (fun q hq => by cases hq; omega)
end Go.Proofs.Ytbgfflbddflokaa
