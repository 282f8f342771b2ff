/- depot.Credit, Give and Spend of a right wallet. -/
import Derived.Test.YtbgfflbddflokaaOwned
import Derived.Test.YtbgfflbddflokaaPlaces
namespace Go.Proofs.Ytbgfflbddflokaa
open Go.RowKit

def putR (A : Wal) (i j : Nat) (v : Int) : Wal := ⟨A.T.set i ((A.T.getD i []).set j v), A.U⟩
def putU (A : Wal) (i : Nat) (v : Int) : Wal := ⟨A.T, A.U.set i v⟩
theorem getD_set' {α : Type} (l : List α) (k j : Nat) (x d : α) (h : k < l.length) : (l.set k x).getD j d = if j = k then x else l.getD j d := by
  rw [List.getD_eq_getElem?_getD, List.getD_eq_getElem?_getD, List.getElem?_set]
  by_cases e : k = j
  · subst e; simp [h]
  · rw [if_neg e, if_neg (fun e2 => e e2.symm)]
theorem putR_form {A : Wal} (h : WForm A) (i j : Nat) (v : Int) (hi : i < 3) : WForm (putR A i j v) := by
  have hT := h.lenT
  refine ⟨by simp [putR, hT], fun k hk => ?_, h.lenU⟩
  show ((A.T.set i _).getD k []).length = 3
  rw [getD_set' _ _ _ _ _ (by omega)]
  split
  · rw [List.length_set]; exact h.lenR i hi
  · exact h.lenR k hk
theorem putR_r {A : Wal} (h : WForm A) (i j : Nat) (v : Int) (hi : i < 3) (hj : j < 3) (a b : Nat) : (putR A i j v).r a b = if a = i ∧ b = j then v else A.r a b := by
  have hT := h.lenT
  have hR := h.lenR i hi
  show ((A.T.set i _).getD a []).getD b 0 = _
  rw [getD_set' _ _ _ _ _ (by omega)]
  by_cases e : a = i
  · subst e
    rw [if_pos rfl, getD_set' _ _ _ _ _ (by omega)]
    by_cases e2 : b = j
    · simp [e2]
    · simp [e2]; rfl
  · simp [e]; rfl
theorem putR_u (A : Wal) (i j : Nat) (v : Int) (a : Nat) : (putR A i j v).u a = A.u a := rfl
theorem putU_form {A : Wal} (h : WForm A) (i : Nat) (v : Int) : WForm (putU A i v) := ⟨h.lenT, h.lenR, by simp [putU, h.lenU]⟩
theorem putU_r (A : Wal) (i : Nat) (v : Int) (a b : Nat) : (putU A i v).r a b = A.r a b := rfl
theorem putU_u {A : Wal} (h : WForm A) (i : Nat) (v : Int) (hi : i < 3) (a : Nat) : (putU A i v).u a = if a = i then v else A.u a := by
  have := h.lenU
  exact getD_set' _ _ _ _ _ (by omega)
/-- A number stored into a row of a wallet that the call owns. -/
theorem WalOwn.setR {w : World} {base : Nat} {x y z : Value} {A : Wal} {vs : List Value} (h : WalOwn w base x y z A vs) (i j : Nat) (hi : i < 3) (hj : j < 3) :
    ∃ g0 c0 g c, y = .slice (some ⟨g0, 0, none⟩) 3 c0 ∧ w.cell? ⟨g0, i, none⟩ = some (.slice (some ⟨g, 0, none⟩) 3 c) ∧ w.cell? ⟨g, j, none⟩ = some (.int .i64 (A.r i j)) ∧ w.frozen? ⟨g, j, none⟩ = false ∧ base ≤ g ∧ g0 ≠ g ∧
      ∀ v, WalOwn (w.setCell ⟨g, j, none⟩ (.int .i64 v)) base x y z (putR A i j v) vs := by
  have hTl := h.f.lenT
  have hl := h.f.lenR i hi
  obtain ⟨g0, c0, hy, h1, h2, h3, h4⟩ := own_some h.r.outer (by omega)
  have hr := h.r
  subst hy
  obtain ⟨_, g, c, he, _, _, hvs, hgb, hgw⟩ := hr.shape i (by omega) (by omega)
  cases he
  obtain ⟨q1, q2, q3, q4⟩ := hr.put i j (by omega) (by omega) hvs
  rw [hl] at q1
  have hin := hr.inner i (by omega)
  have hgo : g0 ≠ g := fun e => own_types hr.outer hin (by decide) g0 rfl (by rw [hvs, e]; rfl)
  refine ⟨g0, c0, g, c, by rw [hTl], q1, q2, q3, hgb, hgo, fun v => ⟨?_, ?_, ?_, putR_form h.f i j v hi, ?_⟩⟩
  · exact own_keep h.s (gr_set (q := ⟨g, j, none⟩) (gr_refl w (some g)) rfl _) (.inr (fun e => own_types h.s hin (by decide) g e (by rw [hvs]; rfl)))
  · exact q4 v
  · exact own_keep h.u (gr_set (q := ⟨g, j, none⟩) (gr_refl w (some g)) rfl _) (.inr (h.ap i hi g (by rw [hvs]; rfl)))
  · exact h.ap
theorem WalOwn.setU {w : World} {base : Nat} {x y z : Value} {A : Wal} {vs : List Value} (h : WalOwn w base x y z A vs) (i : Nat) (hi : i < 3) :
    ∃ g c, z = .slice (some ⟨g, 0, none⟩) 3 c ∧ w.cell? ⟨g, i, none⟩ = some (.int .i64 (A.u i)) ∧ w.frozen? ⟨g, i, none⟩ = false ∧ base ≤ g ∧
      ∀ v, WalOwn (w.setCell ⟨g, i, none⟩ (.int .i64 v)) base x y z (putU A i v) vs := by
  have hTl := h.f.lenT
  obtain ⟨g, c, hz, h1, h2, h3, h4⟩ := own_some h.u (by omega)
  have hu := h.u
  have hap := h.ap
  subst hz
  obtain ⟨d0, d1, d2⟩ := own_int hu i hi
  refine ⟨g, c, rfl, d0, d1, h1, fun v => ⟨?_, ?_, d2 v, putU_form h.f i v, h.ap⟩⟩
  · exact own_keep h.s (gr_set (q := ⟨g, i, none⟩) (gr_refl w (some g)) rfl _) (.inr (fun e => own_types h.s hu (by decide) g e rfl))
  · refine ⟨own_keep h.r.outer (gr_set (q := ⟨g, i, none⟩) (gr_refl w (some g)) rfl _) (.inr (fun e => own_types h.r.outer hu (by decide) g e rfl)), fun k hk => ?_, h.r.apart⟩
    have hk' : k < A.T.length := hk
    exact own_keep (h.r.inner k hk') (gr_set (q := ⟨g, i, none⟩) (gr_refl w (some g)) rfl _) (.inr (fun e => hap k (by omega) g e rfl))
theorem cell_set3' {w : World} {b o g : Nat} {v : Value} (h : w.cell? ⟨b, o, none⟩ = some v) (hn : b ≠ g) (x y z : Value) : (((w.setCell ⟨g, 0, none⟩ x).setCell ⟨g, 1, none⟩ y).setCell ⟨g, 2, none⟩ z).cell? ⟨b, o, none⟩ = some v :=
  cell_set (cell_set (cell_set h hn _) hn _) hn _
theorem siteV_str (i : Nat) : ∃ s, siteV i = .string s := by unfold siteV; split; exact ⟨_, rfl⟩; split <;> exact ⟨_, rfl⟩
def WalPost (A' : Wal) (w : World) (e : Ending) (w' : World) : Prop := ∃ x y z vs, e = .returned (.tuple #[.agg #[x, y, z], .int .i64 0]) ∧ WalOwn w' w.heap.size x y z A' vs ∧ w.grownBy w' none

set_option maxRecDepth 100000 in
set_option maxHeartbeats 8000000 in
theorem credit_any (x y z : Value) (A : Wal) (X : Int) (B : Nat → Prop) (i : Nat) (cents : Int) (w : World) (ha : WalAt w B x y z A) (hok : WOk A X) (hX : X + cents ≤ 1000000000) (hi : i < 3) (hc1 : 1 ≤ cents) :
    Calls Try.prog 20 #[.agg #[x, y, z], siteV i, .int .i64 cents] w (WalPost (putR A i i (A.r i i + cents)) w) := by
  obtain ⟨dt, hd1⟩ := und_parts (P := Try.prog) (t := 50) (by kernel_rfl)
  have hX0 : 0 ≤ X := by have := hok.r0 0 0 (by omega) (by omega); omega
  have hdec : Hid ((decide (cents < 1) || decide (1000000000 < cents)) = false) := by show _ = _; simp; omega
  obtain ⟨w1, hw1⟩ : ∃ w1, w1 = (w.alloc (.cells #[x, y, z] 50)).alloc (.cells #[.slice none 0 0, .slice none 0 0, .slice none 0 0] 50) := ⟨_, rfl⟩
  have hgR : w.grownBy w1 none := by rw [hw1]; exact gr_alloc (gr_alloc (gr_refl w none) _) _
  have hlt1 : w.heap.size + 1 < w1.heap.size := by rw [hw1]; simp
  have hR1 : w1.heap[w.heap.size + 1]? = some (.cells #[.slice none 0 0, .slice none 0 0, .slice none 0 0] 50 (0, 0)) := by rw [hw1]; simpa using heap_alloc_new (w.alloc (.cells #[x, y, z] 50)) _
  have hP1 : w1.heap[w.heap.size]? = some (.cells #[x, y, z] 50 (0, 0)) := by rw [hw1, heap_alloc_old (h := by simp)]; exact heap_alloc_new w _
  have ha1 := ha.keep0 hgR
  have hgs := gr_alloc (gr_refl w1 none) (.cells #[siteV i] 9)
  have hcs : ∀ k, k < [i].length → (w1.alloc (.cells #[siteV i] 9)).cell? ⟨w1.heap.size, k, none⟩ = some (siteV ([i].getD k 0)) := by
    intro k hk
    obtain rfl : k = 0 := by simpa using hk
    exact made_cell (gr_refl _ _) 0 rfl
  have PL := Lib.hid (places_any x y z A X B [i] w1.heap.size 1 (w1.alloc (.cells #[siteV i] 9)) (ha1.keep0 hgs) hok (by omega) (fun k hk => by simp at hk; omega) hcs (by simp) (by simp))
  have HA := Lib.hid ha1
  have HF := Lib.hid hok.form
  have hri := hok.r0 i i hi hi
  obtain ⟨sb, so, sc, rfl, _, _, _⟩ := ha1.s
  obtain ⟨rb, ro, rc, rfl, hrc, _, _⟩ := ha1.r
  obtain ⟨ub, uo, uc, rfl, huc, _, _⟩ := ha1.u
  have HP1 := Lib.hid hP1
  have HR1 := Lib.hid hR1
  obtain ⟨p0, p1, p2, _, _, _⟩ := blk_cells hP1
  obtain ⟨st, hst⟩ := siteV_str i
  rw [hst] at PL hgs
  rw [hst]
  clear ha hok ha1 hcs hP1 hR1
  go_enter Try.func20, Try.ntmps20
  go_wp2_with (fail)
  rw [← hw1, show w.heap.size + 1 + 1 = w1.heap.size by rw [hw1]; simp]
  clear hw1
  refine PL.out.mono ?_
  rintro e w2 ⟨vat, rfl, hat, hg2'⟩
  have hg2 := gr_trans hgs hg2'
  obtain ⟨ga, ca, rfl, hga1, hga2, _, _⟩ := own_some hat (by simp)
  have at0 : w2.cell? ⟨ga, 0, none⟩ = some (.int .i64 i) := by rw [hat.cellAt 0 (by simp)]; rfl
  have hlt0 : w.heap.size < w1.heap.size := by omega
  have q0 := (gr_cell hg2 (lt_of_cell p0)).trans p0
  have q1 := (gr_cell hg2 (lt_of_cell p1)).trans p1
  have q2 := (gr_cell hg2 (lt_of_cell p2)).trans p2
  have HP2 := Lib.hid ((hg2.block w.heap.size hlt0 (by simp)).trans HP1.out)
  have HR2 := Lib.hid ((hg2.block (w.heap.size + 1) hlt1 (by simp)).trans HR1.out)
  have HA2 := Lib.hid (HA.out.keep0 hg2)
  have hgr2 := gr_trans hgR hg2
  have hsz2 := hg2.size
  have hszs : w1.heap.size < (w1.alloc (.cells #[.string st] 9)).heap.size := by simp
  have hgaw : w1.heap.size < ga := by omega
  clear PL p0 p1 p2 hat hg2 hg2' hgs hszs
  go_wp2_with (fail)
  refine (out_any cents 1 1000000000 w2).mono ?_
  rintro e w' ⟨rfl, rfl⟩
  rw [hdec.out]
  go_wp2_with (fail)
  refine (owned_any _ _ _ A B w2 HA2.out HF.out).mono ?_
  rintro e w3 ⟨x3, y3, z3, vs, rfl, how, hg3⟩
  obtain ⟨g0, c0, g, c, hy, r0, r1, r2, hgb, hgne, hset⟩ := how.setR i i hi hi
  obtain ⟨gx, cx, hx, _, _, _, _⟩ := own_some how.s (by omega)
  obtain ⟨gz, cz, hz, _, _, _, _⟩ := own_some how.u (by omega)
  subst hx hy hz
  have at3 := (gr_cell hg3 (lt_of_cell at0)).trans at0
  have HP3 := Lib.hid ((hg3.block w.heap.size (by omega) (by simp)).trans HP2.out)
  have HR3 := Lib.hid ((hg3.block (w.heap.size + 1) (by omega) (by simp)).trans HR2.out)
  obtain ⟨p0, p1, p2, f0, f1, f2⟩ := blk_cells HP3.out
  have hgr3 := gr_trans hgr2 hg3
  have HW := Lib.hid (hset (A.r i i + cents))
  clear q0 q1 q2 at0 hg3 hgr2 hset
  go_wp2_with (fail)
  obtain ⟨w4, hw4⟩ : ∃ w4, w4 = ((w3.setCell ⟨w.heap.size, 0, none⟩ (.slice (some ⟨gx, 0, none⟩) 3 cx)).setCell ⟨w.heap.size, 1, none⟩ (.slice (some ⟨g0, 0, none⟩) 3 c0)).setCell ⟨w.heap.size, 2, none⟩ (.slice (some ⟨gz, 0, none⟩) 3 cz) := ⟨_, rfl⟩
  have hg4 : w3.grownBy w4 (some w.heap.size) := by rw [hw4]; exact set3_gr w3 w.heap.size _ _ _
  have hP4 : w4.heap[w.heap.size]? = some (.cells #[.slice (some ⟨gx, 0, none⟩) 3 cx, .slice (some ⟨g0, 0, none⟩) 3 c0, .slice (some ⟨gz, 0, none⟩) 3 cz] 50 (0, 0)) := by rw [hw4]; exact set3_heap HP3.out _ _ _
  rw [← hw4]
  clear hw4 p0 p1 p2 f0 f1 f2
  obtain ⟨p0, p1, p2, _, _, _⟩ := blk_cells hP4
  have hbase : w.heap.size < w2.heap.size := by omega
  have hg0b : w2.heap.size ≤ g0 := (how.r.outer.lt g0 rfl).1
  have at4 := (gr_cellS hg4 (lt_of_cell at3) (by omega)).trans at3
  have s0 := (gr_cellS hg4 (lt_of_cell r0) (by omega)).trans r0
  have s1 := (gr_cellS hg4 (lt_of_cell r1) (by omega)).trans r1
  have s2 := (gr_freeS hg4 (lt_of_cell r1) (by omega)).trans r2
  have hR4 := (hg4.block (w.heap.size + 1) (lt_of_block HR3.out) (by simp)).trans HR3.out
  have hg5 : w4.grownBy (w4.drew.setCell ⟨g, i, none⟩ (.int .i64 (A.r i i + cents))) (some g) := gr_set (q := ⟨g, i, none⟩) (gr_drew (gr_refl w4 (some g))) rfl _
  have hR5 := (hg5.block (w.heap.size + 1) (lt_of_block hR4) (by simp; omega)).trans hR4
  have hset4 := (how.keepS hg4 hbase).setR i i hi hi
  obtain ⟨_, _, g', _, he, r0', _, _, _, _, hset5⟩ := hset4
  cases he
  rw [s0] at r0'
  cases r0'
  have how5 : WalOwn (w4.drew.setCell ⟨g, i, none⟩ (.int .i64 (A.r i i + cents))) w2.heap.size (.slice (some ⟨gx, 0, none⟩) 3 cx) (.slice (some ⟨g0, 0, none⟩) 3 c0) (.slice (some ⟨gz, 0, none⟩) 3 cz) (putR A i i (A.r i i + cents)) vs := (hset5 (A.r i i + cents)).keep0 (gr_drew (gr_refl _ none))
  have MO := Lib.hid (more_any g i (A.r i i) cents w4.drew s1 s2 hri.1 (by omega) (by omega))
  have u0 := (gr_cellS hg5 (lt_of_cell p0) (by omega)).trans p0
  have u1 := (gr_cellS hg5 (lt_of_cell p1) (by omega)).trans p1
  have u2 := (gr_cellS hg5 (lt_of_cell p2) (by omega)).trans p2
  have u3 := (gr_cellS hg5 (lt_of_cell at4) (by omega)).trans at4
  have u4 := (gr_cellS hg5 (lt_of_cell s0) hgne).trans s0
  have HOW5 := Lib.hid how5
  have HR5 := Lib.hid hR5
  have hgr4 := gr_grown hgr3 hg4 (fun q hq => by cases hq; exact Nat.le_refl _)
  have hgr5 := gr_grown hgr4 hg5 (fun q hq => by cases hq; omega)
  have hii : (0 : Int) ≤ (i : Int) := by omega
  have hii3 : (i : Int) < 3 := by omega
  clear how how5 hset5 hR5 hR4 hP4 HW r0 r1 r2 at3 hg4 hg5 HP3 HR3 HP2 HR2 HP1 HR1 HA HA2 hgr3 hgr4
  go_region_held3 (fun w' => w'.cell? ⟨w.heap.size, 0, none⟩ = some (.slice (some ⟨gx, 0, none⟩) 3 cx) ∧ w'.cell? ⟨w.heap.size, 1, none⟩ = some (.slice (some ⟨g0, 0, none⟩) 3 c0) ∧ w'.cell? ⟨w.heap.size, 2, none⟩ = some (.slice (some ⟨gz, 0, none⟩) 3 cz) ∧ w'.cell? ⟨ga, 0, none⟩ = some (.int .i64 i) ∧ w'.cell? ⟨g0, i, none⟩ = some (.slice (some ⟨g, 0, none⟩) 3 c))
    (first | exact ⟨p0, p1, p2, at4, s0⟩ | exact ⟨u0, u1, u2, u3, u4⟩ | exact ⟨v0, v1, v2, v3, v4⟩ | exact ⟨cell_set3' v0 (by omega) _ _ _, cell_set3' v1 (by omega) _ _ _, cell_set3' v2 (by omega) _ _ _, cell_set3' v3 (by omega) _ _ _, cell_set3' v4 (by omega) _ _ _⟩)
    (first | (go_at_call 70; (with_reducible refine MO.out.mono ?_); rintro e w5 ⟨rfl, rfl⟩)
           | (go_at_call 69; (with_reducible refine (done_ok _ _ _ _ _ _ _ _ _ _).mono ?_); rintro e w6 ⟨rfl, hg6⟩; have v0 := (gr_cell hg6 (lt_of_cell u0)).trans u0; have v1 := (gr_cell hg6 (lt_of_cell u1)).trans u1; have v2 := (gr_cell hg6 (lt_of_cell u2)).trans u2; have v3 := (gr_cell hg6 (lt_of_cell u3)).trans u3; have v4 := (gr_cell hg6 (lt_of_cell u4)).trans u4; have hR6 := (hg6.block (w.heap.size + 1) (lt_of_block HR5.out) (by simp)).trans HR5.out; obtain ⟨k0, k1, k2, f0, f1, f2⟩ := blk_cells hR6)
           | fail)
  go_wp2_with (fail)
  refine bodyPost_ret (results_cell_slot (p := 6) (q := 7) (by kernel_rfl) _ _ (w.heap.size + 1) _ #[.slice (some ⟨gx, 0, none⟩) 3 cx, .slice (some ⟨g0, 0, none⟩) 3 c0, .slice (some ⟨gz, 0, none⟩) 3 cz] _ (.struct dt) _ rfl rfl (set3_heap hR6 _ _ _) hd1 rfl (by kernel_rfl)) rfl ⟨_, _, _, vs, rfl, ?_, ?_⟩
  · exact ((HOW5.out.keep0 hg6).keepS (set3_gr w6 (w.heap.size + 1) _ _ _) (by omega)).low (by omega)
  · exact gr_grown (gr_trans hgr5 hg6) (set3_gr w6 (w.heap.size + 1) _ _ _) (fun q hq => by cases hq; omega)
end Go.Proofs.Ytbgfflbddflokaa
