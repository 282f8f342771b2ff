/- depot.owned: a copy of a wallet. -/
import Derived.Test.YtakabckmiodjaaaDoorPkDAi
import Derived.Test.YtakabckmiodjaaaDoorPkDAc
import Derived.Test.YtakabckmiodjaaaDoorPkDAj
import Derived.Deep.CutRange
namespace Go.Proofs.YtakabckmiodjaaaDoor
open Go.RowKit

def siteVs : List Value := [siteV 0, siteV 1, siteV 2]
/-- A wallet that the call owns. -/
structure WalOwn (w : World) (base : Nat) (x y z : Value) (A : Wal) (vs : List Value) : Prop where
  s : w.ownsRow base 9 1 x 3 siteVs
  r : OwnRows w base y A.T vs
  u : w.ownsRow base 3 1 z 3 (ints A.U)
  f : WForm A
  ap : ∀ i, i < 3 → ∀ g, (vs.getD i undef).ownBlock = some g → z.ownBlock ≠ some g
theorem siteVs_at (i : Nat) (h : i < 3) : siteVs[i]? = some (siteV i) := by
  obtain rfl | rfl | rfl : i = 0 ∨ i = 1 ∨ i = 2 := by omega
  all_goals rfl
theorem WalOwn.at {w : World} {base : Nat} {x y z : Value} {A : Wal} {vs : List Value} (h : WalOwn w base x y z A vs) : WalAt w (fun b => base ≤ b) x y z A := by
  refine ⟨?_, ?_, ?_⟩
  · obtain ⟨g, c, rfl, h1, h2, h3, h4⟩ := own_some h.s (by omega)
    refine ⟨g, 0, c, rfl, h4, h1, fun i hi => ?_⟩
    rw [Nat.zero_add]
    exact (h.s.cellAt i (by simp; omega)).trans (siteVs_at i hi)
  · have hTl := h.f.lenT
    obtain ⟨g, c, he, h1, h2, h3, h4⟩ := own_some h.r.outer (by omega)
    have hr := h.r
    subst he
    refine ⟨g, 0, c, by rw [hTl], h4, h1, fun i hi => ?_⟩
    have hl := h.f.lenR i hi
    obtain ⟨_, g2, c2, he2, _, _, hvs, hb2, hw2⟩ := hr.shape i (by omega) (by omega)
    cases he2
    have hin := hr.inner i (by omega)
    rw [hvs] at hin
    obtain ⟨g6, c6, he6, hb6, hw6, hc6, hm6⟩ := own_some hin (by omega)
    cases he6
    have hvl := hr.vlen
    have ho := hr.outer.cellAt i (by omega)
    rw [List.getD_eq_getElem?_getD] at hvs
    have hvi : vs[i]? = some (Value.slice (some ⟨g2, 0, none⟩) (A.T.getD i []).length c2) := by
      rw [List.getElem?_eq_getElem (by omega)] at hvs ⊢
      simpa using hvs
    rw [hvi, hl] at ho
    refine ⟨g2, 0, c2, by rw [Nat.zero_add]; exact ho, hm6, hb2, fun j hj => ?_⟩
    rw [Nat.zero_add, hin.cellAt j (by omega)]
    exact ints_at _ j (by omega)
  · obtain ⟨g, c, rfl, h1, h2, h3, h4⟩ := own_some h.u (by omega)
    refine ⟨g, 0, c, rfl, h4, h1, fun i hi => ?_⟩
    have hl := h.f.lenU
    rw [Nat.zero_add, h.u.cellAt i (by simp; omega)]
    exact ints_at _ i (by omega)
theorem WalOwn.keepS {w w1 : World} {base p : Nat} {x y z : Value} {A : Wal} {vs : List Value} (h : WalOwn w base x y z A vs) (g : w.grownBy w1 (some p)) (hp : p < base) : WalOwn w1 base x y z A vs :=
  ⟨own_keepS h.s g hp, h.r.keepS g hp, own_keepS h.u g hp, h.f, h.ap⟩
theorem WalOwn.keep0 {w w1 : World} {base : Nat} {x y z : Value} {A : Wal} {vs : List Value} (h : WalOwn w base x y z A vs) (g : w.grownBy w1 none) : WalOwn w1 base x y z A vs :=
  ⟨own_keep0 h.s g, h.r.keep0 g, own_keep0 h.u g, h.f, h.ap⟩
theorem WalOwn.low {w : World} {base base' : Nat} {x y z : Value} {A : Wal} {vs : List Value} (h : WalOwn w base x y z A vs) (hb : base' ≤ base) : WalOwn w base' x y z A vs :=
  ⟨own_base h.s hb, h.r.low hb, own_base h.u hb, h.f, h.ap⟩
/-- An owned row lies in another block than one of another type. -/
theorem own_other {w : World} {base e size n g : Nat} {v : Value} {xs : List Value} {cs : Array Value} {t : Nat} (h : w.ownsRow base e size v n xs) (hg : w.heap[g]? = some (.cells cs t (0, 0))) (hne : e ≠ t) : v.ownBlock ≠ some g := by
  rcases h.2 with ⟨rfl, _⟩ | ⟨g', cap, cur, rfl, _, hh, _⟩
  · simp [Value.ownBlock]
  · intro he
    have : g' = g := by simpa [Value.ownBlock] using he
    subst this
    rw [hg] at hh
    injection hh with hh
    injection hh with _ ht
    exact hne ht.symm
theorem set3_heap {w : World} {g t : Nat} {a b c : Value} (h : w.heap[g]? = some (.cells #[a, b, c] t (0, 0))) (x y z : Value) : (((w.setCell ⟨g, 0, none⟩ x).setCell ⟨g, 1, none⟩ y).setCell ⟨g, 2, none⟩ z).heap[g]? = some (.cells #[x, y, z] t (0, 0)) := by
  have h1 := heap_setCell_same w g 0 _ t x h
  have h2 := heap_setCell_same _ g 1 _ t y h1
  exact heap_setCell_same _ g 2 _ t z h2
theorem set3_gr (w : World) (g : Nat) (x y z : Value) : w.grownBy (((w.setCell ⟨g, 0, none⟩ x).setCell ⟨g, 1, none⟩ y).setCell ⟨g, 2, none⟩ z) (some g) :=
  gr_set (q := ⟨g, 2, none⟩) (gr_set (q := ⟨g, 1, none⟩) (gr_set (q := ⟨g, 0, none⟩) (gr_refl w (some g)) rfl _) rfl _) rfl _
/-- A wallet's variable is filled: what is owned beside it stays. -/
theorem wal_fill {w0 w : World} {g : Nat} {a b c x z : Value} {xs zs : List Value} (hg : w.heap[g]? = some (.cells #[a, b, c] 29 (0, 0))) (hle : w0.heap.size ≤ g) (hx : w.ownsRow w0.heap.size 9 1 x 3 xs) (hz : w.ownsRow w0.heap.size 3 1 z 3 zs) (hgr : w0.grownBy w none) (y : Value) :
    (((w.setCell ⟨g, 0, none⟩ x).setCell ⟨g, 1, none⟩ y).setCell ⟨g, 2, none⟩ z).heap[g]? = some (.cells #[x, y, z] 29 (0, 0)) ∧
    (((w.setCell ⟨g, 0, none⟩ x).setCell ⟨g, 1, none⟩ y).setCell ⟨g, 2, none⟩ z).ownsRow w0.heap.size 9 1 x 3 xs ∧ (((w.setCell ⟨g, 0, none⟩ x).setCell ⟨g, 1, none⟩ y).setCell ⟨g, 2, none⟩ z).ownsRow w0.heap.size 3 1 z 3 zs ∧ w0.grownBy (((w.setCell ⟨g, 0, none⟩ x).setCell ⟨g, 1, none⟩ y).setCell ⟨g, 2, none⟩ z) none :=
  ⟨set3_heap hg x y z, own_keep hx (set3_gr w g x y z) (.inr (own_other hx hg (by decide))), own_keep hz (set3_gr w g x y z) (.inr (own_other hz hg (by decide))), gr_grown hgr (set3_gr w g x y z) (fun k hk => by cases hk; exact hle)⟩
theorem blk_cells {w : World} {g t : Nat} {a b c : Value} (h : w.heap[g]? = some (.cells #[a, b, c] t (0, 0))) : w.cell? ⟨g, 0, none⟩ = some a ∧ w.cell? ⟨g, 1, none⟩ = some b ∧ w.cell? ⟨g, 2, none⟩ = some c ∧ w.frozen? ⟨g, 0, none⟩ = false ∧ w.frozen? ⟨g, 1, none⟩ = false ∧ w.frozen? ⟨g, 2, none⟩ = false := by
  simp [World.cell?, World.frozen?, h]
theorem cell_set3 {w : World} {b o g : Nat} {v : Value} (h : w.cell? ⟨b, o, none⟩ = some v) (hn : b < g) (x y z : Value) : (((w.setCell ⟨g, 0, none⟩ x).setCell ⟨g, 1, none⟩ y).setCell ⟨g, 2, none⟩ z).cell? ⟨b, o, none⟩ = some v :=
  cell_set (cell_set (cell_set h (by omega) _) (by omega) _) (by omega) _
def OwnedPost (A : Wal) (w : World) (e : Ending) (w' : World) : Prop := ∃ x y z vs, e = .returned (.agg #[x, y, z]) ∧ WalOwn w' w.heap.size x y z A vs ∧ w.grownBy w' none

set_option maxRecDepth 100000 in
set_option maxHeartbeats 12000000 in
theorem owned_any (x y z : Value) (A : Wal) (B : Nat → Prop) (w : World) (ha : WalAt w B x y z A) (hf : WForm A) :
    Calls Tryd.prog 28 #[.agg #[x, y, z]] w (OwnedPost A w) := by
  obtain ⟨dt, hd1⟩ := und_parts (P := Tryd.prog) (t := 29) (by kernel_rfl)
  have hgP := gr_alloc (gr_refl w none) (.cells #[x, y, z] 29)
  have hgR := gr_alloc hgP (.cells #[.slice none 0 0, .slice none 0 0, .slice none 0 0] 29)
  obtain ⟨w1, hw1⟩ : ∃ w1, w1 = (w.alloc (.cells #[x, y, z] 29)).alloc (.cells #[.slice none 0 0, .slice none 0 0, .slice none 0 0] 29) := ⟨_, rfl⟩
  rw [← hw1] at hgR
  have hlt1 : w.heap.size + 1 < w1.heap.size := by rw [hw1]; simp
  have hlt0 : w.heap.size < w1.heap.size := by omega
  have hR1 : w1.heap[w.heap.size + 1]? = some (.cells #[.slice none 0 0, .slice none 0 0, .slice none 0 0] 29 (0, 0)) := by rw [hw1]; simpa using heap_alloc_new (w.alloc (.cells #[x, y, z] 29)) _
  have hga : (w.alloc (.cells #[x, y, z] 29)).grownBy w1 none := by rw [hw1]; exact gr_alloc (gr_refl _ _) _
  have p0 : w1.cell? ⟨w.heap.size, 0, none⟩ = some x := made_cell hga 0 rfl
  have p1 : w1.cell? ⟨w.heap.size, 1, none⟩ = some y := made_cell hga 1 rfl
  have p2 : w1.cell? ⟨w.heap.size, 2, none⟩ = some z := made_cell hga 2 rfl
  have ha1 := ha.keep0 hgR
  obtain ⟨sb, so, sc, rfl, _, _, hs⟩ := ha1.s
  obtain ⟨rb, ro, rc, rfl, hrows⟩ := ha1.rows hf
  obtain ⟨ub, uo, uc, rfl, huc, hu⟩ := ha1.used hf
  have hsc : CellsAt w1 (some ⟨sb, so, none⟩) siteVs := by
    intro j v hj
    have hj3 : j < 3 := by have := (List.getElem?_eq_some_iff.1 hj).1; simpa [siteVs] using this
    rw [siteVs_at j hj3] at hj
    cases hj
    exact ⟨sb, so, rfl, hs j hj3⟩
  have hgd := gr_drew (gr_refl w1 none)
  have CS : Hid (∀ w', w1.grownBy w' none → Calls Tryd.prog 59 #[.slice (some ⟨sb, so, none⟩) 3 sc] w' fun e w2 => ∃ g c, e = .returned (.slice (some ⟨g, 0, none⟩) 3 c) ∧ w2.ownsRow w1.heap.size 9 1 (.slice (some ⟨g, 0, none⟩) 3 c) 3 siteVs ∧ w1.grownBy w2 none ∧ w'.grownBy w2 none ∧ ∀ (b : Nat) (o : Obj), w'.heap[b]? = some o → w2.heap[b]? = some o) := by
    intro w' h
    refine (cloneStr_any (some ⟨sb, so, none⟩) 3 sc siteVs w' rfl (hsc.keep0 h) (fun h => by cases h) (fun u hu => by simp only [siteVs, List.mem_cons, List.not_mem_nil, or_false] at hu; rcases hu with rfl | rfl | rfl <;> rfl) (by omega)).mono ?_
    rintro e w2 ⟨v, rfl, ho, hg⟩
    obtain ⟨g, c, rfl, _, _, _, _⟩ := own_some ho (by omega)
    exact ⟨g, c, rfl, own_base ho h.size, gr_trans h hg, hg, fun b o hb => (hg.block b (lt_of_block hb) (by simp)).trans hb⟩
  have CU : Hid (∀ w', w1.grownBy w' none → Calls Tryd.prog 65 #[.slice (some ⟨ub, uo, none⟩) 3 uc] w' fun e w2 => ∃ g c, e = .returned (.slice (some ⟨g, 0, none⟩) 3 c) ∧ w2.ownsRow w1.heap.size 3 1 (.slice (some ⟨g, 0, none⟩) 3 c) 3 (ints A.U) ∧ w1.grownBy w2 none ∧ w'.grownBy w2 none ∧ ∀ (b : Nat) (o : Obj), w'.heap[b]? = some o → w2.heap[b]? = some o) := by
    intro w' h
    refine (cloneInt_any (some ⟨ub, uo, none⟩) 3 uc (ints A.U) w' (by simp [ints, hf.lenU]) (hu.keep0 h) (fun h => by cases h) (ints_one A.U) (by omega)).mono ?_
    rintro e w2 ⟨v, rfl, ho, hg⟩
    obtain ⟨g, c, rfl, _, _, _, _⟩ := own_some ho (by omega)
    exact ⟨g, c, rfl, own_base ho h.size, gr_trans h hg, hg, fun b o hb => (hg.block b (lt_of_block hb) (by simp)).trans hb⟩
  have HROWS := Lib.hid hrows
  have HF := Lib.hid hf
  clear ha ha1 hs hrows hf hsc hu hga hgP
  go_enter Tryd.func28, Tryd.ntmps28
  go_wp2_with (fail)
  rw [← hw1]
  clear hw1
  go_cut [3] from 6 to 12 (fun s wx => ∃ (g : Nat) (x2 z2 : Value), s = .pointer (some ⟨g, 0, none⟩) ∧ w1.heap.size ≤ g ∧ wx.heap[g]? = some (.cells #[x2, .slice none 0 0, z2] 29 (0, 0)) ∧ wx.ownsRow w1.heap.size 9 1 x2 3 siteVs ∧ wx.ownsRow w1.heap.size 3 1 z2 3 (ints A.U) ∧ w1.grownBy wx none)
  case first =>
    go_region_law (first | (go_simp; go_at_call 65; revert hx3; intro hx3; (with_reducible refine (CU.out _ ?_).mono ?_); (· first | exact hg3 | exact gr_alloc hg3 _); rintro e w4 ⟨gz, cz, rfl, hz4, hg4, hg4', hk4⟩; have hg34 : w3.grownBy w4 none := (by first | exact hg4' | exact gr_trans (gr_alloc (gr_refl w3 none) _) hg4'); have hx4 := own_keep0 hx3 hg34; have hs4 := hg4.size; have hw4 : w.heap.size < w4.heap.size := (by omega); (try (have hb4 := hk4 _ _ hb3; obtain ⟨k0, k1, k2, f0, f1, f2⟩ := blk_cells hb4)); (try (have hb4 := hk4 _ _ (heap_alloc_new w3 _); obtain ⟨k0, k1, k2, f0, f1, f2⟩ := blk_cells hb4)); have t0 := (gr_cell hg4 (lt_of_cell p0)).trans p0; have t2 := (gr_cell hg4 (lt_of_cell p2)).trans p2)
                         | (go_simp; go_at_call 59; revert hz3; intro hz3; (with_reducible refine (CS.out _ ?_).mono ?_); (· first | exact hg3 | exact gr_alloc hg3 _); rintro e w4 ⟨gx, cx, rfl, hx4, hg4, hg4', hk4⟩; have hg34 : w3.grownBy w4 none := (by first | exact hg4' | exact gr_trans (gr_alloc (gr_refl w3 none) _) hg4'); have hz4 := own_keep0 hz3 hg34; have hs4 := hg4.size; have hw4 : w.heap.size < w4.heap.size := (by omega); (try (have hb4 := hk4 _ _ hb3; obtain ⟨k0, k1, k2, f0, f1, f2⟩ := blk_cells hb4)); (try (have hb4 := hk4 _ _ (heap_alloc_new w3 _); obtain ⟨k0, k1, k2, f0, f1, f2⟩ := blk_cells hb4)); have t0 := (gr_cell hg4 (lt_of_cell p0)).trans p0; have t2 := (gr_cell hg4 (lt_of_cell p2)).trans p2)
                         | (go_simp; go_at_call 59; (with_reducible refine (CS.out _ ?_).mono ?_); (· first | exact hgd | exact gr_alloc hgd _); rintro e w3 ⟨gx, cx, rfl, hx3, hg3, _, hk3⟩; have hs3 := hg3.size; have hw3 : w.heap.size < w3.heap.size := (by omega); (try (have hb3 : w3.heap[w1.heap.size]? = _ := hk3 _ _ (heap_alloc_new w1.drew _); obtain ⟨k0, k1, k2, f0, f1, f2⟩ := blk_cells hb3)); have q0 := (gr_cell hg3 (lt_of_cell p0)).trans p0; have q2 := (gr_cell hg3 (lt_of_cell p2)).trans p2)
                         | (go_simp; go_at_call 65; (with_reducible refine (CU.out _ ?_).mono ?_); (· first | exact hgd | exact gr_alloc hgd _); rintro e w3 ⟨gz, cz, rfl, hz3, hg3, _, hk3⟩; have hs3 := hg3.size; have hw3 : w.heap.size < w3.heap.size := (by omega); (try (have hb3 : w3.heap[w1.heap.size]? = _ := hk3 _ _ (heap_alloc_new w1.drew _); obtain ⟨k0, k1, k2, f0, f1, f2⟩ := blk_cells hb3)); have q0 := (gr_cell hg3 (lt_of_cell p0)).trans p0; have q2 := (gr_cell hg3 (lt_of_cell p2)).trans p2)
                         | fail)
    all_goals (go_wp2_with (fail))
    all_goals (go_meet; refine ⟨_, .slice (some ⟨gx, 0, none⟩) 3 cx, .slice (some ⟨gz, 0, none⟩) 3 cz, rfl, ?_, ?_, ?_, ?_, ?_⟩)
    all_goals first
      | omega
      | exact set3_heap hb4 _ _ _
      | exact heap_alloc_new w4 _
      | exact own_keep hx4 (set3_gr w4 _ _ _ _) (.inr (own_other hx4 hb4 (by decide)))
      | exact own_keep hz4 (set3_gr w4 _ _ _ _) (.inr (own_other hz4 hb4 (by decide)))
      | exact hx4.alloc _
      | exact hz4.alloc _
      | exact gr_grown hg4 (set3_gr w4 _ _ _ _) (fun k hk => by cases hk; omega)
      | exact gr_alloc hg4 _
  case rest =>
  obtain ⟨g, x2, z2, rfl, hgle, hgb, hx, hz, hgc⟩ := hcut
  have p1' := (gr_cell hgc (lt_of_cell p1)).trans p1
  have hR2 := (hgc.block (w.heap.size + 1) hlt1 (by simp)).trans hR1
  have hglt := lt_of_block hgb
  have HX := Lib.hid hx
  have HZ := Lib.hid hz
  have HR2 := Lib.hid hR2
  have HGR := Lib.hid hgR
  clear p0 p1 p2 hgd hx hz hR2 hR1 CS CU hgR
  go_wp2_with (fail)
  go_loopw [16] (fun i wr => ∃ (k : Nat) (v : Value) (vs : List Value), k ≤ 3 ∧ i = .int .i64 k ∧ wr.heap[g]? = some (.cells #[x2, v, z2] 29 (0, 0)) ∧ OwnRows wr wc.heap.size v (A.T.take k) vs ∧ wc.grownBy wr (some g)) (fun i _ => 3 - (intOf i).toNat)
  case atStart => exact ⟨0, _, _, by omega, rfl, hgb, OwnRows.nil _ _, gr_refl _ _⟩
  case round =>
    obtain ⟨k, v, vs, hk, rfl, hb, hrows, hgr⟩ := hrel
    obtain ⟨wo, rfl⟩ : ∃ wo : World, wo = wr := ⟨_, rfl⟩
    by_cases hlt : k < 3
    · obtain ⟨ra, rc2, d1, d2, d3⟩ := HROWS.out k hlt
      have hlr := HF.out.lenR k hlt
      have hg1o : w1.grownBy wo none := gr_grown hgc hgr (fun q hq => by cases hq; exact hgle)
      have d1o := (gr_cell hg1o (lt_of_cell d1)).trans d1
      have d2o := d2.keep0 hg1o
      rw [hlr] at d1o
      have hnx : A.T.take (k + 1) = A.T.take k ++ [A.T.getD k []] := by
        have hkT : k < A.T.length := by have := HF.out.lenT; omega
        rw [List.take_succ_eq_append_getElem hkT, getD_eq _ _ _ hkT]
      have hTk : (A.T.take k).length = k := by have := HF.out.lenT; simp; omega
      obtain ⟨R, hR⟩ : ∃ R, R = A.T.getD k [] := ⟨_, rfl⟩
      obtain ⟨T, hT⟩ : ∃ T, T = A.T.take k := ⟨_, rfl⟩
      rw [← hR] at d2o hlr hnx
      rw [← hT] at hrows hTk hnx
      have CI := Lib.hid (cloneInt_any ra 3 rc2 (ints R) wo.drew (by simp [ints, hlr]) (d2o.keep0 (gr_drew (gr_refl _ _))) (fun h => by have := d3 h; obtain ⟨_, _, e, _⟩ := d2 0 _ (ints_get _ 0 (by rw [← hR]; omega)); rw [h] at e; cases e) (ints_one R) (by omega))
      have HNX := Lib.hid hnx
      have HTK := Lib.hid hTk
      have HLR := Lib.hid hlr
      have hszo := hgr.size
      have hgd := gr_drew (gr_refl wo none)
      obtain ⟨k0, k1, k2, f0, f1, f2⟩ := blk_cells hb
      have hout := hrows.outer
      rw [hTk] at hout
      have HROW := Lib.hid hrows
      have HB := Lib.hid hb
      have hvo := own_other hout hb (by decide)
      have HVO := Lib.hid hvo
      have hvl := hrows.vlen
      clear d1 d2 d3 d2o hR hT hnx hTk hlr hrows hb hvo k0 k2 f0 f2
      go_wp2_with (fail)
      go_region_law (first | (refine step_app1 eRows rfl _ _ rfl wc.heap.size _ k vs rfl w3 _ rfl hout3 _ rfl rfl rfl rfl ?_ ?_ ?_; (· omega); (· omega); intro v6 w6 hown6 hg6 hlt6 hk6; have hb6 := (hg6.block g hg3lt (fun e => hvo3 e.symm)).trans hb3; obtain ⟨_, m1, _, _, n1, _⟩ := blk_cells hb6; obtain ⟨g6, c6, rfl, _, _, _, _⟩ := own_some hown6 (by omega))
                           | (go_simp; go_at_call 65; (with_reducible refine CI.out.mono ?_); rintro e w3 ⟨v3, rfl, hown3, hg3'⟩; obtain ⟨g3, c3, rfl, _, _, _, _⟩ := own_some hown3 (by omega); have hg3 := gr_trans hgd hg3'; have hout3 := own_keep0 hout hg3; have hsz3 := hg3.size; have hb3 := (hg3.block g (lt_of_block HB.out) (by simp)).trans HB.out; have hg3lt := lt_of_block hb3; have hvo3 := HVO.out; have k1 := (gr_cell hg3 (lt_of_cell k1)).trans k1)
                           | fail)
      all_goals (go_wp2_with (fail))
      all_goals go_roundw
      all_goals first | (simp [intOf]; omega) | skip
      all_goals
        have hr3 := HROW.out.keep0 hg3
        have hp := hr3.push hown3 (own_len hown3 ▸ HLR.out) (by have : wo.drew.heap.size = wo.heap.size := rfl; omega) (by
          intro i hi e
          have := ((HROW.out.inner i hi).lt _ e).2
          have : wo.drew.heap.size = wo.heap.size := rfl
          omega) (by rw [HTK.out]; exact hown6) hg6
        refine ⟨k + 1, .slice (some ⟨g6, 0, none⟩) (k + 1) c6, _, by omega, by go_num, heap_setCell_same w6 g 1 _ _ _ hb6, by rw [HNX.out]; exact hp.keepS (gr_set (q := ⟨g, 1, none⟩) (gr_refl w6 (some g)) rfl _) hglt, gr_set (q := ⟨g, 1, none⟩) (gr_grown (gr_trans hgr (gr_weak hg3 (some g))) hg6 (fun q hq => hlt6 q hq)) rfl _⟩
    · have hk3 : k = 3 := by omega
      have hTk : A.T.take k = A.T := List.take_of_length_le (by have := HF.out.lenT; omega)
      rw [hTk] at hrows
      have hTl := HF.out.lenT
      obtain ⟨g0, c0, rfl, _, _, _, _⟩ := own_some hrows.outer (by omega)
      have hx1 := own_keep HX.out hgr (.inr (own_other HX.out hgb (by decide)))
      have hz1 := own_keep HZ.out hgr (.inr (own_other HZ.out hgb (by decide)))
      have hzl := HZ.out.lt
      have HZL := Lib.hid hzl
      obtain ⟨gx, cx, rfl, _, _, _, _⟩ := own_some hx1 (by omega)
      obtain ⟨gz, cz, rfl, _, _, _, _⟩ := own_some hz1 (by omega)
      rw [hTl] at hb hrows
      have hRo := (hgr.block (w.heap.size + 1) (lt_of_block HR2.out) (by simp; omega)).trans HR2.out
      obtain ⟨k0, k1, k2, f0, f1, f2⟩ := blk_cells hb
      obtain ⟨l0, l1, l2, e0, e1, e2⟩ := blk_cells hRo
      have HRO := Lib.hid hRo
      have hRw : w.heap.size + 1 < wc.heap.size := lt_of_block HR2.out
      have hg1o : w1.grownBy wo none := gr_grown hgc hgr (fun q hq => by cases hq; exact hgle)
      have hgwo := gr_trans HGR.out hg1o
      have HX1 := Lib.hid hx1
      have HZ1 := Lib.hid hz1
      have HROW := Lib.hid hrows
      clear hTk hk3 hRo hb hx1 hz1 hzl hrows hgb
      go_wp2_with (fail)
      refine bodyPost_ret (results_cell_row (p := 2) (by kernel_rfl) _ _ (w.heap.size + 1) _ #[.slice (some ⟨gx, 0, none⟩) 3 cx, .slice (some ⟨g0, 0, none⟩) 3 c0, .slice (some ⟨gz, 0, none⟩) 3 cz] _ (.struct dt) rfl (set3_heap HRO.out _ _ _) hd1 rfl (by kernel_rfl)) rfl ⟨_, _, _, vs, rfl, ⟨?_, ?_, ?_, HF.out, ?_⟩, ?_⟩
      · exact own_base (own_keepS HX1.out (set3_gr wo (w.heap.size + 1) _ _ _) hlt1) (by omega)
      · exact (HROW.out.keepS (set3_gr wo (w.heap.size + 1) _ _ _) hRw).low (by omega)
      · exact own_base (own_keepS HZ1.out (set3_gr wo (w.heap.size + 1) _ _ _) hlt1) (by omega)
      · intro i hi q hq e
        have h1 := ((HROW.out.inner i (by omega)).lt q hq).1
        have h2 := (HZL.out q e).2
        omega
      · exact gr_grown hgwo (set3_gr wo (w.heap.size + 1) _ _ _) (fun q hq => by cases hq; omega)
end Go.Proofs.YtakabckmiodjaaaDoor

/-! depot.Credit, Give and Spend of a right wallet. -/
namespace Go.Proofs.YtakabckmiodjaaaDoor
open Go.RowKit

def putR (A : Wal) (i j : Nat) (v : Int) : Wal := ⟨A.T.set i ((A.T.getD i []).set j v), A.U⟩
def putU (A : Wal) (i : Nat) (v : Int) : Wal := ⟨A.T, A.U.set i v⟩
theorem getD_set' {α : Type} (l : List α) (k j : Nat) (x d : α) (h : k < l.length) : (l.set k x).getD j d = if j = k then x else l.getD j d := by
  rw [List.getD_eq_getElem?_getD, List.getD_eq_getElem?_getD, List.getElem?_set]
  by_cases e : k = j
  · subst e; simp [h]
  · rw [if_neg e, if_neg (fun e2 => e e2.symm)]
theorem putR_form {A : Wal} (h : WForm A) (i j : Nat) (v : Int) (hi : i < 3) : WForm (putR A i j v) := by
  have hT := h.lenT
  refine ⟨by simp [putR, hT], fun k hk => ?_, h.lenU⟩
  show ((A.T.set i _).getD k []).length = 3
  rw [getD_set' _ _ _ _ _ (by omega)]
  split
  · rw [List.length_set]; exact h.lenR i hi
  · exact h.lenR k hk
theorem putR_r {A : Wal} (h : WForm A) (i j : Nat) (v : Int) (hi : i < 3) (hj : j < 3) (a b : Nat) : (putR A i j v).r a b = if a = i ∧ b = j then v else A.r a b := by
  have hT := h.lenT
  have hR := h.lenR i hi
  show ((A.T.set i _).getD a []).getD b 0 = _
  rw [getD_set' _ _ _ _ _ (by omega)]
  by_cases e : a = i
  · subst e
    rw [if_pos rfl, getD_set' _ _ _ _ _ (by omega)]
    by_cases e2 : b = j
    · simp [e2]
    · simp [e2]; rfl
  · simp [e]; rfl
theorem putR_u (A : Wal) (i j : Nat) (v : Int) (a : Nat) : (putR A i j v).u a = A.u a := rfl
theorem putU_form {A : Wal} (h : WForm A) (i : Nat) (v : Int) : WForm (putU A i v) := ⟨h.lenT, h.lenR, by simp [putU, h.lenU]⟩
theorem putU_r (A : Wal) (i : Nat) (v : Int) (a b : Nat) : (putU A i v).r a b = A.r a b := rfl
theorem putU_u {A : Wal} (h : WForm A) (i : Nat) (v : Int) (hi : i < 3) (a : Nat) : (putU A i v).u a = if a = i then v else A.u a := by
  have := h.lenU
  exact getD_set' _ _ _ _ _ (by omega)
/-- A number stored into a row of a wallet that the call owns. -/
theorem WalOwn.setR {w : World} {base : Nat} {x y z : Value} {A : Wal} {vs : List Value} (h : WalOwn w base x y z A vs) (i j : Nat) (hi : i < 3) (hj : j < 3) :
    ∃ g0 c0 g c, y = .slice (some ⟨g0, 0, none⟩) 3 c0 ∧ w.cell? ⟨g0, i, none⟩ = some (.slice (some ⟨g, 0, none⟩) 3 c) ∧ w.cell? ⟨g, j, none⟩ = some (.int .i64 (A.r i j)) ∧ w.frozen? ⟨g, j, none⟩ = false ∧ base ≤ g ∧ g0 ≠ g ∧
      ∀ v, WalOwn (w.setCell ⟨g, j, none⟩ (.int .i64 v)) base x y z (putR A i j v) vs := by
  have hTl := h.f.lenT
  have hl := h.f.lenR i hi
  obtain ⟨g0, c0, hy, h1, h2, h3, h4⟩ := own_some h.r.outer (by omega)
  have hr := h.r
  subst hy
  obtain ⟨_, g, c, he, _, _, hvs, hgb, hgw⟩ := hr.shape i (by omega) (by omega)
  cases he
  obtain ⟨q1, q2, q3, q4⟩ := hr.put i j (by omega) (by omega) hvs
  rw [hl] at q1
  have hin := hr.inner i (by omega)
  have hgo : g0 ≠ g := fun e => own_types hr.outer hin (by decide) g0 rfl (by rw [hvs, e]; rfl)
  refine ⟨g0, c0, g, c, by rw [hTl], q1, q2, q3, hgb, hgo, fun v => ⟨?_, ?_, ?_, putR_form h.f i j v hi, ?_⟩⟩
  · exact own_keep h.s (gr_set (q := ⟨g, j, none⟩) (gr_refl w (some g)) rfl _) (.inr (fun e => own_types h.s hin (by decide) g e (by rw [hvs]; rfl)))
  · exact q4 v
  · exact own_keep h.u (gr_set (q := ⟨g, j, none⟩) (gr_refl w (some g)) rfl _) (.inr (h.ap i hi g (by rw [hvs]; rfl)))
  · exact h.ap
theorem WalOwn.setU {w : World} {base : Nat} {x y z : Value} {A : Wal} {vs : List Value} (h : WalOwn w base x y z A vs) (i : Nat) (hi : i < 3) :
    ∃ g c, z = .slice (some ⟨g, 0, none⟩) 3 c ∧ w.cell? ⟨g, i, none⟩ = some (.int .i64 (A.u i)) ∧ w.frozen? ⟨g, i, none⟩ = false ∧ base ≤ g ∧
      ∀ v, WalOwn (w.setCell ⟨g, i, none⟩ (.int .i64 v)) base x y z (putU A i v) vs := by
  have hTl := h.f.lenT
  obtain ⟨g, c, hz, h1, h2, h3, h4⟩ := own_some h.u (by omega)
  have hu := h.u
  have hap := h.ap
  subst hz
  obtain ⟨d0, d1, d2⟩ := own_int hu i hi
  refine ⟨g, c, rfl, d0, d1, h1, fun v => ⟨?_, ?_, d2 v, putU_form h.f i v, h.ap⟩⟩
  · exact own_keep h.s (gr_set (q := ⟨g, i, none⟩) (gr_refl w (some g)) rfl _) (.inr (fun e => own_types h.s hu (by decide) g e rfl))
  · refine ⟨own_keep h.r.outer (gr_set (q := ⟨g, i, none⟩) (gr_refl w (some g)) rfl _) (.inr (fun e => own_types h.r.outer hu (by decide) g e rfl)), fun k hk => ?_, h.r.apart⟩
    have hk' : k < A.T.length := hk
    exact own_keep (h.r.inner k hk') (gr_set (q := ⟨g, i, none⟩) (gr_refl w (some g)) rfl _) (.inr (fun e => hap k (by omega) g e rfl))
theorem cell_set3' {w : World} {b o g : Nat} {v : Value} (h : w.cell? ⟨b, o, none⟩ = some v) (hn : b ≠ g) (x y z : Value) : (((w.setCell ⟨g, 0, none⟩ x).setCell ⟨g, 1, none⟩ y).setCell ⟨g, 2, none⟩ z).cell? ⟨b, o, none⟩ = some v :=
  cell_set (cell_set (cell_set h hn _) hn _) hn _
theorem siteV_str (i : Nat) : ∃ s, siteV i = .string s := by unfold siteV; split; exact ⟨_, rfl⟩; split <;> exact ⟨_, rfl⟩
def WalPost (A' : Wal) (w : World) (e : Ending) (w' : World) : Prop := ∃ x y z vs, e = .returned (.tuple #[.agg #[x, y, z], .int .i64 0]) ∧ WalOwn w' w.heap.size x y z A' vs ∧ w.grownBy w' none

set_option maxRecDepth 100000 in
set_option maxHeartbeats 8000000 in
theorem credit_any (x y z : Value) (A : Wal) (X : Int) (B : Nat → Prop) (i : Nat) (cents : Int) (w : World) (ha : WalAt w B x y z A) (hok : WOk A X) (hX : X + cents ≤ 1000000000) (hi : i < 3) (hc1 : 1 ≤ cents) :
    Calls Tryd.prog 7 #[.agg #[x, y, z], siteV i, .int .i64 cents] w (WalPost (putR A i i (A.r i i + cents)) w) := by
  obtain ⟨dt, hd1⟩ := und_parts (P := Tryd.prog) (t := 29) (by kernel_rfl)
  have hX0 : 0 ≤ X := by have := hok.r0 0 0 (by omega) (by omega); omega
  have hdec : Hid ((decide (cents < 1) || decide (1000000000 < cents)) = false) := by show _ = _; simp; omega
  obtain ⟨w1, hw1⟩ : ∃ w1, w1 = (w.alloc (.cells #[x, y, z] 29)).alloc (.cells #[.slice none 0 0, .slice none 0 0, .slice none 0 0] 29) := ⟨_, rfl⟩
  have hgR : w.grownBy w1 none := by rw [hw1]; exact gr_alloc (gr_alloc (gr_refl w none) _) _
  have hlt1 : w.heap.size + 1 < w1.heap.size := by rw [hw1]; simp
  have hR1 : w1.heap[w.heap.size + 1]? = some (.cells #[.slice none 0 0, .slice none 0 0, .slice none 0 0] 29 (0, 0)) := by rw [hw1]; simpa using heap_alloc_new (w.alloc (.cells #[x, y, z] 29)) _
  have hP1 : w1.heap[w.heap.size]? = some (.cells #[x, y, z] 29 (0, 0)) := by rw [hw1, heap_alloc_old (h := by simp)]; exact heap_alloc_new w _
  have ha1 := ha.keep0 hgR
  have hgs := gr_alloc (gr_refl w1 none) (.cells #[siteV i] 9)
  have hcs : ∀ k, k < [i].length → (w1.alloc (.cells #[siteV i] 9)).cell? ⟨w1.heap.size, k, none⟩ = some (siteV ([i].getD k 0)) := by
    intro k hk
    obtain rfl : k = 0 := by simpa using hk
    exact made_cell (gr_refl _ _) 0 rfl
  have PL := Lib.hid (places_any x y z A X B [i] w1.heap.size 1 (w1.alloc (.cells #[siteV i] 9)) (ha1.keep0 hgs) hok (by omega) (fun k hk => by simp at hk; omega) hcs (by simp) (by simp))
  have HA := Lib.hid ha1
  have HF := Lib.hid hok.form
  have hri := hok.r0 i i hi hi
  obtain ⟨sb, so, sc, rfl, _, _, _⟩ := ha1.s
  obtain ⟨rb, ro, rc, rfl, hrc, _, _⟩ := ha1.r
  obtain ⟨ub, uo, uc, rfl, huc, _, _⟩ := ha1.u
  have HP1 := Lib.hid hP1
  have HR1 := Lib.hid hR1
  obtain ⟨p0, p1, p2, _, _, _⟩ := blk_cells hP1
  obtain ⟨st, hst⟩ := siteV_str i
  rw [hst] at PL hgs
  rw [hst]
  clear ha hok ha1 hcs hP1 hR1
  go_enter Tryd.func7, Tryd.ntmps7
  go_wp2_with (fail)
  rw [← hw1, show w.heap.size + 1 + 1 = w1.heap.size by rw [hw1]; simp]
  clear hw1
  refine PL.out.mono ?_
  rintro e w2 ⟨vat, rfl, hat, hg2'⟩
  have hg2 := gr_trans hgs hg2'
  obtain ⟨ga, ca, rfl, hga1, hga2, _, _⟩ := own_some hat (by simp)
  have at0 : w2.cell? ⟨ga, 0, none⟩ = some (.int .i64 i) := by rw [hat.cellAt 0 (by simp)]; rfl
  have hlt0 : w.heap.size < w1.heap.size := by omega
  have q0 := (gr_cell hg2 (lt_of_cell p0)).trans p0
  have q1 := (gr_cell hg2 (lt_of_cell p1)).trans p1
  have q2 := (gr_cell hg2 (lt_of_cell p2)).trans p2
  have HP2 := Lib.hid ((hg2.block w.heap.size hlt0 (by simp)).trans HP1.out)
  have HR2 := Lib.hid ((hg2.block (w.heap.size + 1) hlt1 (by simp)).trans HR1.out)
  have HA2 := Lib.hid (HA.out.keep0 hg2)
  have hgr2 := gr_trans hgR hg2
  have hsz2 := hg2.size
  have hszs : w1.heap.size < (w1.alloc (.cells #[.string st] 9)).heap.size := by simp
  have hgaw : w1.heap.size < ga := by omega
  clear PL p0 p1 p2 hat hg2 hg2' hgs hszs
  go_wp2_with (fail)
  refine (out_any cents 1 1000000000 w2).mono ?_
  rintro e w' ⟨rfl, rfl⟩
  rw [hdec.out]
  go_wp2_with (fail)
  refine (owned_any _ _ _ A B w2 HA2.out HF.out).mono ?_
  rintro e w3 ⟨x3, y3, z3, vs, rfl, how, hg3⟩
  obtain ⟨g0, c0, g, c, hy, r0, r1, r2, hgb, hgne, hset⟩ := how.setR i i hi hi
  obtain ⟨gx, cx, hx, _, _, _, _⟩ := own_some how.s (by omega)
  obtain ⟨gz, cz, hz, _, _, _, _⟩ := own_some how.u (by omega)
  subst hx hy hz
  have at3 := (gr_cell hg3 (lt_of_cell at0)).trans at0
  have HP3 := Lib.hid ((hg3.block w.heap.size (by omega) (by simp)).trans HP2.out)
  have HR3 := Lib.hid ((hg3.block (w.heap.size + 1) (by omega) (by simp)).trans HR2.out)
  obtain ⟨p0, p1, p2, f0, f1, f2⟩ := blk_cells HP3.out
  have hgr3 := gr_trans hgr2 hg3
  have HW := Lib.hid (hset (A.r i i + cents))
  clear q0 q1 q2 at0 hg3 hgr2 hset
  go_wp2_with (fail)
  obtain ⟨w4, hw4⟩ : ∃ w4, w4 = ((w3.setCell ⟨w.heap.size, 0, none⟩ (.slice (some ⟨gx, 0, none⟩) 3 cx)).setCell ⟨w.heap.size, 1, none⟩ (.slice (some ⟨g0, 0, none⟩) 3 c0)).setCell ⟨w.heap.size, 2, none⟩ (.slice (some ⟨gz, 0, none⟩) 3 cz) := ⟨_, rfl⟩
  have hg4 : w3.grownBy w4 (some w.heap.size) := by rw [hw4]; exact set3_gr w3 w.heap.size _ _ _
  have hP4 : w4.heap[w.heap.size]? = some (.cells #[.slice (some ⟨gx, 0, none⟩) 3 cx, .slice (some ⟨g0, 0, none⟩) 3 c0, .slice (some ⟨gz, 0, none⟩) 3 cz] 29 (0, 0)) := by rw [hw4]; exact set3_heap HP3.out _ _ _
  rw [← hw4]
  clear hw4 p0 p1 p2 f0 f1 f2
  obtain ⟨p0, p1, p2, _, _, _⟩ := blk_cells hP4
  have hbase : w.heap.size < w2.heap.size := by omega
  have hg0b : w2.heap.size ≤ g0 := (how.r.outer.lt g0 rfl).1
  have at4 := (gr_cellS hg4 (lt_of_cell at3) (by omega)).trans at3
  have s0 := (gr_cellS hg4 (lt_of_cell r0) (by omega)).trans r0
  have s1 := (gr_cellS hg4 (lt_of_cell r1) (by omega)).trans r1
  have s2 := (gr_freeS hg4 (lt_of_cell r1) (by omega)).trans r2
  have hR4 := (hg4.block (w.heap.size + 1) (lt_of_block HR3.out) (by simp)).trans HR3.out
  have hg5 : w4.grownBy (w4.drew.setCell ⟨g, i, none⟩ (.int .i64 (A.r i i + cents))) (some g) := gr_set (q := ⟨g, i, none⟩) (gr_drew (gr_refl w4 (some g))) rfl _
  have hR5 := (hg5.block (w.heap.size + 1) (lt_of_block hR4) (by simp; omega)).trans hR4
  have hset4 := (how.keepS hg4 hbase).setR i i hi hi
  obtain ⟨_, _, g', _, he, r0', _, _, _, _, hset5⟩ := hset4
  cases he
  rw [s0] at r0'
  cases r0'
  have how5 : WalOwn (w4.drew.setCell ⟨g, i, none⟩ (.int .i64 (A.r i i + cents))) w2.heap.size (.slice (some ⟨gx, 0, none⟩) 3 cx) (.slice (some ⟨g0, 0, none⟩) 3 c0) (.slice (some ⟨gz, 0, none⟩) 3 cz) (putR A i i (A.r i i + cents)) vs := (hset5 (A.r i i + cents)).keep0 (gr_drew (gr_refl _ none))
  have MO := Lib.hid (more_any g i (A.r i i) cents w4.drew s1 s2 hri.1 (by omega) (by omega))
  have u0 := (gr_cellS hg5 (lt_of_cell p0) (by omega)).trans p0
  have u1 := (gr_cellS hg5 (lt_of_cell p1) (by omega)).trans p1
  have u2 := (gr_cellS hg5 (lt_of_cell p2) (by omega)).trans p2
  have u3 := (gr_cellS hg5 (lt_of_cell at4) (by omega)).trans at4
  have u4 := (gr_cellS hg5 (lt_of_cell s0) hgne).trans s0
  have HOW5 := Lib.hid how5
  have HR5 := Lib.hid hR5
  have hgr4 := gr_grown hgr3 hg4 (fun q hq => by cases hq; exact Nat.le_refl _)
  have hgr5 := gr_grown hgr4 hg5 (fun q hq => by cases hq; omega)
  have hii : (0 : Int) ≤ (i : Int) := by omega
  have hii3 : (i : Int) < 3 := by omega
  clear how how5 hset5 hR5 hR4 hP4 HW r0 r1 r2 at3 hg4 hg5 HP3 HR3 HP2 HR2 HP1 HR1 HA HA2 hgr3 hgr4
  go_region_held3 (fun w' => w'.cell? ⟨w.heap.size, 0, none⟩ = some (.slice (some ⟨gx, 0, none⟩) 3 cx) ∧ w'.cell? ⟨w.heap.size, 1, none⟩ = some (.slice (some ⟨g0, 0, none⟩) 3 c0) ∧ w'.cell? ⟨w.heap.size, 2, none⟩ = some (.slice (some ⟨gz, 0, none⟩) 3 cz) ∧ w'.cell? ⟨ga, 0, none⟩ = some (.int .i64 i) ∧ w'.cell? ⟨g0, i, none⟩ = some (.slice (some ⟨g, 0, none⟩) 3 c))
    (first | exact ⟨p0, p1, p2, at4, s0⟩ | exact ⟨u0, u1, u2, u3, u4⟩ | exact ⟨v0, v1, v2, v3, v4⟩ | exact ⟨cell_set3' v0 (by omega) _ _ _, cell_set3' v1 (by omega) _ _ _, cell_set3' v2 (by omega) _ _ _, cell_set3' v3 (by omega) _ _ _, cell_set3' v4 (by omega) _ _ _⟩)
    (first | (go_at_call 30; (with_reducible refine MO.out.mono ?_); rintro e w5 ⟨rfl, rfl⟩)
           | (go_at_call 29; (with_reducible refine (done_ok _ _ _ _ _ _ _ _ _ _).mono ?_); rintro e w6 ⟨rfl, hg6⟩; have v0 := (gr_cell hg6 (lt_of_cell u0)).trans u0; have v1 := (gr_cell hg6 (lt_of_cell u1)).trans u1; have v2 := (gr_cell hg6 (lt_of_cell u2)).trans u2; have v3 := (gr_cell hg6 (lt_of_cell u3)).trans u3; have v4 := (gr_cell hg6 (lt_of_cell u4)).trans u4; have hR6 := (hg6.block (w.heap.size + 1) (lt_of_block HR5.out) (by simp)).trans HR5.out; obtain ⟨k0, k1, k2, f0, f1, f2⟩ := blk_cells hR6)
           | fail)
  go_wp2_with (fail)
  refine bodyPost_ret (results_cell_slot (p := 6) (q := 7) (by kernel_rfl) _ _ (w.heap.size + 1) _ #[.slice (some ⟨gx, 0, none⟩) 3 cx, .slice (some ⟨g0, 0, none⟩) 3 c0, .slice (some ⟨gz, 0, none⟩) 3 cz] _ (.struct dt) _ rfl rfl (set3_heap hR6 _ _ _) hd1 rfl (by kernel_rfl)) rfl ⟨_, _, _, vs, rfl, ?_, ?_⟩
  · exact ((HOW5.out.keep0 hg6).keepS (set3_gr w6 (w.heap.size + 1) _ _ _) (by omega)).low (by omega)
  · exact gr_grown (gr_trans hgr5 hg6) (set3_gr w6 (w.heap.size + 1) _ _ _) (fun q hq => by cases hq; omega)
end Go.Proofs.YtakabckmiodjaaaDoor

/-! depot.Spend of a right wallet. -/
namespace Go.Proofs.YtakabckmiodjaaaDoor
open Go.RowKit

def OpPost (can : Prop) (A' : Wal) (w : World) (e : Ending) (w' : World) : Prop :=
  (can ∧ WalPost A' w e w') ∨ (¬ can ∧ e = .returned (.tuple #[.agg #[.slice none 0 0, .slice none 0 0, .slice none 0 0], .int .i64 16]) ∧ w.grownBy w' none)

end Go.Proofs.YtakabckmiodjaaaDoor

/-! depot.Give of a right wallet. -/
namespace Go.Proofs.YtakabckmiodjaaaDoor
open Go.RowKit

theorem site_beq {i j : Nat} {st su : ByteArray} (hi : i < 3) (hj : j < 3) (hij : i ≠ j) (hst : siteV i = .string st) (hsu : siteV j = .string su) : (st.toList == su.toList) = false := by
  obtain rfl | rfl | rfl : i = 0 ∨ i = 1 ∨ i = 2 := by omega
  all_goals (obtain rfl | rfl | rfl : j = 0 ∨ j = 1 ∨ j = 2 := by omega)
  all_goals first
    | exact absurd rfl hij
    | (simp only [siteV] at hst hsu; cases hst; cases hsu; kernel_rfl)

end Go.Proofs.YtakabckmiodjaaaDoor
