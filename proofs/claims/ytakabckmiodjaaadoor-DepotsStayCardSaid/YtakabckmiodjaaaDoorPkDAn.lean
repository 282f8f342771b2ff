/- The reference's wallets: rights, copies. After XWallet and XOwned, by gen_wref.py. -/
import Derived.Test.YtakabckmiodjaaaDoorPkDAk
import Derived.Test.YtakabckmiodjaaaDoorPkDAm
import Derived.Deep.OwnRows
namespace Go.Proofs.YtakabckmiodjaaaDoor
open Go.RowKit

set_option maxRecDepth 100000 in
set_option maxHeartbeats 1000000 in
theorem rightsRef_any (x y z : Value) (A : Wal) (B : Nat → Prop) (i : Nat) (w : World) (ha : WalAt w B x y z A) (hi : i < 3) (hr : ∀ i j, i < 3 → j < 3 → 0 ≤ A.r i j ∧ A.r i j ≤ 1000000000) (hu : ∀ i, i < 3 → 0 ≤ A.u i ∧ A.u i ≤ 1000000000) :
    Calls Tryd.prog 61 #[.agg #[x, y, z], .int .i64 i] w fun e w' => e = .returned (.int .i64 (rightsTo A i 3)) ∧ w.grownBy w' none := by
  have hg1 := gr_alloc (gr_refl w none) (.cells #[x, y, z] 29)
  have ha1 := ha.keep0 hg1
  obtain ⟨⟨b1, o1, c1, rfl, m1, k1, h1⟩, ⟨b2, o2, c2, rfl, m2, k2, h2⟩, ⟨b3, o3, c3, rfl, m3, k3, h3⟩⟩ := ha1
  obtain ⟨w1, hw1⟩ : ∃ w1, w1 = w.alloc (.cells #[.slice (some ⟨b1, o1, none⟩) 3 c1, .slice (some ⟨b2, o2, none⟩) 3 c2, .slice (some ⟨b3, o3, none⟩) 3 c3] 29) := ⟨_, rfl⟩
  have p0 : w1.cell? ⟨w.heap.size, 0, none⟩ = some (.slice (some ⟨b1, o1, none⟩) 3 c1) := by rw [hw1]; exact made_cell (gr_refl _ _) 0 rfl
  have p1 : w1.cell? ⟨w.heap.size, 1, none⟩ = some (.slice (some ⟨b2, o2, none⟩) 3 c2) := by rw [hw1]; exact made_cell (gr_refl _ _) 1 rfl
  have p2 : w1.cell? ⟨w.heap.size, 2, none⟩ = some (.slice (some ⟨b3, o3, none⟩) 3 c3) := by rw [hw1]; exact made_cell (gr_refl _ _) 2 rfl
  rw [← hw1] at h1 h2 h3 hg1
  have H2 := Lib.hid h2
  obtain ⟨b4, o4, c4, d4, m4, k4, h5⟩ := h2 i hi
  have e1 := h5 i hi
  have e2 := h3 i hi
  have H5 := Lib.hid h5
  have hrii := hr i i hi hi
  have hui := hu i hi
  have HB := Lib.hid (rightsTo_bound hr hu i hi)
  have HR := Lib.hid hr
  have hR0 : rightsTo A i 0 = A.r i i - A.u i := rfl
  obtain ⟨r0, hr0⟩ : ∃ r0, r0 = A.r i i := ⟨_, rfl⟩
  obtain ⟨u0, hu0⟩ : ∃ u0, u0 = A.u i := ⟨_, rfl⟩
  rw [← hr0] at e1 hrii hR0
  rw [← hu0] at e2 hui hR0
  have HR0 := Lib.hid hR0
  have HE1 := Lib.hid hr0
  obtain ⟨q1, q2⟩ := hrii
  obtain ⟨q3, q4⟩ := hui
  clear h1 h2 h3 h5 hr hu hR0 hr0 hu0 ha
  go_enter Tryd.func61, Tryd.ntmps61
  go_wp2_with (fail)
  rw [← hw1]
  clear hw1
  go_quiet (fail)
  go_wp2_with (fail)
  go_loopw [5, 24] (fun s j wr => ∃ m : Nat, m ≤ 3 ∧ j = .int .i64 m ∧ s = .int .i64 (rightsTo A i m) ∧ w1.grownBy wr none) (fun _ j _ => 3 - (intOf j).toNat)
  case atStart => exact ⟨0, by omega, rfl, by rw [HR0.out], gr_drewN (gr_refl _ _) _⟩
  case round =>
    obtain ⟨m, hm, rfl, rfl, hgr⟩ := hrel
    obtain ⟨wo, rfl⟩ : ∃ wo : World, wo = wr := ⟨_, rfl⟩
    have hb := HB.out m hm
    obtain ⟨s, hs⟩ : ∃ s, s = rightsTo A i m := ⟨_, rfl⟩
    rw [← hs] at hb
    rw [← hs]
    obtain ⟨hb1, hb2⟩ := hb
    have p0' := (gr_cell hgr (lt_of_cell p0)).trans p0
    have p1' := (gr_cell hgr (lt_of_cell p1)).trans p1
    by_cases hlt : m < 3
    · have hnx : rightsTo A i (m + 1) = if m = i then s else s + (A.r m i - A.r i m) := by rw [hs]; rfl
      by_cases hmi : m = i
      · rw [if_pos hmi] at hnx
        have HNX := Lib.hid hnx
        have HS := Lib.hid hs
        clear hnx hs
        subst hmi
        have hne : ((m : Int) != (m : Int)) = false := by simp
        go_wp2_with (fail)
        go_roundw
        case rel => exact ⟨m + 1, by omega, by go_num, by rw [HNX.out], hgr⟩
        case measure => simp [intOf]; omega
      · rw [if_neg hmi] at hnx
        obtain ⟨b6, o6, c6, d6, m6, _, h7⟩ := H2.out m hlt
        have d6' := (gr_cell hgr (lt_of_cell d6)).trans d6
        have e3 := (gr_cell hgr (lt_of_cell (h7 i hi))).trans (h7 i hi)
        have e4 := (gr_cell hgr (lt_of_cell (H5.out m hlt))).trans (H5.out m hlt)
        have d4' := (gr_cell hgr (lt_of_cell d4)).trans d4
        have y1 := HR.out m i hlt hi
        have y2 := HR.out i m hi hlt
        obtain ⟨v1, hv1⟩ : ∃ v1, v1 = A.r m i := ⟨_, rfl⟩
        obtain ⟨v2, hv2⟩ : ∃ v2, v2 = A.r i m := ⟨_, rfl⟩
        rw [← hv1] at e3 hnx y1
        rw [← hv2] at e4 hnx y2
        obtain ⟨y3, y4⟩ := y1
        obtain ⟨y5, y6⟩ := y2
        have HNX := Lib.hid hnx
        have HS := Lib.hid hs
        have hne : ((m : Int) != (i : Int)) = true := by simp; omega
        have hw1 : IntKind.i64.wrap (v1 - v2) = v1 - v2 := IntWalk.i64_in _ (by omega)
        have hw2 : IntKind.i64.wrap (s + (v1 - v2)) = s + (v1 - v2) := IntWalk.i64_in _ (by omega)
        clear hnx hs hv1 hv2 h7 d6
        go_wp2_with (fail)
        go_quiet (fail)
        go_wp2_with (fail)
        go_roundw
        case rel => exact ⟨m + 1, by omega, by go_num, by rw [HNX.out], gr_drewN hgr _⟩
        case measure => simp [intOf]; omega
    · have hm3 : m = 3 := by omega
      have hfin : Hid (s = rightsTo A i 3) := by show _ = _; rw [hs, hm3]
      clear hs hm3
      go_wp2_with (fail)
      go_ret
      exact ⟨ret_int hfin.out, gr_trans hg1 hgr⟩

set_option maxRecDepth 100000 in
set_option maxHeartbeats 12000000 in
theorem walletCopy_any (x y z : Value) (A : Wal) (B : Nat → Prop) (w : World) (ha : WalAt w B x y z A) (hf : WForm A) :
    Calls Tryd.prog 62 #[.agg #[x, y, z]] w (OwnedPost A w) := by
  obtain ⟨dt, hd1⟩ := und_parts (P := Tryd.prog) (t := 29) (by kernel_rfl)
  have hgP := gr_alloc (gr_refl w none) (.cells #[x, y, z] 29)
  have hgR := gr_alloc hgP (.cells #[.slice none 0 0, .slice none 0 0, .slice none 0 0] 29)
  obtain ⟨w1, hw1⟩ : ∃ w1, w1 = (w.alloc (.cells #[x, y, z] 29)).alloc (.cells #[.slice none 0 0, .slice none 0 0, .slice none 0 0] 29) := ⟨_, rfl⟩
  rw [← hw1] at hgR
  have hlt1 : w.heap.size + 1 < w1.heap.size := by rw [hw1]; simp
  have hlt0 : w.heap.size < w1.heap.size := by omega
  have hR1 : w1.heap[w.heap.size + 1]? = some (.cells #[.slice none 0 0, .slice none 0 0, .slice none 0 0] 29 (0, 0)) := by rw [hw1]; simpa using heap_alloc_new (w.alloc (.cells #[x, y, z] 29)) _
  have hga : (w.alloc (.cells #[x, y, z] 29)).grownBy w1 none := by rw [hw1]; exact gr_alloc (gr_refl _ _) _
  have p0 : w1.cell? ⟨w.heap.size, 0, none⟩ = some x := made_cell hga 0 rfl
  have p1 : w1.cell? ⟨w.heap.size, 1, none⟩ = some y := made_cell hga 1 rfl
  have p2 : w1.cell? ⟨w.heap.size, 2, none⟩ = some z := made_cell hga 2 rfl
  have ha1 := ha.keep0 hgR
  obtain ⟨sb, so, sc, rfl, _, _, hs⟩ := ha1.s
  obtain ⟨rb, ro, rc, rfl, hrows⟩ := ha1.rows hf
  obtain ⟨ub, uo, uc, rfl, huc, hu⟩ := ha1.used hf
  have hsc : CellsAt w1 (some ⟨sb, so, none⟩) siteVs := by
    intro j v hj
    have hj3 : j < 3 := by have := (List.getElem?_eq_some_iff.1 hj).1; simpa [siteVs] using this
    rw [siteVs_at j hj3] at hj
    cases hj
    exact ⟨sb, so, rfl, hs j hj3⟩
  have hgd := gr_drew (gr_refl w1 none)
  have CS : Hid (∀ w', w1.grownBy w' none → Calls Tryd.prog 59 #[.slice (some ⟨sb, so, none⟩) 3 sc] w' fun e w2 => ∃ g c, e = .returned (.slice (some ⟨g, 0, none⟩) 3 c) ∧ w2.ownsRow w1.heap.size 9 1 (.slice (some ⟨g, 0, none⟩) 3 c) 3 siteVs ∧ w1.grownBy w2 none ∧ w'.grownBy w2 none ∧ ∀ (b : Nat) (o : Obj), w'.heap[b]? = some o → w2.heap[b]? = some o) := by
    intro w' h
    refine (cloneStr_any (some ⟨sb, so, none⟩) 3 sc siteVs w' rfl (hsc.keep0 h) (fun h => by cases h) (fun u hu => by simp only [siteVs, List.mem_cons, List.not_mem_nil, or_false] at hu; rcases hu with rfl | rfl | rfl <;> rfl) (by omega)).mono ?_
    rintro e w2 ⟨v, rfl, ho, hg⟩
    obtain ⟨g, c, rfl, _, _, _, _⟩ := own_some ho (by omega)
    exact ⟨g, c, rfl, own_base ho h.size, gr_trans h hg, hg, fun b o hb => (hg.block b (lt_of_block hb) (by simp)).trans hb⟩
  have CU : Hid (∀ w', w1.grownBy w' none → Calls Tryd.prog 65 #[.slice (some ⟨ub, uo, none⟩) 3 uc] w' fun e w2 => ∃ g c, e = .returned (.slice (some ⟨g, 0, none⟩) 3 c) ∧ w2.ownsRow w1.heap.size 3 1 (.slice (some ⟨g, 0, none⟩) 3 c) 3 (ints A.U) ∧ w1.grownBy w2 none ∧ w'.grownBy w2 none ∧ ∀ (b : Nat) (o : Obj), w'.heap[b]? = some o → w2.heap[b]? = some o) := by
    intro w' h
    refine (cloneInt_any (some ⟨ub, uo, none⟩) 3 uc (ints A.U) w' (by simp [ints, hf.lenU]) (hu.keep0 h) (fun h => by cases h) (ints_one A.U) (by omega)).mono ?_
    rintro e w2 ⟨v, rfl, ho, hg⟩
    obtain ⟨g, c, rfl, _, _, _, _⟩ := own_some ho (by omega)
    exact ⟨g, c, rfl, own_base ho h.size, gr_trans h hg, hg, fun b o hb => (hg.block b (lt_of_block hb) (by simp)).trans hb⟩
  have HROWS := Lib.hid hrows
  have HF := Lib.hid hf
  clear ha ha1 hs hrows hf hsc hu hga hgP
  go_enter Tryd.func62, Tryd.ntmps62
  go_wp2_with (fail)
  rw [← hw1]
  clear hw1
  go_cut [3] from 6 to 12 (fun s wx => ∃ (g : Nat) (x2 z2 : Value), s = .pointer (some ⟨g, 0, none⟩) ∧ w1.heap.size ≤ g ∧ wx.heap[g]? = some (.cells #[x2, .slice none 0 0, z2] 29 (0, 0)) ∧ wx.ownsRow w1.heap.size 9 1 x2 3 siteVs ∧ wx.ownsRow w1.heap.size 3 1 z2 3 (ints A.U) ∧ w1.grownBy wx none)
  case first =>
    go_region_law (first | (go_simp; go_at_call 65; revert hx3; intro hx3; (with_reducible refine (CU.out _ ?_).mono ?_); (· first | exact hg3 | exact gr_alloc hg3 _); rintro e w4 ⟨gz, cz, rfl, hz4, hg4, hg4', hk4⟩; have hg34 : w3.grownBy w4 none := (by first | exact hg4' | exact gr_trans (gr_alloc (gr_refl w3 none) _) hg4'); have hx4 := own_keep0 hx3 hg34; have hs4 := hg4.size; have hw4 : w.heap.size < w4.heap.size := (by omega); (try (have hb4 := hk4 _ _ hb3; obtain ⟨k0, k1, k2, f0, f1, f2⟩ := blk_cells hb4)); (try (have hb4 := hk4 _ _ (heap_alloc_new w3 _); obtain ⟨k0, k1, k2, f0, f1, f2⟩ := blk_cells hb4)); have t0 := (gr_cell hg4 (lt_of_cell p0)).trans p0; have t2 := (gr_cell hg4 (lt_of_cell p2)).trans p2)
                         | (go_simp; go_at_call 59; revert hz3; intro hz3; (with_reducible refine (CS.out _ ?_).mono ?_); (· first | exact hg3 | exact gr_alloc hg3 _); rintro e w4 ⟨gx, cx, rfl, hx4, hg4, hg4', hk4⟩; have hg34 : w3.grownBy w4 none := (by first | exact hg4' | exact gr_trans (gr_alloc (gr_refl w3 none) _) hg4'); have hz4 := own_keep0 hz3 hg34; have hs4 := hg4.size; have hw4 : w.heap.size < w4.heap.size := (by omega); (try (have hb4 := hk4 _ _ hb3; obtain ⟨k0, k1, k2, f0, f1, f2⟩ := blk_cells hb4)); (try (have hb4 := hk4 _ _ (heap_alloc_new w3 _); obtain ⟨k0, k1, k2, f0, f1, f2⟩ := blk_cells hb4)); have t0 := (gr_cell hg4 (lt_of_cell p0)).trans p0; have t2 := (gr_cell hg4 (lt_of_cell p2)).trans p2)
                         | (go_simp; go_at_call 59; (with_reducible refine (CS.out _ ?_).mono ?_); (· first | exact hgd | exact gr_alloc hgd _); rintro e w3 ⟨gx, cx, rfl, hx3, hg3, _, hk3⟩; have hs3 := hg3.size; have hw3 : w.heap.size < w3.heap.size := (by omega); (try (have hb3 : w3.heap[w1.heap.size]? = _ := hk3 _ _ (heap_alloc_new w1.drew _); obtain ⟨k0, k1, k2, f0, f1, f2⟩ := blk_cells hb3)); have q0 := (gr_cell hg3 (lt_of_cell p0)).trans p0; have q2 := (gr_cell hg3 (lt_of_cell p2)).trans p2)
                         | (go_simp; go_at_call 65; (with_reducible refine (CU.out _ ?_).mono ?_); (· first | exact hgd | exact gr_alloc hgd _); rintro e w3 ⟨gz, cz, rfl, hz3, hg3, _, hk3⟩; have hs3 := hg3.size; have hw3 : w.heap.size < w3.heap.size := (by omega); (try (have hb3 : w3.heap[w1.heap.size]? = _ := hk3 _ _ (heap_alloc_new w1.drew _); obtain ⟨k0, k1, k2, f0, f1, f2⟩ := blk_cells hb3)); have q0 := (gr_cell hg3 (lt_of_cell p0)).trans p0; have q2 := (gr_cell hg3 (lt_of_cell p2)).trans p2)
                         | fail)
    all_goals (go_wp2_with (fail))
    all_goals (go_meet; refine ⟨_, .slice (some ⟨gx, 0, none⟩) 3 cx, .slice (some ⟨gz, 0, none⟩) 3 cz, rfl, ?_, ?_, ?_, ?_, ?_⟩)
    all_goals first
      | omega
      | exact set3_heap hb4 _ _ _
      | exact heap_alloc_new w4 _
      | exact own_keep hx4 (set3_gr w4 _ _ _ _) (.inr (own_other hx4 hb4 (by decide)))
      | exact own_keep hz4 (set3_gr w4 _ _ _ _) (.inr (own_other hz4 hb4 (by decide)))
      | exact hx4.alloc _
      | exact hz4.alloc _
      | exact gr_grown hg4 (set3_gr w4 _ _ _ _) (fun k hk => by cases hk; omega)
      | exact gr_alloc hg4 _
  case rest =>
  obtain ⟨g, x2, z2, rfl, hgle, hgb, hx, hz, hgc⟩ := hcut
  have p1' := (gr_cell hgc (lt_of_cell p1)).trans p1
  have hR2 := (hgc.block (w.heap.size + 1) hlt1 (by simp)).trans hR1
  have hglt := lt_of_block hgb
  have HX := Lib.hid hx
  have HZ := Lib.hid hz
  have HR2 := Lib.hid hR2
  have HGR := Lib.hid hgR
  clear p0 p1 p2 hgd hx hz hR2 hR1 CS CU hgR
  go_wp2_with (fail)
  go_loopw [16] (fun i wr => ∃ (k : Nat) (v : Value) (vs : List Value), k ≤ 3 ∧ i = .int .i64 k ∧ wr.heap[g]? = some (.cells #[x2, v, z2] 29 (0, 0)) ∧ OwnRows wr wc.heap.size v (A.T.take k) vs ∧ wc.grownBy wr (some g)) (fun i _ => 3 - (intOf i).toNat)
  case atStart => exact ⟨0, _, _, by omega, rfl, hgb, OwnRows.nil _ _, gr_refl _ _⟩
  case round =>
    obtain ⟨k, v, vs, hk, rfl, hb, hrows, hgr⟩ := hrel
    obtain ⟨wo, rfl⟩ : ∃ wo : World, wo = wr := ⟨_, rfl⟩
    by_cases hlt : k < 3
    · obtain ⟨ra, rc2, d1, d2, d3⟩ := HROWS.out k hlt
      have hlr := HF.out.lenR k hlt
      have hg1o : w1.grownBy wo none := gr_grown hgc hgr (fun q hq => by cases hq; exact hgle)
      have d1o := (gr_cell hg1o (lt_of_cell d1)).trans d1
      have d2o := d2.keep0 hg1o
      rw [hlr] at d1o
      have hnx : A.T.take (k + 1) = A.T.take k ++ [A.T.getD k []] := by
        have hkT : k < A.T.length := by have := HF.out.lenT; omega
        rw [List.take_succ_eq_append_getElem hkT, getD_eq _ _ _ hkT]
      have hTk : (A.T.take k).length = k := by have := HF.out.lenT; simp; omega
      obtain ⟨R, hR⟩ : ∃ R, R = A.T.getD k [] := ⟨_, rfl⟩
      obtain ⟨T, hT⟩ : ∃ T, T = A.T.take k := ⟨_, rfl⟩
      rw [← hR] at d2o hlr hnx
      rw [← hT] at hrows hTk hnx
      have CI := Lib.hid (cloneInt_any ra 3 rc2 (ints R) wo.drew (by simp [ints, hlr]) (d2o.keep0 (gr_drew (gr_refl _ _))) (fun h => by have := d3 h; obtain ⟨_, _, e, _⟩ := d2 0 _ (ints_get _ 0 (by rw [← hR]; omega)); rw [h] at e; cases e) (ints_one R) (by omega))
      have HNX := Lib.hid hnx
      have HTK := Lib.hid hTk
      have HLR := Lib.hid hlr
      have hszo := hgr.size
      have hgd := gr_drew (gr_refl wo none)
      obtain ⟨k0, k1, k2, f0, f1, f2⟩ := blk_cells hb
      have hout := hrows.outer
      rw [hTk] at hout
      have HROW := Lib.hid hrows
      have HB := Lib.hid hb
      have hvo := own_other hout hb (by decide)
      have HVO := Lib.hid hvo
      have hvl := hrows.vlen
      clear d1 d2 d3 d2o hR hT hnx hTk hlr hrows hb hvo k0 k2 f0 f2
      go_wp2_with (fail)
      go_region_law (first | (refine step_app1 eRows rfl _ _ rfl wc.heap.size _ k vs rfl w3 _ rfl hout3 _ rfl rfl rfl rfl ?_ ?_ ?_; (· omega); (· omega); intro v6 w6 hown6 hg6 hlt6 hk6; have hb6 := (hg6.block g hg3lt (fun e => hvo3 e.symm)).trans hb3; obtain ⟨_, m1, _, _, n1, _⟩ := blk_cells hb6; obtain ⟨g6, c6, rfl, _, _, _, _⟩ := own_some hown6 (by omega))
                           | (go_simp; go_at_call 65; (with_reducible refine CI.out.mono ?_); rintro e w3 ⟨v3, rfl, hown3, hg3'⟩; obtain ⟨g3, c3, rfl, _, _, _, _⟩ := own_some hown3 (by omega); have hg3 := gr_trans hgd hg3'; have hout3 := own_keep0 hout hg3; have hsz3 := hg3.size; have hb3 := (hg3.block g (lt_of_block HB.out) (by simp)).trans HB.out; have hg3lt := lt_of_block hb3; have hvo3 := HVO.out; have k1 := (gr_cell hg3 (lt_of_cell k1)).trans k1)
                           | fail)
      all_goals (go_wp2_with (fail))
      all_goals go_roundw
      all_goals first | (simp [intOf]; omega) | skip
      all_goals
        have hr3 := HROW.out.keep0 hg3
        have hp := hr3.push hown3 (own_len hown3 ▸ HLR.out) (by have : wo.drew.heap.size = wo.heap.size := rfl; omega) (by
          intro i hi e
          have := ((HROW.out.inner i hi).lt _ e).2
          have : wo.drew.heap.size = wo.heap.size := rfl
          omega) (by rw [HTK.out]; exact hown6) hg6
        refine ⟨k + 1, .slice (some ⟨g6, 0, none⟩) (k + 1) c6, _, by omega, by go_num, heap_setCell_same w6 g 1 _ _ _ hb6, by rw [HNX.out]; exact hp.keepS (gr_set (q := ⟨g, 1, none⟩) (gr_refl w6 (some g)) rfl _) hglt, gr_set (q := ⟨g, 1, none⟩) (gr_grown (gr_trans hgr (gr_weak hg3 (some g))) hg6 (fun q hq => hlt6 q hq)) rfl _⟩
    · have hk3 : k = 3 := by omega
      have hTk : A.T.take k = A.T := List.take_of_length_le (by have := HF.out.lenT; omega)
      rw [hTk] at hrows
      have hTl := HF.out.lenT
      obtain ⟨g0, c0, rfl, _, _, _, _⟩ := own_some hrows.outer (by omega)
      have hx1 := own_keep HX.out hgr (.inr (own_other HX.out hgb (by decide)))
      have hz1 := own_keep HZ.out hgr (.inr (own_other HZ.out hgb (by decide)))
      have hzl := HZ.out.lt
      have HZL := Lib.hid hzl
      obtain ⟨gx, cx, rfl, _, _, _, _⟩ := own_some hx1 (by omega)
      obtain ⟨gz, cz, rfl, _, _, _, _⟩ := own_some hz1 (by omega)
      rw [hTl] at hb hrows
      have hRo := (hgr.block (w.heap.size + 1) (lt_of_block HR2.out) (by simp; omega)).trans HR2.out
      obtain ⟨k0, k1, k2, f0, f1, f2⟩ := blk_cells hb
      obtain ⟨l0, l1, l2, e0, e1, e2⟩ := blk_cells hRo
      have HRO := Lib.hid hRo
      have hRw : w.heap.size + 1 < wc.heap.size := lt_of_block HR2.out
      have hg1o : w1.grownBy wo none := gr_grown hgc hgr (fun q hq => by cases hq; exact hgle)
      have hgwo := gr_trans HGR.out hg1o
      have HX1 := Lib.hid hx1
      have HZ1 := Lib.hid hz1
      have HROW := Lib.hid hrows
      clear hTk hk3 hRo hb hx1 hz1 hzl hrows hgb
      go_wp2_with (fail)
      refine bodyPost_ret (results_cell_row (p := 2) (by kernel_rfl) _ _ (w.heap.size + 1) _ #[.slice (some ⟨gx, 0, none⟩) 3 cx, .slice (some ⟨g0, 0, none⟩) 3 c0, .slice (some ⟨gz, 0, none⟩) 3 cz] _ (.struct dt) rfl (set3_heap HRO.out _ _ _) hd1 rfl (by kernel_rfl)) rfl ⟨_, _, _, vs, rfl, ⟨?_, ?_, ?_, HF.out, ?_⟩, ?_⟩
      · exact own_base (own_keepS HX1.out (set3_gr wo (w.heap.size + 1) _ _ _) hlt1) (by omega)
      · exact (HROW.out.keepS (set3_gr wo (w.heap.size + 1) _ _ _) hRw).low (by omega)
      · exact own_base (own_keepS HZ1.out (set3_gr wo (w.heap.size + 1) _ _ _) hlt1) (by omega)
      · intro i hi q hq e
        have h1 := ((HROW.out.inner i (by omega)).lt q hq).1
        have h2 := (HZL.out q e).2
        omega
      · exact gr_grown hgwo (set3_gr wo (w.heap.size + 1) _ _ _) (fun q hq => by cases hq; omega)

theorem keyOf_site (i : Nat) (hi : i < 3) (w : World) : Calls Tryd.prog 45 #[siteV i] w fun e w' => e = .returned (.bool true) ∧ w.grownBy w' none := by
  obtain rfl | rfl | rfl : i = 0 ∨ i = 1 ∨ i = 2 := by omega
  · exact (keyOf_any { data := #[97] } w (by decide)).mono (fun e w' h => ⟨by rw [h.1, show keyB { data := #[97] } = true by decide], h.2⟩)
  · exact (keyOf_any { data := #[98] } w (by decide)).mono (fun e w' h => ⟨by rw [h.1, show keyB { data := #[98] } = true by decide], h.2⟩)
  · exact (keyOf_any { data := #[99] } w (by decide)).mono (fun e w' h => ⟨by rw [h.1, show keyB { data := #[99] } = true by decide], h.2⟩)
set_option maxRecDepth 100000 in
set_option maxHeartbeats 1000000 in
theorem rising_ok (b o c : Nat) (w : World) (hs : ∀ i, i < 3 → w.cell? ⟨b, o + i, none⟩ = some (siteV i)) :
    Calls Tryd.prog 89 #[.slice (some ⟨b, o, none⟩) 3 c] w fun e w' => e = .returned (.int .i64 0) ∧ w.grownBy w' none := by
  have h0 : w.cell? ⟨b, o, none⟩ = some (.string { data := #[97] }) := hs 0 (by omega)
  have h1 : w.cell? ⟨b, o + 1, none⟩ = some (.string { data := #[98] }) := hs 1 (by omega)
  have h2 : w.cell? ⟨b, o + 2, none⟩ = some (.string { data := #[99] }) := hs 2 (by omega)
  clear hs
  have l1 : Op.bytesLess ({ data := #[98] } : ByteArray).toList ({ data := #[97] } : ByteArray).toList = false := by kernel_rfl
  have l2 : (({ data := #[98] } : ByteArray).toList == ({ data := #[97] } : ByteArray).toList) = false := by kernel_rfl
  have l3 : Op.bytesLess ({ data := #[99] } : ByteArray).toList ({ data := #[98] } : ByteArray).toList = false := by kernel_rfl
  have l4 : (({ data := #[99] } : ByteArray).toList == ({ data := #[98] } : ByteArray).toList) = false := by kernel_rfl
  go_enter Tryd.func89, Tryd.ntmps89
  go_wp2_with (fail)
  go_loopw [7] (fun i wr => ∃ k : Nat, k ≤ 3 ∧ i = .int .i64 k ∧ w.grownBy wr none) (fun i _ => 3 - (intOf i).toNat)
  case atStart => exact ⟨0, by omega, rfl, gr_refl _ _⟩
  case round =>
    obtain ⟨k, hk, rfl, hgr⟩ := hrel
    obtain ⟨wo, rfl⟩ : ∃ wo : World, wo = wr := ⟨_, rfl⟩
    have d0 := (gr_cell hgr (lt_of_cell h0)).trans h0
    have d1 := (gr_cell hgr (lt_of_cell h1)).trans h1
    have d2 := (gr_cell hgr (lt_of_cell h2)).trans h2
    obtain rfl | rfl | rfl | rfl : k = 0 ∨ k = 1 ∨ k = 2 ∨ k = 3 := by omega
    · have KF := Lib.hid (show Calls Tryd.prog 45 #[.string { data := #[97] }] wo _ from keyOf_site 0 (by omega) wo)
      go_wp2_with (fail)
      refine KF.out.mono ?_
      rintro e w' ⟨rfl, hg⟩
      have HG := Lib.hid (gr_trans hgr hg)
      clear hgr hg
      go_wp2_with (fail)
      go_roundw
      case rel => exact ⟨1, by omega, by go_num, HG.out⟩
      case measure => simp [intOf]
    · have KF := Lib.hid (show Calls Tryd.prog 45 #[.string { data := #[98] }] wo _ from keyOf_site 1 (by omega) wo)
      go_wp2_with (fail)
      refine KF.out.mono ?_
      rintro e w' ⟨rfl, hg⟩
      have e0 := (gr_cell hg (lt_of_cell d0)).trans d0
      have HG := Lib.hid (gr_trans hgr hg)
      clear hgr hg
      go_wp2_with (fail)
      go_roundw
      case rel => exact ⟨2, by omega, by go_num, HG.out⟩
      case measure => simp [intOf]
    · have KF := Lib.hid (show Calls Tryd.prog 45 #[.string { data := #[99] }] wo _ from keyOf_site 2 (by omega) wo)
      go_wp2_with (fail)
      refine KF.out.mono ?_
      rintro e w' ⟨rfl, hg⟩
      have e1 := (gr_cell hg (lt_of_cell d1)).trans d1
      have HG := Lib.hid (gr_trans hgr hg)
      clear hgr hg
      go_wp2_with (fail)
      go_roundw
      case rel => exact ⟨3, by omega, by go_num, HG.out⟩
      case measure => simp [intOf]
    · go_wp2_with (fail)
      go_ret
      exact ⟨rfl, hgr⟩
theorem kiosks_ok (b o c : Nat) (w : World) (hs : ∀ i, i < 3 → w.cell? ⟨b, o + i, none⟩ = some (siteV i)) :
    Calls Tryd.prog 58 #[.slice (some ⟨b, o, none⟩) 3 c] w fun e w' => e = .returned (.int .i64 0) ∧ w.grownBy w' none := by
  have RK := Lib.hid (rising_ok b o c w hs)
  clear hs
  go_enter Tryd.func58, Tryd.ntmps58
  go_wp2_with (fail)
  refine RK.out.mono ?_
  rintro e w1 ⟨rfl, hg⟩
  go_wp2_with (fail)
  go_ret
  exact ⟨rfl, hg⟩
end Go.Proofs.YtakabckmiodjaaaDoor
