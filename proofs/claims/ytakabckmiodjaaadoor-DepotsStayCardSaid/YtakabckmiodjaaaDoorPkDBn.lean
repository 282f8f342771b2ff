/- depot.byMove, and depot.CheckShelf of right moves. -/
import Derived.Test.YtakabckmiodjaaaDoorPkDBk
import Derived.Test.YtakabckmiodjaaaDoorPkDBm
import Derived.Test.YtakabckmiodjaaaDoorPkDAs
import Derived.WalkLawsBesides
namespace Go.Proofs.YtakabckmiodjaaaDoor
open Go.RowKit
attribute [local go_sem ↓] Go.wp_at_zero Go.wp_at_succ

abbrev mvCells (x : Mv) : Array Value := #[.string x.site, .int .i64 x.no, .int .i64 x.day, .string x.ware, .int .i64 x.many]
theorem byMove_fn : ∀ (args : Array Value) (w : World), (callFunc 36 args).run Tryd.prog w = .ok (.enter 36 args) w := fun _ _ => by kernel_rfl
set_option maxRecDepth 100000 in
set_option maxHeartbeats 2000000 in
theorem byMove_any (x y : Mv) (w : World) :
    Calls Tryd.prog 36 #[.agg (mvCells x), .agg (mvCells y)] w fun e w' => e = .returned (.int .i64 (mvCm x y)) ∧ w.grownBy w' none := by
  obtain ⟨x0, x1, x2, x3, x4⟩ := x
  obtain ⟨y0, y1, y2, y3, y4⟩ := y
  simp only [mvCells]
  have g2 := gr_alloc (gr_alloc (gr_refl w none) (.cells #[.string x0, .int .i64 x1, .int .i64 x2, .string x3, .int .i64 x4] 41)) (.cells #[.string y0, .int .i64 y1, .int .i64 y2, .string y3, .int .i64 y4] 41)
  obtain ⟨hA, hB⟩ := heap_2 w (.cells #[.string x0, .int .i64 x1, .int .i64 x2, .string x3, .int .i64 x4] 41) (.cells #[.string y0, .int .i64 y1, .int .i64 y2, .string y3, .int .i64 y4] 41)
  obtain ⟨w2, hw2⟩ : ∃ w2, w2 = (w.alloc (.cells #[.string x0, .int .i64 x1, .int .i64 x2, .string x3, .int .i64 x4] 41)).alloc (.cells #[.string y0, .int .i64 y1, .int .i64 y2, .string y3, .int .i64 y4] 41) := ⟨_, rfl⟩
  rw [← hw2] at g2 hA hB
  have p0 := blkC hA 0 rfl
  have p1 := blkC hA 1 rfl
  have r0 := blkC hB 0 rfl
  have r1 := blkC hB 1 rfl
  have gp0 := grew_cell p0
  have gp1 := grew_cell p1
  have gr0 := grew_cell r0
  have gr1 := grew_cell r1
  have HE : Hid (mvCm ⟨x0, x1, x2, x3, x4⟩ ⟨y0, y1, y2, y3, y4⟩ = orI (cmpB x0 y0) (cmpN x1 y1)) := rfl
  have HG := Lib.hid g2
  have HW := Lib.hid hw2
  clear g2 hA hB hw2 p0 p1 r0 r1
  go_enter Tryd.func36, Tryd.ntmps36
  go_wp2_with (fail)
  rw [← HW.out]
  refine wp_region_grew_tail 10 (by kernel_rfl) (by kernel_rfl) ?_
  simp only [List.take_succ_cons, List.take_zero, List.drop_succ_cons, List.drop_zero]
  repeat (go_big_quiet_step (first
    | (go_at_call 56; exact Calls.grew_of (fun W g => (cmpInt_any _ _ W).mono fun _ _ h => ⟨h.1, by rw [← h.2]; exact gr_refl _ _⟩))
    | (go_at_call 78; exact Calls.grew_of (fun W g => (compare_any _ _ W).mono fun _ _ h => ⟨h.1, by rw [← h.2]; exact gr_refl _ _⟩))))
  refine wpQuiet_nil ?_
  rintro wq ⟨nn, rfl⟩
  have gq := nn.gr
  obtain ⟨wn, hwn⟩ : ∃ wn, wn = nn.w := ⟨_, rfl⟩
  rw [← hwn] at gq
  rw [← hwn]
  obtain ⟨u, hu⟩ : ∃ u, u = cmpB x0 y0 := ⟨_, rfl⟩
  obtain ⟨v, hv⟩ : ∃ v, v = cmpN x1 y1 := ⟨_, rfl⟩
  rw [← hu, ← hv] at HE
  rw [← hu, ← hv]
  have gN := gr_alloc (gr_refl wn none) (.cells #[.int .i64 u, .int .i64 v] 3)
  have hN := heap_alloc_new wn (.cells #[.int .i64 u, .int .i64 v] 3)
  have OR := Lib.hid (orInt_any u v wn.heap.size 2 _ (blkC hN 0 rfl) (blkC hN 1 rfl))
  clear gp0 gp1 gr0 gr1 hwn hu hv hN
  go_wp2_with (fail)
  refine OR.out.mono ?_
  rintro e w5 ⟨rfl, rfl⟩
  go_wp2_with (fail)
  go_ret
  exact ⟨ret_int HE.out.symm, gr_trans HG.out (gr_trans gq gN)⟩
end Go.Proofs.YtakabckmiodjaaaDoor

/-! depot.byMove, and depot.CheckShelf of right moves. -/
namespace Go.Proofs.YtakabckmiodjaaaDoor
open Go.RowKit
attribute [local go_sem ↓] Go.wp_at_zero Go.wp_at_succ

/-- The cells of a move, from a place on. -/
structure MvCells (W : World) (b o : Nat) (x : Mv) : Prop where
  c0 : W.cell? ⟨b, o, none⟩ = some (.string x.site)
  c1 : W.cell? ⟨b, o + 1, none⟩ = some (.int .i64 x.no)
  c2 : W.cell? ⟨b, o + 2, none⟩ = some (.int .i64 x.day)
  c3 : W.cell? ⟨b, o + 3, none⟩ = some (.string x.ware)
  c4 : W.cell? ⟨b, o + 4, none⟩ = some (.int .i64 x.many)
theorem MvCells.keep0 {W W' : World} {b o : Nat} {x : Mv} (h : MvCells W b o x) (g : W.grownBy W' none) : MvCells W' b o x :=
  ⟨(gr_cell g (lt_of_cell h.c0)).trans h.c0, (gr_cell g (lt_of_cell h.c1)).trans h.c1, (gr_cell g (lt_of_cell h.c2)).trans h.c2, (gr_cell g (lt_of_cell h.c3)).trans h.c3, (gr_cell g (lt_of_cell h.c4)).trans h.c4⟩
theorem mv_cellsS {w : World} {a : Option Addr} {p : List Mv} (h : CellsAt w a (flat encMv p)) (k : Nat) (hk : k < p.length) : ∃ b off, a = some ⟨b, off, none⟩ ∧ MvCells w b (off + k * 5) p[k] := by
  obtain ⟨b, off, e, d0, d1, d2, d3, d4⟩ := mv_cells h k hk
  exact ⟨b, off, e, d0, d1, d2, d3, d4⟩
theorem bytes_beq (a b : ByteArray) : (a.toList == b.toList) = decide (a = b) := by
  by_cases h : a = b
  · subst h; simp
  · rw [decide_eq_false h]
    refine beq_eq_false_iff_ne.2 (fun e => h ?_)
    rw [ByteArray.toList_eq, ByteArray.toList_eq] at e
    cases a; cases b
    simp at e
    rw [e]
set_option maxRecDepth 100000 in
set_option maxHeartbeats 2000000 in
theorem checkShelf_ok (L : List Mv) (a : Option Addr) (c : Nat) (w : World) (h : CellsAt w a (flat encMv L)) (hok : MvsOk L) (hl : L.length ≤ 2000) :
    Calls Tryd.prog 33 #[.slice a L.length c] w fun e w' => e = .returned (.tuple #[.int .i64 0, .int .i64 0]) ∧ w.grownBy w' none := by
  have H := Lib.hid h
  have HOK := Lib.hid hok
  clear h hok
  go_enter Tryd.func33, Tryd.ntmps33
  go_wp2_with (fail)
  go_loopw [12] (fun i wr => ∃ k : Nat, k ≤ L.length ∧ i = .int .i64 k ∧ w.grownBy wr none) (fun i _ => L.length - (intOf i).toNat)
  case atStart => exact ⟨0, Nat.zero_le _, rfl, gr_refl _ _⟩
  case round =>
    obtain ⟨k, hk, rfl, hgr⟩ := hrel
    obtain ⟨wo, rfl⟩ : ∃ wo : World, wo = wr := ⟨_, rfl⟩
    by_cases hlt : k < L.length
    · have hcL := H.out.keep0 hgr
      obtain ⟨b, off, rfl, hC⟩ := mv_cellsS hcL k hlt
      obtain ⟨d0, d1, d2, d3, d4⟩ := hC
      obtain ⟨⟨sk, ss⟩, ⟨n0, n1⟩, ⟨y0, y1⟩, ⟨wk, ws⟩, m0, m1, m2⟩ := HOK.out.all L[k] (List.getElem_mem hlt)
      have g1 := gr_alloc (gr_refl wo none) (.cells (mvCells L[k]) 41)
      have hQ := heap_alloc_new wo (.cells (mvCells L[k]) 41)
      have HCL := Lib.hid (hcL.keep0 g1)
      have FST : Hid (∀ h0 : k = 0, L[k].no = 1) := fun h0 => by subst h0; exact HOK.out.first hlt
      have PRV : Hid (∀ i, ∀ hi : k = i + 1, L[k].no = (if (L[i]'(by omega)).site = L[k].site then (L[i]'(by omega)).no else 0) + 1 ∧ mvLt (L[i]'(by omega)) L[k]) := fun i hi => by subst hi; exact ⟨HOK.out.next i hlt, HOK.out.lt _ _ (by omega)⟩
      obtain ⟨x, hx⟩ : ∃ x, x = L[k] := ⟨_, rfl⟩
      rw [← hx] at d0 d1 d2 d3 d4 sk ss n0 n1 y0 y1 wk ws m0 m1 m2 g1 hQ HCL FST PRV
      obtain ⟨S, no, dy, wa, my⟩ := x
      simp only [mvCells] at d0 d1 d2 d3 d4 sk ss n0 n1 y0 y1 wk ws m0 m1 m2 g1 hQ HCL FST PRV
      have hmz : (my == 0) = false := beq_eq_false_iff_ne.2 m0
      have hmo : (decide (my < -1000) || decide (1000 < my)) = false := by simp; omega
      have hdo : (!(decide (dy < 0) || decide (4000 < dy))) = true := by simp; omega
      have HX := Lib.hid hx
      have HGR := Lib.hid (gr_trans hgr g1)
      clear hx hcL m0 hgr g1
      go_wp2_with (fail)
      obtain ⟨w1, hw1⟩ : ∃ w1, w1 = wo.alloc (.cells #[.string S, .int .i64 no, .int .i64 dy, .string wa, .int .i64 my] 41) := ⟨_, rfl⟩
      rw [← hw1] at hQ HCL HGR
      rw [← hw1]
      obtain ⟨Q, hQe⟩ : ∃ Q, Q = wo.heap.size := ⟨_, rfl⟩
      rw [← hQe] at hQ
      rw [← hQe]
      have HQ : Hid (MvCells w1 Q 0 ⟨S, no, dy, wa, my⟩) := ⟨blkC hQ 0 rfl, blkC hQ 1 rfl, blkC hQ 2 rfl, blkC hQ 3 rfl, blkC hQ 4 rfl⟩
      clear hw1 hQe hQ d0 d1 d2 d3 d4
      rcases Nat.eq_zero_or_pos k with h0 | h0
      · subst h0
        have hno := FST.out rfl
        subst hno
        obtain ⟨p0, -, -, -, -⟩ := HQ.out
        have hz : decide ((0 : Int) < 0) = false := by decide
        refine wp_region_grew (by kernel_rfl) (by kernel_rfl) ?_
        repeat (go_big_quiet_step (fail))
        refine wpQuiet_nil ?_
        rintro wq ⟨nn, rfl⟩
        obtain ⟨w2, hw2⟩ : ∃ wn, wn = nn.w := ⟨_, rfl⟩
        have G2 := Lib.hid (gr_trans HGR.out nn.gr)
        have HQ2 := Lib.hid (HQ.out.keep0 nn.gr)
        rw [← hw2] at G2 HQ2
        rw [← hw2]
        clear hw2 p0
        obtain ⟨p0, p1, p2, p3, p4⟩ := HQ2.out
        go_wp2_with (fail)
        refine (key_any S w2 (by omega)).mono ?_
        rintro e w9 ⟨rfl, rfl⟩
        rw [sk]
        go_wp2_with (fail)
        refine wp_region_grew (by kernel_rfl) (by kernel_rfl) ?_
        repeat (go_big_quiet_step (fail))
        refine wpQuiet_nil ?_
        rintro wq ⟨nn, rfl⟩
        obtain ⟨w3, hw3⟩ : ∃ wn, wn = nn.w := ⟨_, rfl⟩
        have G3 := Lib.hid (gr_trans G2.out nn.gr)
        have HQ3 := Lib.hid (HQ2.out.keep0 nn.gr)
        rw [← hw3] at G3 HQ3
        rw [← hw3]
        clear hw3 p0 p1 p2 p3 p4 G2 HQ2
        obtain ⟨p0, p1, p2, p3, p4⟩ := HQ3.out
        go_wp2_with (fail)
        refine (dayL_any dy w3).mono ?_
        rintro e w9 ⟨rfl, rfl⟩
        rw [hdo]
        go_wp2_with (fail)
        refine (key_any wa w3 (by omega)).mono ?_
        rintro e w9 ⟨rfl, rfl⟩
        rw [wk]
        go_wp2_with (fail)
        refine (out_any my (-1000) 1000 w3).mono ?_
        rintro e w9 ⟨rfl, rfl⟩
        rw [hmo]
        go_wp2_with (fail)
        go_roundw
        case rel => exact ⟨0 + 1, by omega, by go_num, G3.out⟩
        case measure => simp [intOf]; omega
      · obtain ⟨i, hi⟩ : ∃ i, i = k - 1 := ⟨_, rfl⟩
        have hik : k = i + 1 := by omega
        subst hik
        obtain ⟨hno, hpl⟩ := PRV.out i rfl
        obtain ⟨_, _, eb, hE⟩ := mv_cellsS HCL.out i (by omega)
        cases eb
        have hmp := mvCm_pos hpl
        have hmb := mvCm_bd ⟨S, no, dy, wa, my⟩ L[i]
        have hnr := (HOK.out.all L[i] (List.getElem_mem (by omega))).no
        have BM := Lib.hid (byMove_any ⟨S, no, dy, wa, my⟩ L[i])
        obtain ⟨y, hy⟩ : ∃ y, y = L[i] := ⟨_, rfl⟩
        rw [← hy] at hno hE hmp hmb BM hnr
        obtain ⟨S2, no2, dy2, wa2, my2⟩ := y
        simp only [mvCells] at hno hE BM hnr
        obtain ⟨cv, hcv⟩ : ∃ cv, cv = mvCm ⟨S, no, dy, wa, my⟩ ⟨S2, no2, dy2, wa2, my2⟩ := ⟨_, rfl⟩
        rw [← hcv] at hmp hmb BM
        have hcd : decide (cv ≤ 0) = false := decide_eq_false (by omega)
        have hi1 : ((i : Int) + 1 - 1) = i := by omega
        have hwi : IntKind.i64.wrap (((i : Int) + 1) - 1) = i := by rw [hi1]; exact IntWalk.i64_in _ (by omega)
        have hq0 : (0 : Int) ≤ (i : Int) := by omega
        have hq1 : (i : Int) < (L.length : Int) := by omega
        have hq5 : decide ((0 : Int) < (i : Int) + 1) = true := decide_eq_true (by omega)
        have HE := Lib.hid hE
        have hsb := bytes_beq S2 S
        have HNO := Lib.hid hno
        clear hy hcv hi hpl hE hi1 hno PRV FST HX HCL
        obtain ⟨p0, -, -, -, -⟩ := HQ.out
        obtain ⟨e0, -, -, -, -⟩ := HE.out
        have gp0 := grew_cell p0
        have ge0 := grew_cell e0
        clear p0 e0
        by_cases hss : S2 = S
        · rw [decide_eq_true hss] at hsb
          have hno := HNO.out
          rw [if_pos hss] at hno
          have hno2 := Lib.hid hno
          replace hss := hss.symm
          subst hss
          refine wp_region_grew (by kernel_rfl) (by kernel_rfl) ?_
          repeat (go_big_quiet_step (fail))
          refine wpQuiet_nil ?_
          rintro wq ⟨nn, rfl⟩
          obtain ⟨w2, hw2⟩ : ∃ wn, wn = nn.w := ⟨_, rfl⟩
          have G2 := Lib.hid (gr_trans HGR.out nn.gr)
          have HQ2 := Lib.hid (HQ.out.keep0 nn.gr)
          have HE2 := Lib.hid (HE.out.keep0 nn.gr)
          rw [← hw2] at G2 HQ2 HE2
          rw [← hw2]
          clear hw2 gp0 ge0 HGR HQ HE hno
          obtain ⟨-, e1, -, -, -⟩ := HE2.out
          have hnn : no2 = no - 1 := by have e := hno2.out; clear hno2; rw [e]; omega
          subst hnn
          obtain ⟨p0, p1, p2, p3, p4⟩ := HQ2.out
          go_wp2_with (fail)
          refine (key_any S w2 (by omega)).mono ?_
          rintro e w9 ⟨rfl, rfl⟩
          rw [sk]
          go_wp2_with (fail)
          clear p0 p1 p2 p3 p4
          obtain ⟨p0, p1, p2, p3, p4⟩ := HQ2.out
          obtain ⟨e0, e1, e2, e3, e4⟩ := HE2.out
          have gp0 := grew_cell p0
          have gp1 := grew_cell p1
          have gp2 := grew_cell p2
          have gp3 := grew_cell p3
          have gp4 := grew_cell p4
          have ge0 := grew_cell e0
          have ge1 := grew_cell e1
          have ge2 := grew_cell e2
          have ge3 := grew_cell e3
          have ge4 := grew_cell e4
          clear p0 p1 p2 p3 p4 e0 e1 e2 e3 e4
          refine wp_region_grew (by kernel_rfl) (by kernel_rfl) ?_
          repeat (go_big_quiet_step (first
            | (go_at_call 36; exact Calls.grew_of (fun W g => BM.out W))))
          refine wpQuiet_nil ?_
          rintro wq ⟨nn, rfl⟩
          obtain ⟨w3, hw3⟩ : ∃ wn, wn = nn.w := ⟨_, rfl⟩
          have G3 := Lib.hid (gr_trans G2.out nn.gr)
          have HQ3 := Lib.hid (HQ2.out.keep0 nn.gr)
          rw [← hw3] at G3 HQ3
          rw [← hw3]
          clear hw3 gp0 gp1 gp2 gp3 gp4 ge0 ge1 ge2 ge3 ge4 G2 HQ2 HE2
          obtain ⟨p0, p1, p2, p3, p4⟩ := HQ3.out
          go_wp2_with (fail)
          refine (dayL_any dy w3).mono ?_
          rintro e w9 ⟨rfl, rfl⟩
          rw [hdo]
          go_wp2_with (fail)
          refine (key_any wa w3 (by omega)).mono ?_
          rintro e w9 ⟨rfl, rfl⟩
          rw [wk]
          go_wp2_with (fail)
          refine (out_any my (-1000) 1000 w3).mono ?_
          rintro e w9 ⟨rfl, rfl⟩
          rw [hmo]
          go_wp2_with (fail)
          go_roundw
          case rel => exact ⟨i + 1 + 1, by omega, by go_num, G3.out⟩
          case measure => simp [intOf]; omega
        · rw [decide_eq_false hss] at hsb
          have hno := HNO.out
          rw [if_neg hss] at hno
          clear hss
          have hno2 : no = 1 := by omega
          subst hno2
          clear hno HNO
          refine wp_region_grew (by kernel_rfl) (by kernel_rfl) ?_
          repeat (go_big_quiet_step (fail))
          refine wpQuiet_nil ?_
          rintro wq ⟨nn, rfl⟩
          obtain ⟨w2, hw2⟩ : ∃ wn, wn = nn.w := ⟨_, rfl⟩
          have G2 := Lib.hid (gr_trans HGR.out nn.gr)
          have HQ2 := Lib.hid (HQ.out.keep0 nn.gr)
          have HE2 := Lib.hid (HE.out.keep0 nn.gr)
          rw [← hw2] at G2 HQ2 HE2
          rw [← hw2]
          clear hw2 gp0 ge0 HGR HQ HE
          obtain ⟨p0, p1, p2, p3, p4⟩ := HQ2.out
          go_wp2_with (fail)
          refine (key_any S w2 (by omega)).mono ?_
          rintro e w9 ⟨rfl, rfl⟩
          rw [sk]
          go_wp2_with (fail)
          clear p0 p1 p2 p3 p4
          obtain ⟨p0, p1, p2, p3, p4⟩ := HQ2.out
          obtain ⟨e0, e1, e2, e3, e4⟩ := HE2.out
          have gp0 := grew_cell p0
          have gp1 := grew_cell p1
          have gp2 := grew_cell p2
          have gp3 := grew_cell p3
          have gp4 := grew_cell p4
          have ge0 := grew_cell e0
          have ge1 := grew_cell e1
          have ge2 := grew_cell e2
          have ge3 := grew_cell e3
          have ge4 := grew_cell e4
          clear p0 p1 p2 p3 p4 e0 e1 e2 e3 e4
          refine wp_region_grew (by kernel_rfl) (by kernel_rfl) ?_
          repeat (go_big_quiet_step (first
            | (go_at_call 36; exact Calls.grew_of (fun W g => BM.out W))))
          refine wpQuiet_nil ?_
          rintro wq ⟨nn, rfl⟩
          obtain ⟨w3, hw3⟩ : ∃ wn, wn = nn.w := ⟨_, rfl⟩
          have G3 := Lib.hid (gr_trans G2.out nn.gr)
          have HQ3 := Lib.hid (HQ2.out.keep0 nn.gr)
          rw [← hw3] at G3 HQ3
          rw [← hw3]
          clear hw3 gp0 gp1 gp2 gp3 gp4 ge0 ge1 ge2 ge3 ge4 G2 HQ2 HE2
          obtain ⟨p0, p1, p2, p3, p4⟩ := HQ3.out
          go_wp2_with (fail)
          refine (dayL_any dy w3).mono ?_
          rintro e w9 ⟨rfl, rfl⟩
          rw [hdo]
          go_wp2_with (fail)
          refine (key_any wa w3 (by omega)).mono ?_
          rintro e w9 ⟨rfl, rfl⟩
          rw [wk]
          go_wp2_with (fail)
          refine (out_any my (-1000) 1000 w3).mono ?_
          rintro e w9 ⟨rfl, rfl⟩
          rw [hmo]
          go_wp2_with (fail)
          go_roundw
          case rel => exact ⟨i + 1 + 1, by omega, by go_num, G3.out⟩
          case measure => simp [intOf]; omega
    · obtain rfl : k = L.length := by omega
      go_wp2_with (fail)
      go_ret2
      exact ⟨rfl, hgr⟩
end Go.Proofs.YtakabckmiodjaaaDoor

/-! Two moves compared with '==' and '!='. -/
namespace Go.Proofs.YtakabckmiodjaaaDoor
open Go.RowKit

theorem bytes_iff (a b : ByteArray) : (a.toList = b.toList) ↔ a = b := by
  have h := bytes_beq a b
  constructor
  · intro e
    rw [e] at h
    have h : decide (a = b) = true := by rw [← h]; simp
    exact of_decide_eq_true h
  · rintro rfl; rfl
theorem mvEql_in (w : World) (x0 y0 x3 y3 : ByteArray) (x1 x2 x4 y1 y2 y4 : Int) :
    (Op.equalIn 10000 41 (.agg #[.string x0, .int .i64 x1, .int .i64 x2, .string x3, .int .i64 x4]) (.agg #[.string y0, .int .i64 y1, .int .i64 y2, .string y3, .int .i64 y4])).run Tryd.prog w = .ok (mvEqB ⟨x0, x1, x2, x3, x4⟩ ⟨y0, y1, y2, y3, y4⟩) w := by
  go_simp
  simp only [bytes_iff]
  by_cases h0 : x0 = y0 <;> by_cases h1 : x1 = y1 <;> by_cases h2 : x2 = y2 <;> by_cases h3 : x3 = y3 <;> by_cases h4 : x4 = y4 <;> simp [mvEqB, h0, h1, h2, h3, h4]
theorem mvEql_run (w : World) (x0 y0 x3 y3 : ByteArray) (x1 x2 x4 y1 y2 y4 : Int) :
    (binOp .eql 41 (.agg #[.string x0, .int .i64 x1, .int .i64 x2, .string x3, .int .i64 x4]) (.agg #[.string y0, .int .i64 y1, .int .i64 y2, .string y3, .int .i64 y4])).run Tryd.prog w = .ok (.bool (mvEqB ⟨x0, x1, x2, x3, x4⟩ ⟨y0, y1, y2, y3, y4⟩)) w := by
  rw [run_eql_struct, mvEql_in]; rfl
theorem mvNeq_run (w : World) (x0 y0 x3 y3 : ByteArray) (x1 x2 x4 y1 y2 y4 : Int) :
    (binOp .neq 41 (.agg #[.string x0, .int .i64 x1, .int .i64 x2, .string x3, .int .i64 x4]) (.agg #[.string y0, .int .i64 y1, .int .i64 y2, .string y3, .int .i64 y4])).run Tryd.prog w = .ok (.bool (!mvEqB ⟨x0, x1, x2, x3, x4⟩ ⟨y0, y1, y2, y3, y4⟩)) w := by
  rw [run_neq_struct, mvEql_in]; rfl
end Go.Proofs.YtakabckmiodjaaaDoor
