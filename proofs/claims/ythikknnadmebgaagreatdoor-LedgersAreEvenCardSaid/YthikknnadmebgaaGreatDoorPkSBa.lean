/- till.Ledger.Post of a right entry to an empty ledger. -/
import Derived.Test.YthikknnadmebgaaGreatDoorPkSAy
import Derived.Test.YthikknnadmebgaaGreatDoorPkSAz
import Derived.Test.YthikknnadmebgaaGreatDoorPkSAw
import Derived.Test.YthikknnadmebgaaGreatDoorPkSAn
import Derived.Deep.DeepCutAuto
namespace Go.Proofs.YthikknnadmebgaaGreatDoor
open Go.RowKit
attribute [local go_sem ↓] Go.wp_at_zero Go.wp_at_succ

theorem own_new {w w1 : World} {base e size n g : Nat} {v : Value} {xs : List Value} (h : w.ownsRow base e size v n xs) (gg : w.grownBy w1 (some g)) (hne : v.ownBlock ≠ some g) : w1.ownsRow base e size v n xs := own_keep h gg (.inr hne)
theorem entB {L : List Nm} (ok : EntOk L) : ∀ x ∈ L, -1000000000000 ≤ ((fun _ => none : ByteArray → Option Int) x.key).getD 0 + x.many ∧ ((fun _ => none : ByteArray → Option Int) x.key).getD 0 + x.many ≤ 1000000000000 := fun x hx => by
  have := ok.many x hx
  simp only [Option.getD_none]
  omega
set_option maxRecDepth 100000 in
set_option maxHeartbeats 2000000 in
theorem post_any (day : Int) (T : ByteArray) (L : List Nm) (a : Option Addr) (c : Nat) (g M n base : Nat) (v : Value) (f : ByteArray → Option Int) (w0 w : World) (E : EnvW w) (hL : LedAt w g M v n f) (ho : w.ownsRow base 86 5 v 0 []) (hc : CellsAt w a (flat encNm L)) (hcap : L.length ≤ c) (ok : EntOk L)
    (hT : PlainS T) (hT1 : 1 ≤ T.size) (hT2 : T.size ≤ 60) (hd0 : 0 ≤ day) (hd1 : day ≤ 4000) (hn : n ≤ 100000) (hb : ∀ x ∈ L, -1000000000000 ≤ (f x.key).getD 0 + x.many ∧ (f x.key).getD 0 + x.many ≤ 1000000000000) (g0 : w0.grownBy w none) (zg : w0.heap.size ≤ g) (zM : w0.heap.size ≤ M) (zb : w0.heap.size ≤ base) (hbw : base ≤ w.heap.size) :
    Calls Tryz.prog 7 #[.pointer (some ⟨g, 0, none⟩), .agg #[.int .i64 day, .string T, .slice a L.length c]] w fun e w' => ∃ v' v3, e = .returned (.tuple #[.int .i64 1, .int .i64 0]) ∧ LedAt w' g M v' (n + L.length) (addL f L) ∧ w'.ownsRow base 86 5 v' 1 [.int .i64 day, .string T, v3, .int .i64 0, .bool false] ∧ w'.ownsRow w.heap.size 89 2 v3 L.length (flat encNm L) ∧ w0.grownBy w' none := by
  have hV := heap_alloc_new w (.cells #[.int .i64 day, .string T, .slice a L.length c] 34)
  have g1 := gr_alloc (gr_refl w none) (.cells #[.int .i64 day, .string T, .slice a L.length c] 34)
  obtain ⟨w1, hw1⟩ : ∃ w1, w1 = w.alloc (.cells #[.int .i64 day, .string T, .slice a L.length c] 34) := ⟨_, rfl⟩
  rw [← hw1] at hV g1
  obtain ⟨V, hVe⟩ : ∃ V, V = w.heap.size := ⟨_, rfl⟩
  rw [← hVe] at hV
  have hl0 := ok.l0
  have hl1 := ok.l1
  obtain ⟨va, vc, rfl, -, -, -, -⟩ := own_shape ho
  obtain ⟨b, off, rfl, -, -⟩ := bk_cells hc 0 (by omega)
  have hgw := lt_of_block hL.blk
  have hMw := hL.mp.lt
  have hoL : ∀ b, (Value.slice va 0 vc).ownBlock = some b → b < w.heap.size := fun b hb => (ho.lt b hb).2
  have CE := Lib.hid (checkEntry_ok day T L (some ⟨b, off, none⟩) c w1 (E.keep g1) (hc.keep0 g1) hcap ok hT hT1 hT2 hd0 hd1)
  have HL1 := Lib.hid (hL.keep0 g1)
  have HO1 := Lib.hid (own_keep0 ho g1)
  have HC1 := Lib.hid (hc.keep0 g1)
  have HG0 := Lib.hid g0
  have HG1 := Lib.hid g1
  have HV := Lib.hid hV
  have HW1 := Lib.hid hw1
  have HVE := Lib.hid hVe
  have HOK := Lib.hid ok
  have HB := Lib.hid hb
  have HOL := Lib.hid hoL
  have hz1 := g1.size
  have hz0 := g0.size
  have p0 : w1.cell? ⟨V, 0, none⟩ = some (.int .i64 day) := blkC hV 0 rfl
  have p1 : w1.cell? ⟨V, 1, none⟩ = some (.string T) := blkC hV 1 rfl
  have p2 : w1.cell? ⟨V, 2, none⟩ = some (.slice (some ⟨b, off, none⟩) L.length c) := blkC hV 2 rfl
  clear hV g1 hw1 hVe E hL ho hc ok hT hb g0 hoL
  go_enter Tryz.func7, Tryz.ntmps7
  go_wp2_with (fail)
  rw [← HW1.out, ← HVE.out]
  go_wp2_with (fail)
  refine CE.out.mono ?_
  rintro e w2 ⟨rfl, g2⟩
  have hV2 := (g2.block _ (lt_of_block HV.out) (by simp)).trans HV.out
  have HL2 := Lib.hid (HL1.out.keep0 g2)
  have HO2 := Lib.hid (own_keep0 HO1.out g2)
  have HC2 := Lib.hid (HC1.out.keep0 g2)
  have x0 : w2.cell? ⟨g, 0, none⟩ = some (.slice va 0 vc) := blkC HL2.out.blk 0 rfl
  have p0 : w2.cell? ⟨V, 0, none⟩ = some (.int .i64 day) := blkC hV2 0 rfl
  have p1 : w2.cell? ⟨V, 1, none⟩ = some (.string T) := blkC hV2 1 rfl
  have p2 : w2.cell? ⟨V, 2, none⟩ = some (.slice (some ⟨b, off, none⟩) L.length c) := blkC hV2 2 rfl
  have HG2 := Lib.hid (gr_trans HG1.out g2)
  have hz2 := g2.size
  have HV2 := Lib.hid hV2
  clear CE g2 hV2
  go_wp2_with (fail)
  go_region
  have gd := gr_drew (gr_refl w2 none)
  obtain ⟨wd, hwd⟩ : ∃ wd, wd = w2.drew := ⟨_, rfl⟩
  have hzd : w2.heap.size ≤ wd.heap.size := by rw [hwd]; exact Nat.le_refl _
  rw [← hwd] at gd
  rw [← hwd]
  have HL2 := Lib.hid (HL2.out.keep0 gd)
  have HO2 := Lib.hid (own_keep0 HO2.out gd)
  have HC2 := Lib.hid (HC2.out.keep0 gd)
  have HG2 := Lib.hid (gr_trans HG2.out gd)
  have hVd := (gd.block _ (lt_of_block HV2.out) (by simp)).trans HV2.out
  have HV2 := Lib.hid hVd
  have p2 : wd.cell? ⟨V, 2, none⟩ = some (.slice (some ⟨b, off, none⟩) L.length c) := blkC hVd 2 rfl
  have CL := Lib.hid (cloneLn_any (some ⟨b, off, none⟩) L.length c (flat encNm L) wd (flat_length (m := 2) (fun _ => rfl) L) HC2.out (fun e => by cases e) (flat_ones (fun _ => rfl) L) (by omega))
  clear gd hwd hVd x0
  go_wp2_with (fail)
  refine CL.out.mono ?_
  rintro e w3 ⟨v3, rfl, o3, g3⟩
  obtain ⟨ga, ca, rfl, hga, hgaw, -, -⟩ := own_some o3 (by omega)
  have hV3 := (g3.block _ (lt_of_block HV2.out) (by simp)).trans HV2.out
  have hz3 := g3.size
  have HG3 := Lib.hid (gr_trans HG2.out g3)
  have gx := gr_set (q := ⟨V, 2, none⟩) (gr_refl w3 (some V)) rfl (.slice (some ⟨ga, 0, none⟩) L.length ca)
  have k2 := heap_setCell_same w3 V 2 _ _ (.slice (some ⟨ga, 0, none⟩) L.length ca) hV3
  have t3 := blkF hV3 2
  have s2 : w3.cell? ⟨V, 2, none⟩ = some (.slice (some ⟨b, off, none⟩) L.length c) := blkC hV3 2 rfl
  have HL3 := Lib.hid ((HL2.out.keep0 g3))
  have HO3 := Lib.hid (own_keep0 HO2.out g3)
  obtain ⟨w4, hw4⟩ : ∃ w4, w4 = w3.setCell ⟨V, 2, none⟩ (.slice (some ⟨ga, 0, none⟩) L.length ca) := ⟨_, rfl⟩
  rw [← hw4] at gx k2
  have hVg : V ≠ g := by have := HVE.out; omega
  have hVM : V ≠ M := by have := HVE.out; omega
  have hz4 := gx.size
  have hVga : V ≠ ga := by have := lt_of_block HV2.out; omega
  have HL4 : Hid (LedAt w4 g M (.slice va 0 vc) n f) := ⟨(gx.block _ (lt_of_block HL3.out.blk) (fun e => by cases e; exact hVg rfl)).trans HL3.out.blk, HL3.out.mp.keep gx (fun e => by cases e; exact hVM rfl)⟩
  have HO4 : Hid (w4.ownsRow base 86 5 (.slice va 0 vc) 0 []) := own_new HO3.out gx (fun e => by have := HOL.out V e; have := HVE.out; omega)
  have HR4 : Hid (w4.ownsRow w.heap.size 89 2 (.slice (some ⟨ga, 0, none⟩) L.length ca) L.length (flat encNm L)) := own_new (own_base o3 (by omega)) gx (fun e => hVga (by simp [Value.ownBlock] at e; exact e.symm))
  have hG4 : w.grownBy w4 none := gr_grown HG3.out gx (fun q e => by cases e; have := HVE.out; omega)
  have HG4 := Lib.hid (gr_trans HG0.out hG4)
  have h4 := hG4.size
  have q0 : w4.cell? ⟨V, 0, none⟩ = some (.int .i64 day) := blkC k2 0 rfl
  have q1 : w4.cell? ⟨V, 1, none⟩ = some (.string T) := blkC k2 1 rfl
  have q2 : w4.cell? ⟨V, 2, none⟩ = some (.slice (some ⟨ga, 0, none⟩) L.length ca) := blkC k2 2 rfl
  have LA := Lib.hid (ledAdd_any day T L (some ⟨ga, 0, none⟩) ca 0 false g M n base 0 (.slice va 0 vc) [] f w0 w4 HL4.out HO4.out (own_shape HR4.out |> fun ⟨_, _, e, _, _, hc, _⟩ => by cases e; exact hc) HOK.out (by omega) hn HB.out HG4.out zg zM zb (by omega))
  have hgaV : ga ≠ g ∧ ga ≠ M ∧ ga < w4.heap.size ∧ some ga ≠ (Value.slice va 0 vc).ownBlock := ⟨by omega, by omega, by omega, fun e => by have := HOL.out ga e.symm; omega⟩
  have HW4 := Lib.hid hw4
  clear p0 p1 p2 gx k2 hw4 hV3 o3 g3
  go_upto_region 8 with (fail)
  rw [← HW4.out]
  clear t3 s2
  go_wp2_with (fail)
  refine LA.out.mono ?_
  rintro e w5 ⟨v5, rfl, l5, o5, g5, f5⟩
  have R5 := own_at HR4.out (w1 := w5) (fun q e => by cases e; exact f5 ga hgaV.2.2.1 hgaV.1 hgaV.2.1 hgaV.2.2.2)
  have R5 := Lib.hid R5
  have L5 := Lib.hid l5
  have O5 := Lib.hid o5
  have G5 := Lib.hid g5
  clear l5 o5 g5 f5 LA
  go_wp2_with (fail)
  go_ret2
  exact ⟨_, _, rfl, L5.out, O5.out, R5.out, G5.out⟩
end Go.Proofs.YthikknnadmebgaaGreatDoor

/-! till.Ledger.Post of a right entry to any ledger. -/
namespace Go.Proofs.YthikknnadmebgaaGreatDoor
open Go.RowKit
attribute [local go_sem ↓] Go.wp_at_zero Go.wp_at_succ

set_option maxRecDepth 100000 in
set_option maxHeartbeats 2000000 in
theorem postL_any (day : Int) (T : ByteArray) (L : List Nm) (a : Option Addr) (c : Nat) (g M n base m : Nat) (v : Value) (xs : List Value) (last : Int) (f : ByteArray → Option Int) (w0 w : World) (E : EnvW w) (hL : LedAt w g M v n f) (ho : w.ownsRow base 86 5 v m xs) (hm : m < 2000) (hlast : 0 < m → xs[(m - 1) * 5]? = some (.int .i64 last) ∧ last ≤ day) (hc : CellsAt w a (flat encNm L)) (hcap : L.length ≤ c) (ok : EntOk L)
    (hT : PlainS T) (hT1 : 1 ≤ T.size) (hT2 : T.size ≤ 60) (hd0 : 0 ≤ day) (hd1 : day ≤ 4000) (hn : n ≤ 100000) (hb : ∀ x ∈ L, -1000000000000 ≤ (f x.key).getD 0 + x.many ∧ (f x.key).getD 0 + x.many ≤ 1000000000000) (g0 : w0.grownBy w none) (zg : w0.heap.size ≤ g) (zM : w0.heap.size ≤ M) (zb : w0.heap.size ≤ base) (hbw : base ≤ w.heap.size) :
    Calls Tryz.prog 7 #[.pointer (some ⟨g, 0, none⟩), .agg #[.int .i64 day, .string T, .slice a L.length c]] w fun e w' => ∃ v' v3, e = .returned (.tuple #[.int .i64 ((m + 1 : Nat) : Int), .int .i64 0]) ∧ LedAt w' g M v' (n + L.length) (addL f L) ∧ w'.ownsRow base 86 5 v' (m + 1) (xs ++ [.int .i64 day, .string T, v3, .int .i64 0, .bool false]) ∧ w'.ownsRow w.heap.size 89 2 v3 L.length (flat encNm L) ∧ w0.grownBy w' none ∧ (∀ b, b < w.heap.size → b ≠ g → b ≠ M → some b ≠ v.ownBlock → w'.heap[b]? = w.heap[b]?) := by
  have hV := heap_alloc_new w (.cells #[.int .i64 day, .string T, .slice a L.length c] 34)
  have g1 := gr_alloc (gr_refl w none) (.cells #[.int .i64 day, .string T, .slice a L.length c] 34)
  obtain ⟨w1, hw1⟩ : ∃ w1, w1 = w.alloc (.cells #[.int .i64 day, .string T, .slice a L.length c] 34) := ⟨_, rfl⟩
  rw [← hw1] at hV g1
  obtain ⟨V, hVe⟩ : ∃ V, V = w.heap.size := ⟨_, rfl⟩
  rw [← hVe] at hV
  have hl0 := ok.l0
  have hl1 := ok.l1
  obtain ⟨va, vc, rfl, -, -, -, -⟩ := own_shape ho
  obtain ⟨b, off, rfl, -, -⟩ := bk_cells hc 0 (by omega)
  have hgw := lt_of_block hL.blk
  have hMw := hL.mp.lt
  have hoL : ∀ b, (Value.slice va m vc).ownBlock = some b → b < w.heap.size := fun b hb => (ho.lt b hb).2
  have CE := Lib.hid (checkEntry_ok day T L (some ⟨b, off, none⟩) c w1 (E.keep g1) (hc.keep0 g1) hcap ok hT hT1 hT2 hd0 hd1)
  have HL1 := Lib.hid (hL.keep0 g1)
  have HO1 := Lib.hid (own_keep0 ho g1)
  have HC1 := Lib.hid (hc.keep0 g1)
  have HG0 := Lib.hid g0
  have HG1 := Lib.hid g1
  have HV := Lib.hid hV
  have HW1 := Lib.hid hw1
  have HVE := Lib.hid hVe
  have HOK := Lib.hid ok
  have HB := Lib.hid hb
  have HOL := Lib.hid hoL
  have HLA := Lib.hid hlast
  have hz1 := g1.size
  have hz0 := g0.size
  have p0 : w1.cell? ⟨V, 0, none⟩ = some (.int .i64 day) := blkC hV 0 rfl
  have p1 : w1.cell? ⟨V, 1, none⟩ = some (.string T) := blkC hV 1 rfl
  have p2 : w1.cell? ⟨V, 2, none⟩ = some (.slice (some ⟨b, off, none⟩) L.length c) := blkC hV 2 rfl
  clear hV g1 hw1 hVe E hL ho hc ok hT hb g0 hoL hlast
  go_enter Tryz.func7, Tryz.ntmps7
  go_wp2_with (fail)
  rw [← HW1.out, ← HVE.out]
  go_wp2_with (fail)
  refine CE.out.mono ?_
  rintro e w2 ⟨rfl, g2⟩
  have hV2 := (g2.block _ (lt_of_block HV.out) (by simp)).trans HV.out
  have HL2 := Lib.hid (HL1.out.keep0 g2)
  have HO2 := Lib.hid (own_keep0 HO1.out g2)
  have HC2 := Lib.hid (HC1.out.keep0 g2)
  have x0 : w2.cell? ⟨g, 0, none⟩ = some (.slice va m vc) := blkC HL2.out.blk 0 rfl
  have p0 : w2.cell? ⟨V, 0, none⟩ = some (.int .i64 day) := blkC hV2 0 rfl
  have p1 : w2.cell? ⟨V, 1, none⟩ = some (.string T) := blkC hV2 1 rfl
  have p2 : w2.cell? ⟨V, 2, none⟩ = some (.slice (some ⟨b, off, none⟩) L.length c) := blkC hV2 2 rfl
  have HG2 := Lib.hid (gr_trans HG1.out g2)
  have hz2 := g2.size
  have HV2 := Lib.hid hV2
  clear CE g2 hV2
  go_upto_region 5 with (fail)
  go_cut [34] (fun s wx => s = .bool false ∧ w2.grownBy wx none)
  case first =>
    have y0 := grew_cell x0
    have yp := grew_cell p0
    clear x0 p0 p1 p2
    rcases Nat.eq_zero_or_pos m with h0 | h0
    · have hd : decide ((0 : Int) < (m : Int)) = false := decide_eq_false (by omega)
      refine wp_region_grew (by kernel_rfl) (by kernel_rfl) ?_
      repeat (go_big_quiet_step (fail))
      refine wpQuiet_nil ?_
      rintro wq ⟨nn, rfl⟩
      have gq := nn.gr
      go_wp2_with (fail)
      go_meet
      exact ⟨rfl, gq⟩
    · have hd : decide ((0 : Int) < (m : Int)) = true := decide_eq_true (by omega)
      obtain ⟨hla, hld⟩ := HLA.out h0
      obtain ⟨ga0, ca0, he0, -, -, -, -⟩ := own_some HO2.out h0
      cases he0
      have hcl := grew_cell ((HO2.out.cellAt ((m - 1) * 5) (by omega)).trans hla)
      have hdl : decide (day < last) = false := decide_eq_false (by omega)
      obtain ⟨k, hk⟩ : ∃ k, m = k + 1 := ⟨m - 1, by omega⟩
      subst hk
      have hwk : IntKind.i64.wrap ((k : Int) + 1 - 1) = (k : Int) := by
        rw [show (k : Int) + 1 - 1 = (k : Int) by omega]; exact IntWalk.i64_in _ (by omega)
      rw [show k + 1 - 1 = k by omega] at hcl
      refine wp_region_grew (by kernel_rfl) (by kernel_rfl) ?_
      repeat (go_big_quiet_step (fail))
      refine wpQuiet_nil ?_
      rintro wq ⟨nn, rfl⟩
      have gq := nn.gr
      go_wp2_with (fail)
      go_meet
      exact ⟨rfl, gq⟩
  case rest =>
  obtain ⟨rfl, gd⟩ := hcut
  obtain ⟨wd, rfl⟩ : ∃ wd : World, wd = wc := ⟨_, rfl⟩
  have hzd := gd.size
  have HL2 := Lib.hid (HL2.out.keep0 gd)
  have HO2 := Lib.hid (own_keep0 HO2.out gd)
  have HC2 := Lib.hid (HC2.out.keep0 gd)
  have HG2 := Lib.hid (gr_trans HG2.out gd)
  have hVd := (gd.block _ (lt_of_block HV2.out) (by simp)).trans HV2.out
  have HV2 := Lib.hid hVd
  have p2 : wd.cell? ⟨V, 2, none⟩ = some (.slice (some ⟨b, off, none⟩) L.length c) := blkC hVd 2 rfl
  have CL := Lib.hid (cloneLn_any (some ⟨b, off, none⟩) L.length c (flat encNm L) wd (flat_length (m := 2) (fun _ => rfl) L) HC2.out (fun e => by cases e) (flat_ones (fun _ => rfl) L) (by omega))
  clear gd hVd x0
  go_wp2_with (fail)
  refine CL.out.mono ?_
  rintro e w3 ⟨v3, rfl, o3, g3⟩
  obtain ⟨ga, ca, rfl, hga, hgaw, -, -⟩ := own_some o3 (by omega)
  have hV3 := (g3.block _ (lt_of_block HV2.out) (by simp)).trans HV2.out
  have hz3 := g3.size
  have HG3 := Lib.hid (gr_trans HG2.out g3)
  have gx := gr_set (q := ⟨V, 2, none⟩) (gr_refl w3 (some V)) rfl (.slice (some ⟨ga, 0, none⟩) L.length ca)
  have k2 := heap_setCell_same w3 V 2 _ _ (.slice (some ⟨ga, 0, none⟩) L.length ca) hV3
  have t3 := blkF hV3 2
  have s2 : w3.cell? ⟨V, 2, none⟩ = some (.slice (some ⟨b, off, none⟩) L.length c) := blkC hV3 2 rfl
  have HL3 := Lib.hid ((HL2.out.keep0 g3))
  have HO3 := Lib.hid (own_keep0 HO2.out g3)
  obtain ⟨w4, hw4⟩ : ∃ w4, w4 = w3.setCell ⟨V, 2, none⟩ (.slice (some ⟨ga, 0, none⟩) L.length ca) := ⟨_, rfl⟩
  rw [← hw4] at gx k2
  have hVg : V ≠ g := by have := HVE.out; omega
  have hVM : V ≠ M := by have := HVE.out; omega
  have hz4 := gx.size
  have hVga : V ≠ ga := by have := lt_of_block HV2.out; omega
  have HL4 : Hid (LedAt w4 g M (.slice va m vc) n f) := ⟨(gx.block _ (lt_of_block HL3.out.blk) (fun e => by cases e; exact hVg rfl)).trans HL3.out.blk, HL3.out.mp.keep gx (fun e => by cases e; exact hVM rfl)⟩
  have HO4 : Hid (w4.ownsRow base 86 5 (.slice va m vc) m xs) := own_new HO3.out gx (fun e => by have := HOL.out V e; have := HVE.out; omega)
  have HR4 : Hid (w4.ownsRow w.heap.size 89 2 (.slice (some ⟨ga, 0, none⟩) L.length ca) L.length (flat encNm L)) := own_new (own_base o3 (by omega)) gx (fun e => hVga (by simp [Value.ownBlock] at e; exact e.symm))
  have hG4 : w.grownBy w4 none := gr_grown HG3.out gx (fun q e => by cases e; have := HVE.out; omega)
  have HG4 := Lib.hid (gr_trans HG0.out hG4)
  have h4 := hG4.size
  have q0 : w4.cell? ⟨V, 0, none⟩ = some (.int .i64 day) := blkC k2 0 rfl
  have q1 : w4.cell? ⟨V, 1, none⟩ = some (.string T) := blkC k2 1 rfl
  have q2 : w4.cell? ⟨V, 2, none⟩ = some (.slice (some ⟨ga, 0, none⟩) L.length ca) := blkC k2 2 rfl
  have LA := Lib.hid (ledAdd_any day T L (some ⟨ga, 0, none⟩) ca 0 false g M n base m (.slice va m vc) xs f w0 w4 HL4.out HO4.out (own_shape HR4.out |> fun ⟨_, _, e, _, _, hc, _⟩ => by cases e; exact hc) HOK.out (by omega) hn HB.out HG4.out zg zM zb (by omega))
  have hgaV : ga ≠ g ∧ ga ≠ M ∧ ga < w4.heap.size ∧ some ga ≠ (Value.slice va m vc).ownBlock := ⟨by omega, by omega, by omega, fun e => by have := HOL.out ga e.symm; omega⟩
  have HW4 := Lib.hid hw4
  clear p0 p1 p2 gx k2 hw4 hV3 o3 g3
  go_upto_region 8 with (fail)
  rw [← HW4.out]
  clear t3 s2
  go_wp2_with (fail)
  refine LA.out.mono ?_
  rintro e w5 ⟨v5, rfl, l5, o5, g5, f5⟩
  have R5 := own_at HR4.out (w1 := w5) (fun q e => by cases e; exact f5 ga hgaV.2.2.1 hgaV.1 hgaV.2.1 hgaV.2.2.2)
  have R5 := Lib.hid R5
  have L5 := Lib.hid l5
  have O5 := Lib.hid o5
  have G5 := Lib.hid g5
  have F5 : Hid (∀ b, b < w.heap.size → b ≠ g → b ≠ M → some b ≠ (Value.slice va m vc).ownBlock → w5.heap[b]? = w.heap[b]?) := Lib.hid (fun b hb b1 b2 b3 => (f5 b (Nat.lt_of_lt_of_le hb h4) b1 b2 b3).trans (hG4.block b hb (by simp)))
  clear l5 o5 g5 f5 LA
  go_wp2_with (fail)
  go_ret2
  exact ⟨_, _, rfl, L5.out, O5.out, R5.out, G5.out, F5.out⟩
end Go.Proofs.YthikknnadmebgaaGreatDoor

/-! A ledger of any entries: its row of posted ones, each with lines of its own, and its map. -/
namespace Go.Proofs.YthikknnadmebgaaGreatDoor
open Go.RowKit

/-- An entry as it stands in a ledger. -/
structure Pst where
  day : Int
  text : ByteArray
  lines : List Nm
  can : Nat
  off : Bool
def encPst (p : Pst) (v : Value) : List Value := [.int .i64 p.day, .string p.text, v, .int .i64 p.can, .bool p.off]
def pstRow : List Pst → List Value → List Value
  | p :: P, v :: vs => encPst p v ++ pstRow P vs
  | _, _ => []
theorem pstRow_app : ∀ (P : List Pst) (vs : List Value) (p : Pst) (v : Value), vs.length = P.length → pstRow (P ++ [p]) (vs ++ [v]) = pstRow P vs ++ encPst p v
  | [], [], p, v, _ => rfl
  | q :: P, u :: vs, p, v, h => by
    show encPst q u ++ pstRow (P ++ [p]) (vs ++ [v]) = (encPst q u ++ pstRow P vs) ++ encPst p v
    rw [pstRow_app P vs p v (by simpa using h), List.append_assoc]
/-- The map of entries. -/
def mapP (P : List Pst) : ByteArray → Option Int := P.foldl (fun f p => addL f p.lines) (fun _ => none)
theorem mapP_app (P : List Pst) (p : Pst) : mapP (P ++ [p]) = addL (mapP P) p.lines := by
  unfold mapP
  rw [List.foldl_append]
  rfl
theorem own_blkL {w : World} {base e size n : Nat} {v : Value} {xs : List Value} (h : w.ownsRow base e size v n xs) {z : Nat} (hz : v.ownBlock = some z) : ∃ cs, w.heap[z]? = some (.cells cs e (0, 0)) := by
  rcases h.2 with ⟨rfl, _⟩ | ⟨g', cap, cur, rfl, _, hh, _⟩
  · simp [Value.ownBlock] at hz
  · simp [Value.ownBlock] at hz
    subst hz
    exact ⟨_, hh⟩
structure LedL (w : World) (base g M n : Nat) (P : List Pst) : Prop where
  led : ∃ v vs, LedAt w g M v n (mapP P) ∧ w.ownsRow base 86 5 v P.length (pstRow P vs) ∧ vs.length = P.length ∧ ∀ (k : Nat) (p : Pst), P[k]? = some p → ∃ u, vs[k]? = some u ∧ w.ownsRow base 89 2 u p.lines.length (flat encNm p.lines)
theorem LedL.keep0 {w w1 : World} {base g M n : Nat} {P : List Pst} (h : LedL w base g M n P) (e : w.grownBy w1 none) : LedL w1 base g M n P := by
  obtain ⟨v, vs, h1, h2, h3, h4⟩ := h.led
  refine ⟨v, vs, h1.keep0 e, own_keep0 h2 e, h3, fun k p hk => ?_⟩
  obtain ⟨u, h5, h6⟩ := h4 k p hk
  exact ⟨u, h5, own_keep0 h6 e⟩
theorem LedL.empty {w : World} {base g M : Nat} (h : LedAt w g M (.slice none 0 0) 0 (fun _ => none)) : LedL w base g M 0 [] :=
  ⟨_, [], h, World.ownsRow_nil _ _ _ _, rfl, fun k p hk => by simp at hk⟩
/-- What a call of a ledger's leaves as it was. -/
def LedFr (w w' : World) (g M : Nat) : Prop := ∀ b, b < w.heap.size → b ≠ g → b ≠ M → (∀ cs z, w.heap[b]? ≠ some (.cells cs 86 z)) → w'.heap[b]? = w.heap[b]?
theorem LedL.room {w : World} {base g M n : Nat} {P : List Pst} (h : LedL w base g M n P) : g < w.heap.size ∧ M < w.heap.size := by
  obtain ⟨v, vs, h1, h2, h3, h4⟩ := h.led
  exact ⟨lt_of_block h1.blk, h1.mp.lt⟩
theorem blk_posted {w : World} {base m : Nat} {v : Value} {xs : List Value} (ho : w.ownsRow base 86 5 v m xs) {b : Nat} (h : ∀ cs z, w.heap[b]? ≠ some (.cells cs 86 z)) : some b ≠ v.ownBlock := by
  intro e
  obtain ⟨cs, hc⟩ := own_blkL ho e.symm
  exact h _ _ hc
theorem ln_apart {w : World} {base base' g M n m k : Nat} {u v : Value} {xs ys : List Value} {f : ByteArray → Option Int} (hL : LedAt w g M v n f) (ho : w.ownsRow base 86 5 v m xs) (hl : w.ownsRow base' 89 2 u k ys) {b : Nat} (hb : u.ownBlock = some b) : b < w.heap.size ∧ b ≠ g ∧ b ≠ M ∧ some b ≠ v.ownBlock := by
  obtain ⟨cs, hc⟩ := own_blkL hl hb
  refine ⟨lt_of_block hc, ?_, ?_, ?_⟩
  · rintro rfl
    have := hL.blk
    rw [hc] at this
    simp at this
  · rintro rfl
    obtain ⟨es, cl, hm⟩ := hL.mp.objL
    rw [hc] at hm
    cases hm
  · intro e
    obtain ⟨ds, hd⟩ := own_blkL ho e.symm
    rw [hc] at hd
    simp at hd
/-- A ledger with an entry more; others may be marked. -/
theorem LedL.add {w w' : World} {base g M n n' : Nat} {P P' : List Pst} {v v' u : Value} {vs : List Value} {p : Pst} (h1 : LedAt w g M v n (mapP P)) (h2 : w.ownsRow base 86 5 v P.length (pstRow P vs)) (h3 : vs.length = P.length) (h4 : ∀ (k : Nat) (p : Pst), P[k]? = some p → ∃ u, vs[k]? = some u ∧ w.ownsRow base 89 2 u p.lines.length (flat encNm p.lines))
    (hP : P'.length = P.length) (hP2 : ∀ (k : Nat) (p : Pst), P'[k]? = some p → ∃ q, P[k]? = some q ∧ p.lines = q.lines) (hP3 : mapP P' = mapP P)
    (a1 : LedAt w' g M v' n' (addL (mapP P) p.lines)) (a2 : w'.ownsRow base 86 5 v' (P.length + 1) (pstRow P' vs ++ encPst p u)) (a3 : w'.ownsRow base 89 2 u p.lines.length (flat encNm p.lines)) (hf : LedFr w w' g M) : LedL w' base g M n' (P' ++ [p]) := by
  refine ⟨v', vs ++ [u], by rw [mapP_app, hP3]; exact a1, ?_, by simp [h3, hP], fun k q hk => ?_⟩
  · rw [pstRow_app P' vs p u (by rw [h3, hP]), List.length_append, hP]
    exact a2
  · rcases Nat.lt_or_ge k P'.length with hlt | hge
    · rw [List.getElem?_append_left hlt] at hk
      obtain ⟨q', hq', hl⟩ := hP2 k q hk
      obtain ⟨x, hx, ho⟩ := h4 k q' hq'
      rw [← hl] at ho
      refine ⟨x, by rw [List.getElem?_append_left (by omega)]; exact hx, own_at ho (fun b hb => ?_)⟩
      obtain ⟨c1, c2, c3, c4⟩ := ln_apart h1 h2 ho hb
      obtain ⟨cs, hc⟩ := own_blkL ho hb
      exact hf b c1 c2 c3 (fun ds z hd => by rw [hc] at hd; simp at hd)
    · rw [List.getElem?_append_right hge] at hk
      have hk0 : k - P'.length = 0 := by
        rcases Nat.eq_zero_or_pos (k - P'.length) with h | h
        · exact h
        · rw [List.getElem?_eq_none (by simp; omega)] at hk; cases hk
      rw [hk0] at hk
      have : p = q := by simpa using hk
      subst this
      refine ⟨u, ?_, a3⟩
      rw [List.getElem?_append_right (by omega), h3, ← hP, hk0]
      rfl
end Go.Proofs.YthikknnadmebgaaGreatDoor
