/- till.Ledger.Cancel of an entry that stands. -/
import Derived.Test.YthikknnadmebgaaGreatDoorPkSBa
import Derived.Test.YthikknnadmebgaaGreatDoorPkSBc
import Derived.Test.YthikknnadmebgaaGreatDoorPkSBh
import Derived.Test.YthikknnadmebgaaGreatDoorPkSAb
import Derived.Deep.RegionHeld3
import Derived.Test.YthikknnadmebgaaGreatDoorPkSAr
import Derived.Test.YthikknnadmebgaaGreatDoorPkSAw
namespace Go.Proofs.YthikknnadmebgaaGreatDoor
open Go.RowKit
attribute [local go_sem ↓] Go.wp_at_zero Go.wp_at_succ

theorem canT_bytes (n : Nat) : (⟨#[99, 97, 110, 99, 101, 108, 32]⟩ : ByteArray) ++ itoaB (n : Int) = canT n := by
  unfold canT itoaB
  rw [show (⟨#[99, 97, 110, 99, 101, 108, 32]⟩ : ByteArray) = ⟨([99, 97, 110, 99, 101, 108, 32] : List UInt8).toArray⟩ from rfl, app_bytes]
theorem cellUpP {w : World} {b o : Nat} {v : Value} (h : w.cell? ⟨b, o, none⟩ = some v) (ob : Obj) : (w.alloc ob).cell? ⟨b, o, none⟩ = some v := (gr_cell (gr_alloc (gr_refl w none) ob) (lt_of_cell h)).trans h
theorem set5_heap {w : World} {g t : Nat} {a b c d e : Value} (h : w.heap[g]? = some (.cells #[a, b, c, d, e] t (0, 0))) (x y z u v : Value) : (((((w.setCell ⟨g, 0, none⟩ x).setCell ⟨g, 1, none⟩ y).setCell ⟨g, 2, none⟩ z).setCell ⟨g, 3, none⟩ u).setCell ⟨g, 4, none⟩ v).heap[g]? = some (.cells #[x, y, z, u, v] t (0, 0)) := by
  have h1 := heap_setCell_same w g 0 _ t x h
  have h2 := heap_setCell_same _ g 1 _ t y h1
  have h3 := heap_setCell_same _ g 2 _ t z h2
  have h4 := heap_setCell_same _ g 3 _ t u h3
  exact heap_setCell_same _ g 4 _ t v h4
theorem set5_gr (w : World) (g : Nat) (x y z u v : Value) : w.grownBy (((((w.setCell ⟨g, 0, none⟩ x).setCell ⟨g, 1, none⟩ y).setCell ⟨g, 2, none⟩ z).setCell ⟨g, 3, none⟩ u).setCell ⟨g, 4, none⟩ v) (some g) :=
  gr_set (q := ⟨g, 4, none⟩) (gr_set (q := ⟨g, 3, none⟩) (gr_set (q := ⟨g, 2, none⟩) (gr_set (q := ⟨g, 1, none⟩) (gr_set (q := ⟨g, 0, none⟩) (gr_refl w (some g)) rfl _) rfl _) rfl _) rfl _) rfl _
theorem cell_set5 {w : World} {b o g : Nat} {c : Value} (h : w.cell? ⟨b, o, none⟩ = some c) (hb : b ≠ g) (x y z u v : Value) : (((((w.setCell ⟨g, 0, none⟩ x).setCell ⟨g, 1, none⟩ y).setCell ⟨g, 2, none⟩ z).setCell ⟨g, 3, none⟩ u).setCell ⟨g, 4, none⟩ v).cell? ⟨b, o, none⟩ = some c :=
  ((set5_gr w g x y z u v).cell h (by simpa using hb))
set_option maxRecDepth 100000 in
set_option maxHeartbeats 2000000 in
theorem cancel_any (k : Nat) (day : Int) (L : List Nm) (u : Value) (g M n base m : Nat) (v : Value) (xs : List Value) (f : ByteArray → Option Int) (w0 w : World) (E : EnvP w) (hL : LedAt w g M v n f) (ho : w.ownsRow base 86 5 v m xs) (hm : m < 2000) (hk : k < m)
    (x2 : xs[k * 5 + 2]? = some u) (x3 : xs[k * 5 + 3]? = some (.int .i64 0)) (x4 : xs[k * 5 + 4]? = some (.bool false)) (xd : xs[(m - 1) * 5]? = some (.int .i64 day)) (hu : w.ownsRow base 89 2 u L.length (flat encNm L)) (ok : EntOk L) (hn : n ≤ 100000)
    (hb : ∀ x ∈ L.map negN, -1000000000000 ≤ (f x.key).getD 0 + x.many ∧ (f x.key).getD 0 + x.many ≤ 1000000000000) (g0 : w0.grownBy w none) (zg : w0.heap.size ≤ g) (zM : w0.heap.size ≤ M) (zb : w0.heap.size ≤ base) :
    Calls Tryz.prog 11 #[.pointer (some ⟨g, 0, none⟩), .int .i64 ((k : Int) + 1)] w fun e w' => ∃ v' v3, e = .returned (.tuple #[.int .i64 ((m + 1 : Nat) : Int), .int .i64 0]) ∧ LedAt w' g M v' (n + L.length) (addL f (L.map negN)) ∧ w'.ownsRow base 86 5 v' (m + 1) ((xs ++ [.int .i64 day, .string (canT (k + 1)), v3, .int .i64 ((k : Int) + 1), .bool false]).set (k * 5 + 4) (.bool true)) ∧ w'.ownsRow w.heap.size 89 2 v3 L.length (flat encNm (L.map negN)) ∧ w0.grownBy w' none ∧ LedFr w w' g M := by
  obtain ⟨vb, vc, rfl, hvb, hvbw, hvc, -⟩ := own_some ho (by omega)
  obtain ⟨ua, uc, rfl, huc, -, hC, -⟩ := own_shape hu
  have hxl : xs.length = m * 5 := ho.1
  have c2 := (ho.cellAt (k * 5 + 2) (by omega)).trans x2
  have c3 := (ho.cellAt (k * 5 + 3) (by omega)).trans x3
  have c4 := (ho.cellAt (k * 5 + 4) (by omega)).trans x4
  have cd := (ho.cellAt ((m - 1) * 5) (by omega)).trans xd
  have x0 : w.cell? ⟨g, 0, none⟩ = some (.slice (some ⟨vb, 0, none⟩) m vc) := blkC hL.blk 0 rfl
  have hl0 := ok.l0
  have hl1 := ok.l1
  obtain ⟨j, hj⟩ : ∃ j, m = j + 1 := ⟨m - 1, by omega⟩
  subst hj
  rw [show j + 1 - 1 = j by omega] at cd
  have dO : (decide ((k : Int) + 1 < 1) || decide ((j : Int) + 1 < (k : Int) + 1)) = false := by simp; omega
  have hwk : IntKind.i64.wrap ((k : Int) + 1 - 1) = (k : Int) := by
    rw [show (k : Int) + 1 - 1 = (k : Int) by omega]; exact IntWalk.i64_in _ (by omega)
  have hwj : IntKind.i64.wrap ((j : Int) + 1 - 1) = (j : Int) := by
    rw [show (j : Int) + 1 - 1 = (j : Int) by omega]; exact IntWalk.i64_in _ (by omega)
  have hwj2 : IntKind.i64.wrap (j : Int) = (j : Int) := IntWalk.i64_in _ (by omega)
  have hwk2 : IntKind.i64.wrap (k : Int) = (k : Int) := IntWalk.i64_in _ (by omega)
  have hjl : (j : Int) < (j : Int) + 1 := by omega
  have hIl : (itoaB ((k : Int) + 1)).size ≤ 9 := by
    have := (itoa_num ((k : Int) + 1) (by omega) (by omega)).len
    show (Lib.itoa ((k : Int) + 1)).toArray.size ≤ 9
    rw [List.size_toArray]
    exact this
  have hI : ¬ 9223372036854775807 < 7 + (itoaB ((k : Int) + 1)).size := by omega
  have hCT := canT_bytes (k + 1)
  rw [Int.natCast_succ] at hCT
  have hgw := lt_of_cell x0
  have hga : w.grownBy (w.alloc (.cells #[.int .i64 0, .string ⟨#[]⟩, .slice none 0 0, .int .i64 0, .bool false] 86)).drew none := gr_drew (gr_alloc (gr_refl w none) _)
  have x0d : w.drew.cell? ⟨g, 0, none⟩ = some (.slice (some ⟨vb, 0, none⟩) (j + 1) vc) := x0
  have cdd : w.drew.cell? ⟨vb, j * 5, none⟩ = some (.int .i64 day) := cd
  have x0a : (w.alloc (.cells #[.int .i64 0, .string ⟨#[]⟩, .slice none 0 0, .int .i64 0, .bool false] 86)).drew.cell? ⟨g, 0, none⟩ = some (.slice (some ⟨vb, 0, none⟩) (j + 1) vc) := cellUpP x0 _
  have cda : (w.alloc (.cells #[.int .i64 0, .string ⟨#[]⟩, .slice none 0 0, .int .i64 0, .bool false] 86)).drew.cell? ⟨vb, j * 5, none⟩ = some (.int .i64 day) := cellUpP cd _
  have hgd : w.grownBy w.drew none := gr_drew (gr_refl w none)
  have IT := Lib.hid (fun (W : World) (gW : w.grownBy W none) => itoa_any ((k : Int) + 1) (by omega) (by omega) W (E.keep gW))
  have HL := Lib.hid hL
  have HO := Lib.hid ho
  have HU := Lib.hid hu
  have HC := Lib.hid hC
  have HOK := Lib.hid ok
  have HB := Lib.hid hb
  have HG0 := Lib.hid g0
  have X4 := Lib.hid x4
  clear hL ho hu ok hb g0 E hC x2 x3 x4 xd
  go_enter Tryz.func11, Tryz.ntmps11
  go_wp2_with (fail)
  refine (out_any ((k : Int) + 1) 1 ((j : Int) + 1) w).mono ?_
  rintro e w1 ⟨rfl, rfl⟩
  rw [dO]
  clear dO
  go_upto_region 6 with (fail)
  go_cut [7] (fun s wx => ∃ V : Nat, s = .pointer (some ⟨V, 0, none⟩) ∧ w.heap.size ≤ V ∧ wx.heap[V]? = some (.cells #[.int .i64 day, .string (canT (k + 1)), .slice none 0 0, .int .i64 ((k : Int) + 1), .bool false] 86 (0, 0)) ∧ w.grownBy wx none)
  case first =>
    go_region_held3 (fun w' => w'.cell? ⟨g, 0, none⟩ = some (.slice (some ⟨vb, 0, none⟩) (j + 1) vc) ∧ w'.cell? ⟨vb, j * 5, none⟩ = some (.int .i64 day))
      (first | (with_reducible exact ⟨x0, cd⟩) | (with_reducible exact ⟨q0, q1⟩) | (with_reducible exact ⟨x0d, cdd⟩) | (with_reducible exact ⟨x0a, cda⟩) | (with_reducible exact ⟨cellUpP q0 _, cellUpP q1 _⟩) | (with_reducible exact ⟨cell_set5 q0 (by omega) _ _ _ _ _, cell_set5 q1 (by omega) _ _ _ _ _⟩))
      (first | (go_at_call 49; (with_reducible refine (IT.out _ ?_).mono ?_); (· first | exact hgd | exact hga); rintro e w4 ⟨rfl, g4⟩; have g04 : w.grownBy w4 none := (by first | exact gr_trans hgd g4 | exact gr_trans hga g4); have q0 := (gr_cell g04 (lt_of_cell x0)).trans x0; have q1 := (gr_cell g04 (lt_of_cell cd)).trans cd; have hv4 := lt_of_cell q1; have hg4 := lt_of_cell q0; (try (have hb4 : w4.heap[w.heap.size]? = some (.cells #[.int .i64 0, .string ⟨#[]⟩, .slice none 0 0, .int .i64 0, .bool false] 86 (0, 0)) := (g4.block _ (by simp) (by simp)).trans (heap_alloc_new w _); have p0 := blkC hb4 0 rfl; have p1 := blkC hb4 1 rfl; have p2 := blkC hb4 2 rfl; have p3 := blkC hb4 3 rfl; have p4 := blkC hb4 4 rfl; have f0 := blkF hb4 0; have f1 := blkF hb4 1; have f2 := blkF hb4 2; have f3 := blkF hb4 3; have f4 := blkF hb4 4)))
             | fail)
    all_goals (go_wp2_with (fail))
    all_goals go_meet
    all_goals first
      | exact ⟨_, rfl, g04.size, heap_alloc_new w4 _, gr_alloc g04 _⟩
      | exact ⟨_, rfl, Nat.le_refl _, set5_heap hb4 _ _ _ _ _, gr_grown g04 (set5_gr w4 w.heap.size _ _ _ _ _) (fun q e => by cases e; exact Nat.le_refl _)⟩
  case rest =>
  obtain ⟨V, rfl, hwV, hV, gd⟩ := hcut
  obtain ⟨wd, rfl⟩ : ∃ wd : World, wd = wc := ⟨_, rfl⟩
  have hVl := lt_of_block hV
  have e2 := (gr_cell gd (lt_of_cell c2)).trans c2
  obtain ⟨ul, hul⟩ : ∃ ul, ul = wd.heap.size := ⟨_, rfl⟩
  have hVul : V < ul := by omega
  have hule : ul ≤ wd.heap.size := Nat.le_of_eq hul
  have P0 := Lib.hid (World.ownsRow_nil wd ul 89 2)
  have HV := Lib.hid hV
  have HGD := Lib.hid gd
  clear hV gd c2 c3 c4 cd x0d cdd x0a cda hga hgd hCT hI hIl IT hul hwj hwj2
  go_wp2_with (fail)
  clear e2
  go_loopw [63] (fun i wr => ∃ (q : Nat) (vl : Value), q ≤ L.length ∧ i = .int .i64 q ∧ wr.heap[V]? = some (.cells #[.int .i64 day, .string (canT (k + 1)), vl, .int .i64 ((k : Int) + 1), .bool false] 86 (0, 0)) ∧ wr.ownsRow ul 89 2 vl q (flat encNm ((L.take q).map negN)) ∧ ul ≤ wr.heap.size ∧ w.grownBy wr none) (fun i _ => L.length - (intOf i).toNat)
  case atStart => exact ⟨0, _, Nat.zero_le _, rfl, HV.out, P0.out, hule, HGD.out⟩
  case round =>
    obtain ⟨q, vl, hq, rfl, hV, hO, hz, hgr⟩ := hrel
    obtain ⟨wo, rfl⟩ : ∃ wo : World, wo = wr := ⟨_, rfl⟩
    clear HV P0 HGD hule
    by_cases hlt : q < L.length
    · obtain ⟨b, off, rfl, d0, d1⟩ := bk_cells (HC.out.keep0 hgr) q hlt
      obtain ⟨o3, o4, o5⟩ := HOK.out.many _ (List.getElem_mem hlt)
      have hfl : flat encNm ((L.take (q + 1)).map negN) = flat encNm ((L.take q).map negN) ++ encNm (negN L[q]) := by
        rw [← flat_one (enc := encNm) (negN L[q]), ← flat_append]
        congr 1
        rw [List.take_succ_eq_append_getElem hlt, List.map_append]
        rfl
      obtain ⟨x, hx⟩ : ∃ x, x = L[q] := ⟨_, rfl⟩
      rw [← hx] at d0 d1 o3 o4 o5 hfl
      obtain ⟨K, Y⟩ := x
      simp only at d0 d1 o3 o4 o5
      have hwn : IntKind.i64.wrap (-Y) = -Y := IntWalk.i64_in _ (by omega)
      obtain ⟨la, lc, rfl, -, -, -, -⟩ := own_shape hO
      have hX := heap_alloc_new wo (.cells #[.string K, .int .i64 Y] 89)
      have ga := gr_alloc (gr_refl wo none) (.cells #[.string K, .int .i64 Y] 89)
      obtain ⟨w3, hw3⟩ : ∃ w3, w3 = wo.alloc (.cells #[.string K, .int .i64 Y] 89) := ⟨_, rfl⟩
      rw [← hw3] at hX ga
      obtain ⟨Q, hQ⟩ : ∃ Q, Q = wo.heap.size := ⟨_, rfl⟩
      rw [← hQ] at hX
      have hV3 := (ga.block _ (lt_of_block hV) (by simp)).trans hV
      have v2 : w3.cell? ⟨V, 2, none⟩ = some (.slice la q lc) := blkC hV3 2 rfl
      have y0 : w3.cell? ⟨Q, 0, none⟩ = some (.string K) := blkC hX 0 rfl
      have y1 : w3.cell? ⟨Q, 1, none⟩ = some (.int .i64 Y) := blkC hX 1 rfl
      have HO3 := Lib.hid (own_keep0 hO ga)
      have HV3 := Lib.hid hV3
      have hz3 := ga.size
      have HG3 := Lib.hid (gr_trans hgr ga)
      have HW3 := Lib.hid hw3
      have HQ := Lib.hid hQ
      have HFL := Lib.hid hfl
      clear hx hX ga hw3 hQ hgr hV hO hV3 hfl o3 o4 o5
      go_upto_region 10 with (fail)
      rw [← HW3.out, ← HQ.out]
      clear d0 d1
      go_wp2_with (at_builtin; refine wpList_app1F eLn rfl _ _ rfl ul _ q (flat encNm ((L.take q).map negN)) rfl w3 #[.string K, .int .i64 (-Y)] rfl HO3.out _ rfl rfl rfl rfl (by omega) (by omega) ?_; intro v7 w7 o7 g7 hl7 hk7; obtain ⟨ga7, ca7, rfl, -, -, -, -⟩ := own_some o7 (by omega); have hV7 := (g7.block V (lt_of_block HV3.out) (fun e => by have := hl7 V e.symm; omega)).trans HV3.out; have s2 : w7.cell? ⟨V, 2, none⟩ = some (.slice la q lc) := blkC hV7 2 rfl; have t2 := blkF hV7 2)
      have gx := gr_set (q := ⟨V, 2, none⟩) (gr_refl w7 (some V)) rfl (.slice (some ⟨ga7, 0, none⟩) (q + 1) ca7)
      have kV := heap_setCell_same w7 V 2 _ _ (.slice (some ⟨ga7, 0, none⟩) (q + 1) ca7) hV7
      have kO := o7.kept gx (.inr (own_ne o7 hV7 (by decide)))
      have KV := Lib.hid kV
      have KO := Lib.hid kO
      have hz7 : ul ≤ (w7.setCell ⟨V, 2, none⟩ (.slice (some ⟨ga7, 0, none⟩) (q + 1) ca7)).heap.size := by have := g7.size; have := gx.size; omega
      have KG := Lib.hid (gr_grown (gr_grown HG3.out g7 (fun c e => by have := hl7 c e; omega)) gx (fun c e => by cases e; exact hwV))
      clear kV kO gx hV7 o7 g7 hl7 hk7 v2 y0 y1
      try (go_wp2_with (fail))
      go_roundw
      case rel => exact ⟨q + 1, _, by omega, by go_num, KV.out, by rw [HFL.out]; exact KO.out, hz7, KG.out⟩
      case measure => simp [intOf]; omega
    · obtain rfl : q = L.length := by omega
      rw [List.take_length] at hO
      have hO' : wo.ownsRow ul 89 2 vl (L.map negN).length (flat encNm (L.map negN)) := by rw [List.length_map]; exact hO
      have hLn : (L.map negN).length = L.length := List.length_map ..
      obtain ⟨la, lc, rfl, -, -, hLC, -⟩ := own_shape hO
      have v0 : wo.cell? ⟨V, 0, none⟩ = some (.int .i64 day) := blkC hV 0 rfl
      have v1 : wo.cell? ⟨V, 1, none⟩ = some (.string (canT (k + 1))) := blkC hV 1 rfl
      have v2 : wo.cell? ⟨V, 2, none⟩ = some (.slice la L.length lc) := blkC hV 2 rfl
      have v3 : wo.cell? ⟨V, 3, none⟩ = some (.int .i64 ((k : Int) + 1)) := blkC hV 3 rfl
      have v4 : wo.cell? ⟨V, 4, none⟩ = some (.bool false) := blkC hV 4 rfl
      have hzo := hgr.size
      have LA := ledAdd_any day (canT (k + 1)) (L.map negN) la lc ((k : Int) + 1) false g M n base (j + 1) (.slice (some ⟨vb, 0, none⟩) (j + 1) vc) xs f w0 wo (HL.out.keep0 hgr) (own_keep0 HO.out hgr) hLC HOK.out.neg hm hn HB.out (gr_trans HG0.out hgr) zg zM zb (by omega)
      rw [hLn] at LA
      replace LA := Lib.hid LA
      have HLO := Lib.hid hO
      have HGR := Lib.hid hgr
      have hgo := lt_of_block (HL.out.keep0 hgr).blk
      have hMo := (HL.out.keep0 hgr).mp.lt
      have HLL := Lib.hid (HL.out.keep0 hgr)
      have HOo := Lib.hid (own_keep0 HO.out hgr)
      clear hV hO hO' hLC hgr hLn
      go_wp2_with (fail)
      refine LA.out.mono ?_
      rintro e w5 ⟨v', rfl, l5, o5, g5, f5⟩
      obtain ⟨vb5, vc5, rfl, hb5, hb5w, hc5, -⟩ := own_some o5 (by omega)
      have z0 : w5.cell? ⟨g, 0, none⟩ = some (.slice (some ⟨vb5, 0, none⟩) (j + 1 + 1) vc5) := blkC l5.blk 0 rfl
      have z4 : w5.cell? ⟨vb5, k * 5 + 4, none⟩ = some (.bool false) := (o5.cellAt (k * 5 + 4) (by omega)).trans (by rw [List.getElem?_append_left (by omega)]; exact X4.out)
      have tz := o5.frozenAt (k * 5 + 4)
      have SO := Lib.hid (o5.stored (k * 5 + 4) (.bool true))
      have L5 := Lib.hid l5
      have O5 := Lib.hid o5
      have G5 := Lib.hid g5
      have F5 := Lib.hid f5
      clear l5 o5 g5 f5 LA v0 v1 v2 v3 v4
      go_wp2_with (fail)
      go_ret2
      obtain ⟨cs, hcs⟩ := own_blkL O5.out rfl
      have hl5 := own_at HLO.out (w1 := w5) (fun b hb => by
        obtain ⟨c1, c2, c3, c4⟩ := ln_apart HLL.out HOo.out HLO.out hb
        exact F5.out b c1 c2 c3 c4)
      refine ⟨_, .slice la L.length lc, rfl, ⟨?_, ?_⟩, SO.out.1, ?_, ?_, ?_⟩
      · exact (SO.out.2.block g (lt_of_block L5.out.blk) (fun e => own_ne O5.out L5.out.blk (by decide) e.symm)).trans L5.out.blk
      · exact L5.out.mp.keep SO.out.2 (fun e => ownL_ne O5.out L5.out.mp (by first | exact e | exact e.symm))
      · exact own_base (own_keep hl5 SO.out.2 (.inr (own_ne hl5 hcs (by decide)))) (by omega)
      · exact gr_grown G5.out SO.out.2 (fun c e => by cases e; omega)
      · intro b hb b1 b2 b3
        have h5 := (F5.out b (by omega) b1 b2 (blk_posted HO.out b3)).trans (HGR.out.block b hb (by simp))
        refine (SO.out.2.block b (by have := G5.out.size; have := (HGR.out.size); have h6 := lt_of_block hcs; rcases Nat.lt_or_ge b w5.heap.size with h | h; exact h; exact absurd (h5.symm.trans (Array.getElem?_eq_none h)) (by rw [Array.getElem?_eq_getElem hb]; simp)) (fun e => ?_)).trans h5
        cases e
        rw [hcs] at h5
        exact b3 _ _ h5.symm
end Go.Proofs.YthikknnadmebgaaGreatDoor

/-! till.Ledger.Cancel as a ledger with an entry more, and one that is marked. -/
namespace Go.Proofs.YthikknnadmebgaaGreatDoor
open Go.RowKit

theorem pstRow_off : ∀ (P : List Pst) (vs : List Value) (k : Nat), vs.length = P.length → k < P.length → pstRow (offAt P k) vs = (pstRow P vs).set (k * 5 + 4) (.bool true)
  | [], _, _, _, h => absurd h (Nat.not_lt_zero _)
  | p :: P, [], _, h, _ => by simp at h
  | p :: P, v :: vs, 0, _, _ => rfl
  | p :: P, v :: vs, k + 1, h, hk => by
    show encPst p v ++ pstRow (offAt P k) vs = (encPst p v ++ pstRow P vs).set ((k + 1) * 5 + 4) (.bool true)
    rw [pstRow_off P vs k (by simpa using h) (by simpa using hk), List.set_append_right _ _ (by show 5 ≤ _; omega)]
    have e : (k + 1) * 5 + 4 - (encPst p v).length = k * 5 + 4 := by show (k + 1) * 5 + 4 - 5 = _; omega
    rw [e]
theorem cancelO_any (ops : List Pst) (o : Pst) (k : Nat) (g M base : Nat) (w0 w : World) (E : EnvP w) (hL : LedO w base g M ops) (hops : OpsOk ops) (ok : OpOk (runO ops) o) (hcan : o.can = k + 1) (hl : ops.length ≤ 30) (g0 : w0.grownBy w none) (zg : w0.heap.size ≤ g) (zM : w0.heap.size ≤ M) (zb : w0.heap.size ≤ base) (hbw : base ≤ w.heap.size) :
    Calls Tryz.prog 11 #[.pointer (some ⟨g, 0, none⟩), .int .i64 ((k : Int) + 1)] w fun e w' => e = .returned (.tuple #[.int .i64 ((ops.length + 1 : Nat) : Int), .int .i64 0]) ∧ LedO w' base g M (ops ++ [o]) ∧ w0.grownBy w' none ∧ LedFr w w' g M := by
  obtain ⟨n, hn, hLL⟩ := hL
  obtain ⟨v, vs, h1, h2, h3, h4⟩ := hLL.led
  have hP : (runO ops).length = ops.length := runO_length ops
  obtain ⟨p, hp, hpo, hpc, hpl, hpt, q, hq, hqd⟩ := ok.can (by omega)
  rw [hcan, Nat.add_sub_cancel] at hp
  have hk : k < (runO ops).length := by
    rcases Nat.lt_or_ge k (runO ops).length with h | h
    · exact h
    · rw [List.getElem?_eq_none h] at hp; cases hp
  obtain ⟨u, hu, hul⟩ := h4 k p hp
  rw [List.getLast?_eq_getElem?] at hq
  obtain ⟨u2, hu2, -⟩ := h4 _ q hq
  have x2 := pstRow_get _ _ k 2 p u h3 hp hu (by omega)
  have x3 := pstRow_get _ _ k 3 p u h3 hp hu (by omega)
  have x4 := pstRow_get _ _ k 4 p u h3 hp hu (by omega)
  have xd := pstRow_get _ _ _ 0 q u2 h3 hq hu2 (by omega)
  have e3 : (encPst p u)[3]? = some (.int .i64 0) := by unfold encPst; rw [hpc]; rfl
  have e4 : (encPst p u)[4]? = some (.bool false) := by unfold encPst; rw [hpo]; rfl
  have ed : (encPst q u2)[0]? = some (.int .i64 o.day) := by unfold encPst; rw [hqd]; rfl
  rw [e3] at x3
  rw [e4] at x4
  rw [ed, Nat.add_zero] at xd
  obtain ⟨po, hpo2, a1, a2, a3, a4⟩ := runO_alike ops k p hp
  have hent := hops.ent (List.mem_of_getElem? hpo2)
  rw [← a3] at hent
  have hll : p.lines.length = o.lines.length := by rw [hpl, List.length_map]
  have hl3 := ok.l3
  refine (cancel_any k o.day p.lines u g M n base (runO ops).length v (pstRow (runO ops) vs) (mapP (runO ops)) w0 w E h1 h2 (by omega) hk x2 x3 x4 xd hul hent.1 (by omega) (by rw [← hpl]; exact runO_small hops hl ok.small) g0 zg zM zb).mono ?_
  rintro e w' ⟨v', v3, rfl, r1, r2, r3, r4, r5⟩
  rw [hP]
  refine ⟨rfl, ⟨n + p.lines.length, by simp only [List.length_append, List.length_cons, List.length_nil]; omega, ?_⟩, r4, r5⟩
  have hst : runO (ops ++ [o]) = offAt (runO ops) k ++ [o] := by rw [runO_app]; unfold stepO; rw [if_neg (by omega), hcan, Nat.add_sub_cancel]
  rw [hst]
  rw [← hpl] at r1 r3
  rw [hll] at r3
  refine LedL.add h1 h2 h3 h4 (offAt_length _ _) (fun j p' hj => ?_) ?_ r1 ?_ (own_base r3 hbw) r5
  · obtain ⟨q', hq', -, -, b3, -⟩ := offAt_alike _ _ _ _ hj
    exact ⟨q', hq', b3⟩
  · unfold mapP
    rw [offAt_mapP]
  · have he : encPst o v3 = [.int .i64 o.day, .string (canT (k + 1)), v3, .int .i64 ((k : Int) + 1), .bool false] := by unfold encPst; rw [hcan, ok.off, hpt, hcan]; rfl
    rw [he, pstRow_off _ _ _ h3 hk, ← List.set_append_left _ _ (by rw [pstRow_length _ _ h3]; omega)]
    exact r2
end Go.Proofs.YthikknnadmebgaaGreatDoor

/-! What stands between the rounds of LedgersAreEven; that the stream's entries and their cancelling are accepted. -/
namespace Go.Proofs.YthikknnadmebgaaGreatDoor
open Go.RowKit

theorem LedO.keepS {w w1 : World} {base g M p : Nat} {ops : List Pst} (h : LedO w base g M ops) (e : w.grownBy w1 (some p)) (h1 : p < g) (h2 : p < M) (h3 : p < base) : LedO w1 base g M ops := by
  obtain ⟨n, hn, hL⟩ := h
  obtain ⟨v, vs, a1, a2, a3, a4⟩ := hL.led
  refine ⟨n, hn, v, vs, ⟨(e.block _ (lt_of_block a1.blk) (by simp; omega)).trans a1.blk, a1.mp.keep e (by simp; omega)⟩, own_keepS a2 e h3, a3, fun k q hk => ?_⟩
  obtain ⟨u, b1, b2⟩ := a4 k q hk
  exact ⟨u, b1, own_keepS b2 e h3⟩
theorem StreamAt.keepB {w w1 : World} {p lw k : Nat} {l : List Int} (h : StreamAt w p lw l k) (hp : w1.heap[p]? = w.heap[p]?) (hb : ∀ b, b < lw → w1.heap[b]? = w.heap[b]?) : StreamAt w1 p lw l k := by
  obtain ⟨⟨a, cap, h1, h2, h3⟩, h4, h5⟩ := h
  refine ⟨⟨a, cap, hp.trans h1, fun j x hx => ?_, h3⟩, h4, h5⟩
  obtain ⟨b, off, ha, hc⟩ := h2 j x hx
  have h0 : 0 < l.length := by
    rcases Nat.eq_zero_or_pos l.length with h0 | h0
    · rw [List.eq_nil_of_length_eq_zero h0] at hx; simp at hx
    · exact h0
  exact ⟨b, off, ha, (World.cell?_of_block (w := w) (hb b (h3 h0 b off ha))).trans hc⟩
/-- A block of cells that is no ledger's stays. -/
theorem LedFr.cells {w w' : World} {base g M : Nat} {ops : List Pst} (hL : LedO w base g M ops) (hf : LedFr w w' g M) {b t : Nat} {cs : Array Value} {z : Nat × Nat} (hb : w.heap[b]? = some (.cells cs t z)) (ht : t ≠ 83) (ht2 : t ≠ 86) : w'.heap[b]? = some (.cells cs t z) := by
  obtain ⟨n, -, hLL⟩ := hL
  obtain ⟨v, vs, a1, -, -, -⟩ := hLL.led
  refine (hf b (lt_of_block hb) ?_ ?_ ?_).trans hb
  · rintro rfl
    have := a1.blk
    rw [hb] at this
    simp at this
    exact ht this.2.1
  · rintro rfl
    obtain ⟨es, cl, hm⟩ := a1.mp.objL
    rw [hb] at hm
    cases hm
  · intro ds y hd
    rw [hb] at hd
    simp at hd
    exact ht2 hd.2.1
theorem LedFr.own {w w' : World} {base base' g M n size t : Nat} {ops : List Pst} {v : Value} {xs : List Value} (hL : LedO w base g M ops) (hf : LedFr w w' g M) (ho : w.ownsRow base' t size v n xs) (ht : t ≠ 83) (ht2 : t ≠ 86) : w'.ownsRow base' t size v n xs :=
  own_at ho (fun b hb => by
    obtain ⟨cs, hc⟩ := own_blkL ho hb
    rw [hc]
    exact hf.cells hL hc ht ht2)
theorem LedFr.stream {w0 w w' : World} {base g M p lw k : Nat} {ops : List Pst} {l : List Int} (hL : LedO w base g M ops) (hf : LedFr w w' g M) (hs : StreamAt w p lw l k) (g1 : w0.grownBy w none) (g2 : w0.grownBy w' none) (hlw : lw ≤ w0.heap.size) : StreamAt w' p lw l k := by
  refine hs.keepB ?_ (fun b hb => (g2.block b (by omega) (by simp)).trans (g1.block b (by omega) (by simp)).symm)
  obtain ⟨⟨a, cap, h1, -⟩, -, -⟩ := hs
  rw [h1]
  exact hf.cells hL h1 (by decide) (by decide)
theorem names_one {f : ByteArray → Option Int} {A B : List Nm} (hA : NamesOf f A) (hB : NamesOf f B) : A = B := by
  have key : ∀ {A B : List Nm}, NamesOf f A → NamesOf f B → ∀ x ∈ A, x ∈ B := by
    intro A B hA hB x hx
    obtain ⟨y, hy, e1, e2⟩ := hB.has _ _ (hA.got x hx)
    have : y = x := by cases y; cases x; simp at e1 e2; rw [e1, e2]
    rw [← this]; exact hy
  exact names_ext hA.srt hB.srt (fun x => ⟨key hA hB x, key hB hA x⟩)
theorem trialO_any (ops : List Pst) (g M base : Nat) (w : World) (hL : LedO w base g M ops) (hops : OpsOk ops) :
    Calls Tryz.prog 10 #[.pointer (some ⟨g, 0, none⟩)] w fun e w' => ∃ v O, e = .returned v ∧ w'.ownsRow w.heap.size 42 2 v O.length (flat encNm O) ∧ NamesOf (mapP ops) O ∧ w.grownBy w' none := by
  obtain ⟨n, hn, hLL⟩ := hL
  obtain ⟨v, vs, a1, -, -, -⟩ := hLL.led
  rw [runO_mapP] at a1
  exact trial_any M n (mapP ops) accK w g v a1 (mapP_names ops (fun o ho => (hops.ent ho).2.2.2)) (by decide)
theorem entT_no (l : List Int) (k : Nat) : (10 : UInt8) ∉ (entT l k).data.toList := by
  have h := oneS_mem l k entTs (by decide)
  simp only [List.mem_cons, List.not_mem_nil, or_false] at h
  have h2 : entT l k = ⟨#[98, 97, 103, 32, 111, 110, 101]⟩ ∨ entT l k = ⟨#[120]⟩ ∨ entT l k = ⟨#[195, 169, 116, 195, 169]⟩ := h
  rcases h2 with e | e | e <;> rw [e] <;> decide
theorem entL_facts (l : List Int) (k : Nat) (h : IsOrder 4 (ordM l (k + 2) 4)) : (entL l k).length ≤ 3 ∧ (∀ x ∈ entL l k, -107 ≤ x.many ∧ x.many ≤ 107) ∧ ∀ x ∈ entL l k, x.key ∈ accK := by
  have n1 := entN_in l k
  obtain ⟨a, b, c, ha, hb, hc, -, -, -, ea, eb, ec⟩ := ord_three h
  have e0 : entA l k 0 = accS a := by unfold entA; rw [ea]
  have e1 : entA l k 1 = accS b := by unfold entA; rw [eb]
  have e2 : entA l k 2 = accS c := by unfold entA; rw [ec]
  have hk : ∀ i : Nat, i < 4 → accS (i : Int) ∈ accK := by
    intro i hi
    have : i = 0 ∨ i = 1 ∨ i = 2 ∨ i = 3 := by omega
    unfold accK
    rcases this with rfl | rfl | rfl | rfl <;> simp
  unfold entL
  rw [e0, e1, e2]
  split
  · refine ⟨by simp, fun x hx => ?_, fun x hx => ?_⟩
    · simp only [List.mem_cons, List.not_mem_nil, or_false] at hx
      rcases hx with rfl | rfl | rfl <;> simp only <;> omega
    · simp only [List.mem_cons, List.not_mem_nil, or_false] at hx
      rcases hx with rfl | rfl | rfl
      · exact hk a ha
      · exact hk b hb
      · exact hk c hc
  · refine ⟨by simp, fun x hx => ?_, fun x hx => ?_⟩
    · simp only [List.mem_cons, List.not_mem_nil, or_false] at hx
      rcases hx with rfl | rfl <;> simp only <;> omega
    · simp only [List.mem_cons, List.not_mem_nil, or_false] at hx
      rcases hx with rfl | rfl
      · exact hk a ha
      · exact hk b hb
/-- An entry of the stream's, as a call. -/
def entO (l : List Int) (k d : Nat) : Pst := ⟨d, entT l k, entL l k, 0, false⟩
theorem entO_ok (ops : List Pst) (l : List Int) (k d : Nat) (h : IsOrder 4 (ordM l (k + 2) 4)) (hd : d ≤ 8) (hlast : ∀ q, (runO ops).getLast? = some q → q.day ≤ (d : Int)) : OpOk (runO ops) (entO l k d) := by
  obtain ⟨f1, f2, f3⟩ := entL_facts l k h
  obtain ⟨t1, t2, t3⟩ := entT_in l k
  exact ⟨rfl, entL_ok l k h, f1, f2, f3, by show (0 : Int) ≤ (d : Int); omega, by show (d : Int) ≤ 8; omega, hlast, fun _ => ⟨t1, t2, t3, entT_no l k⟩, fun h => absurd h (Nat.lt_irrefl 0)⟩
theorem runO_post (ops : List Pst) (o : Pst) (hc : o.can = 0) : runO (ops ++ [o]) = runO ops ++ [o] := by
  rw [runO_app]
  unfold stepO
  rw [if_pos hc]
/-- Its cancelling. -/
def canO (ops : List Pst) (o : Pst) : Pst := ⟨o.day, canT (ops.length + 1), o.lines.map negN, ops.length + 1, false⟩
theorem canO_ok (ops : List Pst) (o : Pst) (ho : OpOk (runO ops) o) (hc : o.can = 0) : OpOk (runO (ops ++ [o])) (canO ops o) := by
  have hl : (runO ops).length = ops.length := runO_length ops
  refine ⟨rfl, ho.ent.neg, ?_, fun x hx => ?_, fun x hx => ?_, ho.d0, ho.d1, fun q hq => ?_, fun h => absurd h (Nat.succ_ne_zero _), fun _ => ⟨o, ?_, ho.off, hc, rfl, rfl, o, ?_, rfl⟩⟩
  · show (o.lines.map negN).length ≤ 3
    rw [List.length_map]; exact ho.l3
  · obtain ⟨y, hy, rfl⟩ := List.mem_map.1 hx
    have := ho.small y hy
    show -107 ≤ -y.many ∧ -y.many ≤ 107
    omega
  · obtain ⟨y, hy, rfl⟩ := List.mem_map.1 hx
    exact ho.names y hy
  · rw [runO_post ops o hc, List.getLast?_append] at hq
    have : o = q := by simpa using hq
    rw [← this]
    exact Int.le_refl _
  · rw [runO_post ops o hc]
    show (runO ops ++ [o])[ops.length + 1 - 1]? = some o
    rw [Nat.add_sub_cancel, List.getElem?_append_right (by omega), hl, Nat.sub_self]
    rfl
  · rw [runO_post ops o hc, List.getLast?_append]
    rfl
theorem last_post (ops : List Pst) (o : Pst) (hc : o.can = 0) (q : Pst) (h : (runO (ops ++ [o])).getLast? = some q) : q = o := by
  rw [runO_post ops o hc, List.getLast?_append] at h
  have : o = q := by simpa using h
  exact this.symm
theorem last_any (ops : List Pst) (o : Pst) (q : Pst) (h : (runO (ops ++ [o])).getLast? = some q) : q = o := by
  rw [runO_app] at h
  unfold stepO at h
  rw [List.getLast?_append] at h
  have : o = q := by simpa using h
  exact this.symm
/-- What stands between the rounds. -/
structure EvSt (w wr : World) (p M : Nat) (l : List Int) (d A B : Nat) (ops : List Pst) (k : Nat) : Prop where
  str : StreamAt wr p w.heap.size l k
  led : LedO wr M (M + 1) M ops
  ok : OpsOk ops
  len : ops.length ≤ A
  kb : k ≤ B
  last : ∀ q, (runO ops).getLast? = some q → q.day ≤ (d : Int)
  gr : w.grownBy wr none
  sz : M ≤ wr.heap.size
theorem EvSt.keep0 {w wr w1 : World} {p M d A B k : Nat} {l : List Int} {ops : List Pst} (h : EvSt w wr p M l d A B ops k) (g : wr.grownBy w1 none) : EvSt w w1 p M l d A B ops k :=
  ⟨h.str.keep0 g, h.led.keep0 g, h.ok, h.len, h.kb, h.last, gr_trans h.gr g, Nat.le_trans h.sz g.size⟩
theorem names_small (ops : List Pst) (h : OpsOk ops) (hl : ops.length ≤ 30) (O : List Nm) (hO : NamesOf (mapP ops) O) : ∀ x ∈ O, -9630 ≤ x.many ∧ x.many ≤ 9630 := by
  intro x hx
  have h1 := mapP_small ops (fun o ho => ⟨(h.ent ho).2.1, (h.ent ho).2.2.1⟩) x.key
  rw [hO.got x hx] at h1
  simp only [Option.getD_some] at h1
  omega
theorem sum_small : ∀ (O : List Nm), (∀ x ∈ O, -9630 ≤ x.many ∧ x.many ≤ 9630) → -(9630 * (O.length : Int)) ≤ (O.map Nm.many).sum ∧ (O.map Nm.many).sum ≤ 9630 * O.length
  | [], _ => by simp
  | x :: O, h => by
    have h1 := sum_small O (fun y hy => h y (List.mem_cons_of_mem _ hy))
    have h2 := h x (List.mem_cons_self ..)
    simp only [List.map_cons, List.sum_cons, List.length_cons]
    omega
/-- A row of balances may change beside a ledger. -/
theorem LedO.keepN {w w1 : World} {base g M : Nat} {ops : List Pst} {r : Option Nat} (h : LedO w base g M ops) (e : w.grownBy w1 r) (hr : ∀ c, r = some c → ∃ cs, w.heap[c]? = some (.cells cs 42 (0, 0))) : LedO w1 base g M ops := by
  obtain ⟨n, hn, hL⟩ := h
  obtain ⟨v, vs, a1, a2, a3, a4⟩ := hL.led
  have key : ∀ {b2 t size m : Nat} {u : Value} {xs : List Value}, w.ownsRow b2 t size u m xs → t ≠ 42 → w1.ownsRow b2 t size u m xs := by
    intro b2 t size m u xs ho ht
    refine own_keep ho e ?_
    rcases hn : u.ownBlock with _ | b
    · exact .inl rfl
    · refine .inr (fun e2 => ?_)
      obtain ⟨cs, hc⟩ := hr b e2.symm
      obtain ⟨ds, hd⟩ := own_blkL ho hn
      rw [hc] at hd
      simp at hd
      exact ht hd.2.symm
  refine ⟨n, hn, v, vs, ⟨(e.block _ (lt_of_block a1.blk) (fun e2 => ?_)).trans a1.blk, a1.mp.keep e (fun e2 => ?_)⟩, key a2 (by decide), a3, fun k q hk => ?_⟩
  · obtain ⟨cs, hc⟩ := hr _ e2.symm
    rw [a1.blk] at hc
    simp at hc
  · obtain ⟨cs, hc⟩ := hr _ e2.symm
    obtain ⟨es, cl, hm⟩ := a1.mp.objL
    rw [hc] at hm
    cases hm
  · obtain ⟨u, b1, b2⟩ := a4 k q hk
    exact ⟨u, b1, key b2 (by decide)⟩
theorem EvSt.keepN {w wr w1 : World} {p M d A B k : Nat} {l : List Int} {ops : List Pst} {r : Option Nat} (h : EvSt w wr p M l d A B ops k) (g : wr.grownBy w1 r) (hr : ∀ c, r = some c → ∃ cs, wr.heap[c]? = some (.cells cs 42 (0, 0))) (hp : ∀ c, r = some c → p < c) (hw : w.heap.size ≤ p) : EvSt w w1 p M l d A B ops k :=
  ⟨h.str.keep g hp, h.led.keepN g hr, h.ok, h.len, h.kb, h.last, gr_grown h.gr g (fun c e => by have := hp c e; omega), Nat.le_trans h.sz g.size⟩
end Go.Proofs.YthikknnadmebgaaGreatDoor

/-! What is printed of a ledger, line by line, and that the lines are cut out of it again. No program in sight. -/
namespace Go.Proofs.YthikknnadmebgaaGreatDoor

def entHead (o : Pst) : List UInt8 := [101, 110, 116, 114, 121, 32] ++ (Lib.itoa o.day ++ 32 :: o.text.data.toList)
def canHead (n : Nat) : List UInt8 := [99, 97, 110, 99, 101, 108, 32] ++ Lib.itoa (n : Int)
def lnText (x : Nm) : List UInt8 := 32 :: 32 :: (x.key.data.toList ++ 32 :: Lib.itoa x.many)
def opLines (o : Pst) : List (List UInt8) := if o.can = 0 then entHead o :: o.lines.map lnText else [canHead o.can]
def lfs (ls : List (List UInt8)) : List UInt8 := ls.flatMap fun l => l ++ [10]
def allLines (ops : List Pst) : List (List UInt8) := ops.flatMap opLines
def printL (ops : List Pst) : List UInt8 := lfs (allLines ops)
theorem lfs_app (a b : List (List UInt8)) : lfs (a ++ b) = lfs a ++ lfs b := by simp [lfs]
theorem lfs_one (l : List UInt8) : lfs [l] = l ++ [10] := by simp [lfs]
theorem allLines_app (a b : List Pst) : allLines (a ++ b) = allLines a ++ allLines b := by simp [allLines]
theorem allLines_one (o : Pst) : allLines [o] = opLines o := by simp [allLines]
/-- The lines are cut out again. -/
theorem split_lfs : ∀ (ls : List (List UInt8)), (∀ l ∈ ls, (10 : UInt8) ∉ l) → splitL 10 (lfs ls) = ls ++ [[]] ∧ Lib.count (lfs ls) [10] = ls.length
  | [], _ => ⟨splitL_miss 10 [] (by simp), count_no 10 [] (by simp)⟩
  | l :: ls, h => by
    obtain ⟨h1, h2⟩ := split_lfs ls (fun x hx => h x (List.mem_cons_of_mem _ hx))
    have e : lfs (l :: ls) = l ++ 10 :: lfs ls := by simp [lfs]
    rw [e]
    refine ⟨by rw [splitL_hit 10 l _ (h l (List.mem_cons_self ..)), h1]; rfl, ?_⟩
    rw [count_one 10 l _ (h l (List.mem_cons_self ..)), h2, List.length_cons]
    omega
theorem itoa_no (c : UInt8) (hc : c.toNat < 45) (n : Int) (h : -1000000000 < n) (h1 : n < 1000000000) : c ∉ Lib.itoa n := by
  have hnum : NumL (Lib.decDigits n.natAbs) := dec_num _ (by omega)
  intro hm
  unfold Lib.itoa at hm
  split at hm
  · rcases List.mem_cons.1 hm with e | hm
    · rw [e] at hc; revert hc; decide
    · exact hnum.no c (by omega) hm
  · have e : n.toNat = n.natAbs := by omega
    rw [e] at hm
    exact hnum.no c (by omega) hm
theorem itoa_len (n : Int) (h : -1000000000 < n) (h1 : n < 1000000000) : (Lib.itoa n).length ≤ 10 := by
  have hnum : NumL (Lib.decDigits n.natAbs) := dec_num _ (by omega)
  have := hnum.len
  unfold Lib.itoa
  split
  · simp only [List.length_cons]; omega
  · have e : n.toNat = n.natAbs := by omega
    rw [e]; omega
theorem acc_no (c : UInt8) (hc : c.toNat ≤ 32) : ∀ K ∈ accK, c ∉ K.data.toList := by
  have hall : ∀ K ∈ accK, ∀ b ∈ K.data.toList, 33 ≤ b.toNat := by decide
  intro K hK hm
  have := hall K hK c hm
  omega
theorem acc_len : ∀ K ∈ accK, 1 ≤ K.data.toList.length ∧ K.data.toList.length ≤ 40 := by decide
/-- What is asked of an entry so that its lines may be printed and read. -/
structure TextOk (o : Pst) : Prop where
  d0 : 0 ≤ o.day
  d1 : o.day ≤ 8
  can : o.can ≤ 100
  txt : o.can = 0 → o.text.size ≤ 60 ∧ 10 ∉ o.text.data.toList
  ln : ∀ x ∈ o.lines, -107 ≤ x.many ∧ x.many ≤ 107 ∧ x.key ∈ accK
  l3 : o.lines.length ≤ 3
theorem OpsOk.text {ops : List Pst} (h : OpsOk ops) (hl : ops.length ≤ 50) : ∀ o ∈ ops, TextOk o := by
  intro o ho
  obtain ⟨i, hi, rfl⟩ := List.mem_iff_getElem.1 ho
  have ok := h i hi
  refine ⟨ok.d0, ok.d1, ?_, fun hc => ⟨(ok.txt hc).2.2.1, (ok.txt hc).2.2.2⟩, fun x hx => ⟨(ok.small x hx).1, (ok.small x hx).2, ok.names x hx⟩, ok.l3⟩
  rcases Nat.eq_zero_or_pos ops[i].can with h0 | h0
  · omega
  · obtain ⟨p, hp, -⟩ := ok.can h0
    have hlt : ops[i].can - 1 < (runO (ops.take i)).length := by
      rcases Nat.lt_or_ge (ops[i].can - 1) (runO (ops.take i)).length with h | h
      · exact h
      · rw [List.getElem?_eq_none h] at hp; cases hp
    rw [runO_length, List.length_take] at hlt
    omega
theorem opLines_ok {o : Pst} (t : TextOk o) : (∀ l ∈ opLines o, (10 : UInt8) ∉ l ∧ l.length ≤ 80) ∧ 1 ≤ (opLines o).length ∧ (opLines o).length ≤ 4 := by
  have hd := itoa_no 10 (by decide) o.day (by have := t.d0; omega) (by have := t.d1; omega)
  have hdl := itoa_len o.day (by have := t.d0; omega) (by have := t.d1; omega)
  have hc := itoa_no 10 (by decide) (o.can : Int) (by omega) (by have := t.can; omega)
  have hcl := itoa_len (o.can : Int) (by omega) (by have := t.can; omega)
  have l3 := t.l3
  unfold opLines
  split
  · rename_i h0
    obtain ⟨t1, t2⟩ := t.txt h0
    refine ⟨fun l hl => ?_, by simp, by simp; omega⟩
    rcases List.mem_cons.1 hl with rfl | hl
    · refine ⟨?_, ?_⟩
      · unfold entHead
        simp only [List.mem_append, List.mem_cons, not_or]
        exact ⟨by decide, hd, by decide, t2⟩
      · unfold entHead
        have : o.text.data.toList.length = o.text.size := by simp
        simp only [List.length_append, List.length_cons, List.length_nil]
        omega
    · obtain ⟨x, hx, rfl⟩ := List.mem_map.1 hl
      obtain ⟨b1, b2, b3⟩ := t.ln x hx
      have hx1 := itoa_no 10 (by decide) x.many (by omega) (by omega)
      have hx2 := itoa_len x.many (by omega) (by omega)
      have hk := acc_no 10 (by decide) _ b3
      have hkl := acc_len _ b3
      unfold lnText
      refine ⟨?_, ?_⟩
      · simp only [List.mem_append, List.mem_cons, not_or]
        exact ⟨by decide, by decide, hk, by decide, hx1⟩
      · simp only [List.length_append, List.length_cons]
        omega
  · refine ⟨fun l hl => ?_, by simp, by simp⟩
    have : l = canHead o.can := by simpa using hl
    rw [this]
    unfold canHead
    refine ⟨?_, ?_⟩
    · simp only [List.mem_append, not_or]
      exact ⟨by decide, hc⟩
    · simp only [List.length_append, List.length_cons, List.length_nil]
      omega
theorem allLines_ok (ops : List Pst) (h : ∀ o ∈ ops, TextOk o) : (∀ l ∈ allLines ops, (10 : UInt8) ∉ l) ∧ (allLines ops).length ≤ 4 * ops.length ∧ (printL ops).length ≤ 324 * ops.length := by
  have key : ∀ ls : List (List UInt8), (∀ l ∈ ls, l.length ≤ 80) → (lfs ls).length ≤ 81 * ls.length := by
    intro ls
    induction ls with
    | nil => intro _; simp [lfs]
    | cons l ls ih =>
      intro hl
      have h1 := ih (fun x hx => hl x (List.mem_cons_of_mem _ hx))
      have h2 := hl l (List.mem_cons_self ..)
      have e : lfs (l :: ls) = (l ++ [10]) ++ lfs ls := by simp [lfs]
      rw [e]
      simp only [List.length_append, List.length_cons, List.length_nil]
      omega
  have h1 : ∀ l ∈ allLines ops, (10 : UInt8) ∉ l ∧ l.length ≤ 80 := by
    intro l hl
    obtain ⟨o, ho, hlo⟩ := List.mem_flatMap.1 hl
    exact (opLines_ok (h o ho)).1 l hlo
  have h2 : (allLines ops).length ≤ 4 * ops.length := by
    clear h1
    induction ops with
    | nil => simp [allLines]
    | cons o ops ih =>
      have h1 := ih (fun x hx => h x (List.mem_cons_of_mem _ hx))
      have h2 := (opLines_ok (h o (List.mem_cons_self ..))).2.2
      have e : allLines (o :: ops) = opLines o ++ allLines ops := by simp [allLines]
      rw [e, List.length_append, List.length_cons]
      omega
  refine ⟨fun l hl => (h1 l hl).1, h2, ?_⟩
  have := key (allLines ops) (fun l hl => (h1 l hl).2)
  unfold printL
  omega
end Go.Proofs.YthikknnadmebgaaGreatDoor

/-! Where the lines of a call stand among all lines. No program in sight. -/
namespace Go.Proofs.YthikknnadmebgaaGreatDoor

def offsL (ops : List Pst) (i : Nat) : Nat := (allLines (ops.take i)).length
theorem allLines_cut (ops : List Pst) (i : Nat) (h : i < ops.length) : allLines ops = allLines (ops.take i) ++ (opLines ops[i] ++ allLines (ops.drop (i + 1))) := by
  have e : ops = ops.take i ++ ([ops[i]] ++ ops.drop (i + 1)) := by
    rw [List.singleton_append, List.getElem_cons_drop, List.take_append_drop]
  conv => lhs; rw [e]
  rw [allLines_app, allLines_app, allLines_one]
theorem offsL_zero (ops : List Pst) : offsL ops 0 = 0 := rfl
theorem offsL_end (ops : List Pst) : offsL ops ops.length = (allLines ops).length := by unfold offsL; rw [List.take_length]
theorem offsL_next (ops : List Pst) (i : Nat) (h : i < ops.length) : offsL ops (i + 1) = offsL ops i + (opLines ops[i]).length := by
  unfold offsL
  rw [List.take_succ_eq_append_getElem h, allLines_app, allLines_one, List.length_append]
theorem line_at (ops : List Pst) (i : Nat) (h : i < ops.length) (j : Nat) (hj : j < (opLines ops[i]).length) : (allLines ops)[offsL ops i + j]? = (opLines ops[i])[j]? := by
  rw [allLines_cut ops i h, List.getElem?_append_right (by unfold offsL; omega)]
  have e : offsL ops i + j - (allLines (ops.take i)).length = j := by unfold offsL; omega
  rw [e, List.getElem?_append_left hj]
theorem opLines_pos (o : Pst) : 1 ≤ (opLines o).length := by
  unfold opLines
  split <;> simp
theorem offsL_lt (ops : List Pst) (i : Nat) (h : i < ops.length) (j : Nat) (hj : j < (opLines ops[i]).length) : offsL ops i + j < (allLines ops).length := by
  rw [allLines_cut ops i h, List.length_append, List.length_append]
  unfold offsL
  omega
theorem head_noPre (o : Pst) (l : List UInt8) (h : (opLines o)[0]? = some l) : Lib.hasPrefix l [32, 32] = false := by
  unfold opLines at h
  split at h
  · have e : entHead o = l := by simpa using h
    rw [← e]
    rfl
  · have e : canHead o.can = l := by simpa using h
    rw [← e]
    rfl
/-- Behind a call's lines stands no line of an account. -/
theorem next_noPre (ops : List Pst) (i : Nat) (h : i ≤ ops.length) : offsL ops i = (allLines ops).length ∨ (offsL ops i < (allLines ops).length ∧ ∃ l, (allLines ops)[offsL ops i]? = some l ∧ Lib.hasPrefix l [32, 32] = false) := by
  rcases Nat.lt_or_ge i ops.length with hlt | hge
  · refine .inr ⟨by have := offsL_lt ops i hlt 0 (opLines_pos _); omega, ?_⟩
    have h1 := line_at ops i hlt 0 (opLines_pos _)
    rw [Nat.add_zero] at h1
    obtain ⟨l, hl⟩ : ∃ l, (opLines ops[i])[0]? = some l := ⟨_, List.getElem?_eq_getElem (opLines_pos _)⟩
    exact ⟨l, by rw [h1, hl], head_noPre _ l hl⟩
  · have : i = ops.length := by omega
    subst this
    exact .inl (offsL_end ops)
end Go.Proofs.YthikknnadmebgaaGreatDoor
