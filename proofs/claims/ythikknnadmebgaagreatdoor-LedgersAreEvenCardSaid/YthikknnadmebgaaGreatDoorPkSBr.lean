/- till.head and till.readLine at what Print writes. -/
import Derived.Test.YthikknnadmebgaaGreatDoorPkSBi
import Derived.Test.YthikknnadmebgaaGreatDoorPkSBq
import Derived.Test.YthikknnadmebgaaGreatDoorPkSBm
import Derived.Test.YthikknnadmebgaaGreatDoorPkSAr
namespace Go.Proofs.YthikknnadmebgaaGreatDoor
open Go.RowKit
attribute [local go_sem ↓] Go.wp_at_zero Go.wp_at_succ

theorem results_cell_slot3 {P : Program} {fn : Func} {p q r s : Tmp} {ty : TypeId} (h : fn.results = #[.cell p ty, .tmp q, .tmp r, .tmp s]) (tmps : Array Value) (w : World) (g : Nat) (t : TypeId) (cs : Array Value) (fr : Nat × Nat) (d : TypeDesc) (v u x : Value)
    (hp : tmps.getD p undef = .pointer (some ⟨g, 0, none⟩)) (hq : tmps.getD q undef = v) (hr : tmps.getD r undef = u) (hs : tmps.getD s undef = x) (hg : w.heap[g]? = some (.cells cs t fr))
    (hu : P.underlying ty = some d) (hd : (match d with | .struct _ | .array _ _ => true | _ => false) = true) (hi : (P.info? ty).map (·.size) = some cs.size) :
    (results fn tmps).run P w = .ok (.tuple #[.agg cs, v, u, x]) w := by
  have hp' : tmps[p]?.getD undef = .pointer (some ⟨g, 0, none⟩) := by simpa using hp
  have hq' : tmps[q]?.getD undef = v := by simpa using hq
  have hr' : tmps[r]?.getD undef = u := by simpa using hr
  have hs' : tmps[s]?.getD undef = x := by simpa using hs
  simp [results, h, hp', hq', hr', hs', asAddr, run_loadVar_row w g t ty cs fr d hg hu hd hi]
theorem mkB_sizeH (l : List UInt8) : (⟨l.toArray⟩ : ByteArray).size = l.length := by show l.toArray.size = _; simp
theorem mk_data (K : ByteArray) : (⟨K.data.toList.toArray⟩ : ByteArray) = K := by
  cases K
  simp
theorem set2_heapR {w : World} {g t : Nat} {a b : Value} (h : w.heap[g]? = some (.cells #[a, b] t (0, 0))) (x y : Value) : ((w.setCell ⟨g, 0, none⟩ x).setCell ⟨g, 1, none⟩ y).heap[g]? = some (.cells #[x, y] t (0, 0)) := by
  have h1 := heap_setCell_same w g 0 _ t x h
  exact heap_setCell_same _ g 1 _ t y h1
theorem set2_grR (w : World) (g : Nat) (x y : Value) : w.grownBy ((w.setCell ⟨g, 0, none⟩ x).setCell ⟨g, 1, none⟩ y) (some g) :=
  gr_set (q := ⟨g, 1, none⟩) (gr_set (q := ⟨g, 0, none⟩) (gr_refl w (some g)) rfl _) rfl _
set_option maxRecDepth 100000 in
set_option maxHeartbeats 1000000 in
theorem readLine_any (x : Nm) (h1 : (32 : UInt8) ∉ x.key.data.toList) (h2 : 1 ≤ x.key.data.toList.length) (h3 : x.key.data.toList.length ≤ 40) (h4 : -1000000000 < x.many) (h5 : x.many < 1000000000) (w : World) (E : EnvP w) :
    Calls Tryz.prog 57 #[.string ⟨(lnText x).toArray⟩] w fun e w' => e = .returned (.tuple #[.agg #[.string x.key, .int .i64 x.many], .bool true]) ∧ w.grownBy w' none := by
  obtain ⟨K, Y⟩ := x
  simp only at h1 h2 h3 h4 h5
  obtain ⟨dt, hd1⟩ := und_struct (P := Tryz.prog) (t := 89) (by kernel_rfl)
  have hA := heap_alloc_new w (.cells #[.string ⟨#[]⟩, .int .i64 0] 89)
  have ga := gr_alloc (gr_refl w none) (.cells #[.string ⟨#[]⟩, .int .i64 0] 89)
  obtain ⟨w1, hw1⟩ : ∃ w1, w1 = w.alloc (.cells #[.string ⟨#[]⟩, .int .i64 0] 89) := ⟨_, rfl⟩
  rw [← hw1] at hA ga
  obtain ⟨R, hR⟩ : ∃ R, R = w.heap.size := ⟨_, rfl⟩
  rw [← hR] at hA
  obtain ⟨s, hs⟩ : ∃ s, s = (⟨(lnText ⟨K, Y⟩).toArray⟩ : ByteArray) := ⟨_, rfl⟩
  rw [← hs]
  have TP := Any.strings_TrimPrefix lays101 s ⟨#[32, 32]⟩ w1
  have ht : (⟨(Lib.trimPrefix s.data.toList (⟨#[32, 32]⟩ : ByteArray).data.toList).toArray⟩ : ByteArray) = ⟨(K.data.toList ++ 32 :: Lib.itoa Y).toArray⟩ := by
    rw [hs]
    show (⟨(Lib.trimPrefix (32 :: 32 :: (K.data.toList ++ 32 :: Lib.itoa Y)) [32, 32]).toArray⟩ : ByteArray) = _
    congr 2
  rw [ht] at TP
  have hi := itoa_no 32 (by decide) Y h4 h5
  have hil := itoa_len Y h4 h5
  have hsp : splitL 32 (K.data.toList ++ 32 :: Lib.itoa Y) = [K.data.toList, Lib.itoa Y] := by rw [splitL_hit 32 _ _ h1, splitL_miss 32 _ hi]
  have hcn : Lib.count (K.data.toList ++ 32 :: Lib.itoa Y) [32] + 1 = [K.data.toList, Lib.itoa Y].length := by rw [count_one 32 _ _ h1, count_no 32 _ hi]; rfl
  have SP := split_any ⟨(K.data.toList ++ 32 :: Lib.itoa Y).toArray⟩ 32 w1 (E.keep ga) (by show (K.data.toList ++ 32 :: Lib.itoa Y).toArray.size < _; simp only [List.size_toArray, List.length_append, List.length_cons]; omega) [K.data.toList, Lib.itoa Y] hsp hcn
  have hcs : (([K.data.toList, Lib.itoa Y] : List (List UInt8)).map (fun l => Value.string ⟨l.toArray⟩)).toArray = #[Value.string K, Value.string (itoaB Y)] := by
    simp only [List.map_cons, List.map_nil, mk_data]
    rfl
  rw [hcs] at SP
  have hS := heap_alloc_new w1 (.cells #[Value.string K, Value.string (itoaB Y)] 9)
  have gs := gr_alloc (gr_refl w1 none) (.cells #[Value.string K, Value.string (itoaB Y)] 9)
  obtain ⟨w2, hw2⟩ : ∃ w2, w2 = w1.alloc (.cells #[Value.string K, Value.string (itoaB Y)] 9) := ⟨_, rfl⟩
  rw [← hw2] at hS gs SP
  obtain ⟨Q, hQ⟩ : ∃ Q, Q = w1.heap.size := ⟨_, rfl⟩
  rw [← hQ] at hS SP
  replace TP := Lib.hid TP
  replace SP := Lib.hid SP
  have hA2 := (gs.block R (lt_of_block hA) (by simp)).trans hA
  have q0 : w2.cell? ⟨Q, 0, none⟩ = some (.string K) := blkC hS 0 rfl
  have q1 : w2.cell? ⟨Q, 1, none⟩ = some (.string (itoaB Y)) := blkC hS 1 rfl
  have hKe : K.toList.isEmpty = false := by
    rw [ByteArray.toList_eq]
    cases hk : K.data.toList with
    | nil => rw [hk] at h2; simp at h2
    | cons b r => rfl
  have NB := Lib.hid (numberI_any Y 10 w2 (by omega) h4 h5)
  have HA2 := Lib.hid hA2
  have HG2 := Lib.hid (gr_trans ga gs)
  have HW1 := Lib.hid hw1
  have HR := Lib.hid hR
  clear hs hA ga gs hS hA2 hw1 hw2 hQ hR hsp hcn hcs hi hil E ht h1 h2 h3 h4 h5
  go_enter Tryz.func57, Tryz.ntmps57
  go_upto_region 1 with (fail)
  rw [← HW1.out, ← HR.out]
  go_wp2_with (fail)
  refine TP.out.mono ?_
  rintro e w3 ⟨rfl, rfl⟩
  go_wp2_with (fail)
  refine SP.out.mono ?_
  rintro e w3 ⟨rfl, rfl⟩
  go_wp2_with (fail)
  refine NB.out.mono ?_
  rintro e w4 ⟨rfl, g4⟩
  have hA4 := (g4.block R (lt_of_block HA2.out) (by simp)).trans HA2.out
  have s0 : w4.cell? ⟨Q, 0, none⟩ = some (.string K) := (gr_cell g4 (lt_of_cell q0)).trans q0
  have r0 : w4.cell? ⟨R, 0, none⟩ = some (.string ⟨#[]⟩) := blkC hA4 0 rfl
  have r1 : w4.cell? ⟨R, 1, none⟩ = some (.int .i64 0) := blkC hA4 1 rfl
  have t0 := blkF hA4 0
  have t1 := blkF hA4 1
  have HA4 := Lib.hid hA4
  have HG4 := Lib.hid (gr_trans HG2.out g4)
  have hRw : w.heap.size ≤ R := Nat.le_of_eq HR.out.symm
  clear hA4 g4 TP SP NB q0 q1 HA2 HG2
  go_wp2_with (fail)

  refine bodyPost_ret (results_cell_slot (p := 2) (q := 3) (by kernel_rfl) _ _ R _ #[.string K, .int .i64 Y] _ (.struct dt) _ rfl rfl (set2_heapR HA4.out _ _) hd1 rfl (by kernel_rfl)) rfl ⟨rfl, ?_⟩
  exact gr_grown HG4.out (set2_grR w4 R _ _) (fun q e => by cases e; exact hRw)
/-- strings.Cut at a blank. -/
theorem cut_any (p q : List UInt8) (hp : (32 : UInt8) ∉ p) (hl : p.length + q.length ≤ 1000) (w : World) (E : EnvP w) :
    Calls Tryz.prog 83 #[.string ⟨(p ++ 32 :: q).toArray⟩, .string ⟨#[32]⟩] w fun e w' => e = .returned (.tuple #[.string ⟨p.toArray⟩, .string ⟨q.toArray⟩, .bool true]) ∧ w.grownBy w' none := by
  have hc : Lib.cut (p ++ 32 :: q) [32] = (p, q, true) := by
    unfold Lib.cut
    rw [index_hit 32 p q hp, if_pos (by omega)]
    simp
  refine (Any.strings_Cut_shaped laysM145 ⟨(p ++ 32 :: q).toArray⟩ ⟨#[32]⟩ w E.shp (by rw [mkB_sizeH]; simp only [List.length_append, List.length_cons]; omega)).mono ?_
  rintro e w' ⟨rfl, n, rfl⟩
  refine ⟨?_, gr_drewN (gr_refl w none) n⟩
  show Ending.returned (.tuple #[.string ⟨(Lib.cut (p ++ 32 :: q) [32]).1.toArray⟩, .string ⟨(Lib.cut (p ++ 32 :: q) [32]).2.1.toArray⟩, .bool (Lib.cut (p ++ 32 :: q) [32]).2.2]) = _
  rw [hc]
theorem cutPrefix_hit (p q : List UInt8) (w : World) : Calls Tryz.prog 96 #[.string ⟨(p ++ q).toArray⟩, .string ⟨p.toArray⟩] w fun e w' => e = .returned (.tuple #[.string ⟨q.toArray⟩, .bool true]) ∧ w' = w := by
  refine (Any.strings_CutPrefix lays103 ⟨(p ++ q).toArray⟩ ⟨p.toArray⟩ w).mono ?_
  rintro e w' ⟨rfl, rfl⟩
  refine ⟨?_, rfl⟩
  show Ending.returned (.tuple #[.string ⟨(Lib.trimPrefix (p ++ q) p).toArray⟩, .bool (Lib.hasPrefix (p ++ q) p)]) = _
  have h : Lib.hasPrefix (p ++ q) p = true := by simp [Lib.hasPrefix]
  unfold Lib.trimPrefix
  rw [h, if_pos rfl, List.drop_left]
theorem cutPrefix_miss (s p : List UInt8) (h : Lib.hasPrefix s p = false) (w : World) : Calls Tryz.prog 96 #[.string ⟨s.toArray⟩, .string ⟨p.toArray⟩] w fun e w' => e = .returned (.tuple #[.string ⟨s.toArray⟩, .bool false]) ∧ w' = w := by
  refine (Any.strings_CutPrefix lays103 ⟨s.toArray⟩ ⟨p.toArray⟩ w).mono ?_
  rintro e w' ⟨rfl, rfl⟩
  refine ⟨?_, rfl⟩
  show Ending.returned (.tuple #[.string ⟨(Lib.trimPrefix s p).toArray⟩, .bool (Lib.hasPrefix s p)]) = _
  unfold Lib.trimPrefix
  rw [h, if_neg (by simp)]
set_option maxRecDepth 100000 in
set_option maxHeartbeats 1000000 in
theorem headCan_any (n : Nat) (hn : n < 1000000000) (w : World) :
    Calls Tryz.prog 55 #[.string ⟨(canHead n).toArray⟩] w fun e w' => e = .returned (.tuple #[.agg #[.int .i64 0, .string ⟨#[]⟩, .slice none 0 0], .int .i64 (n : Int), .bool true, .bool true]) ∧ w.grownBy w' none := by
  obtain ⟨dt, hd1⟩ := und_struct (P := Tryz.prog) (t := 34) (by kernel_rfl)
  have hA := heap_alloc_new w (.cells #[.int .i64 0, .string ⟨#[]⟩, .slice none 0 0] 34)
  have ga := gr_alloc (gr_refl w none) (.cells #[.int .i64 0, .string ⟨#[]⟩, .slice none 0 0] 34)
  obtain ⟨w1, hw1⟩ : ∃ w1, w1 = w.alloc (.cells #[.int .i64 0, .string ⟨#[]⟩, .slice none 0 0] 34) := ⟨_, rfl⟩
  rw [← hw1] at hA ga
  obtain ⟨R, hR⟩ : ∃ R, R = w.heap.size := ⟨_, rfl⟩
  rw [← hR] at hA
  have CP := cutPrefix_hit [99, 97, 110, 99, 101, 108, 32] (Lib.itoa (n : Int)) w1
  obtain ⟨s, hs⟩ : ∃ s, s = (⟨(canHead n).toArray⟩ : ByteArray) := ⟨_, rfl⟩
  have hs2 : (⟨([99, 97, 110, 99, 101, 108, 32] ++ Lib.itoa (n : Int)).toArray⟩ : ByteArray) = s := by rw [hs]; rfl
  rw [hs2] at CP
  rw [← hs]
  replace CP := Lib.hid CP
  have NB := Lib.hid (numberI_any (n : Int) 10 w1 (by omega) (by omega) (by omega))
  have HA := Lib.hid hA
  have HG := Lib.hid ga
  have HW1 := Lib.hid hw1
  have HR := Lib.hid hR
  obtain ⟨d, hd⟩ : ∃ d, d = (⟨(Lib.itoa (n : Int)).toArray⟩ : ByteArray) := ⟨_, rfl⟩
  rw [← hd] at CP NB
  clear hs hs2 hA ga hw1 hR hd
  go_enter Tryz.func55, Tryz.ntmps55
  go_upto_region 1 with (fail)
  rw [← HW1.out, ← HR.out]
  go_wp2_with (fail)
  refine CP.out.mono ?_
  rintro e w3 ⟨rfl, rfl⟩
  go_wp2_with (fail)
  refine NB.out.mono ?_
  rintro e w4 ⟨rfl, g4⟩
  have hA4 := (g4.block R (lt_of_block HA.out) (by simp)).trans HA.out
  have r0 : w4.cell? ⟨R, 0, none⟩ = some (.int .i64 0) := blkC hA4 0 rfl
  have r1 : w4.cell? ⟨R, 1, none⟩ = some (.string ⟨#[]⟩) := blkC hA4 1 rfl
  have r2 : w4.cell? ⟨R, 2, none⟩ = some (.slice none 0 0) := blkC hA4 2 rfl
  have t0 := blkF hA4 0
  have t1 := blkF hA4 1
  have t2 := blkF hA4 2
  have HA4 := Lib.hid hA4
  have HG4 := Lib.hid (gr_trans HG.out g4)
  have hRw : w.heap.size ≤ R := Nat.le_of_eq HR.out.symm
  clear hA4 g4 CP NB HA HG
  go_wp2_with (fail)
  refine bodyPost_ret (results_cell_slot3 (p := 2) (q := 3) (r := 4) (s := 5) (by kernel_rfl) _ _ R _ #[.int .i64 0, .string ⟨#[]⟩, .slice none 0 0] _ (.struct dt) _ _ _ rfl rfl rfl rfl (set3R_heap HA4.out _ _ _) hd1 rfl (by kernel_rfl)) rfl ⟨rfl, ?_⟩
  exact gr_grown HG4.out (set3R_gr w4 R _ _ _) (fun q e => by cases e; exact hRw)
set_option maxRecDepth 100000 in
set_option maxHeartbeats 1000000 in
theorem headEnt_any (o : Pst) (h0 : 0 ≤ o.day) (h1 : o.day < 1000000000) (h2 : o.text.size ≤ 60) (w : World) (E : EnvP w) :
    Calls Tryz.prog 55 #[.string ⟨(entHead o).toArray⟩] w fun e w' => e = .returned (.tuple #[.agg #[.int .i64 o.day, .string o.text, .slice none 0 0], .int .i64 0, .bool false, .bool true]) ∧ w.grownBy w' none := by
  obtain ⟨day, T, L, can, off⟩ := o
  simp only at h0 h1 h2 ⊢
  obtain ⟨dt, hd1⟩ := und_struct (P := Tryz.prog) (t := 34) (by kernel_rfl)
  have hA := heap_alloc_new w (.cells #[.int .i64 0, .string ⟨#[]⟩, .slice none 0 0] 34)
  have ga := gr_alloc (gr_refl w none) (.cells #[.int .i64 0, .string ⟨#[]⟩, .slice none 0 0] 34)
  obtain ⟨w1, hw1⟩ : ∃ w1, w1 = w.alloc (.cells #[.int .i64 0, .string ⟨#[]⟩, .slice none 0 0] 34) := ⟨_, rfl⟩
  rw [← hw1] at hA ga
  obtain ⟨R, hR⟩ : ∃ R, R = w.heap.size := ⟨_, rfl⟩
  rw [← hR] at hA
  have hi := itoa_no 32 (by decide) day (by omega) h1
  have hil := itoa_len day (by omega) h1
  have hTl : T.data.toList.length = T.size := by simp
  have CM := cutPrefix_miss (entHead ⟨day, T, L, can, off⟩) [99, 97, 110, 99, 101, 108, 32] rfl w1
  have CP := cutPrefix_hit [101, 110, 116, 114, 121, 32] (Lib.itoa day ++ 32 :: T.data.toList) w1
  have CT := cut_any (Lib.itoa day) T.data.toList hi (by omega) w1 (E.keep ga)
  rw [mk_data] at CT
  obtain ⟨s, hs⟩ : ∃ s, s = (⟨(entHead ⟨day, T, L, can, off⟩).toArray⟩ : ByteArray) := ⟨_, rfl⟩
  have hs2 : (⟨([101, 110, 116, 114, 121, 32] ++ (Lib.itoa day ++ 32 :: T.data.toList)).toArray⟩ : ByteArray) = s := by rw [hs]; rfl
  rw [hs2] at CP
  rw [← hs] at CM
  rw [← hs]
  obtain ⟨u, hu⟩ : ∃ u, u = (⟨(Lib.itoa day ++ 32 :: T.data.toList).toArray⟩ : ByteArray) := ⟨_, rfl⟩
  rw [← hu] at CP CT
  have NB := Lib.hid (fun (W : World) => numberI_any day 10 W (by omega) (by omega) h1)
  obtain ⟨d, hd⟩ : ∃ d, d = (⟨(Lib.itoa day).toArray⟩ : ByteArray) := ⟨_, rfl⟩
  rw [← hd] at CT NB
  replace CP := Lib.hid CP
  replace CM := Lib.hid CM
  replace CT := Lib.hid CT
  have HA := Lib.hid hA
  have HG := Lib.hid ga
  have HW1 := Lib.hid hw1
  have HR := Lib.hid hR
  clear hs hs2 hA ga hw1 hR hd hu E hi
  go_enter Tryz.func55, Tryz.ntmps55
  go_upto_region 1 with (fail)
  rw [← HW1.out, ← HR.out]
  go_wp2_with (fail)
  refine CM.out.mono ?_
  rintro e w3 ⟨rfl, rfl⟩
  go_wp2_with (fail)
  refine CP.out.mono ?_
  rintro e w3 ⟨rfl, rfl⟩
  go_wp2_with (fail)
  refine CT.out.mono ?_
  rintro e w3 ⟨rfl, g3⟩
  have g3' := Lib.hid g3
  clear g3
  go_wp2_with (fail)
  refine (NB.out w3).mono ?_
  rintro e w4 ⟨rfl, g4⟩
  have hA4 := ((gr_trans g3'.out g4).block R (lt_of_block HA.out) (by simp)).trans HA.out
  have r0 : w4.cell? ⟨R, 0, none⟩ = some (.int .i64 0) := blkC hA4 0 rfl
  have r1 : w4.cell? ⟨R, 1, none⟩ = some (.string ⟨#[]⟩) := blkC hA4 1 rfl
  have r2 : w4.cell? ⟨R, 2, none⟩ = some (.slice none 0 0) := blkC hA4 2 rfl
  have t0 := blkF hA4 0
  have t1 := blkF hA4 1
  have t2 := blkF hA4 2
  have k1 := heap_setCell_same w4 R 0 _ _ (.int .i64 day) hA4
  have k2 := heap_setCell_same _ R 1 _ _ (.string T) k1
  have gk := gr_set (q := ⟨R, 1, none⟩) (gr_set (q := ⟨R, 0, none⟩) (gr_refl w4 (some R)) rfl (.int .i64 day)) rfl (.string T)
  have hA4' := Lib.hid k2
  have HG4 := Lib.hid (gr_trans HG.out (gr_trans g3'.out g4))
  have GK := Lib.hid gk
  have hRw : w.heap.size ≤ R := Nat.le_of_eq HR.out.symm
  clear hA4 g4 CP CM CT NB HA HG k1 k2 gk
  go_wp2_with (fail)
  refine bodyPost_ret (results_cell_slot3 (p := 2) (q := 3) (r := 4) (s := 5) (by kernel_rfl) _ _ R _ #[.int .i64 day, .string T, .slice none 0 0] _ (.struct dt) _ _ _ rfl rfl rfl rfl (set3R_heap hA4'.out _ _ _) hd1 rfl (by kernel_rfl)) rfl ⟨rfl, ?_⟩
  exact gr_grown (gr_grown HG4.out GK.out (fun q e => by cases e; exact hRw)) (set3R_gr _ R _ _ _) (fun q e => by cases e; exact hRw)
end Go.Proofs.YthikknnadmebgaaGreatDoor

/-! till.Read of what Print writes. -/
namespace Go.Proofs.YthikknnadmebgaaGreatDoor
open Go.RowKit
attribute [local go_sem ↓] Go.wp_at_zero Go.wp_at_succ

theorem hasPre_any (l : List UInt8) (w : World) : Calls Tryz.prog 56 #[.string ⟨l.toArray⟩, .string ⟨#[32, 32]⟩] w fun e w' => e = .returned (.bool (Lib.hasPrefix l [32, 32])) ∧ w' = w :=
  Any.strings_HasPrefix lays99 ⟨l.toArray⟩ ⟨#[32, 32]⟩ w

set_option maxRecDepth 100000 in
set_option maxHeartbeats 2000000 in
theorem read_any (ops : List Pst) (hops : OpsOk ops) (hl : ops.length ≤ 30) (w : World) (EW : EnvW w) (EP : EnvP w) :
    Calls Tryz.prog 18 #[.string ⟨(printL ops).toArray⟩] w fun e w' => ∃ g M base, e = .returned (.tuple #[.pointer (some ⟨g, 0, none⟩), .int .i64 0, .int .i64 0]) ∧ LedO w' base g M ops ∧ w.heap.size ≤ g ∧ w.heap.size ≤ M ∧ w.heap.size ≤ base ∧ w.grownBy w' none := by
  have ht := hops.text (by omega)
  obtain ⟨hno, hln, hpl⟩ := allLines_ok ops ht
  obtain ⟨sp1, sp2⟩ := split_lfs (allLines ops) hno
  obtain ⟨s, hs⟩ : ∃ s, s = (⟨(printL ops).toArray⟩ : ByteArray) := ⟨_, rfl⟩
  have hsl : s.size = (printL ops).length := by rw [hs, mkB_sizeH]
  have hsd : s.data.toList = printL ops := by rw [hs]
  have SP := split_any s 10 w EP (by omega) (allLines ops ++ [[]]) (by rw [hsd]; exact sp1) (by rw [hsd]; show Lib.count (lfs (allLines ops)) [10] + 1 = _; rw [sp2, List.length_append]; rfl)
  have hB := heap_alloc_new w (.cells ((allLines ops ++ [[]]).map (fun l : List UInt8 => Value.string ⟨l.toArray⟩)).toArray 9)
  have gB := gr_alloc (gr_refl w none) (.cells ((allLines ops ++ [[]]).map (fun l : List UInt8 => Value.string ⟨l.toArray⟩)).toArray 9)
  obtain ⟨w1, hw1⟩ : ∃ w1, w1 = w.alloc (.cells ((allLines ops ++ [[]]).map (fun l : List UInt8 => Value.string ⟨l.toArray⟩)).toArray 9) := ⟨_, rfl⟩
  rw [← hw1] at hB gB SP
  obtain ⟨B, hBe⟩ : ∃ B, B = w.heap.size := ⟨_, rfl⟩
  rw [← hBe] at hB SP
  obtain ⟨N, hN⟩ : ∃ N, N = (allLines ops).length := ⟨_, rfl⟩
  have hN1 : (allLines ops ++ [[]]).length = N + 1 := by rw [List.length_append, hN]; rfl
  rw [hN1] at SP
  have LC : ∀ (j : Nat) (l : List UInt8), (allLines ops)[j]? = some l → w1.cell? ⟨B, j, none⟩ = some (.string ⟨l.toArray⟩) := fun j l hj => blkC hB j (by
    rw [List.getElem?_toArray, List.getElem?_map, List.getElem?_append_left (List.getElem?_eq_some_iff.1 hj).1, hj]; rfl)
  have cN : w1.cell? ⟨B, N, none⟩ = some (.string ⟨#[]⟩) := blkC hB N (by
    rw [List.getElem?_toArray, List.getElem?_map, List.getElem?_append_right (by omega), hN, Nat.sub_self]; rfl)
  have dT : decide ((200000 : Int) < (s.size : Int)) = false := by simp; omega
  have hwN : IntKind.i64.wrap ((N : Int) + 1 - 1) = (N : Int) := by
    rw [show (N : Int) + 1 - 1 = (N : Int) by omega]; exact IntWalk.i64_in _ (by omega)
  have hwN2 : IntKind.i64.wrap (N : Int) = (N : Int) := IntWalk.i64_in _ (by omega)
  rw [← hs]
  have NL := Lib.hid (newLedger_any w1)
  have HOPS := Lib.hid hops
  have HT := Lib.hid ht
  have HLC := Lib.hid LC
  have HGB := Lib.hid gB
  have HEW := Lib.hid EW
  have HEP := Lib.hid EP
  have HN := Lib.hid hN
  have HBE := Lib.hid hBe
  have hNs : N ≤ 120 := by omega
  replace SP := Lib.hid SP
  clear hs hsl hsd sp1 sp2 hno hln hpl hB hw1 hN1 hBe LC gB EW EP ht hops hN
  go_enter Tryz.func18, Tryz.ntmps18
  go_wp2_with (fail)
  refine SP.out.mono ?_
  rintro e w2 ⟨rfl, rfl⟩
  go_wp2_with (fail)
  obtain ⟨M, hM⟩ : ∃ M, M = w2.heap.size := ⟨_, rfl⟩
  refine NL.out.mono ?_
  rintro e w3 ⟨he, hL3, g3⟩
  rw [← hM] at he hL3
  subst he
  have hMl : w2.heap.size ≤ M := Nat.le_of_eq hM.symm
  have Z0 : Hid (LedO w3 M (M + 1) M (ops.take 0) ∧ w2.grownBy w3 none) := ⟨⟨0, Nat.zero_le _, LedL.empty hL3⟩, g3⟩
  have hz3 : M ≤ w3.heap.size := Nat.le_of_lt hL3.mp.lt
  have hBM : B < M := by have := lt_of_cell cN; omega
  clear hL3 g3 NL hM SP cN dT
  go_wp2_with (fail)
  go_loopw [8] (fun i wr => ∃ k : Nat, k ≤ ops.length ∧ i = .int .i64 ((offsL ops k : Nat) : Int) ∧ LedO wr M (M + 1) M (ops.take k) ∧ w2.grownBy wr none ∧ M ≤ wr.heap.size) (fun i _ => N - (intOf i).toNat)
  case atStart => exact ⟨0, Nat.zero_le _, rfl, Z0.out.1, Z0.out.2, hz3⟩
  case round =>
    clear Z0
    obtain ⟨k, hk, rfl, hLO, hgr, hzr⟩ := hrel
    obtain ⟨wo, rfl⟩ : ∃ wo : World, wo = wr := ⟨_, rfl⟩
    by_cases hlt : k < ops.length
    · have hok := HOPS.out k hlt
      have hto := HT.out _ (List.getElem_mem hlt)
      have ol := offsL_lt ops k hlt
      have la := line_at ops k hlt
      have on := offsL_next ops k hlt
      have np := next_noPre ops (k + 1) hlt
      have htk : ops.take (k + 1) = ops.take k ++ [ops[k]] := List.take_succ_eq_append_getElem hlt
      rw [← HN.out] at ol np
      obtain ⟨o, ho⟩ : ∃ o, o = ops[k] := ⟨_, rfl⟩
      rw [← ho] at hok hto ol la on htk
      obtain ⟨p, hp⟩ : ∃ p, p = offsL ops k := ⟨_, rfl⟩
      rw [← hp] at ol la on
      rw [← hp]
      have hpN := ol 0 (opLines_pos o)
      rw [Nat.add_zero] at hpN
      have dp : decide (p < N) = true := decide_eq_true (by omega)
      have de : ((p : Int) == (N : Int)) = false := beq_eq_false_iff_ne.2 (by omega)
      have hwp : IntKind.i64.wrap ((p : Int) + 1) = (p : Int) + 1 := IntWalk.i64_in _ (by omega)
      have hwp0 : IntKind.i64.wrap (p : Int) = (p : Int) := IntWalk.i64_in _ (by omega)
      rcases Nat.eq_zero_or_pos o.can with hc0 | hc1
      · have hops : opLines o = entHead o :: o.lines.map lnText := by unfold opLines; rw [if_pos hc0]
        rw [hops] at la on ol
        have hlen1 : (entHead o :: o.lines.map lnText).length = o.lines.length + 1 := by simp
        have l0 := (gr_cell hgr (lt_of_cell (HLC.out _ _ (la 0 (by simp))))).trans (HLC.out _ _ (la 0 (by simp)))
        rw [Nat.add_zero] at l0
        have HLN : Hid (∀ (j : Nat) (hj : j < o.lines.length), p + 1 + j < N ∧ w2.cell? ⟨B, p + 1 + j, none⟩ = some (.string ⟨(lnText o.lines[j]).toArray⟩)) := fun j hj => by
          have h1 := la (j + 1) (by rw [hlen1]; omega)
          have h2 := ol (j + 1) (by rw [hlen1]; omega)
          rw [show p + (j + 1) = p + 1 + j by omega] at h1 h2
          refine ⟨h2, HLC.out _ _ (h1.trans ?_)⟩
          rw [List.getElem?_cons_succ, List.getElem?_map, List.getElem?_eq_getElem hj]
          rfl
        have hon : offsL ops (k + 1) = p + 1 + o.lines.length := by rw [on, hlen1]; omega
        have HH := headEnt_any o (by have := hto.d0; omega) (by have := hto.d1; omega) (hto.txt hc0).1 wo ((HEP.out.keep HGB.out).keep hgr)
        obtain ⟨hs, hhs⟩ : ∃ hs, hs = (⟨(entHead o).toArray⟩ : ByteArray) := ⟨_, rfl⟩
        rw [← hhs] at l0 HH
        have HNP : Hid (p + 1 + o.lines.length = N ∨ (p + 1 + o.lines.length < N ∧ ∃ l, w2.cell? ⟨B, p + 1 + o.lines.length, none⟩ = some (.string ⟨l.toArray⟩) ∧ Lib.hasPrefix l [32, 32] = false)) := by
          show _ ∨ _
          rw [hon] at np
          rcases np with h | ⟨h, l, h1, h2⟩
          · exact .inl h
          · exact .inr ⟨h, l, HLC.out _ _ h1, h2⟩
        have HHC := Lib.hid HH
        have HLO := Lib.hid hLO
        have HGR := Lib.hid hgr
        have HOK := Lib.hid hok
        have HTK := Lib.hid htk
        have HON := Lib.hid hon
        have HTO := Lib.hid hto
        obtain ⟨L, hL⟩ : ∃ L, L = o.lines := ⟨_, rfl⟩
        have HLE := Lib.hid hL
        have hl3 := hto.l3
        rw [← hL] at hl3 HNP HON HLN
        clear hLO hgr hok htk np HH la on hops hhs hto ho ol hp hon hlen1 hL
        go_wp2_with (fail)
        refine HHC.out.mono ?_
        rintro e w4 ⟨rfl, g4⟩
        have hV := heap_alloc_new w4 (.cells #[.int .i64 o.day, .string o.text, .slice none 0 0] 34)
        have ga := gr_alloc (gr_refl w4 none) (.cells #[.int .i64 o.day, .string o.text, .slice none 0 0] 34)
        obtain ⟨w5, hw5⟩ : ∃ w5, w5 = w4.alloc (.cells #[.int .i64 o.day, .string o.text, .slice none 0 0] 34) := ⟨_, rfl⟩
        rw [← hw5] at ga hV
        obtain ⟨V, hVe⟩ : ∃ V, V = w4.heap.size := ⟨_, rfl⟩
        rw [← hVe] at hV
        have HW5 := Lib.hid hw5
        have HVE := Lib.hid hVe
        have HGA := Lib.hid (gr_trans g4 ga)
        have hwV : wo.heap.size ≤ V := by have := g4.size; omega
        obtain ⟨ul, hul⟩ : ∃ ul, ul = w5.heap.size := ⟨_, rfl⟩
        have hVul : V < ul := by have := lt_of_block hV; omega
        have hMul : M ≤ ul := by omega
        have Z5 : Hid (w5.heap[V]? = some (.cells #[.int .i64 o.day, .string o.text, .slice none 0 0] 34 (0, 0)) ∧ w5.ownsRow ul 89 2 (.slice none 0 0) 0 (flat encNm (L.take 0)) ∧ ul ≤ w5.heap.size ∧ wo.grownBy w5 none) := ⟨hV, World.ownsRow_nil _ _ _ _, Nat.le_of_eq hul, HGA.out⟩
        clear ga hw5 g4 l0 HHC hV hVe hul
        go_upto_region 12 with (fail)
        rw [← HW5.out, ← HVE.out]
        go_wp2_with (fail)
        go_loopw [8] (fun i wr => ∃ (j q : Nat) (v : Value), j ≤ L.length ∧ q = p + 1 + j ∧ i = .int .i64 (q : Int) ∧ wr.heap[V]? = some (.cells #[.int .i64 o.day, .string o.text, v] 34 (0, 0)) ∧ wr.ownsRow ul 89 2 v j (flat encNm (L.take j)) ∧ ul ≤ wr.heap.size ∧ wo.grownBy wr none) (fun i _ => N - (intOf i).toNat)
        case atStart => exact ⟨0, p + 1, _, Nat.zero_le _, rfl, by go_num, Z5.out.1, Z5.out.2.1, Z5.out.2.2.1, Z5.out.2.2.2⟩
        case round =>
          clear Z5
          obtain ⟨j, q, v, hj, hq, rfl, hV, hO, hz, hgx⟩ := hrel
          obtain ⟨wx, rfl⟩ : ∃ wx : World, wx = wr := ⟨_, rfl⟩
          by_cases hlt2 : j < L.length
          · obtain ⟨hqN, hqc⟩ := HLN.out j hlt2
            obtain ⟨a1, a2, a3⟩ := HTO.out.ln L[j] (by rw [← HLE.out]; exact List.getElem_mem hlt2)
            have hkl := acc_len _ a3
            have hkn := acc_no 32 (by decide) _ a3
            have hfl : flat encNm (L.take (j + 1)) = flat encNm (L.take j) ++ encNm L[j] := by
              rw [← flat_one (enc := encNm) L[j], ← flat_append, ← List.take_succ_eq_append_getElem hlt2]
            obtain ⟨x, hx⟩ : ∃ x, x = L[j] := ⟨_, rfl⟩
            have hqc2 : w2.cell? ⟨B, q, none⟩ = some (.string ⟨(lnText L[j]).toArray⟩) := by rw [hq]; exact hqc
            rw [← hx] at a1 a2 a3 hkl hkn hfl hqc2
            rw [← hq] at hqN
            have lq := (gr_cell (gr_trans HGR.out hgx) (lt_of_cell hqc2)).trans hqc2
            have dq : decide (q < N) = true := decide_eq_true hqN
            have deq : ((q : Int) == (N : Int)) = false := beq_eq_false_iff_ne.2 (by omega)
            have hwq : IntKind.i64.wrap ((q : Int) + 1) = (q : Int) + 1 := IntWalk.i64_in _ (by omega)
            have RL := readLine_any x hkn hkl.1 hkl.2 (by omega) (by omega) wx ((HEP.out.keep HGB.out).keep (gr_trans HGR.out hgx))
            have hpre := show Lib.hasPrefix (lnText x) [32, 32] = true from rfl
            have HP := hasPre_any (lnText x) wx
            rw [hpre] at HP
            obtain ⟨ls, hls⟩ : ∃ ls, ls = (⟨(lnText x).toArray⟩ : ByteArray) := ⟨_, rfl⟩
            rw [← hls] at lq RL HP
            obtain ⟨K, Y⟩ := x
            simp only at RL
            obtain ⟨va, vc, rfl, -, -, -, -⟩ := own_shape hO
            have HRL := Lib.hid RL
            have HHP := Lib.hid HP
            have HV := Lib.hid hV
            have HO := Lib.hid hO
            have HX := Lib.hid hgx
            have HFL := Lib.hid hfl
            have HQ := Lib.hid hq
            clear RL HP hls hx hqc hqc2 hfl a1 a2 a3 hkl hkn hV hO hgx hq
            go_wp2_with (fail)
            refine HHP.out.mono ?_
            rintro e w6 ⟨rfl, rfl⟩
            go_wp2_with (fail)
            refine HRL.out.mono ?_
            rintro e w6 ⟨rfl, g6⟩
            have hX := heap_alloc_new w6 (.cells #[.string K, .int .i64 Y] 89)
            have ga := gr_alloc (gr_refl w6 none) (.cells #[.string K, .int .i64 Y] 89)
            obtain ⟨w7, hw7⟩ : ∃ w7, w7 = w6.alloc (.cells #[.string K, .int .i64 Y] 89) := ⟨_, rfl⟩
            rw [← hw7] at hX ga
            obtain ⟨X, hXe⟩ : ∃ X, X = w6.heap.size := ⟨_, rfl⟩
            rw [← hXe] at hX
            have g67 := gr_trans g6 ga
            have hV7 := (g67.block V (lt_of_block HV.out) (by simp)).trans HV.out
            have v2 : w7.cell? ⟨V, 2, none⟩ = some (.slice va j vc) := blkC hV7 2 rfl
            have y0 : w7.cell? ⟨X, 0, none⟩ = some (.string K) := blkC hX 0 rfl
            have y1 : w7.cell? ⟨X, 1, none⟩ = some (.int .i64 Y) := blkC hX 1 rfl
            have HO7 := Lib.hid (own_keep0 HO.out g67)
            have HV7 := Lib.hid hV7
            have hz7 := g67.size
            have HG7 := Lib.hid (gr_trans HX.out g67)
            have HW7 := Lib.hid hw7
            have HXE := Lib.hid hXe
            clear hX ga hw7 hXe hV7 g6 g67 HRL HHP lq
            go_upto_region 18 with (fail)
            rw [← HW7.out, ← HXE.out]
            go_wp2_with (at_builtin; refine wpList_app1F eLn rfl _ _ rfl ul _ j (flat encNm (L.take j)) rfl w7 #[.string K, .int .i64 Y] rfl HO7.out _ rfl rfl rfl rfl (by omega) (by omega) ?_; intro v8 w8 o8 g8 hl8 hk8; obtain ⟨ga8, ca8, rfl, -, -, -, -⟩ := own_some o8 (by omega); have hV8 := (g8.block V (lt_of_block HV7.out) (fun e => by have := hl8 V e.symm; omega)).trans HV7.out; have s2 : w8.cell? ⟨V, 2, none⟩ = some (.slice va j vc) := blkC hV8 2 rfl; have t2 := blkF hV8 2)
            have gx := gr_set (q := ⟨V, 2, none⟩) (gr_refl w8 (some V)) rfl (.slice (some ⟨ga8, 0, none⟩) (j + 1) ca8)
            have kV := Lib.hid (heap_setCell_same w8 V 2 _ _ (.slice (some ⟨ga8, 0, none⟩) (j + 1) ca8) hV8)
            have kO := Lib.hid (o8.kept gx (.inr (own_ne o8 hV8 (by decide))))
            have hz8 : ul ≤ (w8.setCell ⟨V, 2, none⟩ (.slice (some ⟨ga8, 0, none⟩) (j + 1) ca8)).heap.size := by have := g8.size; have := gx.size; omega
            have kG := Lib.hid (gr_grown (gr_grown HG7.out g8 (fun c e => by have := hl8 c e; omega)) gx (fun c e => by cases e; exact hwV))
            clear gx hV8 o8 g8 hl8 hk8 v2 y0 y1
            try (go_wp2_with (fail))
            go_roundw
            case rel => exact ⟨j + 1, q + 1, _, by omega, by have := HQ.out; omega, by go_num, kV.out, by rw [HFL.out]; exact kO.out, hz8, kG.out⟩
            case measure => simp [intOf]; omega
          · obtain rfl : j = L.length := by omega
            rw [List.take_length] at hO
            have hO' := hO
            rw [HLE.out] at hO'
            obtain ⟨va, vc, rfl, hcc, -, hC, -⟩ := own_shape hO'
            have hg2 := gr_trans HGR.out hgx
            have HG2 := Lib.hid hg2
            have hzx : M ≤ wx.heap.size := by have := hgx.size; omega
            have PO := Lib.hid (postO_any (ops.take k) o va vc (M + 1) M M w2 wx ((HEW.out.keep HGB.out).keep hg2) (HLO.out.keep0 hgx) (HOPS.out.pre k) HOK.out hc0 (by rw [List.length_take]; omega) hC hcc hg2 (by omega) hMl hMl hzx)
            have hLL : o.lines.length = L.length := by rw [HLE.out]
            have v0 : wx.cell? ⟨V, 0, none⟩ = some (.int .i64 o.day) := blkC hV 0 rfl
            have v1 : wx.cell? ⟨V, 1, none⟩ = some (.string o.text) := blkC hV 1 rfl
            have v2 : wx.cell? ⟨V, 2, none⟩ = some (.slice va o.lines.length vc) := blkC hV 2 rfl
            rw [hLL] at v2 PO
            have hnp := HNP.out
            rw [← hq] at hnp
            have HQ := Lib.hid hq
            clear hO hO' hC hgx hg2 hV hq hcc hLL
            rcases hnp with h | ⟨h, l, hll, hpre⟩
            case' inl =>
              have dq : decide (q < N) = false := decide_eq_false (by omega)
              go_wp2_with (fail)
            case' inr =>
              have dq : decide (q < N) = true := decide_eq_true (by omega)
              have hll2 := (gr_cell HG2.out (lt_of_cell hll)).trans hll
              go_wp2_with (fail)
              refine (hasPre_any l wx).mono ?_
              rintro e w9 ⟨rfl, rfl⟩
              rw [hpre]
              go_wp2_with (fail)
            all_goals
              refine PO.out.mono ?_
              rintro e w8 ⟨rfl, LO8, g8, -⟩
              rw [← HTK.out] at LO8
              have HLO8 := Lib.hid LO8
              have HG8 := Lib.hid g8
              have hz8 : M ≤ w8.heap.size := by obtain ⟨_, _, h⟩ := LO8; have := h.room; omega
              clear LO8 g8 PO
              go_wp2_with (fail)
              go_roundw
            · exact ⟨k + 1, by omega, by rw [HON.out]; exact congrArg (fun z : Nat => Value.int .i64 (z : Int)) (by have := HQ.out; omega), HLO8.out, HG8.out, hz8⟩
            · have := HQ.out
              simp [intOf]
              omega
            · exact ⟨k + 1, by omega, by rw [HON.out]; exact congrArg (fun z : Nat => Value.int .i64 (z : Int)) (by have := HQ.out; omega), HLO8.out, HG8.out, hz8⟩
            · have := HQ.out
              simp [intOf]
              omega
      · have hops : opLines o = [canHead o.can] := by unfold opLines; rw [if_neg (by omega)]
        rw [hops] at la on
        have l0 := (gr_cell hgr (lt_of_cell (HLC.out _ _ (la 0 (by simp))))).trans (HLC.out _ _ (la 0 (by simp)))
        rw [Nat.add_zero] at l0
        obtain ⟨c, hc⟩ : ∃ c, o.can = c + 1 := ⟨o.can - 1, by omega⟩
        have hcb := hto.can
        have hon : offsL ops (k + 1) = p + 1 := on
        rw [hc] at l0
        have HC := headCan_any (c + 1) (by omega) wo
        rw [show ((c + 1 : Nat) : Int) = (c : Int) + 1 from rfl] at HC
        obtain ⟨hs, hhs⟩ : ∃ hs, hs = (⟨(canHead (c + 1)).toArray⟩ : ByteArray) := ⟨_, rfl⟩
        rw [← hhs] at l0 HC
        have hwp1 : IntKind.i64.wrap ((p : Int) + 1 + 1) = (p : Int) + 1 + 1 := IntWalk.i64_in _ (by omega)
        have HNP : Hid (p + 1 = N ∨ (p + 1 < N ∧ ∃ l, w2.cell? ⟨B, p + 1, none⟩ = some (.string ⟨l.toArray⟩) ∧ Lib.hasPrefix l [32, 32] = false)) := by
          show _ ∨ _
          rw [hon] at np
          rcases np with h | ⟨h, l, h1, h2⟩
          · exact .inl h
          · exact .inr ⟨h, l, HLC.out _ _ h1, h2⟩
        have HHC := Lib.hid HC
        have HLO := Lib.hid hLO
        have HGR := Lib.hid hgr
        have HOK := Lib.hid hok
        have HTK := Lib.hid htk
        have HON := Lib.hid hon
        clear hLO hgr hok htk np HC la on hops hhs hto ho ol hp hcb hon
        go_wp2_with (fail)
        refine HHC.out.mono ?_
        rintro e w4 ⟨rfl, g4⟩
        have ga := gr_alloc (gr_refl w4 none) (.cells #[.int .i64 0, .string ⟨#[]⟩, .slice none 0 0] 34)
        obtain ⟨w5, hw5⟩ : ∃ w5, w5 = w4.alloc (.cells #[.int .i64 0, .string ⟨#[]⟩, .slice none 0 0] 34) := ⟨_, rfl⟩
        rw [← hw5] at ga
        have HW5 := Lib.hid hw5
        have HGA := Lib.hid (gr_trans g4 ga)
        have Z5 : Hid (w5.grownBy w5 none) := gr_refl _ _
        clear ga hw5 g4 l0 HHC
        go_upto_region 12 with (fail)
        rw [← HW5.out]
        go_wp2_with (fail)
        go_loopw [8] (fun i wr => i = .int .i64 ((p : Int) + 1) ∧ w5.grownBy wr none) (fun _ _ => 0)
        case atStart => exact ⟨rfl, Z5.out⟩
        case round =>
          obtain ⟨rfl, hgx⟩ := hrel
          obtain ⟨wx, rfl⟩ : ∃ wx : World, wx = wr := ⟨_, rfl⟩
          have hg2 := gr_trans HGR.out (gr_trans HGA.out hgx)
          have HG2 := Lib.hid hg2
          have LOx := HLO.out.keep0 (gr_trans HGA.out hgx)
          have okc := HOK.out
          have hzx : M ≤ wx.heap.size := by have := (gr_trans HGA.out hgx).size; omega
          have CN := cancelO_any (ops.take k) o c (M + 1) M M w2 wx ((HEP.out.keep HGB.out).keep hg2) LOx (HOPS.out.pre k) okc hc (by rw [List.length_take]; omega) hg2 (by omega) hMl hMl hzx
          have CN := Lib.hid CN
          clear Z5 hgx hg2 LOx okc
          rcases HNP.out with h | ⟨h, l, hll, hpre⟩
          case' inl =>
            have dq : decide ((p : Int) + 1 < (N : Int)) = false := decide_eq_false (by omega)
            go_wp2_with (fail)
          case' inr =>
            have dq : decide ((p : Int) + 1 < (N : Int)) = true := decide_eq_true (by omega)
            have hll2 := (gr_cell HG2.out (lt_of_cell hll)).trans hll
            go_wp2_with (fail)
            refine (hasPre_any l wx).mono ?_
            rintro e w9 ⟨rfl, rfl⟩
            rw [hpre]
            go_wp2_with (fail)
          all_goals
            refine CN.out.mono ?_
            rintro e w8 ⟨rfl, LO8, g8, -⟩
            rw [← HTK.out] at LO8
            have HLO8 := Lib.hid LO8
            have HG8 := Lib.hid g8
            have hz8 : M ≤ w8.heap.size := by have := LO8; obtain ⟨_, _, h⟩ := LO8; have := h.room; omega
            clear LO8 g8 CN
            go_wp2_with (fail)
            go_roundw
          all_goals first
            | exact ⟨k + 1, by omega, by rw [HON.out]; rfl, HLO8.out, HG8.out, hz8⟩
            | (simp [intOf]; omega)
    · obtain rfl : k = ops.length := by omega
      have hoe := offsL_end ops
      rw [← HN.out] at hoe
      rw [hoe]
      rw [List.take_length] at hLO
      have dN : decide ((N : Int) < (N : Int)) = false := by simp
      have HLO := Lib.hid hLO
      have HGR := Lib.hid hgr
      have hMw : w.heap.size ≤ M := by have := HGB.out.size; omega
      clear hLO hgr
      go_wp2_with (fail)
      go_ret3
      exact ⟨M + 1, M, M, rfl, HLO.out, by omega, hMw, hMw, gr_trans HGB.out HGR.out⟩
end Go.Proofs.YthikknnadmebgaaGreatDoor
