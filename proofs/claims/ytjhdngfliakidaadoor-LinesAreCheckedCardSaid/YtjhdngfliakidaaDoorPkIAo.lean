/- meter.Decode of a line of numerals. -/
import Derived.Test.YtjhdngfliakidaaDoorPkIAl
import Derived.Test.YtjhdngfliakidaaDoorPkIAm
import Derived.Test.YtjhdngfliakidaaDoorPkIAh
import Derived.Test.YtjhdngfliakidaaDoorPkIAi
import Derived.Test.YtjhdngfliakidaaDoorPkIAn
namespace Go.Proofs.YtjhdngfliakidaaDoor
open Go.RowKit
attribute [local go_sem ↓] Go.wp_at_zero Go.wp_at_succ

def hexSet : ByteArray := { data := #[48, 49, 50, 51, 52, 53, 54, 55, 56, 57, 97, 98, 99, 100, 101, 102] }
theorem hex_in (x : UInt8) : ∀ b ∈ hexL x, hexSet.data.toList.contains b = true ∧ b ≠ 32 := by
  have h := all_bytes (fun x => (hexL x).all fun b => hexSet.data.toList.contains b && (b != 32)) (by kernel_rfl) x
  intro b hb
  have h1 := List.all_eq_true.1 h b hb
  simp only [Bool.and_eq_true, bne_iff_ne, ne_eq] at h1
  exact h1
theorem trimS_hex (x : UInt8) : Lib.trimS (hexL x) hexSet.data.toList = [] := by
  have h := trimS_nil (hexL x) hexSet.data.toList
  have h2 : (hexL x).all (fun b => hexSet.data.toList.contains b) = true := List.all_eq_true.2 (fun b hb => (hex_in x b hb).1)
  rw [h2] at h
  exact List.isEmpty_iff.1 h
theorem line_split (x : UInt8) (A : List UInt8) (ns : List (List UInt8)) (hA : NumL A) (hn : ∀ p ∈ ns, NumL p) : splitL 32 ((A ++ 32 :: joinC ns) ++ 32 :: 42 :: hexL x) = [A, joinC ns, 42 :: hexL x] ∧ Lib.count ((A ++ 32 :: joinC ns) ++ 32 :: 42 :: hexL x) [32] + 1 = 3 := by
  have e : (A ++ 32 :: joinC ns) ++ 32 :: 42 :: hexL x = A ++ 32 :: (joinC ns ++ 32 :: (42 :: hexL x)) := by simp
  have h1 := hA.no 32 (by decide)
  have h2 : (32 : UInt8) ∉ joinC ns := join_no 32 (by decide) ns (fun p hp => (hn p hp).no 32 (by decide))
  have h3 : (32 : UInt8) ∉ 42 :: hexL x := by
    intro h
    rcases List.mem_cons.1 h with h | h
    · exact absurd h (by decide)
    · exact (hex_in x 32 h).2 rfl
  rw [e]
  refine ⟨by rw [splitL_hit 32 A _ h1, splitL_hit 32 _ _ h2, splitL_miss 32 _ h3], ?_⟩
  rw [count_one 32 A _ h1, count_one 32 _ _ h2, count_no 32 _ h3]
theorem set2D_heap {w : World} {g t : Nat} {a b : Value} (h : w.heap[g]? = some (.cells #[a, b] t (0, 0))) (x y : Value) : ((w.setCell ⟨g, 0, none⟩ x).setCell ⟨g, 1, none⟩ y).heap[g]? = some (.cells #[x, y] t (0, 0)) :=
  heap_setCell_same _ g 1 _ t y (heap_setCell_same w g 0 _ t x h)
structure Dec (A : List UInt8) (ns : List (List UInt8)) (av : Int) (vs : List Int) : Prop where
  a : NumL A
  nums : ∀ p ∈ ns, NumL p
  l0 : 0 < ns.length
  l1 : ns.length ≤ 60
  av : Lib.atoi A = some av
  len : vs.length = ns.length
  vals : ∀ i (h : i < ns.length) (h2 : i < vs.length), Lib.atoi ns[i] = some vs[i]
theorem join_len : ∀ ns : List (List UInt8), (∀ p ∈ ns, NumL p) → (joinC ns).length ≤ 10 * ns.length
  | [], _ => by simp [joinC]
  | [p], h => by have := (h p (by simp)).len; simp [joinC]; omega
  | p :: q :: r, h => by
    have h1 := (h p (by simp)).len
    have h2 := join_len (q :: r) (fun x hx => h x (by simp only [List.mem_cons] at hx ⊢; exact .inr hx))
    rw [joinC]
    simp only [List.length_append, List.length_cons] at h2 ⊢
    omega
set_option maxRecDepth 100000 in
set_option maxHeartbeats 2000000 in
theorem decode_any (x : UInt8) (A : List UInt8) (ns : List (List UInt8)) (av : Int) (vs : List Int) (D : Dec A ns av vs) (hcase : hexL (foldX (A ++ 32 :: joinC ns)) ≠ hexL x ∨ LineOk ⟨av, vs⟩) (w : World) (E : EnvP w) :
    Calls Tryd.prog 34 #[.string ⟨((A ++ 32 :: joinC ns) ++ 32 :: 42 :: hexL x).toArray⟩] w fun e w' => w.grownBy w' none ∧ (hexL (foldX (A ++ 32 :: joinC ns)) ≠ hexL x → e = .returned (.tuple #[.agg #[.int .i64 0, .slice none 0 0], .int .i64 15])) ∧ (hexL (foldX (A ++ 32 :: joinC ns)) = hexL x → ∃ v, e = .returned (.tuple #[.agg #[.int .i64 av, v], .int .i64 0]) ∧ w'.ownsRow w.heap.size 3 1 v vs.length (ints vs)) := by
  obtain ⟨dt, hd1⟩ := und_struct (P := Tryd.prog) (t := 70) (by kernel_rfl)
  obtain ⟨s1, s2⟩ := line_split x A ns D.a D.nums
  obtain ⟨j1, j2⟩ := join_split ns (fun e => by have := D.l0; rw [e] at this; simp at this) (fun p hp => (D.nums p hp).no 44 (by decide))
  have hjl := join_len ns D.nums
  have hal := D.a.len
  have l1 := D.l1
  have l0 := D.l0
  obtain ⟨T, hT⟩ : ∃ T : ByteArray, T = ⟨((A ++ 32 :: joinC ns) ++ 32 :: 42 :: hexL x).toArray⟩ := ⟨_, rfl⟩
  have hTl : T.data.toList = (A ++ 32 :: joinC ns) ++ 32 :: 42 :: hexL x := by rw [hT]
  have hTs : T.size ≤ 700 := by
    have : T.size = T.data.toList.length := by simp
    rw [this, hTl]
    simp [hexL]
    omega
  rw [← hTl] at s1 s2
  obtain ⟨J, hJ⟩ : ∃ J : ByteArray, J = ⟨(joinC ns).toArray⟩ := ⟨_, rfl⟩
  have hJl : J.data.toList = joinC ns := by rw [hJ]
  rw [← hJl] at j1 j2
  have hJs : J.size ≤ 600 := by
    have : J.size = J.data.toList.length := by simp
    rw [this, hJl]
    omega
  obtain ⟨AB, hAB⟩ : ∃ AB : ByteArray, AB = ⟨A.toArray⟩ := ⟨_, rfl⟩
  have hABs : AB.size ≤ 9 := by rw [hAB]; show A.toArray.size ≤ 9; simpa using hal
  obtain ⟨HS, hHS⟩ : ∃ HS : ByteArray, HS = ⟨(42 :: hexL x).toArray⟩ := ⟨_, rfl⟩
  have hHSs : HS.size = 3 := by rw [hHS]; rfl
  have hHS0 : HS[0] = 42 := by simp only [hHS]; rfl
  obtain ⟨XB, hXB⟩ : ∃ XB : ByteArray, XB = ⟨(hexL x).toArray⟩ := ⟨_, rfl⟩
  have hXBe : HS.extract 1 3 = XB := by
    rw [hHS, hXB]
    apply ByteArray.ext
    rfl
  have SP1 := Lib.hid (fun W (g : w.grownBy W none) => split_any T 32 W (E.keep g) (by omega) [A, joinC ns, 42 :: hexL x] s1 (by rw [s2]; rfl))
  have SP2 := Lib.hid (fun W (g : w.grownBy W none) => split_any J 44 W (E.keep g) (by omega) ns j1 j2)
  have NA := Lib.hid (fun W => number_any AB av W (by rw [hAB]; exact D.a) (by rw [hAB]; exact D.av))
  have HD := Lib.hid D
  have HCS := Lib.hid hcase
  have HE := Lib.hid E
  have HAB := Lib.hid hAB
  have HJ := Lib.hid hJ
  have HHS := Lib.hid hHS
  have HXB := Lib.hid hXB
  have R0 := heap_alloc_new w (.cells #[.int .i64 0, .slice none 0 0] 70)
  have g1 := gr_alloc (gr_refl w none) (.cells #[.int .i64 0, .slice none 0 0] 70)
  obtain ⟨w1, hw1⟩ : ∃ w1, w1 = w.alloc (.cells #[.int .i64 0, .slice none 0 0] 70) := ⟨_, rfl⟩
  rw [← hw1] at R0 g1
  obtain ⟨R, hR⟩ : ∃ R, R = w.heap.size := ⟨_, rfl⟩
  rw [← hR] at R0
  have HR0 := Lib.hid R0
  have HG1 := Lib.hid g1
  have HW1 := Lib.hid hw1
  have HRE := Lib.hid hR
  rw [← hT]
  clear s1 s2 j1 j2 hT hTl hJ hJl hAB hHS hXB hjl R0 g1 hw1 hR D E hcase
  go_enter Tryd.func34, Tryd.ntmps34
  go_upto_region 1 with (fail)
  rw [← HW1.out, ← HRE.out]
  have hT1 : decide ((1000 : Int) < (T.size : Int)) = false := by simp; omega
  go_wp2_with (fail)
  refine (SP1.out w1 HG1.out).mono ?_
  rintro e w2 ⟨rfl, hw2⟩
  have hmap : ([A, joinC ns, 42 :: hexL x].map (fun l => Value.string ⟨l.toArray⟩)).toArray = #[.string AB, .string J, .string HS] := by
    rw [HAB.out, HJ.out, HHS.out]; rfl
  rw [hmap] at hw2
  have hN := heap_alloc_new w1 (.cells #[.string AB, .string J, .string HS] 9)
  have g2 := gr_alloc (gr_refl w1 none) (.cells #[.string AB, .string J, .string HS] 9)
  rw [← hw2] at hN g2
  obtain ⟨Q, hQ⟩ : ∃ Q, Q = w1.heap.size := ⟨_, rfl⟩
  rw [← hQ] at hN
  rw [← hQ]
  have q2 : w2.cell? ⟨Q, 2, none⟩ = some (.string HS) := blkC hN 2 rfl
  have HN := Lib.hid hN
  have HG2 := Lib.hid (gr_trans HG1.out g2)
  have hz1 := HG1.out.size
  have hz2 := g2.size
  have hRQ : R < Q := by have := lt_of_block HR0.out; omega
  have HR2 := Lib.hid ((g2.block _ (lt_of_block HR0.out) (by simp)).trans HR0.out)
  have h42 : ((HS[0].toNat : Int) != 42) = false := by rw [hHS0]; rfl
  have TR := Any.strings_Trim_laid lays160 (by kernel_rfl) XB hexSet w2 (by rw [HXB.out]; show 2 ≤ _; decide) (by decide) (ascii_of_all (by kernel_rfl))
  have hTm : (⟨(Lib.trimS XB.data.toList hexSet.data.toList).toArray⟩ : ByteArray) = ⟨#[]⟩ := by
    rw [HXB.out]
    show (⟨(Lib.trimS (hexL x) hexSet.data.toList).toArray⟩ : ByteArray) = _
    rw [trimS_hex]
  rw [hTm] at TR
  have TR := Lib.hid TR
  clear hmap hw2 hQ g2 hN SP1 hHS0 hT1 hTm
  go_wp2_with (fail)
  refine TR.out.mono ?_
  rintro e w3 ⟨rfl, hb3⟩
  have g3 := gr_of_below hb3
  have hN3 := (g3.block _ (lt_of_block HN.out) (by simp)).trans HN.out
  have q0 : w3.cell? ⟨Q, 0, none⟩ = some (.string AB) := blkC hN3 0 rfl
  have HN3 := Lib.hid hN3
  have HG3 := Lib.hid (gr_trans HG2.out g3)
  have HR3 := Lib.hid ((g3.block _ (lt_of_block HR2.out) (by simp)).trans HR2.out)
  have hz3 := g3.size
  clear hb3 g3 hN3 q2 HR2 HN HG2 TR h42
  go_wp2_with (fail)
  refine (NA.out w3).mono ?_
  rintro e w4 ⟨rfl, g4⟩
  have HN4 := Lib.hid ((g4.block _ (lt_of_block HN3.out) (by simp)).trans HN3.out)
  have HG4 := Lib.hid (gr_trans HG3.out g4)
  have HR4 := Lib.hid ((g4.block _ (lt_of_block HR3.out) (by simp)).trans HR3.out)
  have hz4 := g4.size
  have hV := heap_alloc_new w4 (.cells #[.int .i64 av, .slice none 0 0] 70)
  have g5 := gr_alloc (gr_refl w4 none) (.cells #[.int .i64 av, .slice none 0 0] 70)
  obtain ⟨w5, hw5⟩ : ∃ w5, w5 = w4.alloc (.cells #[.int .i64 av, .slice none 0 0] 70) := ⟨_, rfl⟩
  rw [← hw5] at hV g5
  obtain ⟨V, hVe⟩ : ∃ V, V = w4.heap.size := ⟨_, rfl⟩
  rw [← hVe] at hV
  have hN5 := (g5.block _ (lt_of_block HN4.out) (by simp)).trans HN4.out
  have q1 : w5.cell? ⟨Q, 1, none⟩ = some (.string J) := blkC hN5 1 rfl
  have HV5 := Lib.hid hV
  have HG5 := Lib.hid g5
  have HW5 := Lib.hid hw5
  have HVE := Lib.hid hVe
  have hRV : R < V := by have := lt_of_block HR4.out; omega
  have hQV : Q < V := by have := lt_of_block HN4.out; omega
  have hV5 : V < w5.heap.size := lt_of_block hV
  have HE5 := Lib.hid (gr_trans HG4.out g5)
  clear hV hw5 hVe hN5 g4 g5 q0 HN3 HR3 NA HG3
  go_upto_region 8 with (fail)
  rw [← HW5.out, ← HVE.out]
  go_wp2_with (fail)
  refine (SP2.out w5 HE5.out).mono ?_
  rintro e w6 ⟨rfl, hw6⟩
  obtain ⟨nS, hnS⟩ : ∃ nS, nS = (ns.map (fun l => Value.string ⟨l.toArray⟩)).toArray := ⟨_, rfl⟩
  rw [← hnS] at hw6
  have hS := heap_alloc_new w5 (.cells nS 9)
  have g6 := gr_alloc (gr_refl w5 none) (.cells nS 9)
  rw [← hw6] at hS g6
  obtain ⟨S2, hS2⟩ : ∃ S2, S2 = w5.heap.size := ⟨_, rfl⟩
  rw [← hS2] at hS
  rw [← hS2]
  have hnk : ∀ k (hk : k < ns.length), nS[k]? = some (.string ⟨ns[k].toArray⟩) := fun k hk => by rw [hnS]; simp [List.getElem?_eq_getElem hk]
  have HNK := Lib.hid hnk
  have HS6 := Lib.hid hS
  have HV6 := Lib.hid ((g6.block _ (lt_of_block HV5.out) (by simp)).trans HV5.out)
  have HG6 := Lib.hid (gr_trans HG5.out g6)
  have hz6 := g6.size
  have hz46 := HG6.out.size
  have hS26 : S2 < w6.heap.size := lt_of_block hS
  have hVS : V < S2 := by omega
  clear hnk hnS hw6 hS g6 hS2 q1 HV5 HG5 HE5 SP2
  go_wp2_with (fail)
  go_loopw [6, 60] (fun b i wr => ∃ k : Nat, k ≤ ns.length ∧ i = .int .i64 k ∧ b = .bool true ∧ (∃ v, wr.heap[V]? = some (.cells #[.int .i64 av, v] 70 (0, 0)) ∧ wr.ownsRow w6.heap.size 3 1 v k (ints (vs.take k))) ∧ wr.heap[S2]? = some (.cells nS 9 (0, 0)) ∧ w4.grownBy wr none ∧ w6.heap.size ≤ wr.heap.size) (fun _ i _ => ns.length - (intOf i).toNat)
  case atStart => exact ⟨0, Nat.zero_le _, rfl, rfl, ⟨_, HV6.out, by rw [List.take_zero]; exact World.ownsRow_nil _ _ _ _⟩, HS6.out, HG6.out, Nat.le_refl _⟩
  case round =>
    clear HV6 HS6 HG6
    obtain ⟨k, hk, rfl, rfl, ⟨v, hV, hO⟩, hS, hgr, hzw⟩ := hrel
    obtain ⟨wo, rfl⟩ : ∃ wo : World, wo = wr := ⟨_, rfl⟩
    have hvl := HD.out.len
    by_cases hlt : k < ns.length
    · have d0 : wo.cell? ⟨S2, k, none⟩ = some (.string ⟨ns[k].toArray⟩) := blkC hS k (HNK.out k hlt)
      have hv2 : k < vs.length := by omega
      have hat := HD.out.vals k hlt hv2
      have hnum := HD.out.nums _ (List.getElem_mem hlt)
      have TK : vs.take (k + 1) = vs.take k ++ [vs[k]] := by simp
      obtain ⟨Y, hY⟩ : ∃ Y, Y = vs[k] := ⟨_, rfl⟩
      rw [← hY] at hat TK
      have TK := Lib.hid TK
      obtain ⟨pB, hpB⟩ : ∃ pB : ByteArray, pB = ⟨ns[k].toArray⟩ := ⟨_, rfl⟩
      have NB := Lib.hid (number_any pB Y wo (by rw [hpB]; exact hnum) (by rw [hpB]; exact hat))
      rw [← hpB] at d0
      have HV := Lib.hid hV
      have HO := Lib.hid hO
      have HS := Lib.hid hS
      have HGR := Lib.hid hgr
      clear hY hpB hat hnum hV hO hS hgr
      go_wp2_with (fail)
      refine NB.out.mono ?_
      rintro e w7 ⟨rfl, g7⟩
      have hV7 := (g7.block _ (lt_of_block HV.out) (by simp)).trans HV.out
      have HO7 := Lib.hid (own_keep0 HO.out g7)
      have HS7 := Lib.hid ((g7.block _ (lt_of_block HS.out) (by simp)).trans HS.out)
      have HG7 := Lib.hid (gr_trans HGR.out g7)
      have hz7 := g7.size
      have v1 : w7.cell? ⟨V, 1, none⟩ = some v := blkC hV7 1 rfl
      have HV7 := Lib.hid hV7
      clear g7 hV7 NB d0 HV HO HS HGR
      go_wp2_with (at_builtin; go_must (refine wpList_app1F eInt rfl _ _ rfl w6.heap.size v k (ints (vs.take k)) rfl w7 #[.int .i64 Y] rfl HO7.out _ rfl rfl rfl rfl (by omega) (by omega) ?_); go_must (intro v9 w9 o9 g9 hl9 hk9; have hV9 := held_own HO7.out HV7.out g9 (by decide); have hS9 := held_own HO7.out HS7.out g9 (by decide); obtain ⟨gb, gc, rfl, hgb, -, -, -⟩ := own_some o9 (by omega); have c9 : w9.cell? ⟨V, 1, none⟩ = some v := blkC hV9 1 rfl; have t9 := blkF hV9 1; have HV9 := Lib.hid hV9; have HS9 := Lib.hid hS9; have HO9 := Lib.hid o9; have HG9 := Lib.hid (gr_grown HG7.out g9 (fun q e => by have := hl9 q e; omega)); have hz9 := g9.size; clear hV9 hS9 o9 g9 hl9 hk9))
      have gx := gr_set (q := ⟨V, 1, none⟩) (gr_refl w9 (some V)) rfl (.slice (some ⟨gb, 0, none⟩) (k + 1) gc)
      have kV := Lib.hid (heap_setCell_same w9 V 1 _ _ (.slice (some ⟨gb, 0, none⟩) (k + 1) gc) HV9.out)
      have kO : Hid ((w9.setCell ⟨V, 1, none⟩ (.slice (some ⟨gb, 0, none⟩) (k + 1) gc)).ownsRow w6.heap.size 3 1 (.slice (some ⟨gb, 0, none⟩) (k + 1) gc) (k + 1) (ints (vs.take (k + 1)))) := by
        show World.ownsRow _ _ _ _ _ _ _
        rw [TK.out]
        have e1 : ints (vs.take k ++ [Y]) = ints (vs.take k) ++ [.int .i64 Y] := by simp [ints]
        rw [e1]
        exact HO9.out.kept gx (Or.inr (own_ne HO9.out HV9.out (by decide)))
      have kS := Lib.hid ((gx.block S2 (lt_of_block HS9.out) (fun e => by have := Option.some.inj e; omega)).trans HS9.out)
      have kG := Lib.hid (gr_grown HG9.out gx (fun q e => by cases e; have := HVE.out; omega))
      have kz := gx.size
      clear gx v1 c9 t9
      go_wp2_with (fail)
      go_roundw
      case rel => exact ⟨k + 1, by omega, by go_num, rfl, ⟨_, kV.out, kO.out⟩, kS.out, kG.out, by omega⟩
      case measure => simp [intOf]; omega
    · obtain rfl : k = ns.length := by omega
      have hO2 : wo.ownsRow w6.heap.size 3 1 v ns.length (ints vs) := by
        have h := hO
        rw [List.take_of_length_le (by omega)] at h
        exact h
      obtain ⟨va, vc, rfl, -, -, hvC, -⟩ := own_shape hO2
      have hNo := (hgr.block _ (lt_of_block HN4.out) (by simp)).trans HN4.out
      have hRo := (hgr.block _ (lt_of_block HR4.out) (by simp)).trans HR4.out
      have HGo := Lib.hid (gr_trans HG4.out hgr)
      have q0 : wo.cell? ⟨Q, 0, none⟩ = some (.string AB) := blkC hNo 0 rfl
      have q1 : wo.cell? ⟨Q, 1, none⟩ = some (.string J) := blkC hNo 1 rfl
      have q2 : wo.cell? ⟨Q, 2, none⟩ = some (.string HS) := blkC hNo 2 rfl
      have HO2 := Lib.hid hO2
      have HVC := Lib.hid hvC
      have HVo := Lib.hid hV
      have HRo := Lib.hid hRo
      have hBB : (AB ++ { data := #[32] } ++ J : ByteArray).data.toList = A ++ 32 :: joinC ns := by
        rw [HAB.out, HJ.out]
        show ((⟨A.toArray⟩ : ByteArray) ++ ⟨[32].toArray⟩ ++ ⟨(joinC ns).toArray⟩).data.toList = _
        rw [app_bytes, app_bytes]
        simp
      have hBs : (AB ++ { data := #[32] } ++ J : ByteArray).size ≤ 1000000 := by
        rw [ByteArray.size_append, ByteArray.size_append]
        show AB.size + 1 + J.size ≤ _
        omega
      have FO := fun W => folded_any (AB ++ { data := #[32] } ++ J) W hBs
      rw [hBB] at FO
      obtain ⟨FB, hFB⟩ : ∃ FB : ByteArray, FB = ⟨(hexL (foldX (A ++ 32 :: joinC ns))).toArray⟩ := ⟨_, rfl⟩
      rw [← hFB] at FO
      have FO := Lib.hid FO
      have HFB := Lib.hid hFB
      clear hO2 hvC hO hV hS hgr hNo hRo hBB hBs hFB
      go_upto_region 17 with (fail)
      have gq0 := grew_cell q0
      have gq1 := grew_cell q1
      have gq2 := grew_cell q2
      by_cases hm : hexL (foldX (A ++ 32 :: joinC ns)) = hexL x
      · have hcmp : (FB.toList == XB.toList) = true := by rw [HFB.out, HXB.out, hm]; exact beq_self_eq_true _
        have hcmp2 : (FB.toList != XB.toList) = false := by rw [bne, hcmp]; rfl
        have HM := Lib.hid hm
        have HLK := Lib.hid (HCS.out.resolve_left (fun h => h hm))
        clear hm
        refine wp_region_grew (by kernel_rfl) (by kernel_rfl) ?_
        repeat (go_big_quiet_step (first | (go_at_call 73; exact Calls.grew_of (fun W g => FO.out W))))
        refine wpQuiet_nil ?_
        rintro wz ⟨nn, rfl⟩
        have gq := nn.gr
        obtain ⟨wn, hwn⟩ : ∃ wn, wn = nn.w := ⟨_, rfl⟩
        rw [← hwn] at gq
        rw [← hwn]
        have hVn := (gq.block _ (lt_of_block HVo.out) (by simp)).trans HVo.out
        have HGn := Lib.hid (gr_trans HGo.out gq)
        have EC := encode_ok ⟨av, vs⟩ HLK.out va vc wn (HE.out.keep HGn.out) (HVC.out.keep0 gq)
        simp only at EC
        rw [hvl] at EC
        have EC := Lib.hid EC
        have v0 : wn.cell? ⟨V, 0, none⟩ = some (.int .i64 av) := blkC hVn 0 rfl
        have v1 : wn.cell? ⟨V, 1, none⟩ = some (.slice va ns.length vc) := blkC hVn 1 rfl
        have HVn := Lib.hid hVn
        have HRn := Lib.hid ((gq.block _ (lt_of_block HRo.out) (by simp)).trans HRo.out)
        have HOn := Lib.hid (own_keep0 HO2.out gq)
        clear hwn hVn gq gq0 gq1 gq2 q0 q1 q2
        go_wp2_with (fail)
        refine EC.out.mono ?_
        rintro e w20 ⟨rfl, g20⟩
        have hV20 := (g20.block _ (lt_of_block HVn.out) (by simp)).trans HVn.out
        have hR20 := (g20.block _ (lt_of_block HRn.out) (by simp)).trans HRn.out
        have v0 : w20.cell? ⟨V, 0, none⟩ = some (.int .i64 av) := blkC hV20 0 rfl
        have v1 : w20.cell? ⟨V, 1, none⟩ = some (.slice va ns.length vc) := blkC hV20 1 rfl
        have r0 : w20.cell? ⟨R, 0, none⟩ = some (.int .i64 0) := blkC hR20 0 rfl
        have r1 : w20.cell? ⟨R, 1, none⟩ = some (.slice none 0 0) := blkC hR20 1 rfl
        have t0 := blkF hR20 0
        have t1 := blkF hR20 1
        have gsr := gr_set (q := ⟨R, 1, none⟩) (gr_set (q := ⟨R, 0, none⟩) (gr_refl w20 (some R)) rfl (.int .i64 av)) rfl (.slice va ns.length vc)
        have HO20 := Lib.hid ((own_keep0 HOn.out g20).kept gsr (Or.inr (own_ne (own_keep0 HOn.out g20) hR20 (by decide))))
        have HGF := Lib.hid (gr_grown (gr_trans HGn.out g20) gsr (fun q e => by cases e; have := HRE.out; omega))
        have HRF := Lib.hid (set2D_heap hR20 (.int .i64 av) (.slice va ns.length vc))
        clear g20 hV20 hR20 gsr EC
        go_wp2_with (fail)
        refine bodyPost_ret (results_cell_slot (p := 2) (q := 3) (by kernel_rfl) _ _ R _ #[.int .i64 av, .slice va ns.length vc] _ (.struct dt) _ rfl rfl HRF.out hd1 rfl (by kernel_rfl)) rfl ⟨HGF.out, fun h => absurd HM.out h, fun _ => ⟨_, rfl, by rw [hvl]; exact own_base HO20.out (by omega)⟩⟩
      · have hne : (FB.toList == XB.toList) = false := by
          rw [beq_eq_false_iff_ne]
          intro e
          rw [HFB.out, HXB.out, ByteArray.toList_eq, ByteArray.toList_eq] at e
          exact hm (by simpa using e)
        have hcmp2 : (FB.toList != XB.toList) = true := by rw [bne, hne]; rfl
        have HM := Lib.hid hm
        clear hm
        refine wp_region_grew (by kernel_rfl) (by kernel_rfl) ?_
        repeat (go_big_quiet_step (first | (go_at_call 73; exact Calls.grew_of (fun W g => FO.out W))))
        refine wpQuiet_nil ?_
        rintro wz ⟨nn, rfl⟩
        have gq := nn.gr
        obtain ⟨wn, hwn⟩ : ∃ wn, wn = nn.w := ⟨_, rfl⟩
        rw [← hwn] at gq
        rw [← hwn]
        have hRn := (gq.block _ (lt_of_block HRo.out) (by simp)).trans HRo.out
        have r0 : wn.cell? ⟨R, 0, none⟩ = some (.int .i64 0) := blkC hRn 0 rfl
        have r1 : wn.cell? ⟨R, 1, none⟩ = some (.slice none 0 0) := blkC hRn 1 rfl
        have t0 := blkF hRn 0
        have t1 := blkF hRn 1
        have gsr := gr_set (q := ⟨R, 1, none⟩) (gr_set (q := ⟨R, 0, none⟩) (gr_refl wn (some R)) rfl (.int .i64 0)) rfl (.slice none 0 0)
        have HGF := Lib.hid (gr_grown (gr_trans HGo.out gq) gsr (fun q e => by cases e; have := HRE.out; omega))
        have HRF := Lib.hid (set2D_heap hRn (.int .i64 0) (.slice none 0 0))
        clear hwn gq gq0 gq1 gq2 q0 q1 q2 hRn gsr
        go_wp2_with (fail)
        refine bodyPost_ret (results_cell_slot (p := 2) (q := 3) (by kernel_rfl) _ _ R _ #[.int .i64 0, .slice none 0 0] _ (.struct dt) _ rfl rfl HRF.out hd1 rfl (by kernel_rfl)) rfl ⟨HGF.out, fun _ => rfl, fun h => absurd h HM.out⟩
end Go.Proofs.YtjhdngfliakidaaDoor
