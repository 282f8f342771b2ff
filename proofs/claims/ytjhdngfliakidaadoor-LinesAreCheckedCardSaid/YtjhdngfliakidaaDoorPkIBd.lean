/- The walk of LinesAreChecked. -/
import Derived.Test.YtjhdngfliakidaaDoorPkIAp
import Derived.Test.YtjhdngfliakidaaDoorPkIAu
import Derived.Test.YtjhdngfliakidaaDoorPkIAt
import Derived.Test.YtjhdngfliakidaaDoorPkIBc
namespace Go.Proofs.YtjhdngfliakidaaDoor
open Go.RowKit
attribute [local go_sem ↓] Go.wp_at_zero Go.wp_at_succ

theorem rdsC_one {w : World} {g t : Nat} (x : Rd) (a : Option Addr) (c : Nat) (h : w.heap[g]? = some (.cells #[.int .i64 x.at_, .slice a x.vs.length c] t (0, 0))) (hc : CellsAt w a (ints x.vs)) (hn : a = none → x.vs.length = 0 ∧ c = 0) : RdsC w (some ⟨g, 0, none⟩) [⟨x, a, c⟩] := by
  refine ⟨fun j u hu => ⟨g, 0, rfl, ?_⟩, fun q hq => ?_, fun q hq => ?_⟩
  · rw [Nat.zero_add]
    have e : cellsG [⟨x, a, c⟩] = [.int .i64 x.at_, .slice a x.vs.length c] := rfl
    rw [e] at hu
    refine blkC h j ?_
    rw [← hu]
    simp
  · have : q = ⟨x, a, c⟩ := by simpa using hq
    rw [this]; exact hc
  · have : q = ⟨x, a, c⟩ := by simpa using hq
    rw [this]; exact hn
set_option maxRecDepth 100000 in
set_option maxHeartbeats 4000000 in
theorem linesChecked_any (l : List Int) (a : Option Addr) (cap : Nat) (w : World) (E : EnvP w) (hc : CellsAt w a (ints l)) (hl : l.length ≤ 9223372036854775807) :
    Calls Tryd.prog 5 #[.slice a l.length cap] w fun e w' => e = .returned (.bool true) ∧ w.grownBy w' none := by
  have hs0 := StreamAt.made cap hc hl
  have hg0 : w.grownBy (w.alloc (.cells #[.slice a l.length cap, .int .i64 0] 25)) none := gr_alloc (gr_refl _ _) _
  obtain ⟨w0, hw0⟩ : ∃ w0, w0 = w.alloc (.cells #[.slice a l.length cap, .int .i64 0] 25) := ⟨_, rfl⟩
  have hz0 : w0.heap.size = w.heap.size + 1 := by rw [hw0]; simp
  rw [← hw0] at hs0 hg0
  have HW0 := Lib.hid hw0
  have HG0 := Lib.hid hg0
  have HE := Lib.hid E
  have RM := Lib.hid (reading_any l 0 ⟨3, 1000, 5⟩ w.heap.size w0 hs0 (by omega) (by decide) (by decide))
  clear hw0 hc hg0 hs0 E
  go_enter Tryd.func5, Tryd.ntmps5
  go_wp2_with (fail)
  rw [← HW0.out]
  refine RM.out.mono ?_
  rintro e w1 ⟨ra, rc, rfl, o1, s1, g1⟩
  have hvl := rdV2_len l 0 ⟨3, 1000, 5⟩
  have hvl2 : (rdOne l 0 ⟨3, 1000, 5⟩).vs.length ≤ 6 := hvl
  obtain ⟨x, hx⟩ : ∃ x, x = rdOne l 0 ⟨3, 1000, 5⟩ := ⟨_, rfl⟩
  rw [← hx] at o1 hvl2
  rw [← hx]
  have hk3 := (rdK3_le l 0 ⟨3, 1000, 5⟩).2
  obtain ⟨q, hq⟩ : ∃ q, q = rdK3 l 0 ⟨3, 1000, 5⟩ := ⟨_, rfl⟩
  rw [← hq] at s1 hk3
  have hB := heap_alloc_new w1 (.cells #[.int .i64 x.at_, .slice ra x.vs.length rc] 70)
  have ga := gr_alloc (gr_refl w1 none) (.cells #[.int .i64 x.at_, .slice ra x.vs.length rc] 70)
  obtain ⟨w2, hw2⟩ : ∃ w2, w2 = w1.alloc (.cells #[.int .i64 x.at_, .slice ra x.vs.length rc] 70) := ⟨_, rfl⟩
  rw [← hw2] at hB ga
  obtain ⟨X, hX⟩ : ∃ X, X = w1.heap.size := ⟨_, rfl⟩
  rw [← hX] at hB
  have hG2 : w.grownBy w2 none := gr_trans (gr_grown HG0.out g1 (fun q e => by cases e; exact Nat.le_refl _)) ga
  have hC2 : CellsAt w2 ra (ints x.vs) := by
    obtain ⟨_, _, e9, _, _, hc9, _⟩ := own_shape o1
    cases e9
    exact hc9.keep0 ga
  have hN2 : ra = none → x.vs.length = 0 ∧ rc = 0 := own_nil o1
  have LF := Lib.hid (lineFault_any x ra rc w2 hC2 (by omega))
  have HC2 := Lib.hid hC2
  have HN2 := Lib.hid hN2
  have HG2 := Lib.hid hG2
  have HB2 := Lib.hid hB
  have HS2 := Lib.hid (s1.keep0 ga)
  have HW2 := Lib.hid hw2
  have HXE := Lib.hid hX
  have hXw : w.heap.size < X := by have := s1.lt; omega
  have x0 : w2.cell? ⟨X, 0, none⟩ = some (.int .i64 x.at_) := blkC hB 0 rfl
  have x1 : w2.cell? ⟨X, 1, none⟩ = some (.slice ra x.vs.length rc) := blkC hB 1 rfl
  clear hx hq hB ga hw2 hX hG2 hC2 hN2 o1 s1 g1 hvl RM HG0
  go_upto_region 3 with (fail)
  rw [← HW2.out, ← HXE.out]
  go_wp2_with (fail)
  refine LF.out.mono ?_
  rintro e w3 ⟨r, rfl, hr, g3⟩
  have hB3 := (g3.block _ (lt_of_block HB2.out) (by simp)).trans HB2.out
  have HG3 := Lib.hid (gr_trans HG2.out g3)
  by_cases h0 : r = 0
  · subst h0
    have HOK := Lib.hid (hr rfl)
    have x0 : w3.cell? ⟨X, 0, none⟩ = some (.int .i64 x.at_) := blkC hB3 0 rfl
    have x1 : w3.cell? ⟨X, 1, none⟩ = some (.slice ra x.vs.length rc) := blkC hB3 1 rfl
    have EN := Lib.hid (encode_ok x HOK.out ra rc w3 (HE.out.keep HG3.out) (HC2.out.keep0 g3))
    have HB3 := Lib.hid hB3
    have HC3 := Lib.hid (HC2.out.keep0 g3)
    have HS3 := Lib.hid (HS2.out.keep0 g3)
    clear hr g3 hB3 HB2 HC2 HS2 HG2 LF
    go_wp2_with (fail)
    refine EN.out.mono ?_
    rintro e w4 ⟨rfl, g4⟩
    have HB4 := Lib.hid ((g4.block _ (lt_of_block HB3.out) (by simp)).trans HB3.out)
    have HC4 := Lib.hid (HC3.out.keep0 g4)
    have HS4 := Lib.hid (HS3.out.keep0 g4)
    have HG4 := Lib.hid (gr_trans HG3.out g4)
    have DE := Lib.hid (decode_any (foldX (bodyOf x)) _ _ _ _ (dec_of_line x HOK.out) (.inr HOK.out) w4 (HE.out.keep HG4.out))
    have hTe : (⟨((Lib.itoa x.at_ ++ 32 :: joinC (x.vs.map Lib.itoa)) ++ 32 :: 42 :: hexL (foldX (bodyOf x))).toArray⟩ : ByteArray) = lineB x := rfl
    rw [hTe] at DE
    clear g4 hTe x0 x1 HB3 HC3 HS3 HG3 EN
    go_wp2_with (fail)
    refine DE.out.mono ?_
    rintro e w5 ⟨g5, -, hd⟩
    obtain ⟨v2, rfl, o5⟩ := hd rfl
    obtain ⟨da, dc, rfl, -, -, hdC, -⟩ := own_shape o5
    have hdN := own_nil o5
    have hY := heap_alloc_new w5 (.cells #[.int .i64 x.at_, .slice da x.vs.length dc] 70)
    have ga := gr_alloc (gr_refl w5 none) (.cells #[.int .i64 x.at_, .slice da x.vs.length dc] 70)
    obtain ⟨w6, hw6⟩ : ∃ w6, w6 = w5.alloc (.cells #[.int .i64 x.at_, .slice da x.vs.length dc] 70) := ⟨_, rfl⟩
    rw [← hw6] at hY ga
    obtain ⟨Y, hYe⟩ : ∃ Y, Y = w5.heap.size := ⟨_, rfl⟩
    rw [← hYe] at hY
    have g46 := gr_trans g5 ga
    have hB6 := (g46.block _ (lt_of_block HB4.out) (by simp)).trans HB4.out
    have HC6 := Lib.hid (HC4.out.keep0 g46)
    have HD6 := Lib.hid (hdC.keep0 ga)
    have HS6 := Lib.hid (HS4.out.keep0 g46)
    have HG6 := Lib.hid (gr_trans HG4.out g46)
    have HDN := Lib.hid hdN
    have y0 : w6.cell? ⟨Y, 0, none⟩ = some (.int .i64 x.at_) := blkC hY 0 rfl
    have y1 : w6.cell? ⟨Y, 1, none⟩ = some (.slice da x.vs.length dc) := blkC hY 1 rfl
    have x0 : w6.cell? ⟨X, 0, none⟩ = some (.int .i64 x.at_) := blkC hB6 0 rfl
    have x1 : w6.cell? ⟨X, 1, none⟩ = some (.slice ra x.vs.length rc) := blkC hB6 1 rfl
    have x0a := (gr_cell (gr_alloc (gr_refl w6 none) (.cells #[.int .i64 x.at_, .slice da x.vs.length dc] 70)) (lt_of_cell x0)).trans x0
    have x1a := (gr_cell (gr_alloc (gr_refl w6 none) (.cells #[.int .i64 x.at_, .slice da x.vs.length dc] 70)) (lt_of_cell x1)).trans x1
    have HW6 := Lib.hid hw6
    have HYE := Lib.hid hYe
    have SR : Hid (Calls Tryd.prog 35 #[.slice (some ⟨w6.heap.size, 0, none⟩) 1 1, .slice (some ⟨w6.heap.size + 1, 0, none⟩) 1 1] ((w6.alloc (.cells #[.int .i64 x.at_, .slice da x.vs.length dc] 70)).alloc (.cells #[.int .i64 x.at_, .slice ra x.vs.length rc] 70)) fun e w' => e = .returned (.bool true) ∧ ((w6.alloc (.cells #[.int .i64 x.at_, .slice da x.vs.length dc] 70)).alloc (.cells #[.int .i64 x.at_, .slice ra x.vs.length rc] 70)).grownBy w' none) := by
      obtain ⟨hA, hB⟩ := heap_2 w6 (.cells #[.int .i64 x.at_, .slice da x.vs.length dc] 70) (.cells #[.int .i64 x.at_, .slice ra x.vs.length rc] 70)
      have gb := gr_alloc (gr_alloc (gr_refl w6 none) (.cells #[.int .i64 x.at_, .slice da x.vs.length dc] 70)) (.cells #[.int .i64 x.at_, .slice ra x.vs.length rc] 70)
      exact sameReadings_any [⟨x, da, dc⟩] [⟨x, ra, rc⟩] rfl _ _ 1 1 _ (rdsC_one x da dc hA (HD6.out.keep0 gb) HDN.out) (rdsC_one x ra rc hB (HC6.out.keep0 gb) HN2.out) (by simp) (fun g hg => by
        have : g = ⟨x, da, dc⟩ := by simpa using hg
        rw [this]
        show x.vs.length ≤ _
        omega)
    clear hY ga hw6 hYe g46 hB6 hdC hdN o5 hd g5 DE HB4 HC4 HS4 HG4
    go_upto_region 7 with (fail)
    rw [← HW6.out, ← HYE.out]
    go_wp2_with (fail)
    refine SR.out.mono ?_
    rintro e w9 ⟨rfl, g9⟩
    have g69 := gr_trans (gr_alloc (gr_alloc (gr_refl w6 none) (.cells #[.int .i64 x.at_, .slice da x.vs.length dc] 70)) (.cells #[.int .i64 x.at_, .slice ra x.vs.length rc] 70)) g9
    have HS9 := Lib.hid (HS6.out.keep0 g69)
    have HG9 := Lib.hid (gr_trans HG6.out g69)
    clear g9 g69 x0 x1 x0a x1a y0 y1 SR
    have hcv := Lib.run_convert_string_bytes (P := Tryd.prog) w9 9 81 5 (lineB x) Tryd.underlying9 Tryd.underlying81 Tryd.underlying5
    have hTs := lineB_size x
    obtain ⟨hb1, hb2⟩ := bodyOf_len x HOK.out
    go_wp2_with (fail)
    have gB : w9.grownBy (Lib.bytesWorld w9 5 (lineB x)) none := gr_of_below (Lib.bytesWorld_below _ _ _)
    have BC := Lib.hid (fun k (hk : k < (bodyOf x).length) => bw_cell w9 (lineB x) k (bodyOf x)[k] (line_at x k hk))
    have BC2 := Lib.hid (fun k u (hu : (lineL x)[k]? = some u) => bw_cell w9 (lineB x) k u hu)
    have BF := Lib.hid (fun k (hk : k < (bodyOf x).length) => bw_frozen w9 (lineB x) k (by omega))
    have BZ : (Lib.bytesWorld w9 5 (lineB x)).heap.size = w9.heap.size + 1 := Lib.bytesWorld_size _ _ _
    obtain ⟨wB, hwB⟩ : ∃ wB, wB = Lib.bytesWorld w9 5 (lineB x) := ⟨_, rfl⟩
    rw [← hwB] at gB BC BC2 BF BZ
    rw [← hwB]
    obtain ⟨Bk, hBk⟩ : ∃ Bk, Bk = w9.heap.size := ⟨_, rfl⟩
    rw [← hBk] at BC BC2 BF BZ
    rw [← hBk]
    obtain ⟨n, hn⟩ : ∃ n, n = (bodyOf x).length := ⟨_, rfl⟩
    rw [← hn] at hb1 hb2
    rw [← hn]
    obtain ⟨gc, hgc⟩ : ∃ gc, gc = grownCap w9 (n + 4) 0 5 := ⟨_, rfl⟩
    rw [← hgc]
    have hwBk : w.heap.size < Bk := by have := HS9.out.lt; omega
    have NX := next_any l q (n : Int) w.heap.size wB (HS9.out.keep0 gB) (by omega) (by omega)
    have hnr := nxt_range l q (n : Int) (by omega)
    obtain ⟨k, hk⟩ : ∃ k : Nat, (k : Int) = nxt l q (n : Int) := ⟨(nxt l q (n : Int)).toNat, by omega⟩
    rw [← hk] at NX hnr
    have hkn : k < n := by omega
    have NX := Lib.hid NX
    have HGB := Lib.hid (gr_trans HG9.out gB)
    have HN := Lib.hid hn
    clear hcv hwB hBk hn hgc hk gB HS9 HG9 HS6 HG6 HC6 HD6 hTs
    refine NX.out.mono ?_
    rintro e w11 ⟨rfl, -, g11⟩
    have hkb : k < (bodyOf x).length := by have := HN.out; omega
    have hblk : w11.heap[Bk]? = wB.heap[Bk]? := g11.block Bk (by omega) (fun e => by have := Option.some.inj e; omega)
    have cB : ∀ j, w11.cell? ⟨Bk, j, none⟩ = wB.cell? ⟨Bk, j, none⟩ := fun j => World.cell?_of_block (w := wB) hblk
    have d0 : w11.cell? ⟨Bk, k, none⟩ = some (.int .u8 ((bodyOf x)[k].toNat : Int)) := (cB k).trans (BC.out k hkb)
    have f0 : w11.frozen? ⟨Bk, k, none⟩ = false := by
      have := BF.out k hkb
      simp only [World.frozen?, hblk] at this ⊢
      exact this
    have HCB := Lib.hid cB
    have HG11 := Lib.hid (gr_grown HGB.out g11 (fun q e => by cases e; exact Nat.le_refl _))
    have hz11 := g11.size
    obtain ⟨b, hb⟩ : ∃ b, b = (bodyOf x)[k] := ⟨_, rfl⟩
    rw [← hb] at d0
    have HBE := Lib.hid hb
    have hbl := b.toNat_lt
    clear hblk cB g11 hb NX
    by_cases h49 : b.toNat < 49
    · have c1 : decide ((b.toNat : Int) < 49) = true := by simp; omega
      clear f0 h49
      go_wp2_with (fail)
      refine (meters_any w11).mono ?_
      rintro e w12 ⟨rfl, g12⟩
      have HG12 := Lib.hid (gr_trans HG11.out g12)
      clear g12
      go_wp2_with (fail)
      go_ret
      exact ⟨rfl, HG12.out⟩
    · have c1 : decide ((b.toNat : Int) < 49) = false := by simp; omega
      by_cases h56 : 56 < b.toNat
      · have c2 : decide (56 < (b.toNat : Int)) = true := by simp; omega
        clear f0 h49 h56
        go_wp2_with (fail)
        refine (meters_any w11).mono ?_
        rintro e w12 ⟨rfl, g12⟩
        have HG12 := Lib.hid (gr_trans HG11.out g12)
        clear g12
        go_wp2_with (fail)
        go_ret
        exact ⟨rfl, HG12.out⟩
      · have c2 : decide (56 < (b.toNat : Int)) = false := by simp; omega
        have hwr : IntKind.u8.wrap ((b.toNat : Int) + 1) = (b.toNat : Int) + 1 := IntWalk.u8_in _ (by omega)
        obtain ⟨A, ns, av, vs, D, hne, hset⟩ := line_up x HOK.out k hkb (by rw [← HBE.out]; omega) (by rw [← HBE.out]; omega)
        rw [← HBE.out] at hset
        have e1 : ((b + 1).toNat : Int) = (b.toNat : Int) + 1 := by
          rw [UInt8.toNat_add]
          have : (1 : UInt8).toNat = 1 := rfl
          omega
        obtain ⟨w12, hw12⟩ : ∃ w12, w12 = w11.setCell ⟨Bk, k, none⟩ (.int .u8 ((b.toNat : Int) + 1)) := ⟨_, rfl⟩
        have g12 : w.grownBy w12 none := by rw [hw12]; exact gr_new HG11.out (by show _ ≤ Bk; omega) _
        have hl2 : ((lineL x).set k (b + 1)).length = n + 4 := by
          rw [List.length_set]
          have h := lineB_size x
          have h2 : (lineB x).size = (lineL x).length := by show (lineL x).toArray.size = _; simp
          have := HN.out
          omega
        have hcv2 := run_convert_bytes_back (P := Tryd.prog) w12 81 9 5 ⟨Bk, 0, none⟩ gc ((lineL x).set k (b + 1)) Tryd.underlying81 Tryd.underlying5 Tryd.underlying9 (fun j hj => by
          have ea : (⟨Bk, 0, none⟩ : Addr).add j = ⟨Bk, j, none⟩ := by unfold Addr.add; split <;> simp_all
          rw [ea, hw12]
          by_cases hjk : j = k
          · subst hjk
            rw [List.getElem_set_self, e1]
            exact World.cell?_setCell_same _ _ _ d0
          · rw [List.getElem_set_ne (fun e => hjk e.symm)]
            rw [World.cell?_setCell_other _ _ _ _ (fun e => hjk (by cases e; rfl))]
            rw [HCB.out j]
            rw [List.length_set] at hj
            exact BC2.out j _ (List.getElem?_eq_getElem hj))
        rw [hl2, hset] at hcv2
        have DE2 := Lib.hid (decode_any (foldX (bodyOf x)) A ns av vs D (.inl hne) w12 (HE.out.keep g12))
        obtain ⟨T2, hT2⟩ : ∃ T2 : ByteArray, T2 = ⟨((A ++ 32 :: joinC ns) ++ 32 :: 42 :: hexL (foldX (bodyOf x))).toArray⟩ := ⟨_, rfl⟩
        rw [← hT2] at hcv2 DE2
        have HNE := Lib.hid hne
        have HG12 := Lib.hid g12
        have HW12 := Lib.hid hw12
        clear h49 h56 hset e1 hw12 g12 hl2 hT2 hne D
        go_upto_region 14 with (fail)
        rw [← HW12.out]
        clear d0 f0 hwr c1 c2
        go_wp2_with (fail)
        refine DE2.out.mono ?_
        rintro e w13 ⟨g13, hd, -⟩
        obtain rfl := hd HNE.out
        have HG13 := Lib.hid (gr_trans HG12.out g13)
        clear g13 hd DE2 hcv2
        go_wp2_with (fail)
        refine (meters_any _).mono ?_
        rintro e w14 ⟨rfl, g14⟩
        have HG14 := Lib.hid (gr_trans (gr_trans HG13.out (gr_alloc (gr_refl w13 none) (.cells #[.int .i64 0, .slice none 0 0] 70))) g14)
        clear g14
        go_wp2_with (fail)
        go_ret
        exact ⟨rfl, HG14.out⟩
  · have hne : (r != 0) = true := by simpa using h0
    clear hr g3 hB3 x0 x1 LF
    go_wp2_with (fail)
    refine (meters_any w3).mono ?_
    rintro e w4 ⟨rfl, g4⟩
    have HG4 := Lib.hid (gr_trans HG3.out g4)
    clear g4
    go_wp2_with (fail)
    go_ret
    exact ⟨rfl, HG4.out⟩
end Go.Proofs.YtjhdngfliakidaaDoor
