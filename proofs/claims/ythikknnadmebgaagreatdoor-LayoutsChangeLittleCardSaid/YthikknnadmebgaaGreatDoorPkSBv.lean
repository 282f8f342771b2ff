/- The walk of LayoutsChangeLittle. -/
import Derived.Test.YthikknnadmebgaaGreatDoorPkSAt
import Derived.Test.YthikknnadmebgaaGreatDoorPkSAf
import Derived.Test.YthikknnadmebgaaGreatDoorPkSBj
import Derived.Test.YthikknnadmebgaaGreatDoorPkSBl
import Derived.Test.YthikknnadmebgaaGreatDoorPkSBr
import Derived.Test.YthikknnadmebgaaGreatDoorPkSBt
import Derived.Test.YthikknnadmebgaaGreatDoorPkSBu
import Derived.Test.YthikknnadmebgaaGreatDoorPkSBi
import Derived.Test.YthikknnadmebgaaGreatDoorPkSAj
import Derived.Test.YthikknnadmebgaaGreatDoorPkSAn
namespace Go.Proofs.YthikknnadmebgaaGreatDoor
open Go.RowKit
attribute [local go_sem ↓] Go.wp_at_zero Go.wp_at_succ

/-- The rack, the offers, the layout and the counts, in memory. -/
structure LcAt (W : World) (R C X : Nat) (oa : Option Addr) (vs : List OV) (O : List Offer) (xa : Option Addr) (x : List ByteArray) (ca : Option Addr) (cs : List Int) : Prop where
  rk : W.heap[X]? = some (.cells #[.int .i64 R, .int .i64 C] 54 (0, 0))
  off : OffsAt W oa vs O
  xs : CellsAt W xa (strs x)
  cs : CellsAt W ca (ints cs)
theorem LcAt.keep0 {W W' : World} {R C X : Nat} {oa : Option Addr} {vs : List OV} {O : List Offer} {xa : Option Addr} {x : List ByteArray} {ca : Option Addr} {cs : List Int} (h : LcAt W R C X oa vs O xa x ca cs) (g : W.grownBy W' none) : LcAt W' R C X oa vs O xa x ca cs :=
  ⟨(g.block X (lt_of_block h.rk) (by simp)).trans h.rk, h.off.keep0 g, h.xs.keep0 g, h.cs.keep0 g⟩
theorem LcAt.r0 {W : World} {R C X : Nat} {oa : Option Addr} {vs : List OV} {O : List Offer} {xa : Option Addr} {x : List ByteArray} {ca : Option Addr} {cs : List Int} (h : LcAt W R C X oa vs O xa x ca cs) : W.cell? ⟨X, 0, none⟩ = some (.int .i64 (R : Int)) := blkC h.rk 0 rfl
theorem LcAt.r1 {W : World} {R C X : Nat} {oa : Option Addr} {vs : List OV} {O : List Offer} {xa : Option Addr} {x : List ByteArray} {ca : Option Addr} {cs : List Int} (h : LcAt W R C X oa vs O xa x ca cs) : W.cell? ⟨X, 1, none⟩ = some (.int .i64 (C : Int)) := blkC h.rk 1 rfl
set_option maxRecDepth 100000 in
set_option maxHeartbeats 8000000 in
theorem layoutsChangeLittle_any (l : List Int) (a : Option Addr) (cap : Nat) (w : World) (E : EnvW w) (hc : CellsAt w a (ints l)) (hl : l.length ≤ 9223372036854775807) :
    Calls Tryz.prog 4 #[.slice a l.length cap] w fun e w' => e = .returned (.bool true) ∧ w.grownBy w' none := by
  have hg0 := gr_alloc (gr_refl w none) (.cells #[.slice a l.length cap, .int .i64 0] 25)
  have sa0 := StreamAt.made cap hc hl
  obtain ⟨w0, hw0⟩ : ∃ w0, w0 = w.alloc (.cells #[.slice a l.length cap, .int .i64 0] 25) := ⟨_, rfl⟩
  have hz0 : w0.heap.size = w.heap.size + 1 := by rw [hw0]; simp
  rw [← hw0] at sa0 hg0
  have hOK := offersM_ok l 2 3 (by omega)
  have hND := offKeys_nd l 2 3 (by omega)
  have hOl := (offersN_le l 2 3).1
  have hOl2 : (offersM l 2 3).length = offersN l 2 3 := offersTo_len _ _ _
  have hk1 : offersK l 2 3 ≤ 100 := by
    have := offersTo_k l (2 + 1) (offersN l 2 3)
    unfold offersK
    omega
  have OA := fun (p' : Nat) (w' : World) (h : StreamAt w' p' w.heap.size l 2) => offers_any l 2 3 p' w' h (by omega) (by omega)
  unfold OffersPost at OA
  obtain ⟨k1, hk1e⟩ : ∃ k1, k1 = offersK l 2 3 := ⟨_, rfl⟩
  obtain ⟨O, hO⟩ : ∃ O, O = offersM l 2 3 := ⟨_, rfl⟩
  rw [← hk1e, ← hO] at OA
  rw [← hk1e] at hk1
  rw [← hO] at hOK hOl2 hND
  have hO3 : O.length ≤ 3 := by omega
  have n1 := nxt_range l 0 2 (by omega)
  have n2 := nxt_range l 1 3 (by omega)
  obtain ⟨R, hR⟩ : ∃ R : Nat, 1 + nxt l 0 2 = (R : Int) := ⟨(1 + nxt l 0 2).toNat, by omega⟩
  obtain ⟨C, hC⟩ : ∃ C : Nat, 1 + nxt l 1 3 = (C : Int) := ⟨(1 + nxt l 1 3).toNat, by omega⟩
  have r1 : 1 ≤ R := by omega
  have r6 : R ≤ 6 := by omega
  have c1 : 1 ≤ C := by omega
  have c6 : C ≤ 6 := by omega
  have RA := Lib.hid (range_any l 0 1 2 w.heap.size w0 sa0 (by omega) (by omega) (by omega) (by omega))
  have RB := Lib.hid (fun (W : World) (h : StreamAt W w.heap.size w.heap.size l 1) => range_any l 1 1 3 w.heap.size W h (by omega) (by omega) (by omega) (by omega))
  rw [show ((2 : Int) - 1 + 1) = 2 by omega, hR] at RA
  rw [show ((3 : Int) - 1 + 1) = 3 by omega, hC] at RB
  obtain ⟨N, hN⟩ : ∃ N, N = R * C := ⟨_, rfl⟩
  have hRC : R * C ≤ 2 * 3 := Nat.mul_le_mul (by omega) (by omega)
  have hN6 : N ≤ 6 := by omega
  have hNc : (R : Int) * C = (N : Int) := by rw [hN]; exact (Int.natCast_mul R C).symm
  have hwp : IntKind.i64.wrap ((R : Int) * C) = (N : Int) := by rw [hNc]; exact IntWalk.i64_in _ (by omega)
  have HOA := Lib.hid OA
  have HOK := Lib.hid hOK
  have HND := Lib.hid hND
  have HN := Lib.hid hN
  have HE := Lib.hid E.shp
  clear OA hk1e hO hOK hOl hOl2 hc hl hR hC n1 n2 sa0 hND hN hNc hRC E
  go_enter Tryz.func4, Tryz.ntmps4
  go_wp2_with (fail)
  rw [← hw0]
  have HW0 := Lib.hid hw0; clear hw0
  obtain ⟨p, hp⟩ : ∃ p, p = w.heap.size := ⟨_, rfl⟩
  rw [← hp] at hz0 HOA RA RB
  rw [← hp]
  have HP := Lib.hid hp
  have HG0 := Lib.hid hg0
  clear hp hg0
  refine RA.out.mono ?_
  rintro e w1 ⟨rfl, sa1, g1⟩
  have z1 := g1.size
  have HG1 := Lib.hid (gr_grown HG0.out g1 (fun q e => by cases e; have := HP.out; omega))
  clear g1 RA
  go_wp2_with (fail)
  refine (RB.out w1 sa1).mono ?_
  rintro e w2 ⟨rfl, sa2, g2⟩
  have z2 := g2.size
  have HG2 := Lib.hid (gr_grown HG1.out g2 (fun q e => by cases e; have := HP.out; omega))
  clear g2 RB sa1
  go_wp2_with (fail)
  refine (HOA.out _ w2 sa2).mono ?_
  rintro e w3 ⟨v3, rfl, o3, sa3, g3⟩
  have z3 := g3.size
  have HG3 := Lib.hid (gr_grown HG2.out g3 (fun q e => by cases e; have := HP.out; omega))
  clear g3 HOA sa2
  obtain ⟨oa, oc, rfl, -, -, -, -⟩ := o3.shape
  have gX := gr_alloc (gr_refl w3 none) (.cells #[.int .i64 (R : Int), .int .i64 (C : Int)] 54)
  have hX := heap_alloc_new w3 (.cells #[.int .i64 (R : Int), .int .i64 (C : Int)] 54)
  obtain ⟨w4, hw4⟩ : ∃ w4, w4 = w3.alloc (.cells #[.int .i64 (R : Int), .int .i64 (C : Int)] 54) := ⟨_, rfl⟩
  rw [← hw4] at gX hX
  have o4 := o3.keep0 gX (OffR.keep0 gX)
  have sa4 := sa3.keep0 gX
  have z4 := gX.size
  have HG4 := Lib.hid (gr_trans HG3.out gX)
  have HW4 := Lib.hid hw4
  obtain ⟨X, hXe⟩ : ∃ X, X = w3.heap.size := ⟨_, rfl⟩
  rw [← hXe] at hX
  have hXl : X < w4.heap.size := lt_of_block hX
  have hpX : p < X := by omega
  have HXB := Lib.hid hX
  have HXE := Lib.hid hXe
  clear hw4 gX o3 sa3 hX hXe
  go_wp2_with (fail)
  rw [← HW4.out, ← HXE.out]
  refine (layout_any l k1 N O oa oc w2.heap.size p w4 sa4 (by omega) (by omega) o4 (by omega) (by omega)).mono ?_
  rintro e w5 ⟨v5, rfl, ox5, sa5, g5⟩
  have hk2 := layK_le l k1 N (keysOf O)
  have hxl5 := layM_len l k1 N (keysOf O)
  obtain ⟨k2, hk2e⟩ : ∃ k2, k2 = layK l k1 N (keysOf O) := ⟨_, rfl⟩
  obtain ⟨x, hx⟩ : ∃ x, x = layM l k1 N (keysOf O) := ⟨_, rfl⟩
  rw [← hk2e] at hk2 sa5
  rw [← hx] at ox5 hxl5
  have o5 := o4.keepS g5 (by omega) (OffR.keepS g5 (by omega))
  have z5 := g5.size
  have HG5 := Lib.hid (gr_grown HG4.out g5 (fun q e => by cases e; have := HP.out; omega))
  have HXB5 := Lib.hid ((g5.block X hXl (fun e => by simp at e; omega)).trans HXB.out)
  obtain ⟨xa, xc, rfl, -, -, -, -⟩ := own_shape ox5
  clear g5 hk2e hx sa4 o4
  have q0 : w5.cell? ⟨X, 0, none⟩ = some (.int .i64 (R : Int)) := blkC HXB5.out 0 rfl
  go_wp2_with (fail)
  clear q0
  refine (cnts_any l k2 O oa oc w2.heap.size p w5 sa5 (by omega) o5 (by omega) (by omega) (fun o ho => (HOK.out.prof o ho).2.1)).mono ?_
  rintro e w6 ⟨v6, cs, rfl, oc6, hcl, hcb, -, g6⟩
  have o6 := o5.keepS g6 (by omega) (OffR.keepS g6 (by omega))
  have ox6 := own_keepS ox5 g6 (by omega)
  have HG6 := Lib.hid (gr_grown HG5.out g6 (fun q e => by cases e; have := HP.out; omega))
  have hXl5 : X < w5.heap.size := lt_of_block HXB5.out
  have hXB6 := (g6.block X hXl5 (fun e => by simp at e; omega)).trans HXB5.out
  obtain ⟨ca, cc, rfl, -, -, cC, -⟩ := own_shape oc6
  have cN := own_nil oc6
  obtain ⟨_, _, vs, eo, cO, -, -⟩ := OffsAt.of o6
  cases eo
  obtain ⟨_, _, ex, -, -, cX, -⟩ := own_shape ox6
  cases ex
  have HL6 : Hid (LcAt w6 R C X oa vs O xa x ca cs) := ⟨hXB6, cO, cX, cC⟩
  have HCN := Lib.hid cN
  have HCB := Lib.hid hcb
  clear o5 o6 ox5 ox6 oc6 sa5 g6 hXl5 hXB6 cC cN cO cX hcb z1 z2 z3 z4 z5 hz0
  have q0 := HL6.out.r0
  have q1 := HL6.out.r1
  go_wp2_with (fail)
  clear q0 q1
  refine (refLayout_any R C O x r1 r6 c1 c6 HOK.out (by omega) oa xa vs oc xc w6 HL6.out.off HL6.out.xs).mono ?_
  rintro e w7 ⟨⟨r, rfl, hr⟩, g7⟩
  have HL7 := Lib.hid (HL6.out.keep0 g7)
  have HG7 := Lib.hid (gr_trans HG6.out g7)
  clear g7
  by_cases hr0 : r = 0
  · have HLO := Lib.hid (hr hr0)
    subst hr0
    clear hr
    go_wp2_with (fail)
    refine (refArrange_any O x cs oa xa ca vs oc xc cc w7 HL7.out.off (by omega) HL7.out.xs (by omega) HL7.out.cs (by omega) HCB.out).mono ?_
    rintro e w8 ⟨⟨r, rfl, hr⟩, g8⟩
    have HL8 := Lib.hid (HL7.out.keep0 g8)
    have HG8 := Lib.hid (gr_trans HG7.out g8)
    clear g8
    by_cases hr0 : r = 0
    · have hna := hr hr0
      have hxN : x.length = N := by rw [HLO.out.len, HN.out]
      have hcsl : cs.length = O.length := hna.co.len
      have HAO : Hid (ArrOk O x cs) := ⟨HOK.out, HND.out, hna.lf, hna.co, hna.tot, by rw [hxN, HN.out]; exact Nat.mul_le_mul r1 c1⟩
      have HXV := Lib.hid HAO.out.c.xin
      subst hr0
      rw [hcsl] at HCN
      rw [hcsl]
      have hx6 : x.length ≤ 6 := by omega
      have hx1 : 1 ≤ x.length := by rw [hxN, HN.out]; exact Nat.mul_le_mul r1 c1
      clear hr hna hxN
      go_wp2_with (fail)
      refine (arrange_any O x cs HAO.out oa xa ca vs oc xc cc w8 HL8.out.off HL8.out.xs HL8.out.cs HCN.out).mono ?_
      rintro e w9 ⟨v9, A, rfl, hai, oA, g9⟩
      obtain ⟨ga, ac, rfl, -, -, hac, -⟩ := own_some oA (by omega)
      obtain ⟨_, _, ea, -, -, cA, -⟩ := own_shape oA
      cases ea
      have hAl : A.length = x.length := hai.len
      have HAI := Lib.hid hai
      have HL9 := Lib.hid (HL8.out.keep0 g9)
      have HA9 := Lib.hid cA
      have HG9 := Lib.hid (gr_trans HG8.out g9)
      have HEA : Hid (EvenB A) := fun y hy => (inV_slot HOK.out (hai.inV y hy)).2
      have HSA : Hid (∀ y ∈ A, SlotOk y) := fun y hy => (inV_slot HOK.out (hai.inV y hy)).1
      have HEX : Hid (EvenB x) := fun y hy => (inV_slot HOK.out (HXV.out y hy)).2
      clear oA cA g9 hai
      go_wp2_with (fail)
      refine (changed_any x A hAl (by omega) xa (some ⟨ga, 0, none⟩) xc ac w9 HL9.out.xs HA9.out).mono ?_
      rintro e w10 ⟨v10, rfl, oD, g10⟩
      obtain ⟨da, dc, rfl, -, -, -, -⟩ := own_shape oD
      have HDL := Lib.hid (chgTo_len x A hAl)
      have HL10 := Lib.hid (HL9.out.keep0 g10)
      have HA10 := Lib.hid (HA9.out.keep0 g10)
      have HG10 := Lib.hid (gr_trans HG9.out g10)
      clear oD g10
      go_wp2_with (fail)
      have CA := counts_any O A oa (some ⟨ga, 0, none⟩) vs oc ac w10 HL10.out.off HOK.out HA10.out (by omega)
      unfold CountsPost at CA
      rw [inV_list HAI.out.inV (by omega), cntTo_same HND.out HAI.out.inV hcsl HAI.out.cnt, hAl] at CA
      refine CA.mono ?_
      rintro e w11 ⟨v11, n11, L11, rfl, oN, hN11, g11⟩
      obtain ⟨rfl, hL11⟩ := hN11 rfl
      rw [hL11] at oN
      obtain ⟨na, nc, rfl, -, -, cN, -⟩ := own_shape oN
      have HL11 := Lib.hid (HL10.out.keep0 g11)
      have HA11 := Lib.hid (HA10.out.keep0 g11)
      have HG11 := Lib.hid (gr_trans HG10.out g11)
      have HN11 := Lib.hid cN
      clear CA oN cN g11 hN11 hL11
      go_wp2_with (fail)
      refine (tasks_any x A hAl (by omega) HEX.out HEA.out xa (some ⟨ga, 0, none⟩) xc ac w11 HL11.out.xs HA11.out).mono ?_
      rintro e w12 ⟨v12, rfl, oT, g12⟩
      obtain ⟨ta, tc, rfl, -, -, cT, -⟩ := own_shape oT
      have HL12 := Lib.hid (HL11.out.keep0 g12)
      have HA12 := Lib.hid (HA11.out.keep0 g12)
      have HN12 := Lib.hid (HN11.out.keep0 g12)
      have HG12 := Lib.hid (gr_trans HG11.out g12)
      have HT12 := Lib.hid cT
      clear oT cT g12
      go_wp2_with (fail)
      refine (do_any x A hAl (by omega) (by omega) HEA.out xa ta xc tc w12 HL12.out.xs HT12.out).mono ?_
      rintro e w13 ⟨v13, rfl, oY, g13⟩
      obtain ⟨ya, yc, rfl, -, -, cY, -⟩ := own_shape oY
      have HL13 := Lib.hid (HL12.out.keep0 g13)
      have HA13 := Lib.hid (HA12.out.keep0 g13)
      have HN13 := Lib.hid (HN12.out.keep0 g13)
      have HG13 := Lib.hid (gr_trans HG12.out g13)
      have HY13 := Lib.hid cY
      clear oY cY g13
      have EQI := Lib.hid (fun (b : Option Addr) (d : Nat) (W : World) (hb : CellsAt W b (ints cs)) (hc : CellsAt W ca (ints cs)) => equal_int cs b ca d cc W hb hc (by omega))
      rw [hcsl] at EQI
      have EQS := Lib.hid (fun (b : Option Addr) (d : Nat) (W : World) (hb : CellsAt W b (strs A)) (hc : CellsAt W (some ⟨ga, 0, none⟩) (strs A)) => equal_str A b (some ⟨ga, 0, none⟩) d ac W hb hc (by omega))
      rw [hAl] at EQS
      go_wp2_with (fail)
      refine (EQI.out na nc w13 HN13.out HL13.out.cs).mono ?_
      rintro e w14 ⟨rfl, g14⟩
      have HL14 := Lib.hid (HL13.out.keep0 g14)
      have HA14 := Lib.hid (HA13.out.keep0 g14)
      have HY14 := Lib.hid (HY13.out.keep0 g14)
      have HG14 := Lib.hid (gr_trans HG13.out g14)
      clear g14
      go_wp2_with (fail)
      refine (EQS.out ya yc w14 HY14.out HA14.out).mono ?_
      rintro e w15 ⟨rfl, g15⟩
      have HL15 := Lib.hid (HL14.out.keep0 g15)
      have HA15 := Lib.hid (HA14.out.keep0 g15)
      have HG15 := Lib.hid (gr_trans HG14.out g15)
      have q0 := HL15.out.r0
      have q1 := HL15.out.r1
      clear g15
      go_wp2_with (fail)
      clear q0 q1
      refine (place_any R C O x cs HLO.out HAO.out (by omega) oa xa ca vs oc xc cc w15 HL15.out.off HL15.out.xs HL15.out.cs HCN.out).mono ?_
      rintro e w16 ⟨g16, rfl | ⟨v16, B, rfl, oB, hpi⟩⟩
      · have HG16 := Lib.hid (gr_trans HG15.out g16)
        clear g16
        go_wp2_with (fail)
        refine (shelves_any w16).mono ?_
        rintro e w17 ⟨rfl, g17⟩
        have HG17 := Lib.hid (gr_trans HG16.out g17)
        clear g17
        go_wp2_with (fail)
        go_ret
        exact ⟨rfl, HG17.out⟩
      · obtain ⟨ba, bc, rfl, -, -, cB, -⟩ := own_shape oB
        have hBl : B.length = x.length := hpi.len
        have hle := placed_more HND.out HXV.out HAI.out hpi
        have HPI := Lib.hid hpi
        have HL16 := Lib.hid (HL15.out.keep0 g16)
        have HA16 := Lib.hid (HA15.out.keep0 g16)
        have HG16 := Lib.hid (gr_trans HG15.out g16)
        have HB16 := Lib.hid cB
        have HLB : Hid (LayOk R C O B) := ⟨HOK.out, r1, by omega, c1, by omega, by rw [hBl]; exact HLO.out.len, List.any_eq_false.2 (fun y hy => by rw [inV_strange (hpi.inV y hy)]; simp)⟩
        have CL := Lib.hid (fun (W : World) (h1 : OffsAt W oa vs O) (h2 : CellsAt W ba (strs B)) => clashes_any R C O B HLB.out HPI.out.nocl (fun o ho => by have := HOK.out.sub o ho; exact ⟨by have := this.2.len; omega, by have := this.1.len; omega⟩) oa ba vs oc bc W h1 h2)
        rw [hBl] at CL
        have q0 := HL16.out.r0
        have q1 := HL16.out.r1
        clear oB cB g16 hpi
        go_wp2_with (fail)
        clear q0 q1
        refine (CL.out w16 HL16.out.off HB16.out).mono ?_
        rintro e w17 ⟨rfl, g17⟩
        have HL17 := Lib.hid (HL16.out.keep0 g17)
        have HA17 := Lib.hid (HA16.out.keep0 g17)
        have HB17 := Lib.hid (HB16.out.keep0 g17)
        have HG17 := Lib.hid (gr_trans HG16.out g17)
        clear g17 CL
        go_wp2_with (fail)
        have CB := counts_any O B oa ba vs oc bc w17 HL17.out.off HOK.out HB17.out (by omega)
        unfold CountsPost at CB
        rw [inV_list HPI.out.inV (by omega), cntTo_same HND.out HPI.out.inV hcsl HPI.out.cnt, hBl] at CB
        refine CB.mono ?_
        rintro e w18 ⟨v18, n18, L18, rfl, oM, hM18, g18⟩
        obtain ⟨rfl, hL18⟩ := hM18 rfl
        rw [hL18] at oM
        obtain ⟨ma, mc, rfl, -, -, cM, -⟩ := own_shape oM
        have HL18 := Lib.hid (HL17.out.keep0 g18)
        have HA18 := Lib.hid (HA17.out.keep0 g18)
        have HB18 := Lib.hid (HB17.out.keep0 g18)
        have HG18 := Lib.hid (gr_trans HG17.out g18)
        have HM18 := Lib.hid cM
        clear CB oM cM g18 hM18 hL18
        go_wp2_with (fail)
        refine (changed_any x B hBl (by omega) xa ba xc bc w18 HL18.out.xs HB18.out).mono ?_
        rintro e w19 ⟨v19, rfl, oW, g19⟩
        obtain ⟨wa, wcc, rfl, -, -, -, -⟩ := own_shape oW
        have hwl := chgTo_len x B hBl
        have HL19 := Lib.hid (HL18.out.keep0 g19)
        have HA19 := Lib.hid (HA18.out.keep0 g19)
        have HM19 := Lib.hid (HM18.out.keep0 g19)
        have HG19 := Lib.hid (gr_trans HG18.out g19)
        rw [hwl, HDL.out]
        obtain ⟨u, hu⟩ : ∃ u, u = diffB x A := ⟨_, rfl⟩
        obtain ⟨v, hv⟩ : ∃ v, v = diffB x B := ⟨_, rfl⟩
        rw [← hu, ← hv] at hle
        rw [← hu, ← hv]
        have huv : decide ((v : Int) < (u : Int)) = false := decide_eq_false (by omega)
        clear oW g19 hwl hu hv
        go_wp2_with (fail)
        refine (EQI.out ma mc w19 HM19.out HL19.out.cs).mono ?_
        rintro e w20 ⟨rfl, g20⟩
        have HL20 := Lib.hid (HL19.out.keep0 g20)
        have HA20 := Lib.hid (HA19.out.keep0 g20)
        have HG20 := Lib.hid (gr_trans HG19.out g20)
        have q0 := HL20.out.r0
        have q1 := HL20.out.r1
        clear g20
        go_wp2_with (fail)
        clear q0 q1
        have PR := print_any R C A r1 r6 c1 c6 (by rw [hAl]; exact HLO.out.len) HSA.out HEA.out ga 0 ac (by rw [← HLO.out.len]; omega) w20 HA20.out
        rw [hAl] at PR
        refine PR.mono ?_
        rintro e w21 ⟨rfl, g21⟩
        have HL21 := Lib.hid (HL20.out.keep0 g21)
        have HA21 := Lib.hid (HA20.out.keep0 g21)
        have HG21 := Lib.hid (gr_trans HG20.out g21)
        have PA := Lib.hid (parse_any R C A r1 r6 c1 c6 (by rw [hAl]; exact HLO.out.len) HSA.out w21 (HE.out.keptBut (kept_of_grown HG21.out) (fun _ hx => hx.elim)))
        rw [hAl] at PA
        obtain ⟨t, ht⟩ : ∃ t, t = (⟨(layText C R A).toArray⟩ : ByteArray) := ⟨_, rfl⟩
        rw [← ht] at PA
        rw [← ht]
        have q0 := HL21.out.r0
        have q1 := HL21.out.r1
        clear PR g21 ht
        go_wp2_with (fail)
        clear q0 q1
        refine PA.out.mono ?_
        rintro e w22 ⟨v22, rfl, oK, g22⟩
        obtain ⟨ka, kc, rfl, -, -, cK, -⟩ := own_shape oK
        have HA22 := Lib.hid (HA21.out.keep0 g22)
        have HG22 := Lib.hid (gr_trans HG21.out g22)
        have HK22 := Lib.hid cK
        clear oK cK g22 PA
        go_wp2_with (fail)
        refine (shelves_any w22).mono ?_
        rintro e w23 ⟨rfl, g23⟩
        have HA23 := Lib.hid (HA22.out.keep0 g23)
        have HK23 := Lib.hid (HK22.out.keep0 g23)
        have HG23 := Lib.hid (gr_trans HG22.out g23)
        clear g23
        go_wp2_with (fail)
        refine (EQS.out ka kc w23 HK23.out HA23.out).mono ?_
        rintro e w24 ⟨rfl, g24⟩
        have HG24 := Lib.hid (gr_trans HG23.out g24)
        clear g24
        go_wp2_with (fail)
        go_ret
        exact ⟨rfl, HG24.out⟩
    · have b1 : (r != 0) = true := by simpa using hr0
      have b2 : (r == 0) = false := by simpa using hr0
      clear hr0 hr
      go_wp2_with (fail)
      refine (shelves_any w8).mono ?_
      rintro e w9 ⟨rfl, g9⟩
      have HG9 := Lib.hid (gr_trans HG8.out g9)
      clear g9
      go_wp2_with (fail)
      go_ret
      exact ⟨rfl, HG9.out⟩
  · have b1 : (r != 0) = true := by simpa using hr0
    have b2 : (r == 0) = false := by simpa using hr0
    clear hr0 hr
    go_wp2_with (fail)
    refine (shelves_any w7).mono ?_
    rintro e w8 ⟨rfl, g8⟩
    have HG8 := Lib.hid (gr_trans HG7.out g8)
    clear g8
    go_wp2_with (fail)
    go_ret
    exact ⟨rfl, HG8.out⟩
end Go.Proofs.YthikknnadmebgaaGreatDoor
