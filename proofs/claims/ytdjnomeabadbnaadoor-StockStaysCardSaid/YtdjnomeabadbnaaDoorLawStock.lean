/- The walk of StockStays. -/
import Derived.Test.YtdjnomeabadbnaaDoorPush
import Derived.Test.YtdjnomeabadbnaaDoorTake
import Derived.Test.YtdjnomeabadbnaaDoorStockEnd
import Derived.Test.YtdjnomeabadbnaaDoorStockPure
import Derived.Deep.DeepCutAuto
import Derived.Deep.DeepFit
namespace Go.Proofs.YtdjnomeabadbnaaDoor
open Go.RowKit
attribute [local go_sem ↓] Go.wp_at_zero Go.wp_at_succ

theorem RowAt.len {w : World} {lo hi n : Nat} {v : Value} {xs : List Value} (h : RowAt w lo hi v n xs) {a : Option Addr} {m c : Nat} (e : v = .slice a m c) : m = n := by
  rcases h with ⟨h, h2, _⟩ | ⟨b, off, cap, h, _⟩
  · rw [h] at e; cases e; exact h2.symm
  · rw [h] at e; cases e; rfl
def two {α : Type} (a b : α) : Nat → α
  | 0 => a
  | _ => b
/-- Two coils in a row: what a loop over both of them finds. -/
structure Two (wr w6 : World) (A : Nat) (P : ByteArray) (m : Int) (f : Nat → Value) (n lo hi : Nat → Nat) : Prop where
  blk : wr.heap[A]? = some (.cells #[.string P, .int .i64 m, f 0, .string P, .int .i64 m, f 1] 83 (0, 0))
  rows : ∀ j, j < 2 → ∃ X, X.length = n j * 2 ∧ RowAt wr (lo j) (hi j) (f j) (n j) X
  gr : w6.grownBy wr none
theorem Two.keep0 {wr w1 w6 : World} {A : Nat} {P : ByteArray} {m : Int} {f : Nat → Value} {n lo hi : Nat → Nat} (h : Two wr w6 A P m f n lo hi) (g : wr.grownBy w1 none) : Two w1 w6 A P m f n lo hi :=
  ⟨(g.block A (lt_of_block h.blk) (by simp)).trans h.blk, fun j hj => by obtain ⟨X, h1, h2⟩ := h.rows j hj; exact ⟨X, h1, h2.keep0 g⟩, gr_trans h.gr g⟩
theorem Two.set {wr w6 : World} {A : Nat} {P : ByteArray} {m : Int} {f : Nat → Value} {n lo hi : Nat → Nat} (h : Two wr w6 A P m f n lo hi) (h1 : hi 0 ≤ lo 1) (h2 : w6.heap.size ≤ lo 0) (h3 : lo 0 ≤ hi 0) (hA : ∀ j, j < 2 → hi j ≤ A) (k : Nat) (hk : k < 2) (b off cap i : Nat) (he : f k = .slice (some ⟨b, off, none⟩) (n k) cap) (hi' : i < n k * 2) (hb : lo k ≤ b ∧ b < hi k) (u : Value) :
    Two (wr.setCell ⟨b, off + i, none⟩ u) w6 A P m f n lo hi := by
  have g : wr.grownBy (wr.setCell ⟨b, off + i, none⟩ u) (some b) := gr_set (gr_refl _ _) rfl _
  have hAk := hA k hk
  refine ⟨?_, ?_, ?_⟩
  · rw [g.block A (lt_of_block h.blk) (by simp; omega)]; exact h.blk
  · intro j hj
    obtain ⟨X, e1, e2⟩ := h.rows j hj
    by_cases e : j = k
    · subst e
      rw [he] at e2 ⊢
      exact ⟨_, by rw [List.length_set]; exact e1, e2.set i (by omega) u⟩
    · refine ⟨X, e1, e2.keep g (fun q hq => ?_)⟩
      cases hq
      have : (k = 0 ∧ j = 1) ∨ (k = 1 ∧ j = 0) := by omega
      rcases this with ⟨rfl, rfl⟩ | ⟨rfl, rfl⟩ <;> omega
  · refine gr_new h.gr ?_ u
    have : k = 0 ∨ k = 1 := by omega
    rcases this with rfl | rfl
    · exact Nat.le_trans h2 hb.1
    · exact Nat.le_trans h2 (Nat.le_trans h3 (Nat.le_trans h1 hb.1))
set_option maxRecDepth 100000 in
set_option maxHeartbeats 8000000 in
theorem stockStays_any (l : List Int) (a : Option Addr) (cap : Nat) (w : World) (hc : CellsAt w a (ints l)) (hl : l.length ≤ 9223372036854775807) :
    Calls Tryd.prog 7 #[.slice a l.length cap] w fun e w' => e = .returned (.bool true) ∧ w.grownBy w' none := by
  have hg0 := gr_alloc (gr_alloc (gr_refl w none) (.cells #[.slice a l.length cap, .int .i64 0] 25)) (.cells #[.slice a l.length cap, .int .i64 0] 25)
  have sa0 := (StreamAt.made cap hc hl).keep0 (gr_alloc (gr_refl _ _) (.cells #[.slice a l.length cap, .int .i64 0] 25))
  have sb0 := StreamAt.madeLow cap (gr_alloc (gr_refl w none) (.cells #[.slice a l.length cap, .int .i64 0] 25)) hc hl
  rw [show (w.alloc (.cells #[.slice a l.length cap, .int .i64 0] 25)).heap.size = w.heap.size + 1 by simp] at sb0
  obtain ⟨w0, hw0⟩ : ∃ w0, w0 = (w.alloc (.cells #[.slice a l.length cap, .int .i64 0] 25)).alloc (.cells #[.slice a l.length cap, .int .i64 0] 25) := ⟨_, rfl⟩
  have hz0 : w0.heap.size = w.heap.size + 2 := by rw [hw0]; simp
  rw [← hw0] at sa0 sb0 hg0
  have hLO := lotsM_ok l 0
  have hk1 : lotsK l 0 ≤ 100 := by have := (lotsTo_bd l 0 5).2; unfold lotsK; omega
  have LA := fun (p' : Nat) (w' : World) (h : StreamAt w' p' w.heap.size l 0) => lots_any l 0 p' w' h (by omega)
  unfold LotsPost at LA
  obtain ⟨k1, hk1e⟩ : ∃ k1, k1 = lotsK l 0 := ⟨_, rfl⟩
  obtain ⟨X, hX⟩ : ∃ X, X = lotsM l 0 := ⟨_, rfl⟩
  rw [← hk1e, ← hX] at LA
  rw [← hk1e] at hk1
  rw [← hX] at hLO
  have hXl := hLO.len
  have CA := fun (p' : Nat) (w' : World) (h : StreamAt w' p' w.heap.size l k1) => coil_any l k1 p' w' h (by omega)
  unfold CoilPost at CA
  have hCS := coilM_sm l k1
  have hk2 := coilM_k l k1
  obtain ⟨k2, hk2e⟩ : ∃ k2, k2 = (coilM l k1).2 := ⟨_, rfl⟩
  obtain ⟨C, hC⟩ : ∃ C, C = (coilM l k1).1 := ⟨_, rfl⟩
  rw [← hk2e, ← hC] at CA
  rw [← hk2e] at hk2
  rw [← hC] at hCS
  have PA := fun (p' : Nat) (w' : World) (h : StreamAt w' p' w.heap.size l k2) => pieces_any l k2 p' w' h (by omega)
  unfold PcsPost at PA
  have hPS := pcsM_sm l k2
  obtain ⟨Q, hQ⟩ : ∃ Q, Q = pcsM l k2 := ⟨_, rfl⟩
  rw [← hQ] at PA hPS
  have HLA := Lib.hid LA
  have HCA := Lib.hid CA
  have HPA := Lib.hid PA
  have HLO := Lib.hid hLO
  have HCS := Lib.hid hCS
  have HPS := Lib.hid hPS
  have hCl := hCS.len
  have hQl := hPS.len
  clear LA CA PA hLO hCS hPS hk1e hX hk2e hC hQ hc hl
  go_enter Tryd.func7, Tryd.ntmps7
  go_wp2_with (fail)
  rw [← hw0]
  have HW0 := Lib.hid hw0; clear hw0
  refine (HLA.out _ w0 sa0).mono ?_
  rintro e w1 ⟨v1, rfl, o1, sa1, g1⟩
  have z1 := g1.size
  have sb1 := sb0.keepNe g1 (fun q e => by cases e; omega)
  clear sa0 sb0
  obtain ⟨xa, xc, rfl, -, -, -, -⟩ := own_shape o1
  go_wp2_with (fail)
  refine (HLA.out _ w1 sb1).mono ?_
  rintro e w2 ⟨v2, rfl, o2, sb2, g2⟩
  have z2 := g2.size
  have sa2 := sa1.keepNe g2 (fun q e => by cases e; omega)
  replace o1 := own_keepS o1 g2 (by omega)
  clear sa1 sb1
  obtain ⟨ya, yc, rfl, -, -, -, -⟩ := own_shape o2
  go_wp2_with (fail)
  refine (HCA.out _ w2 sa2).mono ?_
  rintro e w3 ⟨v3, rfl, o3, sa3, g3⟩
  have z3 := g3.size
  have sb3 := sb2.keepNe g3 (fun q e => by cases e; omega)
  replace o1 := own_keepS o1 g3 (by omega)
  replace o2 := own_keepS o2 g3 (by omega)
  clear sa2 sb2
  obtain ⟨ca, cc, rfl, -, -, -, -⟩ := own_shape o3
  go_wp2_with (fail)
  refine (HCA.out _ w3 sb3).mono ?_
  rintro e w4 ⟨v4, rfl, o4, sb4, g4⟩
  have z4 := g4.size
  have sa4 := sa3.keepNe g4 (fun q e => by cases e; omega)
  replace o1 := own_keepS o1 g4 (by omega)
  replace o2 := own_keepS o2 g4 (by omega)
  replace o3 := own_keepS o3 g4 (by omega)
  clear sa3 sb3
  obtain ⟨da, dc, rfl, -, -, -, -⟩ := own_shape o4
  go_wp2_with (fail)
  have ga := gr_alloc (gr_alloc (gr_refl w4 none) (.cells #[.string C.prod, .int .i64 C.most, .slice ca C.ps.length cc] 83)) (.cells #[.string C.prod, .int .i64 C.most, .slice da C.ps.length dc] 83)
  have hCD := heap_2 w4 (.cells #[.string C.prod, .int .i64 C.most, .slice ca C.ps.length cc] 83) (.cells #[.string C.prod, .int .i64 C.most, .slice da C.ps.length dc] 83)
  obtain ⟨w5, hw5⟩ : ∃ w5, w5 = (w4.alloc (.cells #[.string C.prod, .int .i64 C.most, .slice ca C.ps.length cc] 83)).alloc (.cells #[.string C.prod, .int .i64 C.most, .slice da C.ps.length dc] 83) := ⟨_, rfl⟩
  have z5 : w5.heap.size = w4.heap.size + 2 := by rw [hw5]; simp
  rw [← hw5] at ga hCD
  rw [← hw5]
  obtain ⟨hC5, hD5⟩ := hCD
  have sa5 := sa4.keep0 ga
  have sb5 := sb4.keep0 ga
  replace o1 := own_keep0 o1 ga
  replace o2 := own_keep0 o2 ga
  replace o3 := own_keep0 o3 ga
  replace o4 := own_keep0 o4 ga
  clear sa4 sb4 hw5
  refine (HPA.out _ w5 sa5).mono ?_
  rintro e w6 ⟨v6, rfl, o5, sa6, g6⟩
  have z6 := g6.size
  have sb6 := sb5.keepNe g6 (fun q e => by cases e; omega)
  replace o1 := own_keepS o1 g6 (by omega)
  replace o2 := own_keepS o2 g6 (by omega)
  replace o3 := own_keepS o3 g6 (by omega)
  replace o4 := own_keepS o4 g6 (by omega)
  have hC6 := (g6.block _ (lt_of_block hC5) (by simp; omega)).trans hC5
  have hD6 := (g6.block _ (lt_of_block hD5) (by simp; omega)).trans hD5
  clear sa5 sb5 sa6 hC5 hD5
  obtain ⟨pa, pc, rfl, -, -, -, -⟩ := own_shape o5
  go_wp2_with (fail)
  refine (HPA.out _ w6 sb6).mono ?_
  rintro e w7 ⟨v7, rfl, o6, -, g7⟩
  have z7 := g7.size
  replace o1 := own_keepS o1 g7 (by omega)
  replace o2 := own_keepS o2 g7 (by omega)
  replace o3 := own_keepS o3 g7 (by omega)
  replace o4 := own_keepS o4 g7 (by omega)
  replace o5 := own_keepS o5 g7 (by omega)
  have hC7 := (g7.block _ (lt_of_block hC6) (by simp; omega)).trans hC6
  have hD7 := (g7.block _ (lt_of_block hD6) (by simp; omega)).trans hD6
  clear sb6 hC6 hD6
  obtain ⟨qa, qc, rfl, -, -, -, -⟩ := own_shape o6
  have xn := own_nil o1
  have cn := own_nil o3
  have pn := own_nil o5
  obtain ⟨_, _, e1, -, -, cX, -⟩ := own_shape o1
  cases e1
  obtain ⟨_, _, e1, -, -, cY, -⟩ := own_shape o2
  cases e1
  obtain ⟨_, _, e1, -, -, cC, -⟩ := own_shape o3
  cases e1
  obtain ⟨_, _, e1, -, -, cD, -⟩ := own_shape o4
  cases e1
  obtain ⟨_, _, e1, -, -, cP, -⟩ := own_shape o5
  cases e1
  obtain ⟨_, _, e1, -, -, cQ, -⟩ := own_shape o6
  cases e1
  have hgr := gr_grown hg0 g1 (fun k e => by cases e; omega)
  have hgr := gr_grown hgr g2 (fun k e => by cases e; omega)
  have hgr := gr_grown hgr g3 (fun k e => by cases e; omega)
  have hgr := gr_grown hgr g4 (fun k e => by cases e; omega)
  have hgr := gr_trans hgr ga
  have hgr := gr_grown hgr g6 (fun k e => by cases e; omega)
  have hgr := gr_grown hgr g7 (fun k e => by cases e; omega)
  clear o1 o2 o3 o4 o5 o6 g1 g2 g3 g4 ga g6 g7 hg0 HLA HCA HPA
  have SP := Lib.hid (spoil_any X xa xc 6 w7 cX (fun e => (xn e).2) HLO.out (by decide) (by decide))
  have CF : Hid (∀ W, w7.grownBy W none → Calls Tryd.prog 40 #[.agg #[.string C.prod, .int .i64 C.most, .slice ca C.ps.length cc]] W (CoilChk C W)) := fun W g => coilFault_any C ca cc W (cC.keep0 g) HCS.out
  have PF : Hid (∀ W, w7.grownBy W none → Calls Tryd.prog 41 #[.agg #[.string C.prod, .int .i64 C.most, .slice ca C.ps.length cc], .slice xa X.length xc, .slice pa Q.length pc] W (PushChk C X Q W)) := fun W g => pushFaultR_any C ca cc X xa xc Q pa pc W (cC.keep0 g) HCS.out (cX.keep0 g) HLO.out (cP.keep0 g) HPS.out
  have PU := Lib.hid (fun (W : World) (g : w7.grownBy W none) (ho : PushOk C X Q) => push_any C ca cc X xa xc Q pa pc W (cC.keep0 g) (fun e => (cn e).2) HCS.out (cX.keep0 g) HLO.out (cP.keep0 g) (fun e => (pn e).2) HPS.out ho)
  have SE := Lib.hid (fun (W : World) (g : w7.grownBy W none) (ho : CoilOk C) (hs : 0 ≤ pcSum C.ps) => sell_any C ca cc W (cC.keep0 g) (fun e => (cn e).2) HCS.out ho 0 (by decide) (by decide) hs)
  have EX := Lib.hid (fun (W : World) (g : w7.grownBy W none) => equal_Lot X xa ya xc yc W (cX.keep0 g) (cY.keep0 g) (by omega))
  have EC := Lib.hid (fun (W : World) (g : w7.grownBy W none) => sameCoil_any C ca da cc dc W (cC.keep0 g) (cD.keep0 g) (by omega))
  have EP := Lib.hid (fun (W : World) (g : w7.grownBy W none) => equal_Pc Q pa qa pc qc W (cP.keep0 g) (cQ.keep0 g) (by omega))
  have EL := Lib.hid (fun (W : World) (g : w7.grownBy W none) (la : Option Addr) (lc : Nat) (h : CellsAt W la (flat encLot X)) => equal_Lot X la ya lc yc W h (cY.keep0 g) (by omega))
  have HX := Lib.hid cX
  have HC7 := Lib.hid hC7
  have HD7 := Lib.hid hD7
  have HG7 := Lib.hid hgr
  have hVl := lt_of_block hD7
  clear cX cY cC cD cP cQ xn cn pn hC7 hD7 hgr z1 z2 z3 z4 z5 z6 z7 hz0 HW0
  go_wp2_with (fail)
  refine SP.out.mono ?_
  rintro e w8 ⟨v8, u8, rfl, o8, g8⟩
  obtain ⟨ra, rc, rfl, -, -, -, -⟩ := own_shape o8
  have hR8 : ∃ Z, Z.length = X.length * 4 ∧ RowAt w8 w7.heap.size w8.heap.size (.slice ra X.length rc) X.length Z := ⟨_, o8.1, own_row o8⟩
  have HR8 := Lib.hid hR8
  have HG8 := Lib.hid g8
  clear o8 hR8 g8 SP
  go_wp2_with (fail)
  go_loopw [56] (fun i wr => ∃ k : Nat, k ≤ X.length ∧ i = .int .i64 k ∧ (∃ Z, Z.length = X.length * 4 ∧ RowAt wr w7.heap.size w8.heap.size (.slice ra X.length rc) X.length Z) ∧ w7.grownBy wr none) (fun i _ => X.length - (intOf i).toNat)
  case atStart => exact ⟨0, Nat.zero_le _, rfl, HR8.out, HG8.out⟩
  case round =>
    obtain ⟨k, hk, rfl, ⟨Z, hZ, hrow⟩, hgr⟩ := hrel
    obtain ⟨wo, rfl⟩ : ∃ wo : World, wo = wr := ⟨_, rfl⟩
    by_cases hlt : k < X.length
    · obtain ⟨b, off, cp, he, r1, r2, r3, r4, r5, r6, r7⟩ := hrow.some (by omega)
      cases he
      have hj : k * 4 + 3 < Z.length := by omega
      have d3 := r6 (k * 4 + 3) _ (List.getElem?_eq_getElem hj)
      have f3 := r7 (k * 4 + 3)
      have HS := Lib.hid (hrow.set (k * 4 + 3) hj (.int .i64 (-3)))
      have HZ := Lib.hid hZ
      have HGR := Lib.hid (gr_new hgr (q := ⟨b, off + (k * 4 + 3), none⟩) r3 (.int .i64 (-3)))
      obtain ⟨u, hu⟩ : ∃ u, u = Z[k * 4 + 3] := ⟨_, rfl⟩
      rw [← hu] at d3
      rw [← Nat.add_assoc] at d3 f3 HS HGR
      clear hu hrow hgr r6 r7 hZ
      go_wp2_with (fail)
      go_roundw
      case rel => exact ⟨k + 1, by omega, by go_num, ⟨_, by rw [List.length_set]; exact HZ.out, HS.out⟩, HGR.out⟩
      case measure => simp [intOf]; omega
    · have HG8 := Lib.hid hgr
      have HCo := Lib.hid ((hgr.block _ (lt_of_block HC7.out) (by simp)).trans HC7.out)
      have c0 := blkC HCo.out 0 rfl
      have c1 : wo.cell? ⟨w4.heap.size, 1, none⟩ = some (.int .i64 C.most) := blkC HCo.out 1 rfl
      have c2 : wo.cell? ⟨w4.heap.size, 2, none⟩ = some (.slice ca C.ps.length cc) := blkC HCo.out 2 rfl
      have CF2 := Lib.hid (CF.out wo hgr)
      clear hrow HR8 hgr hZ
      go_upto_region 13 with (fail)
      go_cut [73] (fun s wx => ∃ b : Bool, s = .bool b ∧ (b = true → PushOk C X Q) ∧ w7.grownBy wx none)
      case first =>
        go_wp2_with (fail)
        refine CF2.out.mono ?_
        rintro e w9 ⟨r1, rfl, hr1, g9⟩
        have HG9 := Lib.hid (gr_trans HG8.out g9)
        have HR1 := Lib.hid hr1
        have HC9 := Lib.hid ((g9.block _ (lt_of_block HCo.out) (by simp)).trans HCo.out)
        clear CF2 c0 c1 c2 g9 hr1
        have c0 := blkC HC9.out 0 rfl
        have c1 : w9.cell? ⟨w4.heap.size, 1, none⟩ = some (.int .i64 C.most) := blkC HC9.out 1 rfl
        have c2 : w9.cell? ⟨w4.heap.size, 2, none⟩ = some (.slice ca C.ps.length cc) := blkC HC9.out 2 rfl
        by_cases hr0 : r1 = 0
        · subst hr0
          have PF2 := Lib.hid (PF.out w9 HG9.out)
          clear HR1
          go_wp2_with (fail)
          refine PF2.out.mono ?_
          rintro e w10 ⟨r2, rfl, hr2, g10⟩
          have HR2 := Lib.hid hr2
          have HG10 := Lib.hid (gr_trans HG9.out g10)
          clear PF2 c0 c1 c2 g10 hr2 HC9 HG9
          by_cases hr02 : r2 = 0
          · subst hr02
            have OK2 : Hid (PushOk C X Q) := HR2.out.1 rfl
            clear HR2
            go_wp2_with (fail)
            go_meet
            exact ⟨true, rfl, fun _ => OK2.out, HG10.out⟩
          · have hr1b : (r2 == 0) = false := by simpa using hr02
            clear hr02 HR2
            go_wp2_with (fail)
            go_meet
            exact ⟨false, rfl, (fun e => by cases e), HG10.out⟩
        · have hr1b : (r1 == 0) = false := by simpa using hr0
          clear hr0 HR1
          go_wp2_with (fail)
          go_meet
          exact ⟨false, rfl, (fun e => by cases e), HG9.out⟩
      case rest =>
      obtain ⟨pb, rfl, hpb, hg9⟩ := hcut
      obtain ⟨w9, rfl⟩ : ∃ w9 : World, w9 = wc := ⟨_, rfl⟩
      have HPB := Lib.hid hpb
      have HG9 := Lib.hid hg9
      clear hpb hg9 c0 c1 c2 HCo HG8 CF2
      go_upto_if 73 with (fail)
      go_cut [] (fun wx => w7.grownBy wx none)
      case first =>
        cases pb with
        | false =>
          go_wp2_with (fail)
          go_meet
          exact HG9.out
        | true =>
          have OK2 : Hid (PushOk C X Q) := HPB.out rfl
          have OK1 : Hid (CoilOk C) := OK2.out.coil
          have PU2 := Lib.hid (PU.out w9 HG9.out OK2.out)
          have hnn : Hid (0 ≤ pcSum C.ps) := by
            show _ ≤ _
            have := unitsL_len C.ps (fun i hi => by have := (OK1.out.all i hi).lo; omega)
            omega
          have HC9 := Lib.hid ((HG9.out.block _ (lt_of_block HC7.out) (by simp)).trans HC7.out)
          have c0 := blkC HC9.out 0 rfl
          have c1 : w9.cell? ⟨w4.heap.size, 1, none⟩ = some (.int .i64 C.most) := blkC HC9.out 1 rfl
          have c2 : w9.cell? ⟨w4.heap.size, 2, none⟩ = some (.slice ca C.ps.length cc) := blkC HC9.out 2 rfl
          clear HPB
          go_wp2_with (fail)
          refine PU2.out.mono ?_
          rintro e w10 ⟨v10, rfl, o10, g10⟩
          have hz9 := HG9.out.size
          have hz10 := g10.size
          obtain ⟨za, zc, rfl, -, -, -, -⟩ := own_shape o10
          have r10 := own_row o10
          have HL10 := o10.1
          obtain ⟨J, hJ⟩ : ∃ J, J = flat encPc (joinL (C.ps ++ Q)) := ⟨_, rfl⟩
          obtain ⟨n0, hn0⟩ : ∃ n0, n0 = (joinL (C.ps ++ Q)).length := ⟨_, rfl⟩
          rw [← hJ, ← hn0] at r10 HL10
          rw [← hn0]
          have R10 := Lib.hid r10
          have HJ := Lib.hid HL10
          have HG10 := Lib.hid (gr_trans HG9.out g10)
          have HC10 := Lib.hid ((g10.block _ (lt_of_block HC9.out) (by simp)).trans HC9.out)
          clear c0 c1 c2 r10 HL10 hJ hn0 o10 g10 PU2 HC9
          have c0 := blkC HC10.out 0 rfl
          have c1 : w10.cell? ⟨w4.heap.size, 1, none⟩ = some (.int .i64 C.most) := blkC HC10.out 1 rfl
          have c2 : w10.cell? ⟨w4.heap.size, 2, none⟩ = some (.slice ca C.ps.length cc) := blkC HC10.out 2 rfl
          have hvl10 := lt_of_block HC10.out
          go_wp2_with (fail)
          have ga := gr_alloc (gr_refl w10 none) (.cells #[.string C.prod, .int .i64 C.most, .slice za n0 zc] 83)
          have hZ1 := heap_alloc_new w10 (.cells #[.string C.prod, .int .i64 C.most, .slice za n0 zc] 83)
          have SE2 := Lib.hid (SE.out _ (gr_trans HG10.out ga) OK1.out hnn.out)
          refine SE2.out.mono ?_
          rintro e w12 ⟨v12, u12, rfl, r12, -, g12⟩
          have hz12 := g12.size
          obtain ⟨sa, sc, rfl, -, -, -, -, -⟩ := r12.shape
          have HL12 := flat_length encPc_len (sellL C.ps 0).2
          obtain ⟨J2, hJ2⟩ : ∃ J, J = flat encPc (sellL C.ps 0).2 := ⟨_, rfl⟩
          obtain ⟨n1, hn1⟩ : ∃ n, n = (sellL C.ps 0).2.length := ⟨_, rfl⟩
          rw [← hJ2, ← hn1] at r12 HL12
          rw [← hn1]
          have r12 := r12.wide (show w10.heap.size ≤ (w10.alloc (.cells #[.string C.prod, .int .i64 C.most, .slice za n0 zc] 83)).heap.size by simp) (Nat.le_refl _)
          have g1012 := gr_trans ga g12
          have HZ := Lib.hid ((g12.block w10.heap.size (by simp) (by simp)).trans hZ1)
          have HR12 := Lib.hid r12
          have HJ2 := Lib.hid HL12
          have HR10 := Lib.hid (R10.out.keep0 g1012)
          have HG12 := Lib.hid (gr_trans HG10.out g1012)
          have hl0 : w10.heap.size < w12.heap.size := lt_of_block HZ.out
          have z0 := blkC HZ.out 0 rfl
          have z1 : w12.cell? ⟨w10.heap.size, 1, none⟩ = some (.int .i64 C.most) := blkC HZ.out 1 rfl
          have z2 : w12.cell? ⟨w10.heap.size, 2, none⟩ = some (.slice za n0 zc) := blkC HZ.out 2 rfl
          clear ga hZ1 SE2 r12 HL12 hJ2 hn1 g12 g1012 c0 c1 c2 R10 HC10
          go_wp2_with (fail)
          have gb := gr_alloc (gr_alloc (gr_refl w12 none) (.cells #[.string C.prod, .int .i64 C.most, .slice sa n1 sc] 83)) (.cells #[.string C.prod, .int .i64 C.most, .slice za n0 zc, .string C.prod, .int .i64 C.most, .slice sa n1 sc] 83)
          have hA := (heap_2 w12 (.cells #[.string C.prod, .int .i64 C.most, .slice sa n1 sc] 83) (.cells #[.string C.prod, .int .i64 C.most, .slice za n0 zc, .string C.prod, .int .i64 C.most, .slice sa n1 sc] 83)).2
          have T13 : Hid (Two ((w12.alloc (.cells #[.string C.prod, .int .i64 C.most, .slice sa n1 sc] 83)).alloc (.cells #[.string C.prod, .int .i64 C.most, .slice za n0 zc, .string C.prod, .int .i64 C.most, .slice sa n1 sc] 83)) w7 (w12.heap.size + 1) C.prod C.most (two (.slice za n0 zc) (.slice sa n1 sc)) (two n0 n1) (two w9.heap.size w10.heap.size) (two w10.heap.size w12.heap.size)) :=
            ⟨hA, fun j hj => by
              have : j = 0 ∨ j = 1 := by omega
              rcases this with rfl | rfl
              · exact ⟨J, HJ.out, HR10.out.keep0 gb⟩
              · exact ⟨J2, HJ2.out, HR12.out.keep0 gb⟩, gr_trans HG12.out gb⟩
          clear gb hA z0 z1 z2 HR10 HR12 HZ
          go_loopw [97] (fun i wr => ∃ k : Nat, k ≤ 2 ∧ i = .int .i64 k ∧ Two wr w7 (w12.heap.size + 1) C.prod C.most (two (.slice za n0 zc) (.slice sa n1 sc)) (two n0 n1) (two w9.heap.size w10.heap.size) (two w10.heap.size w12.heap.size)) (fun i _ => 2 - (intOf i).toNat)
          case atStart => exact ⟨0, by omega, rfl, T13.out⟩
          case round =>
            obtain ⟨k, hk, rfl, hT⟩ := hrel
            obtain ⟨wo, rfl⟩ : ∃ wo : World, wo = wr := ⟨_, rfl⟩
            by_cases hlt : k < 2
            · obtain ⟨X1, hX1, hrow⟩ := hT.rows k hlt
              obtain ⟨ak, ck, hfk, hnc, hcm, -, -, -⟩ := hrow.shape
              unfold maxLen at hcm
              have d0 : wo.cell? ⟨w12.heap.size + 1, k * 3, none⟩ = some (.string C.prod) := by
                have : k = 0 ∨ k = 1 := by omega
                rcases this with rfl | rfl
                · exact blkC hT.blk 0 rfl
                · exact blkC hT.blk 3 rfl
              have d1 : wo.cell? ⟨w12.heap.size + 1, k * 3 + 1, none⟩ = some (.int .i64 C.most) := by
                have : k = 0 ∨ k = 1 := by omega
                rcases this with rfl | rfl
                · exact blkC hT.blk 1 rfl
                · exact blkC hT.blk 4 rfl
              have d2 : wo.cell? ⟨w12.heap.size + 1, k * 3 + 2, none⟩ = some (.slice ak (two n0 n1 k) ck) := by
                rw [← hfk]
                have : k = 0 ∨ k = 1 := by omega
                rcases this with rfl | rfl
                · exact blkC hT.blk 2 rfl
                · exact blkC hT.blk 5 rfl
              obtain ⟨nk, hnk⟩ : ∃ nk, nk = two n0 n1 k := ⟨_, rfl⟩
              rw [← hnk] at d2 hfk hnc
              have hAl := lt_of_block hT.blk
              have HT := Lib.hid hT
              have HFK := Lib.hid hfk
              have HNK := Lib.hid hnk
              clear hT hX1 hrow hfk hnk T13
              go_wp2_with (fail)
              have gB := gr_alloc (gr_refl wo none) (.cells #[.string C.prod, .int .i64 C.most, .slice ak nk ck] 83)
              have hB := heap_alloc_new wo (.cells #[.string C.prod, .int .i64 C.most, .slice ak nk ck] 83)
              have hT2 := HT.out.keep0 gB
              go_loopw [104] (fun i wr => ∃ j : Nat, j ≤ nk ∧ i = .int .i64 j ∧ wr.heap[wo.heap.size]? = some (.cells #[.string C.prod, .int .i64 C.most, .slice ak nk ck] 83 (0, 0)) ∧ Two wr w7 (w12.heap.size + 1) C.prod C.most (two (.slice za n0 zc) (.slice sa n1 sc)) (two n0 n1) (two w9.heap.size w10.heap.size) (two w10.heap.size w12.heap.size)) (fun i _ => nk - (intOf i).toNat)
              case atStart => exact ⟨0, Nat.zero_le _, rfl, hB, hT2⟩
              case round =>
                clear gB hB hT2 HT
                obtain ⟨j, hj, rfl, hB, hT⟩ := hrel
                obtain ⟨wq, rfl⟩ : ∃ wq : World, wq = wr := ⟨_, rfl⟩
                by_cases hjl : j < nk
                · obtain ⟨X1, hX1, hrow⟩ := hT.rows k hlt
                  rw [← HNK.out] at hX1 hrow
                  obtain ⟨b, off, cp, he, r1, r2, r3, r4, r5, r6, r7⟩ := hrow.some (by omega)
                  have he2 := HFK.out.symm.trans he
                  cases he2
                  have hji : j * 2 + 1 < X1.length := by omega
                  have e1 := r6 (j * 2 + 1) _ (List.getElem?_eq_getElem hji)
                  have f1 := r7 (j * 2 + 1)
                  have hhi : ∀ j, j < 2 → two w10.heap.size w12.heap.size j ≤ w12.heap.size + 1 := fun j hj => by
                    have : j = 0 ∨ j = 1 := by omega
                    rcases this with rfl | rfl <;> simp only [two] <;> omega
                  have hTs := hT.set (Nat.le_refl _) hz9 hz10 hhi k hlt b off ck (j * 2 + 1) (by rw [← HNK.out]; exact he) (by rw [← HNK.out]; omega) ⟨r3, r4⟩ (.int .i64 (-3))
                  have hBs := (Below.heap_setCell wq ⟨b, off + (j * 2 + 1), none⟩ (.int .i64 (-3)) wo.heap.size (by have := hhi k hlt; simp only; omega)).trans hB
                  obtain ⟨u, hu⟩ : ∃ u, u = X1[j * 2 + 1] := ⟨_, rfl⟩
                  rw [← hu] at e1
                  rw [← Nat.add_assoc] at e1 f1 hTs hBs
                  have c2 := blkC hB 2 rfl
                  have HTS := Lib.hid hTs
                  have HBS := Lib.hid hBs
                  clear hu hT hrow r6 r7 hTs hBs hB hX1 hhi he HFK
                  go_wp2_with (fail)
                  go_roundw
                  case rel => exact ⟨j + 1, by omega, by go_num, HBS.out, HTS.out⟩
                  case measure => simp [intOf]; omega
                · have c2 := blkC hB 2 rfl
                  have HT := Lib.hid hT
                  clear hT
                  go_wp2_with (fail)
                  go_roundw
                  case rel => exact ⟨k + 1, by omega, by go_num, HT.out⟩
                  case measure => simp [intOf]; omega
            · have HT := Lib.hid hT
              clear hT T13
              go_wp2_with (fail)
              go_meet
              exact HT.out.gr
      case rest =>
      obtain ⟨w13, rfl⟩ : ∃ w13 : World, w13 = wc := ⟨_, rfl⟩
      have HG13 := Lib.hid hcut
      clear hcut HPB HG9
      go_wp2_with (fail)
      refine (newStore_any w13).mono ?_
      rintro e w14 ⟨rfl, st14, g14⟩
      have HST := Lib.hid st14
      have HG14 := Lib.hid (gr_trans HG13.out g14)
      have hz13 := HG13.out.size
      obtain ⟨S, hS⟩ : ∃ S, S = w13.heap.size := ⟨_, rfl⟩
      rw [← hS] at HST hz13
      rw [← hS]
      clear st14 g14 hS HG13
      go_wp2_with (fail)
      go_loopw [119] (fun i wr => ∃ k : Nat, k ≤ X.length ∧ i = .int .i64 k ∧ StoreAt wr S S (X.take k) ∧ w7.grownBy wr none) (fun i _ => X.length - (intOf i).toNat)
      case atStart => exact ⟨0, Nat.zero_le _, rfl, HST.out, HG14.out⟩
      case round =>
        clear HST HG14
        obtain ⟨k, hk, rfl, hst, hgr⟩ := hrel
        obtain ⟨wo, rfl⟩ : ∃ wo : World, wo = wr := ⟨_, rfl⟩
        by_cases hlt : k < X.length
        · obtain ⟨b, off, rfl, d0, d1, d2, d3⟩ := lot_cells (HX.out.keep0 hgr) k hlt
          have hTK : ∀ W : World, wo.grownBy W none → _ := fun W g => take_any (X.take k) X[k] S S W (hst.keep0 g) (HLO.out.all _ (List.getElem_mem hlt)) (HLO.out.lt k hlt) (by simp; omega)
          rw [← take_next X k hlt] at hTK
          obtain ⟨x, hx⟩ : ∃ x, x = X[k] := ⟨_, rfl⟩
          rw [← hx] at d0 d1 d2 d3 hTK
          have HTK := Lib.hid hTK
          have HGR := Lib.hid hgr
          clear hx hTK hst hgr
          go_wp2_with (fail)
          refine (HTK.out _ (gr_alloc (gr_refl wo none) _)).mono ?_
          rintro e w15 ⟨rfl, st15, g15⟩
          have HST := Lib.hid st15
          have HG15 := Lib.hid (g15 w7 hz13 (gr_alloc HGR.out _))
          clear st15 g15 HTK
          go_wp2_with (fail)
          go_roundw
          case rel => exact ⟨k + 1, by omega, by go_num, HST.out, HG15.out⟩
          case measure => simp [intOf]; omega
        · obtain rfl : k = X.length := by omega
          have HST := Lib.hid (show StoreAt wo S S X from by rw [List.take_length] at hst; exact hst)
          have HGR := Lib.hid hgr
          clear hst hgr
          go_wp2_with (fail)
          refine (lotsOf_any X S S wo HST.out (by omega)).mono ?_
          rintro e w16 ⟨v16, rfl, o16, g16⟩
          obtain ⟨ka, kc, rfl, -, -, -, -⟩ := own_shape o16
          have HR16 : Hid (∃ Z, Z.length = X.length * 4 ∧ RowAt w16 wo.heap.size w16.heap.size (.slice ka X.length kc) X.length Z) := ⟨_, o16.1, own_row o16⟩
          have HS16 := Lib.hid (HST.out.keep0 g16)
          have HG16 := Lib.hid (gr_trans HGR.out g16)
          have hzo : S < wo.heap.size := by obtain ⟨⟨_, _, _, h, _⟩, _⟩ := HST.out; exact lt_of_block h
          have hzo7 := HGR.out.size
          have hLow := Lib.hid HST.out
          have hG16 := Lib.hid g16
          clear o16 g16 HST
          go_wp2_with (fail)
          go_loopw [132] (fun i wr => ∃ j : Nat, j ≤ X.length ∧ i = .int .i64 j ∧ (∃ Z, Z.length = X.length * 4 ∧ RowAt wr wo.heap.size w16.heap.size (.slice ka X.length kc) X.length Z) ∧ wo.grownBy wr none) (fun i _ => X.length - (intOf i).toNat)
          case atStart => exact ⟨0, Nat.zero_le _, rfl, HR16.out, hG16.out⟩
          case round =>
            clear HR16
            obtain ⟨j, hj, rfl, ⟨Z, hZ, hrow⟩, hgr⟩ := hrel
            obtain ⟨wq, rfl⟩ : ∃ wq : World, wq = wr := ⟨_, rfl⟩
            by_cases hjl : j < X.length
            · obtain ⟨b, off, cp, he, r1, r2, r3, r4, r5, r6, r7⟩ := hrow.some (by omega)
              cases he
              have hji : j * 4 + 3 < Z.length := by omega
              have d3 := r6 (j * 4 + 3) _ (List.getElem?_eq_getElem hji)
              have f3 := r7 (j * 4 + 3)
              have HS := Lib.hid (hrow.set (j * 4 + 3) hji (.int .i64 (-3)))
              have HZ := Lib.hid hZ
              have HGQ := Lib.hid (gr_new hgr (q := ⟨b, off + (j * 4 + 3), none⟩) r3 (.int .i64 (-3)))
              obtain ⟨u, hu⟩ : ∃ u, u = Z[j * 4 + 3] := ⟨_, rfl⟩
              rw [← hu] at d3
              rw [← Nat.add_assoc] at d3 f3 HS HGQ
              clear hu hrow hgr r6 r7 hZ
              go_wp2_with (fail)
              go_roundw
              case rel => exact ⟨j + 1, by omega, by go_num, ⟨_, by rw [List.length_set]; exact HZ.out, HS.out⟩, HGQ.out⟩
              case measure => simp [intOf]; omega
            · have HGQ := Lib.hid (gr_trans HGR.out hgr)
              have HSQ := Lib.hid (hLow.out.keep0 hgr)
              have hCq := (HGQ.out.block _ (lt_of_block HC7.out) (by simp)).trans HC7.out
              have hDq := (HGQ.out.block _ (lt_of_block HD7.out) (by simp)).trans HD7.out
              have HCQ := Lib.hid hCq
              have HDQ := Lib.hid hDq
              clear hrow hgr hZ hCq hDq
              go_wp2_with (fail)
              refine (stocks_any wq).mono ?_
              rintro e w17 ⟨rfl, g17⟩
              have HG17 := Lib.hid (gr_trans HGQ.out g17)
              have HSs := Lib.hid (HSQ.out.keep0 g17)
              have HC8 := Lib.hid ((g17.block _ (lt_of_block HCQ.out) (by simp)).trans HCQ.out)
              have HD8 := Lib.hid ((g17.block _ (lt_of_block HDQ.out) (by simp)).trans HDQ.out)
              clear g17 HCQ HDQ HSQ HGQ
              go_wp2_with (fail)
              refine (EX.out w17 HG17.out).mono ?_
              rintro e w18 ⟨rfl, g18⟩
              have HG18 := Lib.hid (gr_trans HG17.out g18)
              have HS18 := Lib.hid (HSs.out.keep0 g18)
              have hC9 := (g18.block _ (lt_of_block HC8.out) (by simp)).trans HC8.out
              have hD9 := (g18.block _ (lt_of_block HD8.out) (by simp)).trans HD8.out
              have c0 := blkC hC9 0 rfl
              have c1 : w18.cell? ⟨w4.heap.size, 1, none⟩ = some (.int .i64 C.most) := blkC hC9 1 rfl
              have c2 : w18.cell? ⟨w4.heap.size, 2, none⟩ = some (.slice ca C.ps.length cc) := blkC hC9 2 rfl
              have e0 := blkC hD9 0 rfl
              have e1 : w18.cell? ⟨w4.heap.size + 1, 1, none⟩ = some (.int .i64 C.most) := blkC hD9 1 rfl
              have e2 : w18.cell? ⟨w4.heap.size + 1, 2, none⟩ = some (.slice da C.ps.length dc) := blkC hD9 2 rfl
              clear g18 HC8 HD8 HSs hC9 hD9
              go_wp2_with (fail)
              refine (EC.out w18 HG18.out).mono ?_
              rintro e w19 ⟨rfl, g19⟩
              have HG19 := Lib.hid (gr_trans HG18.out g19)
              have HS19 := Lib.hid (HS18.out.keep0 g19)
              clear g19 HS18 c0 c1 c2 e0 e1 e2
              go_wp2_with (fail)
              refine (EP.out w19 HG19.out).mono ?_
              rintro e w20 ⟨rfl, g20⟩
              have HG20 := Lib.hid (gr_trans HG19.out g20)
              have HS20 := Lib.hid (HS19.out.keep0 g20)
              clear g20 HS19
              go_wp2_with (fail)
              refine (lotsOf_any X S S w20 HS20.out (by omega)).mono ?_
              rintro e w21 ⟨v21, rfl, o21, g21⟩
              obtain ⟨fa, fc, rfl, -, -, hcf, -⟩ := own_shape o21
              have HG21 := Lib.hid (gr_trans HG20.out g21)
              have EL2 := Lib.hid (EL.out w21 HG21.out fa fc hcf)
              clear o21 g21 hcf
              go_wp2_with (fail)
              refine EL2.out.mono ?_
              rintro e w22 ⟨rfl, g22⟩
              have HG22 := Lib.hid (gr_trans HG7.out (gr_trans HG21.out g22))
              clear g22
              go_wp2_with (fail)
              go_ret
              exact ⟨rfl, HG22.out⟩
end Go.Proofs.YtdjnomeabadbnaaDoor
