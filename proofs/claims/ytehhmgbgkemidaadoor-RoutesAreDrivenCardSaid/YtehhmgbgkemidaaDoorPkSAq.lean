/- round's seek: the best route. -/
import Derived.Test.YtehhmgbgkemidaaDoorPkSAo
import Derived.Test.YtehhmgbgkemidaaDoorPkSAp
import Derived.Deep.DeepCutAuto
import Derived.Deep.DrawnRows
import Derived.Deep.RegionLaw
namespace Go.Proofs.YtehhmgbgkemidaaDoor
open Go.RowKit
attribute [local go_sem ↓] Go.wp_at_zero Go.wp_at_succ

/-- What the search found so far. -/
structure Found (hx hy st : Int) (xs : List Stop) (B : List Int) (way : Int) : Prop where
  is : 0 ≤ way → OrdOk B xs.length ∧ B.length = xs.length ∧ drvM hx hy st xs B = some way
  neg : way = -1 ∨ 0 ≤ way
def SeekPost (w0 w : World) (v : Nat) (hx hy st : Int) (xs : List Stop) (a : Option Addr) (c : Nat) (P : List Int) (gi : Nat) (way : Int) (e : Ending) (w' : World) : Prop :=
  ∃ os bs B way', e = .returned (.tuple #[]) ∧ SeekAt w0 w' v hx hy st a xs.length c P os gi bs B way' ∧ Found hx hy st xs B way' ∧ Less way way' ∧ Beats hx hy st xs P way' ∧ KeepT w w'
theorem SeekPost.full {w0 w w3 w5 : World} {v : Nat} {hx hy st : Int} {xs : List Stop} {a : Option Addr} {c gi : Nat} {P B : List Int} {os bs : Value} {way x y now dw f : Int} {ba : Option Addr} {bc : Nat} (HS : SeekAt w0 w3 v hx hy st a xs.length c P os gi bs B way) (HK : KeepT w w3) (hg : w3.grownBy w5 none) (ho : w5.ownsRow w3.heap.size 3 1 (.slice ba P.length bc) P.length (ints P)) (hO : OrdOk P xs.length) (hl : P.length = xs.length) (hr : runP xs P ⟨hx, hy, st, 0⟩ = some ⟨x, y, now, dw⟩) (he : endW hx hy ⟨x, y, now, dw⟩ = dw + f) (h0 : 0 ≤ dw + f) (hn : way = -1 ∨ dw + f < way) :
    SeekPost w0 w v hx hy st xs a c P gi way (.returned (.tuple #[])) ((w5.setCell ⟨v, 6, none⟩ (.slice ba P.length bc)).setCell ⟨v, 7, none⟩ (.int .i64 (dw + f))) := by
  have HS5 := HS.keep0 hg
  have hsz := HS.gr.size
  have gs : w5.grownBy ((w5.setCell ⟨v, 6, none⟩ (.slice ba P.length bc)).setCell ⟨v, 7, none⟩ (.int .i64 (dw + f))) (some v) := gr_set (q := ⟨v, 7, none⟩) (gr_set (q := ⟨v, 6, none⟩) (gr_refl w5 (some v)) rfl _) rfl _
  refine ⟨os, _, P, dw + f, rfl, HS5.full (own_base ho hsz) (fun g e1 e2 => ?_), ⟨fun _ => ⟨hO, hl, ?_⟩, .inr h0⟩, fun h => ?_, ?_, (HK.trans (KeepT.none hg)).trans (KeepT.blk HS5.blk (.inr rfl) gs)⟩
  · have h1 := (ho.lt g e1).1
    have h2 := (HS.ord.lt g e2).2
    omega
  · unfold drvM
    rw [hr, Option.map_some, he]
  · rcases hn with h | h <;> omega
  · have := beats_full hr (by rw [he]; exact h0)
    rwa [he] at this
/-- A stop is marked. -/
theorem SeekAt.mark {w0 w : World} {v : Nat} {hx hy st : Int} {a : Option Addr} {n c : Nat} {P : List Int} {os : Value} {gi : Nat} {bs : Value} {B : List Int} {way : Int} (h : SeekAt w0 w v hx hy st a n c P os gi bs B way) {k : Nat} (hk : k < n) :
    w.cell? ⟨gi, k, none⟩ = some (.bool (decide ((k : Int) ∈ P))) ∧ w.frozen? ⟨gi, k, none⟩ = false ∧ (w.setCell ⟨gi, k, none⟩ (.bool true)).heap[v]? = some (.cells #[.int .i64 hx, .int .i64 hy, .slice a n c, .int .i64 st, os, .slice (some ⟨gi, 0, none⟩) n n, bs, .int .i64 way] 65 (0, 0)) ∧ (w.setCell ⟨gi, k, none⟩ (.bool true)).ownsRow w0.heap.size 3 1 os P.length (ints P) ∧ (∃ Bs, (w.setCell ⟨gi, k, none⟩ (.bool true)).ownsRow w0.heap.size 4 1 (.slice (some ⟨gi, 0, none⟩) n n) n (bools Bs)) ∧ KeepT w (w.setCell ⟨gi, k, none⟩ (.bool true)) := by
  obtain ⟨Bs, h1, h2⟩ := h.ins
  have gA : w.grownBy (w.setCell ⟨gi, k, none⟩ (.bool true)) (some gi) := gr_set (q := ⟨gi, k, none⟩) (gr_refl w (some gi)) rfl _
  have hgi6 : ∃ cs, w.heap[gi]? = some (.cells cs 4 (0, 0)) := by
    rcases h1.2 with ⟨hh, _⟩ | ⟨g3, cp, cur, hv3, _, hh3, _⟩
    · cases hh
    · cases hv3; exact ⟨_, hh3⟩
  obtain ⟨csb, hcsb⟩ := hgi6
  obtain ⟨c1, c2, c3⟩ := own_bool h1 k hk
  rw [h2 k hk] at c1
  exact ⟨c1, c2, (gA.block v (lt_of_block h.blk) (by simpa using fun e => h.vgi e.symm)).trans h.blk, own_keep h.ord gA (.inr (own_ne h.ord hcsb (by decide))), ⟨_, c3 true⟩, KeepT.blk hcsb (.inl rfl) gA⟩
theorem SeekAt.back {w0 w w8 : World} {v : Nat} {hx hy st : Int} {a : Option Addr} {n c : Nat} {P : List Int} {gi : Nat} {bs : Value} {B : List Int} {way : Int} {k g cc : Nat} (h : SeekAt w0 w v hx hy st a n c (P ++ [(k : Int)]) (.slice (some ⟨g, 0, none⟩) (P.length + 1) cc) gi bs B way) (hk : k < n) (hw8 : w8 = (w.setCell ⟨v, 4, none⟩ (.slice (some ⟨g, 0, none⟩) P.length cc)).drew) :
    w8.heap[v]? = some (.cells #[.int .i64 hx, .int .i64 hy, .slice a n c, .int .i64 st, .slice (some ⟨g, 0, none⟩) P.length cc, .slice (some ⟨gi, 0, none⟩) n n, bs, .int .i64 way] 65 (0, 0)) ∧ ∃ bb, w8.cell? ⟨gi, k, none⟩ = some (.bool bb) ∧ w8.frozen? ⟨gi, k, none⟩ = false := by
  obtain ⟨Bs, h1, h2⟩ := h.ins
  have gs : w.grownBy w8 (some v) := by rw [hw8]; exact gr_drew (gr_set (q := ⟨v, 4, none⟩) (gr_refl w (some v)) rfl _)
  have hi8 := own_keep h1 gs (.inr (own_ne h1 h.blk (by decide)))
  obtain ⟨c1, c2, _⟩ := own_bool hi8 k hk
  exact ⟨by rw [hw8]; exact heap_setCell_same w v 4 _ _ (.slice (some ⟨g, 0, none⟩) P.length cc) h.blk, _, c1, c2⟩
set_option maxRecDepth 100000 in
set_option maxHeartbeats 16000000 in
theorem seek_any (w0 : World) (v : Nat) (hx hy st : Int) (xs : List Stop) (a : Option Addr) (c gi : Nat) (hc : CellsAt w0 a (flat encStop xs)) (hl : xs.length ≤ 8) (ht : TripOk hx hy st xs) :
    ∀ (m : Nat) (w : World) (P : List Int) (os bs : Value) (B : List Int) (way x y now dw : Int), xs.length - P.length = m → OrdOk P xs.length → runP xs P ⟨hx, hy, st, 0⟩ = some ⟨x, y, now, dw⟩ → SeekAt w0 w v hx hy st a xs.length c P os gi bs B way → Found hx hy st xs B way →
      Calls Tryd.prog 24 #[.pointer (some ⟨v, 0, none⟩), .agg #[.int .i64 x, .int .i64 y], .int .i64 now, .int .i64 dw] w (SeekPost w0 w v hx hy st xs a c P gi way) := by
  intro m
  induction m using Nat.strongRecOn with
  | ind m ih =>
  intro w P os bs B way x y now dw hm hO hrun hS hF
  have hol := nodup_full _ _ hO
  have hpos := ht.start.run ht.all P _ _ 0 hO.rng hrun
  rw [Nat.zero_add] at hpos
  have IH := Lib.hid ih
  have HM := Lib.hid hm
  have HO := Lib.hid hO
  have HRUN := Lib.hid hrun
  have HF := Lib.hid hF
  have HTO := Lib.hid ht
  have HC := Lib.hid hc
  have HPOS := Lib.hid hpos
  obtain ⟨p1, p2, p3, p4, p5, p6, p7, p8⟩ := hpos
  simp only at p1 p2 p3 p4 p5 p6 p7 p8
  have hwb : way = -1 ∨ 0 ≤ way := hF.neg
  have g1 := gr_alloc (gr_refl w none) (.cells #[.int .i64 x, .int .i64 y] 29)
  have b1 := heap_alloc_new w (.cells #[.int .i64 x, .int .i64 y] 29)
  obtain ⟨w1, hw1⟩ : ∃ w1, w1 = w.alloc (.cells #[.int .i64 x, .int .i64 y] 29) := ⟨_, rfl⟩
  obtain ⟨A, hA⟩ : ∃ A, A = w.heap.size := ⟨_, rfl⟩
  rw [← hw1] at g1 b1
  rw [← hA] at b1
  have HS1 := Lib.hid (hS.keep0 g1)
  have HK1 := Lib.hid (KeepT.none g1)
  have HB1 := Lib.hid b1
  have HW1 := Lib.hid hw1
  have HA := Lib.hid hA
  have hfh := farI_bd p1 p2 p3 p4 ht.hx0 ht.hx1 ht.hy0 ht.hy1
  have FH : Hid (∀ W, w1.grownBy W none → Calls Tryd.prog 25 #[.agg #[.int .i64 x, .int .i64 y], .agg #[.int .i64 hx, .int .i64 hy]] W fun e w' => e = .returned (.int .i64 (farI x y hx hy)) ∧ W.grownBy w' none) := fun W _ => far_val x y hx hy W ⟨p1, p2⟩ ⟨p3, p4⟩ ⟨ht.hx0, ht.hx1⟩ ⟨ht.hy0, ht.hy1⟩
  have hew : endW hx hy ⟨x, y, now, dw⟩ = dw + farI x y hx hy := rfl
  obtain ⟨f, hf⟩ : ∃ f, f = farI x y hx hy := ⟨_, rfl⟩
  rw [← hf] at FH hfh hew
  have HEW := Lib.hid hew
  obtain ⟨k0, k1, k2, k3, k4, k5, k6, k7⟩ := blk8 HS1.out.blk
  clear ih hm hO hrun hS hF ht hc g1 b1 hw1 hA hf hew
  go_enter Tryd.func24, Tryd.ntmps24
  go_upto_region 1 with (fail)
  rw [← HW1.out, ← HA.out]
  clear HW1 HA
  have hpl8 : P.length ≤ 8 := by omega
  have hwf : IntKind.i64.wrap (dw + f) = dw + f := IntWalk.i64_in _ (by omega)
  go_cut [32] (fun s wx => ∃ b : Bool, s = .bool b ∧ (b = true → 0 ≤ way ∧ way ≤ dw + f) ∧ (b = false → way = -1 ∨ dw + f < way) ∧ w1.grownBy wx none)
  case first =>
    have q0 := grew_cell k0
    have q1 := grew_cell k1
    have q7 := grew_cell k7
    have a0 := grew_cell (blkC (v := .int .i64 x) HB1.out 0 rfl)
    have a1 := grew_cell (blkC (v := .int .i64 y) HB1.out 1 rfl)
    clear k0 k1 k2 k3 k4 k5 k6 k7
    rcases hwb with hn | hn
    · have hd0 : decide (0 ≤ way) = false := decide_eq_false (by omega)
      have hn2 : ¬ 0 ≤ way := by omega
      have HN := Lib.hid hn
      clear hn
      refine wp_region_grew (by kernel_rfl) (by kernel_rfl) ?_
      repeat (go_big_quiet_step (fail))
      refine wpQuiet_nil ?_
      rintro wq ⟨nn, rfl⟩
      have gq := nn.gr
      go_wp2_with (fail)
      go_meet
      exact ⟨false, rfl, (fun e => by cases e), (fun _ => .inl HN.out), gq⟩
    · have hd0 : decide (0 ≤ way) = true := decide_eq_true hn
      by_cases hc1 : way ≤ dw + f
      · have hd1 : decide (way ≤ dw + f) = true := decide_eq_true hc1
        refine wp_region_grew (by kernel_rfl) (by kernel_rfl) ?_
        repeat (go_big_quiet_step (first | (go_at_call 25; exact Calls.grew_of (fun W g => FH.out W g))))
        refine wpQuiet_nil ?_
        rintro wq ⟨nn, rfl⟩
        have gq := nn.gr
        go_wp2_with (fail)
        go_meet
        exact ⟨true, rfl, (fun _ => ⟨hn, hc1⟩), (fun e => by cases e), gq⟩
      · have hd1 : decide (way ≤ dw + f) = false := decide_eq_false hc1
        refine wp_region_grew (by kernel_rfl) (by kernel_rfl) ?_
        repeat (go_big_quiet_step (first | (go_at_call 25; exact Calls.grew_of (fun W g => FH.out W g))))
        refine wpQuiet_nil ?_
        rintro wq ⟨nn, rfl⟩
        have gq := nn.gr
        go_wp2_with (fail)
        go_meet
        exact ⟨false, rfl, (fun e => by cases e), (fun _ => .inr (by omega)), gq⟩
  case rest =>
  obtain ⟨b, rfl, hb1, hb2, g2⟩ := hcut
  obtain ⟨w2, rfl⟩ : ∃ w2 : World, w2 = wc := ⟨_, rfl⟩
  have HS2 := Lib.hid (HS1.out.keep0 g2)
  have HK2 := Lib.hid (HK1.out.trans (KeepT.none g2))
  have hB2 := (g2.block A (lt_of_block HB1.out) (by simp)).trans HB1.out
  have HB2 := Lib.hid hB2
  have FH2 : Hid (∀ W, w2.grownBy W none → Calls Tryd.prog 25 #[.agg #[.int .i64 x, .int .i64 y], .agg #[.int .i64 hx, .int .i64 hy]] W fun e w' => e = .returned (.int .i64 f) ∧ W.grownBy w' none) := fun W g => FH.out W (gr_trans g2 g)
  have HBT := Lib.hid hb1
  have HBF := Lib.hid hb2
  clear k0 k1 k2 k3 k4 k5 k6 k7 g2 hB2 HS1 HK1 HB1 FH hb1 hb2
  cases b with
  | true =>
    go_wp2_with (fail)
    first | go_end0 | ((try simp only [Exit.inBlock, Exit.then]); refine bodyPost_ret (results_none rfl _ _ _) rfl ?_)
    exact ⟨os, bs, B, way, rfl, HS2.out, HF.out, Less.refl _, beats_cut HRUN.out (HBT.out trivial).1 (by rw [HEW.out]; exact (HBT.out trivial).2), HK2.out⟩
  | false =>
    have hnb := HBF.out rfl
    have HNB := Lib.hid hnb
    clear hnb HBT HBF hwb
    obtain ⟨oa, oc, rfl, -, -, hoc, hon⟩ := own_shape HS2.out.ord
    obtain ⟨k0, k1, k2, k3, k4, k5, k6, k7⟩ := blk8 HS2.out.blk
    by_cases hpn : P.length = xs.length
    · have hpe : (P.length == xs.length) = true := by simpa using hpn
      have HPN := Lib.hid hpn
      clear hpn
      go_upto_region 2 with (fail)
      go_quiet (fail)
      obtain ⟨w3, hw3⟩ : ∃ w3, w3 = w2.drewN nq := ⟨_, rfl⟩
      have g3 : w2.grownBy w3 none := by rw [hw3]; exact gr_drewN (gr_refl _ _) _
      rw [← hw3]
      have HS3 := Lib.hid (HS2.out.keep0 g3)
      have HK3 := Lib.hid (HK2.out.trans (KeepT.none g3))
      have hB3 := (g3.block A (lt_of_block HB2.out) (by simp)).trans HB2.out
      have hv3 := lt_of_block HS3.out.blk
      have hA3 := lt_of_block hB3
      have hoc3 := hoc.keep0 g3
      have CL : Hid (∀ W, w3.grownBy W none → Calls Tryd.prog 16 #[.slice oa P.length oc] W fun e w' => ∃ ba bc, e = .returned (.slice ba P.length bc) ∧ w'.ownsRow w3.heap.size 3 1 (.slice ba P.length bc) P.length (ints P) ∧ W.grownBy w' none ∧ w3.grownBy w' none) := fun W g => by
        refine (cloneInt_any oa P.length oc (ints P) W (by simp [ints]) (hoc3.keep0 g) (own_nil HS3.out.ord) (ints_one P) (by omega)).mono ?_
        rintro e w' ⟨v', rfl, ho, g'⟩
        obtain ⟨ba, bc, rfl, -, -, -, -⟩ := own_shape ho
        exact ⟨ba, bc, rfl, own_base ho g.size, g', gr_trans g g'⟩
      have FR : Hid (∀ W, w3.grownBy W none → Calls Tryd.prog 25 #[.agg #[.int .i64 x, .int .i64 y], .agg #[.int .i64 hx, .int .i64 hy]] W fun e w' => e = .returned (.int .i64 f) ∧ W.grownBy w' none ∧ w3.grownBy w' none) := fun W g => (FH2.out W (gr_trans g3 g)).mono fun e w' h => ⟨h.1, h.2, gr_trans g h.2⟩
      obtain ⟨k0, k1, k2, k3, k4, k5, k6, k7⟩ := blk8 HS3.out.blk
      have f6 := blkF HS3.out.blk 6
      have f7 := blkF HS3.out.blk 7
      have a0 : w3.cell? ⟨A, 0, none⟩ = some (.int .i64 x) := blkC hB3 0 rfl
      have a1 : w3.cell? ⟨A, 1, none⟩ = some (.int .i64 y) := blkC hB3 1 rfl
      clear hw3 g3 hB3 hoc hoc3 HS2 HK2 HB2 FH2 hon
      go_wp2_with (fail)
      go_region_law (first
        | (go_simp; go_at_call 16; (with_reducible refine (CL.out _ ?_).mono ?_); (· first | exact gr_drew (gr_refl _ _) | exact hg35 | exact gr_drew hg35); rintro e w4 ⟨ba, bc, rfl, hown, hg4, hg34⟩; have l0 := (gr_cell hg34 hv3).trans k0; have l1 := (gr_cell hg34 hv3).trans k1; have l6 := (gr_cell hg34 hv3).trans k6; have l7 := (gr_cell hg34 hv3).trans k7; have c0 := (gr_cell hg34 hA3).trans a0; have c1 := (gr_cell hg34 hA3).trans a1; have z6 := (gr_free hg34 hv3).trans f6; have z7 := (gr_free hg34 hv3).trans f7)
        | (go_simp; go_at_call 25; (with_reducible refine (FR.out _ ?_).mono ?_); (· first | exact gr_drew (gr_refl _ _) | exact hg34 | exact gr_drew hg34); rintro e w5 ⟨rfl, hg5, hg35⟩; have m4 := (gr_cell hg35 hv3).trans k4; have m6 := (gr_cell hg35 hv3).trans k6; have m7 := (gr_cell hg35 hv3).trans k7; have y6 := (gr_free hg35 hv3).trans f6; have y7 := (gr_free hg35 hv3).trans f7; (try (have hown := own_keep0 hown hg5)))
        | fail)
      all_goals (try go_simp)
      all_goals (go_wp2_with (fail))
      all_goals first | go_end0 | ((try simp only [Exit.inBlock, Exit.then]); refine bodyPost_ret (results_none rfl _ _ _) rfl ?_)
      all_goals exact SeekPost.full HS3.out HK3.out hg35 hown HO.out HPN.out HRUN.out HEW.out (by omega) HNB.out
    · have hpe : (P.length == xs.length) = false := by simpa using hpn
      have hpl : P.length < xs.length := by omega
      go_upto_region 2 with (fail)
      go_cut [44] (fun s wx => s = .bool false ∧ w2.grownBy wx none)
      case first =>
        go_quiet (fail)
        go_wp2_with (fail)
        go_meet
        exact ⟨congrArg Value.bool (by rw [beq_eq_false_iff_ne]; omega), gr_drewN (gr_refl _ _) _⟩
      case rest =>
      obtain ⟨rfl, g3⟩ := hcut
      obtain ⟨w3, rfl⟩ : ∃ w3 : World, w3 = wc := ⟨_, rfl⟩
      have HS3 := Lib.hid (HS2.out.keep0 g3)
      have HK3 := Lib.hid (HK2.out.trans (KeepT.none g3))
      have HB3 := Lib.hid ((g3.block A (lt_of_block HB2.out) (by simp)).trans HB2.out)
      obtain ⟨k0, k1, k2, k3, k4, k5, k6, k7⟩ := blk8 HS3.out.blk
      clear g3 hoc HS2 HK2 HB2 FH2 hon hpn hpe
      go_wp2_with (fail)
      clear k0 k1 k2 k3 k4 k5 k6 k7
      go_loopw [71] (fun i wr => ∃ (k : Nat) (os' bs' : Value) (B' : List Int) (way' : Int), k ≤ xs.length ∧ i = .int .i64 k ∧ SeekAt w0 wr v hx hy st a xs.length c P os' gi bs' B' way' ∧ Found hx hy st xs B' way' ∧ Less way way' ∧ (∀ j : Nat, j < k → Beats hx hy st xs (P ++ [(j : Int)]) way') ∧ KeepT w3 wr) (fun i _ => xs.length - (intOf i).toNat)
      case atStart => exact ⟨0, _, _, B, way, Nat.zero_le _, rfl, HS3.out, HF.out, Less.refl _, (fun j hj => absurd hj (Nat.not_lt_zero j)), KeepT.refl _⟩
      case round =>
        obtain ⟨k, os', bs', B', way', hk, rfl, hS', hF', hL', hBt', hK'⟩ := hrel
        obtain ⟨wi, rfl⟩ : ∃ wi : World, wi = wr := ⟨_, rfl⟩
        have HSI := Lib.hid hS'
        have HFI := Lib.hid hF'
        have HLI := Lib.hid hL'
        have HBI := Lib.hid hBt'
        have HKI := Lib.hid hK'
        clear hS' hF' hL' hBt' hK'
        by_cases hlt : k < xs.length
        · obtain ⟨b, off, rfl, d0, d1, d2, d3, d4, d5⟩ := stop_cells (HC.out.keep0 HSI.out.gr) k hlt
          have HSO := Lib.hid (HTO.out.all _ (List.getElem_mem hlt))
          obtain ⟨r1, r2, r3, r4, r5, r6, r7, r8, r9⟩ := HTO.out.all _ (List.getElem_mem hlt)
          have hf2 := farI_bd p1 p2 p3 p4 r1 r2 r3 r4
          have hsn := stopN_at xs k hlt
          obtain ⟨s, hs⟩ : ∃ s, s = xs[k] := ⟨_, rfl⟩
          rw [← hs] at d0 d1 d2 d3 d4 d5 r1 r2 r3 r4 r5 r6 r7 r8 r9 hf2 hsn HSO
          obtain ⟨u, hu⟩ : ∃ u, u = farI x y s.x s.y := ⟨_, rfl⟩
          rw [← hu] at hf2
          obtain ⟨bg, hbg⟩ : ∃ bg, bg = max (now + u) s.fr := ⟨_, rfl⟩
          have SL : Hid (s.tt < bg → stepP s ⟨x, y, now, dw⟩ = none) := fun h => by
            unfold stepP
            simp only
            rw [← hu, if_pos (by omega)]
          have SG : Hid (bg ≤ s.tt → stepP s ⟨x, y, now, dw⟩ = some ⟨s.x, s.y, bg + s.lo, dw + u⟩) := fun h => by
            unfold stepP
            simp only
            rw [← hu, if_neg (by omega), hbg]
          have SN := Lib.hid hsn
          have FU : Hid (∀ W, Calls Tryd.prog 25 #[.agg #[.int .i64 x, .int .i64 y], .agg #[.int .i64 s.x, .int .i64 s.y]] W fun e w' => e = .returned (.int .i64 u) ∧ W.grownBy w' none) := fun W => by show _; rw [hu]; exact far_val x y s.x s.y W ⟨p1, p2⟩ ⟨p3, p4⟩ ⟨r1, r2⟩ ⟨r3, r4⟩
          have hwr : IntKind.i64.wrap (now + u) = now + u := IntWalk.i64_in _ (by omega)
          have hwr2 : IntKind.i64.wrap (bg + s.lo) = bg + s.lo := IntWalk.i64_in _ (by omega)
          have hwr3 : IntKind.i64.wrap (dw + u) = dw + u := IntWalk.i64_in _ (by omega)
          have HBG := Lib.hid hbg
          have gX := gr_alloc (gr_refl wi none) (.cells #[.string s.key, .int .i64 s.x, .int .i64 s.y, .int .i64 s.fr, .int .i64 s.tt, .int .i64 s.lo] 52)
          have bX := heap_alloc_new wi (.cells #[.string s.key, .int .i64 s.x, .int .i64 s.y, .int .i64 s.fr, .int .i64 s.tt, .int .i64 s.lo] 52)
          obtain ⟨w5, hw5⟩ : ∃ w5, w5 = wi.alloc (.cells #[.string s.key, .int .i64 s.x, .int .i64 s.y, .int .i64 s.fr, .int .i64 s.tt, .int .i64 s.lo] 52) := ⟨_, rfl⟩
          obtain ⟨X, hX⟩ : ∃ X, X = wi.heap.size := ⟨_, rfl⟩
          rw [← hw5] at gX bX
          rw [← hX] at bX
          have hA5 := KeepT.trans HKI.out (KeepT.none gX) A _ _ HB3.out (by decide) (by decide) (by decide)
          have a0 : w5.cell? ⟨A, 0, none⟩ = some (.int .i64 x) := blkC hA5 0 rfl
          have a1 : w5.cell? ⟨A, 1, none⟩ = some (.int .i64 y) := blkC hA5 1 rfl
          have x1 : w5.cell? ⟨X, 1, none⟩ = some (.int .i64 s.x) := blkC bX 1 rfl
          have x2 : w5.cell? ⟨X, 2, none⟩ = some (.int .i64 s.y) := blkC bX 2 rfl
          have HX5 := Lib.hid bX
          have HS5 := Lib.hid (HSI.out.keep0 gX)
          have HK5 := Lib.hid (HKI.out.trans (KeepT.none gX))
          have HW5 := Lib.hid hw5
          have HXX := Lib.hid hX
          clear hs hu hbg hsn gX bX hw5 hX hA5
          go_upto_region 7 with (fail)
          rw [← HW5.out, ← HXX.out]
          clear d0 d1 d2 d3 d4 d5 HW5 HXX
          go_wp2_with (fail)
          refine (FU.out w5).mono ?_
          rintro e w6 ⟨rfl, g6⟩
          have HX6 := Lib.hid ((g6.block X (lt_of_block HX5.out) (by simp)).trans HX5.out)
          have HS6 := Lib.hid (HS5.out.keep0 g6)
          have HK6 := Lib.hid (HK5.out.trans (KeepT.none g6))
          clear g6 a0 a1 x1 x2 HX5 HS5 HK5 HSI HKI
          have x3 : w6.cell? ⟨X, 3, none⟩ = some (.int .i64 s.fr) := blkC HX6.out 3 rfl
          go_upto_region 9 with (fail)
          rw [← HBG.out]
          clear x3
          go_cut [98] (fun s' wx => ∃ b : Bool, s' = .bool b ∧ (b = true → Beats hx hy st xs (P ++ [(k : Int)]) way') ∧ (b = false → (k : Int) ∉ P ∧ bg ≤ s.tt) ∧ w6.grownBy wx none)
          case first =>
            have x4 : w6.cell? ⟨X, 4, none⟩ = some (.int .i64 s.tt) := blkC HX6.out 4 rfl
            obtain ⟨l0, l1, l2, l3, l4, l5, l6, l7⟩ := blk8 HS6.out.blk
            have qi := (HS6.out.mark hlt).1
            by_cases hin : (k : Int) ∈ P
            · have hd : decide ((k : Int) ∈ P) = true := decide_eq_true hin
              rw [hd] at qi
              have HIN := Lib.hid hin
              clear hd hin
              go_wp2_with (fail)
              go_meet
              exact ⟨true, rfl, (fun _ => beats_in HIN.out), (fun e => by cases e), gr_refl _ _⟩
            · have hd : decide ((k : Int) ∈ P) = false := decide_eq_false hin
              rw [hd] at qi
              have HIN := Lib.hid hin
              clear hd hin
              by_cases htt : s.tt < bg
              · have hd1 : decide (s.tt < bg) = true := decide_eq_true htt
                go_wp2_with (fail)
                go_meet
                exact ⟨true, rfl, (fun _ => beats_late HRUN.out (by rw [SN.out]; exact SL.out htt)), (fun e => by cases e), gr_refl _ _⟩
              · have hd1 : decide (s.tt < bg) = false := decide_eq_false htt
                go_wp2_with (fail)
                go_meet
                exact ⟨false, rfl, (fun e => by cases e), (fun _ => ⟨HIN.out, by omega⟩), gr_refl _ _⟩
          case rest =>
          obtain ⟨b', rfl, hb1, hb2, g7⟩ := hcut
          obtain ⟨w7, rfl⟩ : ∃ w7 : World, w7 = wc := ⟨_, rfl⟩
          have HX7 := Lib.hid ((g7.block X (lt_of_block HX6.out) (by simp)).trans HX6.out)
          have HS7 := Lib.hid (HS6.out.keep0 g7)
          have HK7 := Lib.hid (HK6.out.trans (KeepT.none g7))
          have HB1 := Lib.hid hb1
          have HB2 := Lib.hid hb2
          clear hb1 hb2 g7 HX6 HS6 HK6
          cases b' with
          | true =>
            go_wp2_with (fail)
            go_roundw
            case rel =>
              have hbe : ∀ j : Nat, j < k + 1 → Beats hx hy st xs (P ++ [(j : Int)]) way' := fun j hj => by
                rcases Nat.lt_or_ge j k with h | h
                · exact HBI.out j h
                · obtain rfl : j = k := by omega
                  exact HB1.out rfl
              exact ⟨k + 1, os', bs', B', way', by omega, by go_num, HS7.out, HFI.out, HLI.out, hbe, HK7.out⟩
            case measure => simp [intOf]; omega
          | false =>
            have HNI := Lib.hid (HB2.out rfl).1
            have HNT := Lib.hid (HB2.out rfl).2
            clear HB1 HB2
            obtain ⟨oa', oc', rfl, -, -, -, -⟩ := own_shape HS7.out.ord
            obtain ⟨k0, k1, k2, k3, k4, k5, k6, k7⟩ := blk8 HS7.out.blk
            obtain ⟨m1, m2, m3, m4, m5, m6⟩ := HS7.out.mark hlt
            have hgil := lt_of_cell m1
            obtain ⟨wA, hwA⟩ : ∃ wA, wA = w7.setCell ⟨gi, k, none⟩ (.bool true) := ⟨_, rfl⟩
            rw [← hwA] at m3 m4 m5 m6
            have HWA := Lib.hid hwA
            have HM4 := Lib.hid m4
            have HXA := Lib.hid (m6 X _ _ HX7.out (by decide) (by decide) (by decide))
            obtain ⟨n0, n1, n2, n3, n4, n5, n6, n7⟩ := blk8 m3
            have f4 := blkF m3 4
            have HM3 := Lib.hid m3
            have hvA := lt_of_block m3
            have hszA : w0.heap.size ≤ wA.heap.size := by
              have := HS7.out.gr.size
              rw [hwA]
              simpa using this
            clear m3 m4 m5 m6 hwA
            go_upto_region 11 with (fail)
            rw [← HWA.out]
            clear k0 k1 k2 k3 k4 k5 k6 k7 m1 m2
            go_wp2_with (at_builtin; refine wpList_app1F eInt rfl _ _ rfl w0.heap.size _ P.length (ints P) rfl wA #[.int .i64 k] rfl HM4.out _ rfl rfl rfl rfl ?_ ?_ ?_; (· omega); (· omega); intro v8 w8 o8 g8 hl8 fr8; have hv8 := (g8.block v hvA (fun e => own_ne HM4.out HM3.out (by decide) e.symm)).trans HM3.out; have z4 := blkF hv8 4; obtain ⟨q0, q1, q2, q3, q4, q5, q6, q7⟩ := blk8 hv8; have hv8l := lt_of_block hv8; obtain ⟨g9, c9, rfl, -, -, -, -⟩ := own_some o8 (by omega); have HGB := Lib.hid (HS7.out.push hlt o8 (by rw [← HWA.out]; exact g8) (by rw [← HWA.out]; exact fr8)); clear hv8; have hX9 := HGB.out.2 X _ _ HX7.out (by decide) (by decide) (by decide); have xx1 := blkC (v := .int .i64 s.x) hX9 1 rfl; have xx2 := blkC (v := .int .i64 s.y) hX9 2 rfl; have xx5 := blkC (v := .int .i64 s.lo) hX9 5 rfl; clear hX9)
            refine (IH.out (xs.length - (P.length + 1)) (by have := HM.out; omega) _ (P ++ [(k : Int)]) (.slice (some ⟨g9, 0, none⟩) (P.length + 1) c9) bs' B' way' s.x s.y (bg + s.lo) (dw + u) (by rw [List.length_append, List.length_singleton]) (HO.out.snoc ⟨by omega, by omega⟩ HNI.out) (by rw [runP_snoc, HRUN.out, Option.bind_some, SN.out]; exact SG.out HNT.out) HGB.out.1 HFI.out).mono ?_
            rintro e w10 ⟨os2, bs2, B2, way2, rfl, hS10, hF10, hL10, hB10, hK10⟩
            have ho10 := hS10.ord
            rw [List.length_append, List.length_singleton] at ho10
            obtain ⟨g10, c10, he10, hq1, hq2, hc10, hm10⟩ := own_some ho10 (by omega)
            subst he10
            have HS10 := Lib.hid hS10
            have HF10 := Lib.hid hF10
            have HL10 := Lib.hid hL10
            have HB10 := Lib.hid hB10
            have HK10 := Lib.hid (((HK7.out.trans HGB.out.2)).trans hK10)
            obtain ⟨k0, k1, k2, k3, k4, k5, k6, k7⟩ := blk8 hS10.blk
            have f4' := blkF hS10.blk 4
            clear hS10 hF10 hL10 hB10 hK10 ho10 xx1 xx2 xx5
            have hwm : IntKind.i64.wrap (((P.length + 1 : Nat) : Int) - 1) = (P.length : Int) := by
              rw [show ((P.length + 1 : Nat) : Int) - 1 = (P.length : Int) by omega]; exact IntWalk.i64_in _ (by omega)
            have hwm2 : IntKind.i64.wrap ((P.length : Int) + 1 - 1) = (P.length : Int) := by
              rw [show (P.length : Int) + 1 - 1 = (P.length : Int) by omega]; exact IntWalk.i64_in _ (by omega)
            have hwp : IntKind.i64.wrap (P.length : Int) = (P.length : Int) := IntWalk.i64_in _ (by omega)
            have hpc : (P.length : Int) ≤ (c10 : Int) := by omega
            have hp0 : (0 : Int) ≤ (P.length : Int) := by omega
            go_upto_region 13 with (fail)
            go_cut [] (fun wx => wx = (w10.setCell ⟨v, 4, none⟩ (.slice (some ⟨g10, 0, none⟩) P.length c10)).drew)
            case first =>
              go_region
              all_goals (go_wp2_with (fail); go_meet; rfl)
            case rest =>
            obtain ⟨wB, hwB⟩ : ∃ wB, wB = (w10.setCell ⟨v, 4, none⟩ (.slice (some ⟨g10, 0, none⟩) P.length c10)).drew := ⟨_, rfl⟩
            rw [← hwB] at hcut
            subst hcut
            obtain ⟨hvB, bb, mB1, mB2⟩ := HS10.out.back hlt hwB
            have HWB := Lib.hid hwB
            obtain ⟨y0, y1, y2, y3, y4, y5, y6, y7⟩ := blk8 hvB
            clear hwB hvB k0 k1 k2 k3 k4 k5 k6 k7
            go_wp2_with (fail)
            go_roundw
            case rel =>
              have hbe : ∀ j : Nat, j < k + 1 → Beats hx hy st xs (P ++ [(j : Int)]) way2 := fun j hj => by
                rcases Nat.lt_or_ge j k with h | h
                · exact (HBI.out j h).less HL10.out
                · obtain rfl : j = k := by omega
                  exact HB10.out
              have hpp := HS10.out.pop hlt HNI.out
              rw [← HWB.out] at hpp
              exact ⟨k + 1, _, bs2, B2, way2, by omega, by go_num, hpp.1, HF10.out, HLI.out.trans HL10.out, hbe, HK10.out.trans hpp.2⟩
            case measure => simp [intOf]; omega
        · obtain rfl : k = xs.length := by omega
          go_wp2_with (fail)
          first | go_end0 | ((try simp only [Exit.inBlock, Exit.then]); refine bodyPost_ret (results_none rfl _ _ _) rfl ?_)
          exact ⟨_, bs', B', way', rfl, HSI.out, HFI.out, HLI.out, beats_all hpl HBI.out, HK3.out.trans HKI.out⟩
end Go.Proofs.YtehhmgbgkemidaaDoor

/-! round.Best: the shortest of all routes of all stops, or that there is none. -/
namespace Go.Proofs.YtehhmgbgkemidaaDoor
open Go.RowKit

theorem bools_mk0 {w : World} {g base n : Nat} (h : w.heap[g]? = some (.cells (madeCells #[Value.bool false] n) 4 (0, 0))) (hb : base ≤ g) (hn : n ≤ 1000) : w.ownsRow base 4 1 (.slice (some ⟨g, 0, none⟩) n n) n (bools (List.replicate n false)) := by
  have e1 : (madeCells #[Value.bool false] n).toList = bools (List.replicate n false) := by
    rw [toList_madeCells_one]; simp [bools]
  have e2 : (madeCells #[Value.bool false] n).size = n := by rw [← Array.length_toList, e1]; simp [bools]
  refine ⟨by simp [bools], .inr ⟨g, n, _, rfl, hb, h, Nat.le_refl _, by unfold maxLen; omega, by omega, ?_⟩⟩
  rw [e1, List.take_of_length_le (by simp [bools])]
/-- The best route, or that no route of all stops is driven. -/
def BestPost (hx hy st : Int) (xs : List Stop) (w : World) (e : Ending) (w' : World) : Prop :=
  ∃ (v : Value) (B : List Int) (way r : Int), e = .returned (.tuple #[v, .int .i64 way, .int .i64 r]) ∧ w'.ownsRow w.heap.size 3 1 v B.length (ints B) ∧ OrdOk B xs.length ∧ w.grownBy w' none ∧
    ((r = 0 ∧ B.length = xs.length ∧ drvM hx hy st xs B = some way ∧ 0 ≤ way ∧ ∀ R u, Comp xs R → drvM hx hy st xs R = some u → way ≤ u) ∨ (r = 8 ∧ ∀ R u, Comp xs R → drvM hx hy st xs R ≠ some u))
set_option maxRecDepth 100000 in
set_option maxHeartbeats 4000000 in
theorem best_val (hx hy st : Int) (xs : List Stop) (a : Option Addr) (c : Nat) (w : World) (hc : CellsAt w a (flat encStop xs)) (hl : xs.length ≤ 8) (hcap : xs.length ≤ c) (hk : ∀ x ∈ xs, x.key.size ≤ 100) (hok : StopsOk xs) (ht : TripOk hx hy st xs) :
    Calls Tryd.prog 9 #[.agg #[.int .i64 hx, .int .i64 hy], .slice a xs.length c, .int .i64 st] w (BestPost hx hy st xs w) := by
  obtain ⟨b1, b2⟩ := heap_2 w (.cells #[.int .i64 hx, .int .i64 hy] 29) (.cells #[.int .i64 hx, .int .i64 hy, .slice a xs.length c, .int .i64 st] 60)
  have g1 := gr_alloc (gr_alloc (gr_refl w none) (.cells #[.int .i64 hx, .int .i64 hy] 29)) (.cells #[.int .i64 hx, .int .i64 hy, .slice a xs.length c, .int .i64 st] 60)
  obtain ⟨w1, hw1⟩ : ∃ w1, w1 = (w.alloc (.cells #[.int .i64 hx, .int .i64 hy] 29)).alloc (.cells #[.int .i64 hx, .int .i64 hy, .slice a xs.length c, .int .i64 st] 60) := ⟨_, rfl⟩
  rw [← hw1] at b1 b2 g1
  obtain ⟨H, hH⟩ : ∃ H, H = w.heap.size := ⟨_, rfl⟩
  obtain ⟨T, hT⟩ : ∃ T, T = w.heap.size + 1 := ⟨_, rfl⟩
  rw [← hH] at b1
  rw [← hT] at b2
  have TF := Lib.hid (tripFault_ok hx hy st xs a c w1 (hc.keep0 g1) (by omega) hcap hk hok ht)
  have HC := Lib.hid hc
  have HB1 := Lib.hid b1
  have HB2 := Lib.hid b2
  have HG1 := Lib.hid g1
  have HW1 := Lib.hid hw1
  have HH := Lib.hid hH
  have HT := Lib.hid hT
  have HTO := Lib.hid ht
  clear hc hk hok ht b1 b2 g1 hw1 hH hT
  go_enter Tryd.func9, Tryd.ntmps9
  go_upto_region 2 with (fail)
  rw [← HW1.out, ← HT.out, ← HH.out]
  obtain ⟨t0, t1, t2, t3⟩ := blk4 HB2.out
  go_wp2_with (fail)
  refine TF.out.mono ?_
  rintro e w2 ⟨rfl, g2⟩
  have h0 : w2.cell? ⟨H, 0, none⟩ = some (.int .i64 hx) := blkC ((g2.block H (lt_of_block HB1.out) (by simp)).trans HB1.out) 0 rfl
  have h1 : w2.cell? ⟨H, 1, none⟩ = some (.int .i64 hy) := blkC ((g2.block H (lt_of_block HB1.out) (by simp)).trans HB1.out) 1 rfl
  have hB1 := (g2.block H (lt_of_block HB1.out) (by simp)).trans HB1.out
  have HB12 := Lib.hid hB1
  have HG2 := Lib.hid (gr_trans HG1.out g2)
  obtain ⟨u0, u1, u2, u3⟩ := blk4 ((g2.block T (lt_of_block HB2.out) (by simp)).trans HB2.out)
  clear g2 hB1 t0 t1 t2 t3 TF HB1 HB2 HG1 HW1
  have RM : ∀ w' : World, (Instr.makeSlice 63 (.int .i64 (xs.length : Int)) (.int .i64 (xs.length : Int))).run Tryd.prog w' = .ok (.slice (some ⟨w'.heap.size, 0, none⟩) xs.length xs.length) (w'.alloc (.cells (madeCells #[Value.bool false] xs.length) 4)) := fun w' =>
    run_make_row' 63 4 (.bool false) 1 eBool.und eBool.info rfl .i64 .i64 xs.length (by omega) (by omega) w'
  have hTl := lt_of_cell u0
  have hd8 : decide ((8 : Int) < (xs.length : Int)) = false := decide_eq_false (by omega)
  go_upto_region 7 with (fail)
  go_cut [11] (fun s wx => ∃ v gi, s = .pointer (some ⟨v, 0, none⟩) ∧ w2.heap.size ≤ v ∧ w2.heap.size ≤ gi ∧ wx.heap[v]? = some (.cells #[.int .i64 hx, .int .i64 hy, .slice a xs.length c, .int .i64 st, .slice none 0 0, .slice (some ⟨gi, 0, none⟩) xs.length xs.length, .slice none 0 0, .int .i64 (-1)] 65 (0, 0)) ∧ wx.ownsRow w2.heap.size 4 1 (.slice (some ⟨gi, 0, none⟩) xs.length xs.length) xs.length (bools (List.replicate xs.length false)) ∧ w2.grownBy wx none)
  case first =>
    go_region
    all_goals (go_wp2_with (fail))
    all_goals (try go_simp)
    all_goals go_meet
    all_goals
      refine ⟨_, _, rfl, by omega, Nat.le_refl _, (heap_2 w2 _ _).2, ?_, gr_drew (gr_alloc (gr_alloc (gr_refl w2 none) _) _)⟩
      exact own_keep0 (bools_mk0 (heap_2 w2 _ _).1 (Nat.le_refl _) (by omega)) (gr_drew (gr_refl _ _))
  case rest =>
  obtain ⟨v, gi, rfl, hv, hgi, hb, hown, g3⟩ := hcut
  obtain ⟨w3, rfl⟩ : ∃ w3 : World, w3 = wc := ⟨_, rfl⟩
  have hG : SeekAt w2 w3 v hx hy st a xs.length c [] (.slice none 0 0) gi (.slice none 0 0) [] (-1) :=
    ⟨g3, hv, hb, World.ownsRow_nil _ _ _ _, ⟨_, hown, fun j hj => by simp [List.getD_eq_getElem?_getD, hj]⟩, World.ownsRow_nil _ _ _ _, fun g h => by simp [Value.ownBlock] at h⟩
  have SK := Lib.hid (seek_any w2 v hx hy st xs a c gi (HC.out.keep0 HG2.out) hl HTO.out xs.length w3 [] (.slice none 0 0) (.slice none 0 0) [] (-1) hx hy st 0 (by simp) ⟨(fun i hi => by cases hi), List.nodup_nil⟩ rfl hG ⟨fun h => by omega, .inl rfl⟩)
  have h03 := (gr_cell g3 (lt_of_block HB12.out)).trans h0
  have h13 := (gr_cell g3 (lt_of_block HB12.out)).trans h1
  clear hG hown hb g3 RM hTl u0 u1 u2 u3 h0 h1
  go_upto_region 8 with (fail)
  go_wp2_with (fail)
  refine SK.out.mono ?_
  rintro e w4 ⟨os, bs, B, way, rfl, hS, hF, hL, hBt, -⟩
  have HS := Lib.hid hS
  have HF := Lib.hid hF
  have HBT := Lib.hid hBt
  obtain ⟨ba, bc, rfl, -, -, -, -⟩ := own_shape hS.best
  obtain ⟨k0, k1, k2, k3, k4, k5, k6, k7⟩ := blk8 hS.blk
  clear hS hF hL hBt SK h03 h13
  have hsz := HG2.out.size
  have hgr := gr_trans HG2.out HS.out.gr
  by_cases hw : way < 0
  · have hd : decide (way < 0) = true := decide_eq_true hw
    have HWY := Lib.hid hw
    clear hw
    go_wp2_with (fail)
    go_ret3
    refine ⟨_, [], _, _, rfl, World.ownsRow_nil _ _ _ _, ⟨(fun i hi => by cases hi), List.nodup_nil⟩, hgr, .inr ⟨rfl, fun R u h1 h2 => ?_⟩⟩
    have := (HBT.out R u h1 h2).1
    have := HWY.out
    omega
  · have hd : decide (way < 0) = false := decide_eq_false hw
    have hw0 : 0 ≤ way := by omega
    have HWY := Lib.hid hw0
    clear hw hw0
    go_upto_region 11 with (fail)
    go_quiet (fail)
    go_wp2_with (fail)
    go_ret3
    obtain ⟨i1, i2, i3⟩ := HF.out.is HWY.out
    exact ⟨_, B, way, 0, rfl, own_keep0 (own_base HS.out.best hsz) (gr_drewN (gr_refl _ _) _), i1, gr_drewN hgr _, .inl ⟨rfl, i2, i3, HWY.out, fun R u h1 h2 => (HBT.out R u h1 h2).2⟩⟩
end Go.Proofs.YtehhmgbgkemidaaDoor
