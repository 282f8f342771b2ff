/- A log of readings: made, and searched. -/
import Derived.Test.YtjhfglhoiplfmaaPkSAy
import Derived.Test.YtjhfglhoiplfmaaPkSBa
import Derived.Test.YtjhfglhoiplfmaaPkSAe
import Derived.Deep.DrawnRows
import Derived.BigRegion
namespace Go.Proofs.Ytjhfglhoiplfmaa
open Go.RowKit
attribute [local go_sem ↓] Go.wp_at_zero Go.wp_at_succ

/-- What may change: the blocks of T, and new ones. -/
structure GrowT (T : Nat → Prop) (w w' : World) : Prop where
  os : w'.os = w.os
  tape : w'.tape = w.tape
  output : w'.output = w.output
  size : w.heap.size ≤ w'.heap.size
  block : ∀ k, k < w.heap.size → ¬ T k → w'.heap[k]? = w.heap[k]?
theorem GrowT.of {T : Nat → Prop} {w w' : World} {r : Option Nat} (g : w.grownBy w' r) (hr : ∀ q, r = some q → T q) : GrowT T w w' := ⟨g.os, g.tape, g.output, g.size, fun k hk hT => g.block k hk (fun e => hT (hr k e.symm))⟩
theorem GrowT.trans {T : Nat → Prop} {w w1 w2 : World} (h : GrowT T w w1) (g : GrowT T w1 w2) : GrowT T w w2 := ⟨g.os.trans h.os, g.tape.trans h.tape, g.output.trans h.output, Nat.le_trans h.size g.size, fun k hk hT => (g.block k (Nat.lt_of_lt_of_le hk h.size) hT).trans (h.block k hk hT)⟩
theorem GrowT.grown {T : Nat → Prop} {w0 w w' : World} (h : w0.grownBy w none) (g : GrowT T w w') (hT : ∀ k, T k → w0.heap.size ≤ k) : w0.grownBy w' none :=
  ⟨g.os.trans h.os, g.tape.trans h.tape, g.output.trans h.output, Nat.le_trans h.size g.size, fun k hk hr => (g.block k (Nat.lt_of_lt_of_le hk h.size) (fun t => by have := hT k t; omega)).trans (h.block k hk hr)⟩
theorem GrowT.grown' {T : Nat → Prop} {w0 w w' : World} {r : Option Nat} (h : w0.grownBy w r) (g : GrowT T w w') (hT : ∀ k, T k → w0.heap.size ≤ k) : w0.grownBy w' r :=
  ⟨g.os.trans h.os, g.tape.trans h.tape, g.output.trans h.output, Nat.le_trans h.size g.size, fun k hk hr => (g.block k (Nat.lt_of_lt_of_le hk h.size) (fun t => by have := hT k t; omega)).trans (h.block k hk hr)⟩
theorem GrowT.mono {T T' : Nat → Prop} {w w' : World} (g : GrowT T w w') (h : ∀ k, k < w.heap.size → T k → T' k) : GrowT T' w w' := ⟨g.os, g.tape, g.output, g.size, fun k hk hT => g.block k hk (fun t => hT (h k hk t))⟩

theorem own_keepT {T : Nat → Prop} {w w1 : World} {base e size n : Nat} {v : Value} {xs : List Value} (h : w.ownsRow base e size v n xs) (g : GrowT T w w1) (hv : ∀ q, v.ownBlock = some q → ¬ T q) : w1.ownsRow base e size v n xs := by
  refine ⟨h.1, ?_⟩
  rcases h.2 with h2 | ⟨b, cap, cur, hv2, hg, hb, r⟩
  · exact .inl h2
  · exact .inr ⟨b, cap, cur, hv2, hg, (g.block b (lt_of_block hb) (hv b (by rw [hv2]; rfl))).trans hb, r⟩
theorem Rds.keepT {T : Nat → Prop} {w w1 : World} {base : Nat} {v : Value} {L : List RdG} (h : Rds w base v L) (g : GrowT T w w1) (hv : ∀ q, v.ownBlock = some q → ¬ T q) (hT : ∀ q cs, T q → w.heap[q]? ≠ some (.cells cs 3 (0, 0))) : Rds w1 base v L := by
  refine ⟨own_keepT h.row g hv, fun x hx => own_keepT (h.vals x hx) g fun q hq ht => ?_⟩
  have h2 := h.vals x hx
  rcases h2.2 with ⟨e, _⟩ | ⟨b, cap, cur, e, _, hb, _⟩
  · rw [e] at hq; cases hq
  · rw [e] at hq
    cases hq
    exact hT b cur ht hb
end Go.Proofs.Ytjhfglhoiplfmaa

/-! All readings of a log. -/
namespace Go.Proofs.Ytjhfglhoiplfmaa
open Go.RowKit
attribute [local go_sem ↓] Go.wp_at_zero Go.wp_at_succ

theorem own_nilS {w : World} {base e size n c : Nat} {a : Option Addr} {xs : List Value} (h : w.ownsRow base e size (.slice a n c) n xs) : a = none → n = 0 ∧ c = 0 := by
  intro ha
  rcases h.2 with ⟨h2, h3⟩ | ⟨b, cap, cur, hv2, r⟩
  · cases h2; exact ⟨rfl, rfl⟩
  · cases hv2; cases ha
theorem Rds.toC {w : World} {base c : Nat} {a : Option Addr} {L : List RdG} (h : Rds w base (.slice a L.length c) L) : RdsC w a L := by
  obtain ⟨_, _, e, -, -, hc, -⟩ := own_shape h.row
  cases e
  refine ⟨hc, fun x hx => ?_, fun x hx => own_nilS (h.vals x hx)⟩
  obtain ⟨_, _, e, -, -, hv, -⟩ := own_shape (h.vals x hx)
  cases e
  exact hv
def OutPost (X : List Rd) (w : World) (e : Ending) (w' : World) : Prop := ∃ v L', e = .returned v ∧ Rds w' w.heap.size v L' ∧ rdsG L' = X ∧ w.grownBy w' none
end Go.Proofs.Ytjhfglhoiplfmaa

/-! What happened between two readings. -/
namespace Go.Proofs.Ytjhfglhoiplfmaa
open Go.RowKit
attribute [local go_sem ↓] Go.wp_at_zero Go.wp_at_succ

structure Stp where
  fr : Int
  til : Int
  rs : Bool
  sold : List Int
def dM (t a b : Int) : Int := if b - a < 0 then b - a + t else b - a
def dsTo (t : Int) (x y : List Int) (k : Nat) : List Int := (List.range k).map fun i => dM t (x.getD i 0) (y.getD i 0)
def limM (m : Mtr) (x y : Rd) : Int := min (m.fast * (y.at_ / 1440 - x.at_ / 1440 + 1)) (m.turn - 1)
def stepM (m : Mtr) (x y : Rd) : Stp := if (dsTo m.turn x.vs y.vs y.vs.length).all (fun d => decide (d ≤ limM m x y)) then ⟨x.at_, y.at_, false, dsTo m.turn x.vs y.vs y.vs.length⟩ else ⟨x.at_, y.at_, true, y.vs⟩
theorem dsTo_next (t : Int) (x y : List Int) (k : Nat) : dsTo t x y (k + 1) = dsTo t x y k ++ [dM t (x.getD k 0) (y.getD k 0)] := by simp [dsTo, List.range_succ]
theorem dsTo_len (t : Int) (x y : List Int) (k : Nat) : (dsTo t x y k).length = k := by simp [dsTo]
structure StpSt (wr w : World) (O : Nat) (m : Mtr) (x y : RdG) (D : List Int) : Prop where
  mb : wr.heap[w.heap.size]? = some (.cells #[.int .i64 m.cnt, .int .i64 m.turn, .int .i64 m.fast] 34 (0, 0))
  ab : wr.heap[w.heap.size + 1]? = some (.cells #[.int .i64 x.rd.at_, .slice x.a x.rd.vs.length x.c] 56 (0, 0))
  bb : wr.heap[w.heap.size + 2]? = some (.cells #[.int .i64 y.rd.at_, .slice y.a y.rd.vs.length y.c] 56 (0, 0))
  rb : wr.heap[w.heap.size + 3]? = some (.cells #[.int .i64 0, .int .i64 0, .bool false, .slice none 0 0] 70 (0, 0))
  ex : ∃ lv, wr.heap[O]? = some (.cells #[.int .i64 x.rd.at_, .int .i64 y.rd.at_, .bool false, lv] 70 (0, 0)) ∧ wr.ownsRow w.heap.size 3 1 lv D.length (ints D)
  gr : w.grownBy wr none
theorem StpSt.app {wr w w8 : World} {O g c n : Nat} {m : Mtr} {x y : RdG} {D M : List Int} {lv : Value} (h : StpSt wr w O m x y D) (hO : w.heap.size + 3 < O) (h3 : wr.heap[O]? = some (.cells #[.int .i64 x.rd.at_, .int .i64 y.rd.at_, .bool false, lv] 70 (0, 0))) (h4 : wr.ownsRow w.heap.size 3 1 lv D.length (ints D))
    (ho : w8.ownsRow w.heap.size 3 1 (.slice (some ⟨g, 0, none⟩) n c) M.length (ints M)) (g8 : wr.grownBy w8 lv.ownBlock) : StpSt (w8.setCell ⟨O, 3, none⟩ (.slice (some ⟨g, 0, none⟩) n c)) w O m x y M := by
  obtain ⟨h1, h2, h5, h6, -, h7⟩ := h
  have hlt : ∀ q, lv.ownBlock = some q → w.heap.size ≤ q := fun q hq => (h4.lt q hq).1
  have k1 := (g8.block _ (lt_of_block h1) (fun e => own_ne h4 h1 (by decide) e.symm)).trans h1
  have k2 := (g8.block _ (lt_of_block h2) (fun e => own_ne h4 h2 (by decide) e.symm)).trans h2
  have k5 := (g8.block _ (lt_of_block h5) (fun e => own_ne h4 h5 (by decide) e.symm)).trans h5
  have k6 := (g8.block _ (lt_of_block h6) (fun e => own_ne h4 h6 (by decide) e.symm)).trans h6
  have k3 := (g8.block _ (lt_of_block h3) (fun e => own_ne h4 h3 (by decide) e.symm)).trans h3
  have gs : w8.grownBy _ (some O) := gr_set (q := ⟨O, 3, none⟩) (gr_refl w8 (some O)) rfl (.slice (some ⟨g, 0, none⟩) n c)
  exact ⟨(gs.block _ (lt_of_block k1) (by simp; omega)).trans k1, (gs.block _ (lt_of_block k2) (by simp; omega)).trans k2, (gs.block _ (lt_of_block k5) (by simp; omega)).trans k5, (gs.block _ (lt_of_block k6) (by simp; omega)).trans k6, ⟨_, heap_setCell_same w8 O 3 _ _ _ k3, own_keep ho gs (.inr (own_ne ho k3 (by decide)))⟩, gr_grown (gr_grown h7 g8 hlt) gs (fun q e => by cases e; omega)⟩
def StpPost (s : Stp) (w : World) (e : Ending) (w' : World) : Prop := ∃ (a : Option Addr) (c : Nat), e = .returned (.agg #[.int .i64 s.fr, .int .i64 s.til, .bool s.rs, .slice a s.sold.length c]) ∧ w'.ownsRow w.heap.size 3 1 (.slice a s.sold.length c) s.sold.length (ints s.sold) ∧ w.grownBy w' none
theorem blk4S {w : World} {g t : Nat} {a b c d : Value} (h : w.heap[g]? = some (.cells #[a, b, c, d] t (0, 0))) : w.cell? ⟨g, 0, none⟩ = some a ∧ w.cell? ⟨g, 1, none⟩ = some b ∧ w.cell? ⟨g, 2, none⟩ = some c ∧ w.cell? ⟨g, 3, none⟩ = some d := ⟨blkC h 0 rfl, blkC h 1 rfl, blkC h 2 rfl, blkC h 3 rfl⟩
set_option maxRecDepth 100000 in
set_option maxHeartbeats 4000000 in
theorem step_any (m : Mtr) (hok : MtrOk m) (x y : RdG) (hx : RdOk m x.rd) (hy : RdOk m y.rd) (hxy : x.rd.at_ ≤ y.rd.at_) (w : World) (hcx : CellsAt w x.a (ints x.rd.vs)) (hcy : CellsAt w y.a (ints y.rd.vs)) (hny : y.a = none → y.rd.vs.length = 0 ∧ y.c = 0) :
    Calls Try.prog 47 #[mtrV m, .agg #[.int .i64 x.rd.at_, .slice x.a x.rd.vs.length x.c], .agg #[.int .i64 y.rd.at_, .slice y.a y.rd.vs.length y.c]] w (StpPost (stepM m x.rd y.rd) w) := by
  obtain ⟨dt, hd1⟩ := und_struct (P := Try.prog) (t := 70) (by kernel_rfl)
  have hlen : y.rd.vs.length = x.rd.vs.length := by have := hx.len; have := hy.len; omega
  have hvl : y.rd.vs.length ≤ 60 := by have := hy.len; have := hok.c2; omega
  have HVX := Lib.hid hx.all
  have HVY := Lib.hid hy.all
  have HLEN := Lib.hid hlen
  have hlx : y.rd.vs.length ≤ x.rd.vs.length := by omega
  have ha0 := hx.a0
  have ha1 := hx.a1
  have hb0 := hy.a0
  have hb1 := hy.a1
  have HNY := Lib.hid hny
  have f1 := hok.f1
  have f2 := hok.f2
  have t1 := hok.t1
  have t2 := hok.t2
  have hx := hcx
  have hy := hcy
  clear hcx hcy hny hok hlen
  -- blocks
  have gA := gr_alloc (gr_alloc (gr_alloc (gr_alloc (gr_refl w none) (.cells #[.int .i64 m.cnt, .int .i64 m.turn, .int .i64 m.fast] 34)) (.cells #[.int .i64 x.rd.at_, .slice x.a x.rd.vs.length x.c] 56)) (.cells #[.int .i64 y.rd.at_, .slice y.a y.rd.vs.length y.c] 56)) (.cells #[.int .i64 0, .int .i64 0, .bool false, .slice none 0 0] 70)
  obtain ⟨hP, hQ, hS⟩ := heap_3 w (.cells #[.int .i64 m.cnt, .int .i64 m.turn, .int .i64 m.fast] 34) (.cells #[.int .i64 x.rd.at_, .slice x.a x.rd.vs.length x.c] 56) (.cells #[.int .i64 y.rd.at_, .slice y.a y.rd.vs.length y.c] 56)
  obtain ⟨w3, hw3⟩ : ∃ w3, w3 = ((w.alloc (.cells #[.int .i64 m.cnt, .int .i64 m.turn, .int .i64 m.fast] 34)).alloc (.cells #[.int .i64 x.rd.at_, .slice x.a x.rd.vs.length x.c] 56)).alloc (.cells #[.int .i64 y.rd.at_, .slice y.a y.rd.vs.length y.c] 56) := ⟨_, rfl⟩
  have hz3 : w3.heap.size = w.heap.size + 3 := by rw [hw3]; simp
  rw [← hw3] at hP hQ hS gA
  have g34 := gr_alloc (gr_refl w3 none) (.cells #[.int .i64 0, .int .i64 0, .bool false, .slice none 0 0] 70)
  have hR := heap_alloc_new w3 (.cells #[.int .i64 0, .int .i64 0, .bool false, .slice none 0 0] 70)
  obtain ⟨w4, hw4⟩ : ∃ w4, w4 = w3.alloc (.cells #[.int .i64 0, .int .i64 0, .bool false, .slice none 0 0] 70) := ⟨_, rfl⟩
  rw [← hw4] at g34 hR gA
  rw [hz3] at hR
  have hP4 := (g34.block _ (lt_of_block hP) (by simp)).trans hP
  have hQ4 := (g34.block _ (lt_of_block hQ) (by simp)).trans hQ
  have hS4 := (g34.block _ (lt_of_block hS) (by simp)).trans hS
  have hz4 : w4.heap.size = w.heap.size + 4 := by rw [hw4]; simp [hz3]
  have HW4 : Hid (w4 = (((w.alloc (.cells #[.int .i64 m.cnt, .int .i64 m.turn, .int .i64 m.fast] 34)).alloc (.cells #[.int .i64 x.rd.at_, .slice x.a x.rd.vs.length x.c] 56)).alloc (.cells #[.int .i64 y.rd.at_, .slice y.a y.rd.vs.length y.c] 56)).alloc (.cells #[.int .i64 0, .int .i64 0, .bool false, .slice none 0 0] 70)) := by show _ = _; rw [hw4, hw3]
  have HP := Lib.hid hP4
  have HQ := Lib.hid hQ4
  have HS := Lib.hid hS4
  have HR := Lib.hid hR
  have HGA := Lib.hid gA
  have HZ4 := Lib.hid hz4
  have HX := Lib.hid hx
  have HY := Lib.hid hy
  obtain ⟨m0, m1, m2, -⟩ := blk3M hP4
  have a0 : w4.cell? ⟨w.heap.size + 1, 0, none⟩ = some (.int .i64 x.rd.at_) := blkC hQ4 0 rfl
  have b0 : w4.cell? ⟨w.heap.size + 2, 0, none⟩ = some (.int .i64 y.rd.at_) := blkC hS4 0 rfl
  clear hP hQ hS hw3 hz3 g34 hR hw4 hP4 hQ4 hS4 hz4 gA hx hy
  unfold mtrV
  obtain ⟨xa, hxa⟩ : ∃ xa, xa = x.a := ⟨_, rfl⟩
  obtain ⟨ya, hya⟩ : ∃ ya, ya = y.a := ⟨_, rfl⟩
  rw [← hxa, ← hya] at HW4 ⊢
  have HXA := Lib.hid hxa
  have HYA := Lib.hid hya
  clear hxa hya
  go_enter Try.func47, Try.ntmps47
  go_upto_region 1 with (fail)
  rw [show w.heap.size + 1 + 1 = w.heap.size + 2 from rfl, show w.heap.size + 2 + 1 = w.heap.size + 3 from rfl]
  rw [← HW4.out]
  go_cut [7] (fun s wx => s = .int .i64 (limM m x.rd y.rd) ∧ wx = w4)
  case first =>
    have HL : Hid (limM m x.rd y.rd = min (m.fast * (y.rd.at_ / 1440 - x.rd.at_ / 1440 + 1)) (m.turn - 1)) := rfl
    obtain ⟨q, hq⟩ : ∃ q, y.rd.at_ / 1440 - x.rd.at_ / 1440 + 1 = q := ⟨_, rfl⟩
    have hq1 : 1 ≤ q := by omega
    have hq2 : q ≤ 4001 := by omega
    have h1 : 0 ≤ m.fast * q := Int.mul_nonneg (by omega) (by omega)
    have h2 : m.fast * q ≤ 1000000 * 4001 := Int.mul_le_mul (by omega) hq2 (by omega) (by omega)
    have hw1 : IntKind.i64.wrap (m.fast * q) = m.fast * q := IntWalk.i64_in _ (by omega)
    rw [hq] at HL
    go_wp2_with (fail)
    all_goals go_meet
    all_goals exact ⟨congrArg (Value.int .i64) (by first | (rw [HL.out]; done) | (rw [HL.out]; omega)), rfl⟩
  case rest =>
  obtain ⟨rfl, rfl⟩ := hcut
  obtain ⟨w4, rfl⟩ : ∃ w4 : World, w4 = wc := ⟨_, rfl⟩
  obtain ⟨LM, hLM⟩ : ∃ LM, LM = limM m x.rd y.rd := ⟨_, rfl⟩
  have HLM := Lib.hid hLM
  rw [← hLM]
  have HST : Hid (stepM m x.rd y.rd = if (dsTo m.turn x.rd.vs y.rd.vs y.rd.vs.length).all (fun d => decide (d ≤ LM)) then ⟨x.rd.at_, y.rd.at_, false, dsTo m.turn x.rd.vs y.rd.vs y.rd.vs.length⟩ else ⟨x.rd.at_, y.rd.at_, true, y.rd.vs⟩) := by show _ = _; rw [hLM]; rfl
  have gO := gr_alloc (gr_refl w4 none) (.cells #[.int .i64 x.rd.at_, .int .i64 y.rd.at_, .bool false, .slice none 0 0] 70)
  have hO := heap_alloc_new w4 (.cells #[.int .i64 x.rd.at_, .int .i64 y.rd.at_, .bool false, .slice none 0 0] 70)
  obtain ⟨w5, hw5⟩ : ∃ w5, w5 = w4.alloc (.cells #[.int .i64 x.rd.at_, .int .i64 y.rd.at_, .bool false, .slice none 0 0] 70) := ⟨_, rfl⟩
  obtain ⟨O, hOe⟩ : ∃ O, O = w4.heap.size := ⟨_, rfl⟩
  rw [← hw5] at gO hO
  rw [← hOe] at hO
  have hOl : w.heap.size + 3 < O := by have := HZ4.out; omega
  have h5 : StpSt w5 w O m x y (dsTo m.turn x.rd.vs y.rd.vs 0) := ⟨(gO.block _ (lt_of_block HP.out) (by simp)).trans HP.out, (gO.block _ (lt_of_block HQ.out) (by simp)).trans HQ.out, (gO.block _ (lt_of_block HS.out) (by simp)).trans HS.out, (gO.block _ (lt_of_block HR.out) (by simp)).trans HR.out, ⟨_, hO, World.ownsRow_nil _ _ _ _⟩, gr_trans HGA.out gO⟩
  have H5 := Lib.hid h5
  have HW5 := Lib.hid hw5
  have HOE := Lib.hid hOe
  have hb5 : w5.cell? ⟨w.heap.size + 2, 1, none⟩ = some (.slice ya y.rd.vs.length y.c) := by rw [HYA.out]; exact blkC h5.bb 1 rfl
  clear hLM gO hO hw5 hOe h5 m0 m1 m2 HP HQ HS HR HGA HW4 HZ4
  go_upto_region 3 with (fail)
  rw [← HW5.out, ← HOE.out]
  go_wp2_with (fail)
  go_loopw [35] (fun i wr => ∃ k : Nat, k ≤ y.rd.vs.length ∧ i = .int .i64 k ∧ StpSt wr w O m x y (dsTo m.turn x.rd.vs y.rd.vs k) ∧ Hid (∀ d ∈ dsTo m.turn x.rd.vs y.rd.vs k, d ≤ LM)) (fun i _ => y.rd.vs.length - (intOf i).toNat)
  case atStart => exact ⟨0, Nat.zero_le _, rfl, H5.out, fun d hd => by cases hd⟩
  case round =>
    obtain ⟨k, hk, rfl, hst, HLE⟩ := hrel
    obtain ⟨wo, rfl⟩ : ∃ wo : World, wo = wr := ⟨_, rfl⟩
    have hDl := dsTo_len m.turn x.rd.vs y.rd.vs k
    have HNX := Lib.hid (dsTo_next m.turn x.rd.vs y.rd.vs k)
    obtain ⟨D, hD⟩ : ∃ D, D = dsTo m.turn x.rd.vs y.rd.vs k := ⟨_, rfl⟩
    rw [← hD] at hst hDl HLE HNX
    obtain ⟨lv, hOb, hlv⟩ := hst.ex
    rw [hDl] at hlv
    obtain ⟨la, lc, rfl, -, -, -, -⟩ := own_shape hlv
    obtain ⟨o0, o1, o2, o3⟩ := blk4S hOb
    obtain ⟨m0, m1, m2, -⟩ := blk3M hst.mb
    have a0 : wo.cell? ⟨w.heap.size + 1, 0, none⟩ = some (.int .i64 x.rd.at_) := blkC hst.ab 0 rfl
    have a1 : wo.cell? ⟨w.heap.size + 1, 1, none⟩ = some (.slice xa x.rd.vs.length x.c) := by rw [HXA.out]; exact blkC hst.ab 1 rfl
    have b0 : wo.cell? ⟨w.heap.size + 2, 0, none⟩ = some (.int .i64 y.rd.at_) := blkC hst.bb 0 rfl
    have b1 : wo.cell? ⟨w.heap.size + 2, 1, none⟩ = some (.slice ya y.rd.vs.length y.c) := by rw [HYA.out]; exact blkC hst.bb 1 rfl
    have HST5 := Lib.hid hst
    have HOB := Lib.hid hOb
    have HLV := Lib.hid hlv
    have HDL := Lib.hid hDl
    have HD := Lib.hid hD
    have hzo := hst.gr.size
    by_cases hlt : k < y.rd.vs.length
    · have hlt2 : k < x.rd.vs.length := by omega
      have hA := HVX.out _ (List.getElem_mem hlt2)
      have hB := HVY.out _ (List.getElem_mem hlt)
      rw [← getD_eq _ _ 0 hlt2] at hA
      rw [← getD_eq _ _ 0 hlt] at hB
      have hxg := HX.out.keep0 hst.gr
      have hyg := HY.out.keep0 hst.gr
      rw [← HXA.out] at hxg
      rw [← HYA.out] at hyg
      have HYG := Lib.hid hyg
      obtain ⟨xb, xo, rfl, xc0⟩ := hxg k _ (ints_get x.rd.vs k hlt2)
      obtain ⟨yb, yo, rfl, yc0⟩ := hyg k _ (ints_get y.rd.vs k hlt)
      obtain ⟨A, hAe⟩ : ∃ A, A = x.rd.vs.getD k 0 := ⟨_, rfl⟩
      obtain ⟨B, hBe⟩ : ∃ B, B = y.rd.vs.getD k 0 := ⟨_, rfl⟩
      rw [← hAe] at hA xc0 HNX
      rw [← hBe] at hB yc0 HNX
      obtain ⟨hA0, hA1⟩ := hA
      obtain ⟨hB0, hB1⟩ := hB
      clear hxg hyg hAe hBe hst hOb hlv hDl hD
      obtain ⟨d, hd⟩ : ∃ d, d = dM m.turn A B := ⟨_, rfl⟩
      have HDE : Hid (d = if B - A < 0 then B - A + m.turn else B - A) := by show _ = _; rw [hd]; rfl
      rw [← hd] at HNX
      have hdb0 : 0 ≤ d := by have := HDE.out; split at this <;> omega
      have hdb1 : d < 2000000 := by have := HDE.out; split at this <;> omega
      clear hd
      go_upto_if 48 with (fail)
      go_cut [11] (fun s2 wx => s2 = .int .i64 d ∧ wx = wo)
      case first =>
        by_cases hneg : B - A < 0
        · have HDE2 : Hid (d = B - A + m.turn) := by have := HDE.out; rw [if_pos hneg] at this; exact this
          go_wp2_with (fail)
          go_meet
          exact ⟨by rw [HDE2.out], rfl⟩
        · have HDE2 : Hid (d = B - A) := by have := HDE.out; rw [if_neg hneg] at this; exact this
          go_wp2_with (fail)
          go_meet
          exact ⟨by rw [HDE2.out], rfl⟩
      case rest =>
      obtain ⟨rfl, rfl⟩ := hcut
      obtain ⟨wo, rfl⟩ : ∃ wo : World, wo = wc := ⟨_, rfl⟩
      by_cases hdl : LM < d
      · have HF : Hid (stepM m x.rd y.rd = ⟨x.rd.at_, y.rd.at_, true, y.rd.vs⟩) := by
          show _ = _
          rw [HST.out, if_neg]
          intro hall
          have h1 := List.all_eq_true.1 hall d (by
            have e : dsTo m.turn x.rd.vs y.rd.vs (k + 1) = D ++ [d] := HNX.out
            have h2 : d ∈ dsTo m.turn x.rd.vs y.rd.vs (k + 1) := by rw [e]; simp
            simp only [dsTo, List.mem_map, List.mem_range] at h2 ⊢
            obtain ⟨i, hi, hie⟩ := h2
            exact ⟨i, by omega, hie⟩)
          simp only [decide_eq_true_eq] at h1
          omega
        have CL := Lib.hid (cloneInt_any (some ⟨yb, yo, none⟩) y.rd.vs.length y.c (ints y.rd.vs) wo.drew (by rw [ints_length]; omega) (HYG.out.keep0 (gr_drew (gr_refl wo none))) (fun h => by cases h) (ints_one _) (by omega))
        have r0 := blkF HST5.out.rb 0
        have r1 := blkF HST5.out.rb 1
        have r2 := blkF HST5.out.rb 2
        have r3 := blkF HST5.out.rb 3
        obtain ⟨s0, s1, s2, s3⟩ := blk4S HST5.out.rb
        have l1 := lt_of_block HST5.out.ab
        have l2 := lt_of_block HST5.out.bb
        have l3 := lt_of_block HST5.out.rb
        have hgd := gr_drew (gr_refl wo none)
        have hn0 : 0 < y.rd.vs.length := by omega
        go_wp2_with (fail)
        go_region_law (first
          | (go_simp; go_at_call 26; (with_reducible refine CL.out.mono ?_); rintro e w7 ⟨v7, rfl, ho7, g7'⟩; obtain ⟨xb7, xc7, rfl, -, -, -, -⟩ := own_some ho7 hn0; have g7 := gr_trans hgd g7'; have e0 := (gr_cell g7 l1).trans a0; have e2 := (gr_cell g7 l2).trans b0; have hR7 := (g7.block _ l3 (by simp)).trans HST5.out.rb; have y0 := blkF hR7 0; have y1 := blkF hR7 1; have y2 := blkF hR7 2; have y3 := blkF hR7 3; obtain ⟨u0, u1, u2, u3⟩ := blk4S hR7)
          | fail)
        all_goals (go_wp2_with (fail))
        all_goals
          have gs := set4_gr w7 (w.heap.size + 3) (.int .i64 x.rd.at_) (.int .i64 y.rd.at_) (.bool true) (.slice (some ⟨xb7, 0, none⟩) y.rd.vs.length xc7)
          have ho8 := own_base ho7 (show w.heap.size ≤ wo.drew.heap.size from hzo)
          refine bodyPost_ret (results_cell_row (p := 6) (by kernel_rfl) _ _ (w.heap.size + 3) _ #[.int .i64 x.rd.at_, .int .i64 y.rd.at_, .bool true, .slice (some ⟨xb7, 0, none⟩) y.rd.vs.length xc7] _ (.struct dt) rfl (set4_heap hR7 _ _ _ _) hd1 rfl (by kernel_rfl)) rfl ⟨some ⟨xb7, 0, none⟩, xc7, ?_, ?_, ?_⟩
          · rw [HF.out]
          · rw [HF.out]
            exact own_keep ho8 gs (.inr (own_ne ho8 hR7 (by decide)))
          · exact gr_grown (gr_trans HST5.out.gr g7) gs (fun q e => by cases e; omega)
      · have HLE2 : Hid (∀ e ∈ D ++ [d], e ≤ LM) := by
          show ∀ e ∈ D ++ [d], _
          intro e he
          rcases List.mem_append.1 he with h | h
          · exact HLE.out e h
          · simp only [List.mem_cons, List.not_mem_nil, or_false] at h; omega
        have hb3 := blkF HOB.out 3
        go_wp2_with (at_builtin; refine wpList_app1F eInt rfl _ _ rfl w.heap.size _ k (ints D) rfl wo #[.int .i64 d] rfl HLV.out _ rfl rfl rfl rfl (by omega) (by omega) ?_; intro v8 w8 hown8 hg8 hlt8 hf8; obtain ⟨g8, c8, rfl, _, _, _, _⟩ := own_some hown8 (by omega); have hO8 := (hg8.block O (lt_of_block HOB.out) (fun e => own_ne HLV.out HOB.out (by decide) e.symm)).trans HOB.out; have z8 := blkF hO8 3; obtain ⟨_, _, _, c83⟩ := blk4S hO8)
        have h9 := HST5.out.app (M := D ++ [d]) hOl HOB.out (by rw [HDL.out]; exact HLV.out) (by rw [List.length_append, HDL.out]; simpa [ints] using hown8) hg8
        have H9 := Lib.hid h9
        clear hown8 hg8 hlt8 hf8 hO8 h9
        go_wp2_with (fail)
        go_roundw
        case rel =>
          refine ⟨k + 1, by omega, by go_num, ?_, ?_⟩
          · rw [HNX.out]; exact H9.out
          · show ∀ e ∈ _, _
            rw [HNX.out]; exact HLE2.out
        case measure => simp [intOf]; omega
    · obtain rfl : k = y.rd.vs.length := by omega
      have HF : Hid (stepM m x.rd y.rd = ⟨x.rd.at_, y.rd.at_, false, D⟩) := by
        show _ = _
        rw [HST.out, if_pos, HD.out]
        rw [List.all_eq_true]
        intro d hd
        rw [← HD.out] at hd
        simpa using HLE.out d hd
      have r0 := blkF HST5.out.rb 0
      have r1 := blkF HST5.out.rb 1
      have r2 := blkF HST5.out.rb 2
      have r3 := blkF HST5.out.rb 3
      obtain ⟨s0, s1, s2, s3⟩ := blk4S HST5.out.rb
      clear hst hOb hlv hD hDl
      go_wp2_with (fail)
      have gs := set4_gr wo (w.heap.size + 3) (.int .i64 x.rd.at_) (.int .i64 y.rd.at_) (.bool false) (.slice la y.rd.vs.length lc)
      refine bodyPost_ret (results_cell_row (p := 6) (by kernel_rfl) _ _ (w.heap.size + 3) _ #[.int .i64 x.rd.at_, .int .i64 y.rd.at_, .bool false, .slice la y.rd.vs.length lc] _ (.struct dt) rfl (set4_heap HST5.out.rb _ _ _ _) hd1 rfl (by kernel_rfl)) rfl ⟨la, lc, ?_, ?_, ?_⟩
      · rw [HF.out]; simp only; rw [HDL.out]
      · rw [HF.out]; simp only; rw [HDL.out]
        exact own_keep HLV.out gs (.inr (own_ne HLV.out HST5.out.rb (by decide)))
      · exact gr_grown HST5.out.gr gs (fun q e => by cases e; omega)
end Go.Proofs.Ytjhfglhoiplfmaa

/-! Readings are sorted by the program. -/
namespace Go.Proofs.Ytjhfglhoiplfmaa
open Go.RowKit
attribute [local go_sem ↓] Go.wp_at_zero Go.wp_at_succ

theorem asc_snoc {Y X : List Rd} {x : Rd} (h : Asc Y X) (hx : ∀ z ∈ Y, z.at_ < x.at_) : Asc (Y ++ [x]) (X ++ [x]) := by
  refine ⟨?_, fun q => by simp only [List.mem_append, List.mem_singleton]; rw [h.mem q]⟩
  rw [List.pairwise_append]
  refine ⟨h.asc, List.pairwise_singleton _ _, fun a ha b hb => ?_⟩
  rw [List.mem_singleton] at hb
  rw [hb]; exact hx a ha
/-- The last of them is the greatest. -/
theorem asc_last {Y X : List Rd} (h : Asc Y X) {n : Nat} (hn : Y.length = n + 1) : ∀ z ∈ Y, z.at_ ≤ (Y[n]'(by omega)).at_ := by
  intro z hz
  obtain ⟨i, hi, rfl⟩ := List.mem_iff_getElem.1 hz
  by_cases e : i = n
  · subst e; exact Int.le_refl _
  · have := pw_getD h.asc (i := i) (j := n) (by omega) (by omega)
    omega
def MtSortPost (X : List Rd) (w : World) (e : Ending) (w' : World) : Prop := ∃ v L', e = .returned (.tuple #[v, .int .i64 0]) ∧ Rds w' w.heap.size v L' ∧ Asc (rdsG L') X ∧ L'.length ≤ X.length ∧ w.grownBy w' none
set_option maxRecDepth 100000 in
set_option maxHeartbeats 8000000 in
theorem mtSort_ok (m : Mtr) (hok : MtrOk m) (L : List RdG) (a : Option Addr) (c : Nat) (w : World) (hc : RdsC w a L) (hn : a = none → L.length = 0 ∧ c = 0) (hl : L.length ≤ 12) (hall : ∀ x ∈ rdsG L, RdOk m x) (hnc : NoConf (rdsG L)) :
    Calls Try.prog 46 #[mtrV m, .slice a L.length c] w (MtSortPost (rdsG L) w) := by
  have hv : ∀ g ∈ L, g.rd.vs.length ≤ 60 := fun g hg => by have h1 := (hall g.rd (List.mem_map_of_mem hg)).len; have := hok.c2; omega
  have MF := Lib.hid (fun W => checkMeter_any m W hok)
  have CR := Lib.hid (fun (x : RdG) (hx : x ∈ L) (W : World) (h : CellsAt W x.a (ints x.rd.vs)) => checkReading_ok m x.rd x.a x.c W hok (hall x.rd (List.mem_map_of_mem hx)) h)
  have HV := Lib.hid hv
  have HNC := Lib.hid hnc
  have HNA := Lib.hid hn
  obtain ⟨mc, mt, mf⟩ := m
  unfold mtrV at MF CR ⊢
  dsimp only at MF CR ⊢
  have hP := heap_alloc_new w (.cells #[.int .i64 mc, .int .i64 mt, .int .i64 mf] 34)
  have g1 := gr_alloc (gr_refl w none) (.cells #[.int .i64 mc, .int .i64 mt, .int .i64 mf] 34)
  obtain ⟨w1, hw1⟩ : ∃ w1, w1 = w.alloc (.cells #[.int .i64 mc, .int .i64 mt, .int .i64 mf] 34) := ⟨_, rfl⟩
  rw [← hw1] at hP g1
  have HW := Lib.hid hw1
  have HP := Lib.hid hP
  have HG := Lib.hid g1
  have HC := Lib.hid (hc.keep0 g1)
  have hz1 := g1.size
  obtain ⟨q0, q1, q2, -⟩ := blk3M hP
  clear hw1 hP g1 hc hv hnc hn hall hok
  go_enter Try.func46, Try.ntmps46
  go_wp2_with (fail)
  rw [← HW.out]
  go_wp2_with (fail)
  refine (MF.out w1).mono ?_
  rintro e w2 ⟨rfl, g2⟩
  have HP2 := Lib.hid ((g2.block _ (lt_of_block HP.out) (by simp)).trans HP.out)
  have HG2 := Lib.hid (gr_trans HG.out g2)
  have HC2 := Lib.hid (HC.out.keep0 g2)
  have hl2 : ¬ (2000 : Int) < (L.length : Int) := by omega
  clear g2 q0 q1 q2 HP HG HC MF
  go_wp2_with (fail)
  go_loopw [25] (fun i wr => ∃ k : Nat, k ≤ L.length ∧ i = .int .i64 k ∧ w2.grownBy wr none) (fun i _ => L.length - (intOf i).toNat)
  case atStart => exact ⟨0, Nat.zero_le _, rfl, gr_refl _ _⟩
  case round =>
    obtain ⟨k, hk, rfl, hgr⟩ := hrel
    obtain ⟨wo, rfl⟩ : ∃ wo : World, wo = wr := ⟨_, rfl⟩
    by_cases hlt : k < L.length
    · obtain ⟨b, off, rfl, c0, c1, cv⟩ := (HC2.out.keep0 hgr).at hlt
      have CRx := CR.out _ (List.getElem_mem hlt)
      obtain ⟨x, hx⟩ : ∃ x, x = L[k] := ⟨_, rfl⟩
      rw [← hx] at c0 c1 cv CRx
      clear hx
      have ga := gr_alloc (gr_refl wo none) (.cells #[.int .i64 x.rd.at_, .slice x.a x.rd.vs.length x.c] 56)
      obtain ⟨p0, p1, p2, -⟩ := blk3M ((hgr.block _ (lt_of_block HP2.out) (by simp)).trans HP2.out)
      have e0 := held_cell (gr_refl (wo.alloc (.cells #[.int .i64 x.rd.at_, .slice x.a x.rd.vs.length x.c] 56)) none) p0
      have e1 := held_cell (gr_refl (wo.alloc (.cells #[.int .i64 x.rd.at_, .slice x.a x.rd.vs.length x.c] 56)) none) p1
      have e2 := held_cell (gr_refl (wo.alloc (.cells #[.int .i64 x.rd.at_, .slice x.a x.rd.vs.length x.c] 56)) none) p2
      have RFx := Lib.hid (CRx (wo.alloc (.cells #[.int .i64 x.rd.at_, .slice x.a x.rd.vs.length x.c] 56)) (cv.keep0 ga))
      have HGA := Lib.hid (gr_trans hgr ga)
      clear cv ga hgr p0 p1 p2 CRx
      go_wp2_with (fail)
      refine RFx.out.mono ?_
      rintro e w4 ⟨rfl, g4⟩
      have HG4 := Lib.hid (gr_trans HGA.out g4)
      clear g4
      go_wp2_with (fail)
      go_roundw
      case rel => exact ⟨k + 1, by omega, by go_num, HG4.out⟩
      case measure => simp [intOf]; omega
    · obtain rfl : k = L.length := by omega
      obtain ⟨w3, rfl⟩ : ∃ w3 : World, w3 = wo := ⟨_, rfl⟩
      have HG3 := Lib.hid (gr_trans HG2.out hgr)
      have HC3 := Lib.hid (HC2.out.keep0 hgr)
      have hz3 := HG3.out.size
      have CL := Lib.hid (cloneRd_any a L.length c (cellsG L) w3 (cellsG_len L) HC3.out.row HNA.out (cellsG_one L) (by omega))
      clear hgr CR
      go_wp2_with (fail)
      refine CL.out.mono ?_
      rintro e w4 ⟨v4, rfl, ho4, g4⟩
      obtain ⟨sa, sc, rfl, -, -, -, -⟩ := own_shape ho4
      have HO4 : Hid (w4.ownsRow w3.heap.size 56 2 (.slice sa L.length sc) L.length (flat encC (L.map RdG.cell))) := ho4
      have SF := Lib.hid (sortRd_any 64 L.length cmR (.slice sa L.length sc) w3.heap.size (L.map RdG.cell) w4 HO4.out (by simp) (by omega) ms1_fn cmR_ok (fun x y W _ _ _ => ms1_any x y W))
      have HG4 := Lib.hid g4
      clear ho4 g4 CL
      go_wp2_with (fail)
      refine SF.out.mono ?_
      rintro e w5 ⟨O, rfl, ho5, hp, hs, g5⟩
      obtain ⟨S, hS1, hS2⟩ := perm_unmap RdG.cell hp
      have hSl := hS1.length_eq
      subst hS2
      have hlow : ∀ q, (Value.slice sa L.length sc).ownBlock = some q → w3.heap.size ≤ q := fun q hq => (HO4.out.lt q hq).1
      have g35 := gr_grown HG4.out g5 hlow
      obtain ⟨_, _, ev, -, -, hc5, -⟩ := own_shape ho5
      cases ev
      have HS : Hid (RdsC w5 sa S) := ⟨hc5, fun x hx => (HC3.out.vals x (hS1.mem_iff.1 hx)).keep0 g35, fun x hx => HC3.out.nil x (hS1.mem_iff.1 hx)⟩
      have HPM : Hid (∀ r, r ∈ rdsG S ↔ r ∈ rdsG L) := fun r => (hS1.map RdG.rd).mem_iff
      have HSV : Hid (∀ g ∈ S, g.rd.vs.length ≤ 60) := fun g hg => HV.out g (hS1.mem_iff.1 hg)
      have HWK : Hid (∀ p q (hp : p < S.length) (hq : q < S.length), p < q → S[p].rd.at_ ≤ S[q].rd.at_) := by
        show ∀ _, _
        intro p q hp' hq' hpq
        have h2 := hs p q hpq (by omega)
        unfold cmR at h2
        rw [(cmpN_sign _ _).1, getD_eq _ _ _ (by simpa using hq'), getD_eq _ _ _ (by simpa using hp')] at h2
        simp only [List.getElem_map, RdG.cell] at h2
        omega
      have HGF := Lib.hid (gr_trans HG3.out g35)
      have hz5 := HGF.out.size
      rw [← hSl]
      have hS12 : S.length ≤ 12 := by omega
      have HSL : Hid (S.length ≤ (rdsG L).length) := by show _ ≤ _; rw [rdsG_len]; omega
      clear ho5 hp hs g5 hS1 hSl hc5 g35 SF HO4 HG4 HV
      go_wp2_with (fail)
      go_loopw [11, 42] (fun v i wr => ∃ (k : Nat) (L2 : List RdG) (gv : Value), gv = v ∧ k ≤ S.length ∧ i = .int .i64 k ∧ Rds wr w5.heap.size gv L2 ∧ Hid (Asc (rdsG L2) (rdsG (S.take k))) ∧ L2.length ≤ k ∧ w5.grownBy wr none) (fun _ i _ => S.length - (intOf i).toNat)
      case atStart => exact ⟨0, [], _, rfl, Nat.zero_le _, rfl, Rds.nil _ _, Asc.nil, Nat.zero_le _, gr_refl _ _⟩
      case round =>
        obtain ⟨k, L2, v, rfl, hk, rfl, hrd, HASC, hl2k, hgr⟩ := hrel
        obtain ⟨w6, rfl⟩ : ∃ w6 : World, w6 = wr := ⟨_, rfl⟩
        obtain ⟨va2, vc2, rfl, -, -⟩ := hrd.shape
        have HRD := Lib.hid hrd
        clear hrd
        by_cases hlt : k < S.length
        · obtain ⟨b, off, rfl, c0, c1, cv⟩ := (HS.out.keep0 hgr).at hlt
          have hvl := HSV.out _ (List.getElem_mem hlt)
          have HNIL := Lib.hid (HS.out.nil _ (List.getElem_mem hlt))
          have HTK : Hid (rdsG (S.take (k + 1)) = rdsG (S.take k) ++ [S[k].rd]) := by
            show _ = _
            have e : S.take (k + 1) = S.take k ++ [S[k]] := by simp
            rw [e, rdsG_app]
          have HLE : Hid (∀ z ∈ rdsG L2, z.at_ ≤ S[k].rd.at_ ∧ (z.at_ = S[k].rd.at_ → z = S[k].rd)) := by
            show ∀ z ∈ rdsG L2, _
            intro z hz
            have hz2 := (HASC.out.mem z).1 hz
            simp only [rdsG, List.mem_map] at hz2
            obtain ⟨g, hg, rfl⟩ := hz2
            obtain ⟨p, hp, rfl⟩ := List.mem_iff_getElem.1 hg
            have hp2 : p < k := by rw [List.length_take] at hp; omega
            rw [List.getElem_take]
            refine ⟨HWK.out p k (by omega) hlt hp2, fun e => HNC.out _ ((HPM.out _).1 (List.mem_map_of_mem (List.getElem_mem _))) _ ((HPM.out _).1 (List.mem_map_of_mem (List.getElem_mem hlt))) e⟩
          obtain ⟨x, hx⟩ : ∃ x, x = S[k] := ⟨_, rfl⟩
          rw [← hx] at c0 c1 cv hvl HTK HNIL HLE
          clear hx
          have ga := gr_alloc (gr_refl w6 none) (.cells #[.int .i64 x.rd.at_, .slice x.a x.rd.vs.length x.c] 56)
          have hV := heap_alloc_new w6 (.cells #[.int .i64 x.rd.at_, .slice x.a x.rd.vs.length x.c] 56)
          obtain ⟨w7, hw7⟩ : ∃ w7, w7 = w6.alloc (.cells #[.int .i64 x.rd.at_, .slice x.a x.rd.vs.length x.c] 56) := ⟨_, rfl⟩
          obtain ⟨V, hVe⟩ : ∃ V, V = w6.heap.size := ⟨_, rfl⟩
          rw [← hw7] at ga hV
          rw [← hVe] at hV
          have HR7 := Lib.hid (HRD.out.keep0 ga)
          have HG7 := Lib.hid (gr_trans hgr ga)
          have HV7 := Lib.hid hV
          have HCV := Lib.hid (cv.keep0 ga)
          obtain ⟨d0, d1⟩ : w7.cell? ⟨V, 0, none⟩ = some (.int .i64 x.rd.at_) ∧ w7.cell? ⟨V, 1, none⟩ = some (.slice x.a x.rd.vs.length x.c) := ⟨blkC hV 0 rfl, blkC hV 1 rfl⟩
          have HW7 := Lib.hid hw7
          have HVE := Lib.hid hVe
          clear cv ga hV hw7 hVe hgr
          go_upto_region 20 with (fail)
          rw [← HW7.out, ← HVE.out]
          go_cut [60] (fun s wx => ∃ b : Bool, s = .bool b ∧ (b = true → ∃ h : L2.length - 1 < L2.length, L2[L2.length - 1].rd = x.rd) ∧ (b = false → ∀ z ∈ rdsG L2, z.at_ < x.rd.at_) ∧ w7.grownBy wx none)
          case first =>
            by_cases hL0 : L2.length = 0
            · have hdk : decide ((0 : Int) ≤ (L2.length : Int) - 1) = false := decide_eq_false (by omega)
              have hdk2 : decide ((1 : Int) ≤ (L2.length : Int)) = false := decide_eq_false (by omega)
              have HNE : Hid (∀ z ∈ rdsG L2, z.at_ < x.rd.at_) := by
                show ∀ z ∈ rdsG L2, _
                intro z hz
                have : L2 = [] := List.eq_nil_of_length_eq_zero hL0
                rw [this] at hz
                cases hz
              clear hL0
              refine wp_region_grew (by kernel_rfl) (by kernel_rfl) ?_
              repeat (go_big_quiet_step (fail))
              refine wpQuiet_nil ?_
              rintro wq ⟨nn, rfl⟩
              have gq := nn.gr
              go_wp2_with (fail)
              go_meet
              exact ⟨false, rfl, fun e => (by cases e), fun _ => HNE.out, gq⟩
            · obtain ⟨n, hn⟩ : ∃ n, n = L2.length - 1 := ⟨_, rfl⟩
              have hnl : n < L2.length := by omega
              obtain ⟨gb, gc, ev, -, -, e0, e1⟩ := HR7.out.at hnl
              cases ev
              have HLN : Hid (L2[n].rd.at_ ≤ x.rd.at_ ∧ (L2[n].rd.at_ = x.rd.at_ → L2[n].rd = x.rd) ∧ (∀ z ∈ rdsG L2, z.at_ ≤ L2[n].rd.at_)) := by
                show _ ∧ _ ∧ _
                have h1 := HLE.out _ (List.mem_map_of_mem (List.getElem_mem hnl))
                have h2 := asc_last HASC.out (n := n) (by rw [rdsG_len]; omega)
                refine ⟨h1.1, h1.2, fun z hz => ?_⟩
                have := h2 z hz
                simpa [rdsG] using this
              have HNL : Hid (L2.length - 1 = n) := hn.symm
              have hdk : decide ((0 : Int) ≤ (L2.length : Int) - 1) = true := decide_eq_true (by omega)
              have hdk2 : decide ((1 : Int) ≤ (L2.length : Int)) = true := decide_eq_true (by omega)
              have hq0 : (0 : Int) ≤ (L2.length : Int) - 1 := by omega
              have hq1 : (L2.length : Int) - 1 < (L2.length : Int) := by omega
              have hq2 : ((L2.length : Int) - 1).toNat = n := by omega
              obtain ⟨y, hy⟩ : ∃ y, y = L2[n].rd := ⟨_, rfl⟩
              rw [← hy] at HLN e0
              have HY := Lib.hid hy
              have x0 := grew_cell e0
              have x1 := grew_cell d0
              obtain ⟨bb, hbb⟩ : ∃ bb, (y.at_ == x.rd.at_) = bb := ⟨_, rfl⟩
              have HBB := Lib.hid hbb
              clear hL0 hn hy e0 e1
              refine wp_region_grew (by kernel_rfl) (by kernel_rfl) ?_
              repeat (go_big_quiet_step (fail))
              refine wpQuiet_nil ?_
              rintro wq ⟨nn, rfl⟩
              have gq := nn.gr
              go_wp2_with (fail)
              go_meet
              refine ⟨bb, rfl, fun e => ?_, fun e => ?_, gq⟩
              · have h1 : y.at_ = x.rd.at_ := by have := HBB.out; rw [e] at this; simpa using this
                have h2 := HLN.out.2.1 h1
                refine ⟨by omega, ?_⟩
                have h3 := HY.out
                have e4 := HNL.out
                subst e4
                rw [← h3]; exact h2
              · have h1 : y.at_ ≠ x.rd.at_ := by have := HBB.out; rw [e] at this; simpa using this
                intro z hz
                have h2 := HLN.out.2.2 z hz
                have h3 := HLN.out.1
                omega
          case rest =>
          obtain ⟨bb, rfl, hT, hF, g8⟩ := hcut
          obtain ⟨w8, rfl⟩ : ∃ w8 : World, w8 = wc := ⟨_, rfl⟩
          have HR8 := Lib.hid (HR7.out.keep0 g8)
          have HG8 := Lib.hid (gr_trans HG7.out g8)
          have HCV8 := Lib.hid (HCV.out.keep0 g8)
          have hV8 := (g8.block _ (lt_of_block HV7.out) (by simp)).trans HV7.out
          have hVl := lt_of_block hV8
          obtain ⟨d0', d1'⟩ : w8.cell? ⟨V, 0, none⟩ = some (.int .i64 x.rd.at_) ∧ w8.cell? ⟨V, 1, none⟩ = some (.slice x.a x.rd.vs.length x.c) := ⟨blkC hV8 0 rfl, blkC hV8 1 rfl⟩
          have HT := Lib.hid hT
          have HF := Lib.hid hF
          clear d0 d1 g8 hV8 hT hF HR7 HG7 HCV HV7
          cases bb with
          | true =>
            obtain ⟨hnl, hrd⟩ := HT.out rfl
            obtain ⟨gb, gc, ev, -, -, e0, e1⟩ := HR8.out.at hnl
            cases ev
            obtain ⟨_, _, ev, -, -, hcy, -⟩ := own_shape (HR8.out.vals _ (List.getElem_mem hnl))
            cases ev
            have HIN : Hid (x.rd ∈ rdsG L2) := by show _ ∈ _; rw [← hrd]; exact List.mem_map_of_mem (List.getElem_mem hnl)
            rw [hrd] at e1 hcy
            obtain ⟨y, hy⟩ : ∃ y, y = L2[L2.length - 1] := ⟨_, rfl⟩
            rw [← hy] at e1 hcy
            have EQ := Lib.hid (fun (W : World) (g : w8.grownBy W none) => equal_int x.rd.vs y.a x.a y.c x.c W (hcy.keep0 g) (HCV8.out.keep0 g) (by omega))
            obtain ⟨n, hn⟩ : ∃ n, n = L2.length - 1 := ⟨_, rfl⟩
            rw [← hn] at e1
            have hq0 : (0 : Int) ≤ (L2.length : Int) - 1 := by omega
            have hq1 : (L2.length : Int) - 1 < (L2.length : Int) := by omega
            have hq2 : ((L2.length : Int) - 1).toNat = n := by omega
            have x0 := grew_cell e1
            have x1 := grew_cell d1'
            clear hy hcy hrd hn e0 e1 d0' d1' hnl
            go_wp2_with (fail)
            refine wp_region_grew (by kernel_rfl) (by kernel_rfl) ?_
            repeat (go_big_quiet_step (first | (go_at_call 31; exact Calls.grew_of (fun W g => EQ.out W g))))
            refine wpQuiet_nil ?_
            rintro wq ⟨nn, rfl⟩
            have gq := nn.gr
            go_wp2_with (fail)
            go_roundw
            case rel =>
              refine ⟨k + 1, L2, _, rfl, by omega, by go_num, HR8.out.keep0 gq, ?_, by omega, gr_trans HG8.out gq⟩
              show Asc _ _
              rw [HTK.out]
              exact HASC.out.again HIN.out
            case measure => simp [intOf]; omega
          | false =>
            have HLT := Lib.hid (HF.out rfl)
            have CL := Lib.hid (cloneInt_any x.a x.rd.vs.length x.c (ints x.rd.vs) w8.drew (by rw [ints_length]; omega) (HCV8.out.keep0 (gr_drew (gr_refl _ _))) HNIL.out (ints_one _) (by omega))
            have hz8 := HG8.out.size
            have hgd := gr_drew (gr_refl w8 none)
            clear HT HF
            go_wp2_with (fail)
            go_region_law (first
              | (refine step_app1 eRd rfl _ _ rfl w5.heap.size _ L2.length (cellsG L2) rfl w9 #[.int .i64 x.rd.at_, .slice xa x.rd.vs.length xc] rfl HR9.out.row _ rfl rfl rfl rfl ?_ ?_ ?_; (· omega); (· omega); intro v10 w10 hown10 hg10 hlt10 hk10)
              | (go_simp; go_at_call 26; (with_reducible refine CL.out.mono ?_); rintro e w9 ⟨v9, rfl, ho9, g9'⟩; obtain ⟨xa, xc, rfl, -, -, -, -⟩ := own_shape ho9; have g9 := gr_trans hgd g9'; have HR9 := Lib.hid (HR8.out.keep0 g9); have HO9 := Lib.hid ho9; have e0 := (gr_cell g9 hVl).trans d0'; have e1 := (gr_cell g9 hVl).trans d1'; have hz9 := g9.size)
              | fail)
            all_goals (go_wp2_with (fail))
            all_goals go_roundw
            all_goals first
              | (simp [intOf]; omega)
              | (have hx9 := own_base HO9.out (show w5.heap.size ≤ w8.drew.heap.size from hz8)
                 refine ⟨k + 1, L2 ++ [⟨x.rd, xa, xc⟩], _, rfl, by omega, by go_num, HR9.out.push (x := ⟨x.rd, xa, xc⟩) hx9 hown10 hg10, ?_, by rw [List.length_append]; simp; omega, gr_grown (gr_trans HG8.out g9) hg10 (fun q hq => (HR9.out.row.lt q hq).1)⟩
                 show Asc _ _
                 rw [HTK.out, rdsG_app]
                 exact asc_snoc HASC.out HLT.out)
        · obtain rfl : k = S.length := by omega
          have HE : Hid (Asc (rdsG L2) (rdsG L)) := by
            have h := HASC.out
            rw [List.take_length] at h
            exact h.of_mem HPM.out
          go_wp2_with (fail)
          go_ret2
          exact ⟨_, L2, rfl, HRD.out.base hz5, HE.out, Nat.le_trans hl2k HSL.out, gr_trans HGF.out hgr⟩
end Go.Proofs.Ytjhfglhoiplfmaa

/-! What happened from each reading to the next one. -/
namespace Go.Proofs.Ytjhfglhoiplfmaa
open Go.RowKit
attribute [local go_sem ↓] Go.wp_at_zero Go.wp_at_succ

structure StG where
  st : Stp
  a : Option Addr
  c : Nat
def encS (s : StG) : List Value := [.int .i64 s.st.fr, .int .i64 s.st.til, .bool s.st.rs, .slice s.a s.st.sold.length s.c]
def stG (S : List StG) : List Stp := S.map StG.st
theorem stG_app (S : List StG) (x : StG) : stG (S ++ [x]) = stG S ++ [x.st] := by simp [stG]
theorem stG_len (S : List StG) : (stG S).length = S.length := by simp [stG]
theorem eSt : ElemT Try.prog 66 70 (.agg #[.int .i64 0, .int .i64 0, .bool false, .slice none 0 0]) 4 48 := ⟨by kernel_rfl, by kernel_rfl, by decide, by decide, by decide⟩
structure Sts (w : World) (base : Nat) (v : Value) (S : List StG) : Prop where
  row : w.ownsRow base 70 4 v S.length (flat encS S)
  vals : ∀ g ∈ S, w.ownsRow base 3 1 (.slice g.a g.st.sold.length g.c) g.st.sold.length (ints g.st.sold)
theorem Sts.nil (w : World) (base : Nat) : Sts w base (.slice none 0 0) [] := ⟨World.ownsRow_nil _ _ _ _, fun _ h => by cases h⟩
theorem Sts.keep0 {w w1 : World} {base : Nat} {v : Value} {L : List StG} (h : Sts w base v L) (g : w.grownBy w1 none) : Sts w1 base v L := ⟨own_keep0 h.row g, fun x hx => own_keep0 (h.vals x hx) g⟩
theorem Sts.base {w : World} {base base' : Nat} {v : Value} {L : List StG} (h : Sts w base v L) (hb : base' ≤ base) : Sts w base' v L := ⟨own_base h.row hb, fun x hx => own_base (h.vals x hx) hb⟩
theorem Sts.shape {w : World} {base : Nat} {v : Value} {L : List StG} (h : Sts w base v L) : ∃ a c, v = .slice a L.length c ∧ L.length ≤ c ∧ c ≤ maxLen := by
  obtain ⟨a, c, rfl, h1, h2, -, -⟩ := own_shape h.row
  exact ⟨a, c, rfl, h1, h2⟩
theorem Sts.push {W w9 : World} {base : Nat} {v v9 : Value} {L : List StG} {x : StG} (h : Sts W base v L) (hx : W.ownsRow base 3 1 (.slice x.a x.st.sold.length x.c) x.st.sold.length (ints x.st.sold)) (ho : w9.ownsRow base 70 4 v9 (L.length + 1) (flat encS L ++ encS x)) (g : W.grownBy w9 v.ownBlock) : Sts w9 base v9 (L ++ [x]) := by
  refine ⟨by rw [flat_append, flat_one, List.length_append]; exact ho, fun y hy => ?_⟩
  rcases List.mem_append.1 hy with hy | hy
  · exact own_keepU (h.vals y hy) h.row (by decide) g
  · simp only [List.mem_cons, List.not_mem_nil, or_false] at hy
    subst hy
    exact own_keepU hx h.row (by decide) g
def stepsTo (m : Mtr) (Y : List Rd) (k : Nat) : List Stp := (List.range k).map fun i => stepM m (Y.getD i rd0) (Y.getD (i + 1) rd0)
def stepsM (m : Mtr) (Y : List Rd) : List Stp := stepsTo m Y (Y.length - 1)
theorem stepsTo_next (m : Mtr) (Y : List Rd) (k : Nat) : stepsTo m Y (k + 1) = stepsTo m Y k ++ [stepM m (Y.getD k rd0) (Y.getD (k + 1) rd0)] := by simp [stepsTo, List.range_succ]
def StepsPost (m : Mtr) (X : List Rd) (w : World) (e : Ending) (w' : World) : Prop := ∃ v S Y, e = .returned (.tuple #[v, .int .i64 0]) ∧ Sts w' w.heap.size v S ∧ Asc Y X ∧ stG S = stepsM m Y ∧ w.grownBy w' none
set_option maxRecDepth 100000 in
set_option maxHeartbeats 8000000 in
theorem steps_ok (m : Mtr) (hok : MtrOk m) (L : List RdG) (a : Option Addr) (c : Nat) (w : World) (hc : RdsC w a L) (hn : a = none → L.length = 0 ∧ c = 0) (hl : L.length ≤ 12) (hall : ∀ x ∈ rdsG L, RdOk m x) (hnc : NoConf (rdsG L)) :
    Calls Try.prog 35 #[mtrV m, .slice a L.length c] w (StepsPost m (rdsG L) w) := by
  have SO := Lib.hid (fun (W : World) (g : w.grownBy W none) => mtSort_ok m hok L a c W (hc.keep0 g) hn hl hall hnc)
  have ST := Lib.hid (fun (x y : RdG) (hx : RdOk m x.rd) (hy : RdOk m y.rd) (hxy : x.rd.at_ ≤ y.rd.at_) (W : World) (h1 : CellsAt W x.a (ints x.rd.vs)) (h2 : CellsAt W y.a (ints y.rd.vs)) (h3 : y.a = none → y.rd.vs.length = 0 ∧ y.c = 0) => step_any m hok x y hx hy hxy W h1 h2 h3)
  have HALL := Lib.hid hall
  obtain ⟨mm, hmm⟩ : ∃ mm, mm = m := ⟨_, rfl⟩
  rw [← hmm] at SO ST HALL ⊢
  obtain ⟨mc, mt, mf⟩ := mm
  unfold mtrV at SO ST ⊢
  dsimp only at SO ST ⊢
  have hP := heap_alloc_new w (.cells #[.int .i64 mc, .int .i64 mt, .int .i64 mf] 34)
  have g1 := gr_alloc (gr_refl w none) (.cells #[.int .i64 mc, .int .i64 mt, .int .i64 mf] 34)
  obtain ⟨w1, hw1⟩ : ∃ w1, w1 = w.alloc (.cells #[.int .i64 mc, .int .i64 mt, .int .i64 mf] 34) := ⟨_, rfl⟩
  rw [← hw1] at hP g1
  have HW := Lib.hid hw1
  have HP := Lib.hid hP
  have HG := Lib.hid g1
  obtain ⟨q0, q1, q2, -⟩ := blk3M hP
  clear hw1 hP g1 hc hnc hn hall hok hmm
  go_enter Try.func35, Try.ntmps35
  go_wp2_with (fail)
  rw [← HW.out]
  go_wp2_with (fail)
  refine (SO.out w1 HG.out).mono ?_
  rintro e w2 ⟨sv, R, rfl, hrd, hasc, hrl, g2⟩
  have HP2 := Lib.hid ((g2.block _ (lt_of_block HP.out) (by simp)).trans HP.out)
  have HG2 := Lib.hid (gr_trans HG.out g2)
  obtain ⟨sa, sc, rfl, -, -⟩ := hrd.shape
  have HRD := Lib.hid hrd
  have HRC := Lib.hid hrd.toC
  have HASC := Lib.hid hasc
  have hR12 : Hid (R.length ≤ 2000) := by
    show _ ≤ _
    rw [rdsG_len] at hrl
    omega
  have hR := hR12.out
  clear hrl
  have hz2 := HG2.out.size
  have HROK : Hid (∀ g ∈ R, RdOk ⟨mc, mt, mf⟩ g.rd) := fun g hg => HALL.out g.rd ((hasc.mem _).1 (List.mem_map_of_mem hg))
  clear g2 q0 q1 q2 HP HG hrd hasc SO HALL
  go_wp2_with (fail)
  go_loopw [8, 9] (fun v i wr => ∃ (k : Nat) (S : List StG) (gv : Value), gv = v ∧ 1 ≤ k ∧ (k ≤ R.length ∨ k = 1) ∧ i = .int .i64 k ∧ Sts wr w2.heap.size gv S ∧ Hid (stG S = stepsTo ⟨mc, mt, mf⟩ (rdsG R) (k - 1)) ∧ S.length ≤ k ∧ w2.grownBy wr none) (fun _ i _ => R.length - (intOf i).toNat)
  case atStart => exact ⟨1, [], _, rfl, Nat.le_refl _, .inr rfl, rfl, Sts.nil _ _, rfl, Nat.zero_le _, gr_refl _ _⟩
  case round =>
    obtain ⟨k, S, v, rfl, hk1, hk, rfl, hst, HEQ, hsk, hgr⟩ := hrel
    obtain ⟨w5, rfl⟩ : ∃ w5 : World, w5 = wr := ⟨_, rfl⟩
    obtain ⟨va2, vc2, rfl, -, -⟩ := hst.shape
    have HSTS := Lib.hid hst
    clear hst
    by_cases hlt : k < R.length
    · obtain ⟨n, hn⟩ : ∃ n, k = n + 1 := ⟨k - 1, by omega⟩
      subst hn
      have hln : n < R.length := by omega
      have hr5 := HRD.out.keep0 hgr
      obtain ⟨g, gc, ev, -, -, c0, c1⟩ := hr5.at hln
      cases ev
      obtain ⟨_, _, ev, -, -, d0, d1⟩ := hr5.at hlt
      cases ev
      have HNX : Hid (stepsTo ⟨mc, mt, mf⟩ (rdsG R) (n + 1) = stepsTo ⟨mc, mt, mf⟩ (rdsG R) n ++ [stepM ⟨mc, mt, mf⟩ R[n].rd R[n + 1].rd]) := by
        show _ = _
        rw [stepsTo_next, getD_eq _ _ _ (by rw [rdsG_len]; exact hln), getD_eq _ _ _ (by rw [rdsG_len]; exact hlt)]
        simp [rdsG]
      have hle : R[n].rd.at_ ≤ R[n + 1].rd.at_ := by
        have := pw_getD HASC.out.asc (i := n) (j := n + 1) (by omega) (by rw [rdsG_len]; exact hlt)
        simp only [rdsG, List.getElem_map] at this
        omega
      have SC := ST.out R[n] R[n + 1] (HROK.out _ (List.getElem_mem hln)) (HROK.out _ (List.getElem_mem hlt)) hle w5.drew ((HRC.out.vals _ (List.getElem_mem hln)).keep0 (gr_drew hgr)) ((HRC.out.vals _ (List.getElem_mem hlt)).keep0 (gr_drew hgr)) (HRC.out.nil _ (List.getElem_mem hlt))
      obtain ⟨p0, p1, p2, -⟩ := blk3M ((hgr.block _ (lt_of_block HP2.out) (by simp)).trans HP2.out)
      obtain ⟨x, hx⟩ : ∃ x, x = R[n] := ⟨_, rfl⟩
      obtain ⟨y, hy⟩ : ∃ y, y = R[n + 1] := ⟨_, rfl⟩
      rw [← hx] at c0 c1 HNX SC
      rw [← hy] at d0 d1 HNX SC
      obtain ⟨s, hs⟩ : ∃ s, s = stepM ⟨mc, mt, mf⟩ x.rd y.rd := ⟨_, rfl⟩
      unfold StpPost at SC
      rw [← hs] at SC HNX
      have SC := Lib.hid SC
      have HGR := Lib.hid hgr
      have hz5 := hgr.size
      have hgd := gr_drew (gr_refl w5 none)
      have hwn : IntKind.i64.wrap (n : Int) = (n : Int) := IntWalk.i64_in _ (by omega)
      have hln0 : (0 : Int) ≤ (n : Int) := by omega
      have hln1 : (n : Int) < (R.length : Int) := by omega
      have hlm0 : (0 : Int) ≤ (n : Int) + 1 := by omega
      have hlm1 : (n : Int) + 1 < (R.length : Int) := by omega
      have hlm2 : ((n : Int) + 1).toNat = n + 1 := by omega
      clear hx hy hs hr5 hle hgr
      go_wp2_with (fail)
      go_region_law (first
        | (refine step_app1 eSt rfl _ _ rfl w2.heap.size _ S.length (flat encS S) rfl w7 #[.int .i64 s.fr, .int .i64 s.til, .bool s.rs, .slice xa s.sold.length xc] rfl HS7.out.row _ rfl rfl rfl rfl ?_ ?_ ?_; (· omega); (· omega); intro v8 w8 hown8 hg8 hlt8 hk8)
        | (go_simp; go_at_call 47; (with_reducible refine SC.out.mono ?_); rintro e w7 ⟨xa, xc, rfl, ho7, g7'⟩; have g7 := gr_trans hgd g7'; have HS7 := Lib.hid (HSTS.out.keep0 g7); have HO7 := Lib.hid ho7; have hz7 := g7.size)
        | fail)
      all_goals (go_wp2_with (fail))
      all_goals go_roundw
      all_goals first
        | (simp [intOf]; omega)
        | (have hx7 := own_base HO7.out (show w2.heap.size ≤ w5.drew.heap.size from hz5)
           refine ⟨n + 1 + 1, S ++ [⟨s, xa, xc⟩], _, rfl, by omega, .inl (by omega), by go_num, HS7.out.push (x := ⟨s, xa, xc⟩) hx7 hown8 hg8, ?_, by rw [List.length_append]; simp; omega, gr_grown (gr_trans HGR.out g7) hg8 (fun q hq => (HS7.out.row.lt q hq).1)⟩
           show stG _ = stepsTo _ _ (n + 1)
           rw [HNX.out, stG_app, HEQ.out]
           rfl)
    · have HE : Hid (stG S = stepsM ⟨mc, mt, mf⟩ (rdsG R)) := by
        show _ = _
        rw [HEQ.out]
        unfold stepsM
        rw [rdsG_len]
        rcases hk with h | h
        · have e : k = R.length := by omega
          rw [e]
        · have e : k - 1 = R.length - 1 := by omega
          rw [e]
      go_wp2_with (fail)
      go_ret2
      exact ⟨_, S, rdsG R, rfl, HSTS.out.base hz2, HASC.out, HE.out, gr_trans HG2.out hgr⟩
end Go.Proofs.Ytjhfglhoiplfmaa

/-! A reading is put into a log. -/
namespace Go.Proofs.Ytjhfglhoiplfmaa
open Go.RowKit
attribute [local go_sem ↓] Go.wp_at_zero Go.wp_at_succ

theorem flat_take {α : Type} {enc : α → List Value} {m : Nat} (hm : ∀ a, (enc a).length = m) (l : List α) (i : Nat) : flat enc (l.take i) = (flat enc l).take (i * m) := by
  induction l generalizing i with
  | nil => simp [flat]
  | cons a l ih =>
    cases i with
    | zero => simp [flat]
    | succ i =>
      have e : flat enc (a :: l) = enc a ++ flat enc l := by simp [flat]
      have e2 : flat enc ((a :: l).take (i + 1)) = enc a ++ flat enc (l.take i) := by simp [flat]
      have h3 : (i + 1) * m = i * m + m := by rw [Nat.add_mul, Nat.one_mul]
      rw [e, e2, ih, List.take_append, List.take_of_length_le (l := enc a) (by rw [hm a, h3]; omega), hm a, h3, Nat.add_sub_cancel]
theorem flat_drop {α : Type} {enc : α → List Value} {m : Nat} (hm : ∀ a, (enc a).length = m) (l : List α) (i : Nat) : flat enc (l.drop i) = (flat enc l).drop (i * m) := by
  induction l generalizing i with
  | nil => simp [flat]
  | cons a l ih =>
    cases i with
    | zero => simp [flat]
    | succ i =>
      have e : flat enc (a :: l) = enc a ++ flat enc l := by simp [flat]
      have h3 : (i + 1) * m = i * m + m := by rw [Nat.add_mul, Nat.one_mul]
      rw [e, List.drop_succ_cons, ih, List.drop_append, List.drop_of_length_le (l := enc a) (by rw [hm a, h3]; omega), hm a, h3, Nat.add_sub_cancel, List.nil_append]
theorem cellsG_ins (L : List RdG) (x : RdG) (i : Nat) : cellsG (L.take i ++ [x] ++ L.drop i) = (cellsG L).take (i * 2) ++ encC x.cell ++ (cellsG L).drop (i * 2) := by
  unfold cellsG
  rw [List.map_append, List.map_append, flat_append, flat_append, List.map_take, List.map_drop, flat_take (m := 2) (fun _ => rfl), flat_drop (m := 2) (fun _ => rfl)]
  simp [flat]
end Go.Proofs.Ytjhfglhoiplfmaa
