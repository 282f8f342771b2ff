/- Rows of ints that are written: what stays of those that hold them. -/
import Derived.Test.YtkefloekcgangaaPkSAz
import Derived.Test.YtkefloekcgangaaPkSAj
import Derived.Test.YtkefloekcgangaaPkSAv
import Derived.Deep.DeepCutAuto
import Derived.Deep.CutBlock
namespace Go.Proofs.Ytkefloekcgangaa
open Go.RowKit

/-- A slice of ints that is there, whatever it holds. -/
def IntRow (w : World) (base : Nat) (a : Option Addr) (n c : Nat) : Prop := ∃ M : List Int, M.length = n ∧ w.ownsRow base 3 1 (.slice a n c) n (ints M)
theorem IntRow.of {w : World} {base c : Nat} {a : Option Addr} {M : List Int} (h : w.ownsRow base 3 1 (.slice a M.length c) M.length (ints M)) : IntRow w base a M.length c := ⟨M, rfl, h⟩
theorem IntRow.keep0 {w w1 : World} {base n c : Nat} {a : Option Addr} (h : IntRow w base a n c) (g : w.grownBy w1 none) : IntRow w1 base a n c := by
  obtain ⟨M, h1, h2⟩ := h
  exact ⟨M, h1, own_keep0 h2 g⟩
theorem IntRow.set {w : World} {base n c b : Nat} {a : Option Addr} (h : IntRow w base a n c) (k : Nat) (x : Int) : IntRow (w.setCell ⟨b, k, none⟩ (.int .i64 x)) base a n c := by
  obtain ⟨M, h1, h2⟩ := h
  have gs : w.grownBy _ (some b) := gr_set (q := ⟨b, k, none⟩) (gr_refl w (some b)) rfl (.int .i64 x)
  by_cases e : (Value.slice a n c).ownBlock = some b
  · rcases h2.2 with ⟨h3, h4⟩ | ⟨g, cap, cur, hv, r⟩
    · rw [h3] at e; cases e
    · rw [hv] at e h2
      cases e
      have h5 := (h2.stored k (.int .i64 x)).1
      refine ⟨M.set k x, by simp [h1], ?_⟩
      rw [hv]
      have e2 : ints (M.set k x) = (ints M).set k (.int .i64 x) := by simp [ints, List.map_set]
      rw [e2]
      simpa using h5
  · exact ⟨M, h1, own_keep h2 gs (.inr e)⟩
/-- What an index into it wants. -/
theorem IntRow.at {w : World} {base n c : Nat} {a : Option Addr} (h : IntRow w base a n c) {k : Nat} (hk : k < n) : ∃ g, a = some ⟨g, 0, none⟩ ∧ base ≤ g ∧ g < w.heap.size ∧ (∃ u : Int, w.cell? ⟨g, k, none⟩ = some (.int .i64 u)) ∧ w.frozen? ⟨g, k, none⟩ = false ∧ ∃ cur, w.heap[g]? = some (.cells cur 3 (0, 0)) := by
  obtain ⟨M, h1, h2⟩ := h
  rcases h2.2 with ⟨h3, h4⟩ | ⟨g, cap, cur, hv, hb, hg, r⟩
  · omega
  · cases hv
    have c := h2.cellAt k (by omega)
    rw [ints_get M k (by omega)] at c
    exact ⟨g, rfl, hb, lt_of_block hg, ⟨_, c⟩, h2.frozenAt k, cur, hg⟩
structure ShR (w : World) (base : Nat) (v : Value) (L : List RdG) : Prop where
  row : w.ownsRow base 52 2 v L.length (cellsG L)
  vals : ∀ g ∈ L, IntRow w base g.a g.rd.vs.length g.c
theorem Rds.sh {w : World} {base : Nat} {v : Value} {L : List RdG} (h : Rds w base v L) : ShR w base v L := ⟨h.row, fun g hg => .of (h.vals g hg)⟩
theorem ShR.keep0 {w w1 : World} {base : Nat} {v : Value} {L : List RdG} (h : ShR w base v L) (g : w.grownBy w1 none) : ShR w1 base v L := ⟨own_keep0 h.row g, fun x hx => (h.vals x hx).keep0 g⟩
theorem ShR.set {w : World} {base b : Nat} {v : Value} {L : List RdG} {cur : Array Value} (h : ShR w base v L) (hb : w.heap[b]? = some (.cells cur 3 (0, 0))) (k : Nat) (x : Int) : ShR (w.setCell ⟨b, k, none⟩ (.int .i64 x)) base v L :=
  ⟨own_keep h.row (gr_set (q := ⟨b, k, none⟩) (gr_refl w (some b)) rfl (.int .i64 x)) (.inr (own_ne h.row hb (by decide))), fun g hg => (h.vals g hg).set k x⟩
theorem ShR.base {w : World} {base base' : Nat} {v : Value} {L : List RdG} (h : ShR w base v L) (hb : base' ≤ base) : ShR w base' v L := ⟨own_base h.row hb, fun g hg => by
  obtain ⟨M, h1, h2⟩ := h.vals g hg
  exact ⟨M, h1, own_base h2 hb⟩⟩
theorem ShR.at {w : World} {base c : Nat} {a : Option Addr} {L : List RdG} (h : ShR w base (.slice a L.length c) L) {k : Nat} (hk : k < L.length) : ∃ b off, a = some ⟨b, off, none⟩ ∧ w.cell? ⟨b, off + k * 2, none⟩ = some (.int .i64 L[k].rd.at_) ∧ w.cell? ⟨b, off + k * 2 + 1, none⟩ = some (.slice L[k].a L[k].rd.vs.length L[k].c) := by
  obtain ⟨_, _, e, -, -, hc, -⟩ := own_shape h.row
  cases e
  have hk2 : k < (L.map RdG.cell).length := by simpa using hk
  obtain ⟨b, off, e, hcs⟩ := flat_cells (enc := encC) (m := 2) (fun _ => rfl) (by decide) (l := L.map RdG.cell) hc (by omega)
  have e2 : (L.map RdG.cell)[k] = L[k].cell := by simp
  exact ⟨b, off, e, hcs k hk2 0 _ (by rw [e2]; rfl), hcs k hk2 1 _ (by rw [e2]; rfl)⟩
structure ShS (w : World) (base : Nat) (v : Value) (L : List StG) : Prop where
  row : w.ownsRow base 62 4 v L.length (flat encS L)
  vals : ∀ g ∈ L, IntRow w base g.a g.st.sold.length g.c
theorem Sts.sh {w : World} {base : Nat} {v : Value} {L : List StG} (h : Sts w base v L) : ShS w base v L := ⟨h.row, fun g hg => .of (h.vals g hg)⟩
theorem ShS.keep0 {w w1 : World} {base : Nat} {v : Value} {L : List StG} (h : ShS w base v L) (g : w.grownBy w1 none) : ShS w1 base v L := ⟨own_keep0 h.row g, fun x hx => (h.vals x hx).keep0 g⟩
theorem ShS.set {w : World} {base b : Nat} {v : Value} {L : List StG} {cur : Array Value} (h : ShS w base v L) (hb : w.heap[b]? = some (.cells cur 3 (0, 0))) (k : Nat) (x : Int) : ShS (w.setCell ⟨b, k, none⟩ (.int .i64 x)) base v L :=
  ⟨own_keep h.row (gr_set (q := ⟨b, k, none⟩) (gr_refl w (some b)) rfl (.int .i64 x)) (.inr (own_ne h.row hb (by decide))), fun g hg => (h.vals g hg).set k x⟩
theorem ShS.at {w : World} {base c : Nat} {a : Option Addr} {L : List StG} (h : ShS w base (.slice a L.length c) L) {k : Nat} (hk : k < L.length) : ∃ b off, a = some ⟨b, off, none⟩ ∧ w.cell? ⟨b, off + k * 4, none⟩ = some (.int .i64 L[k].st.fr) ∧ w.cell? ⟨b, off + k * 4 + 1, none⟩ = some (.int .i64 L[k].st.til) ∧ w.cell? ⟨b, off + k * 4 + 2, none⟩ = some (.bool L[k].st.rs) ∧ w.cell? ⟨b, off + k * 4 + 3, none⟩ = some (.slice L[k].a L[k].st.sold.length L[k].c) := by
  obtain ⟨_, _, e, -, -, hc, -⟩ := own_shape h.row
  cases e
  obtain ⟨b, off, e, hcs⟩ := flat_cells (enc := encS) (m := 4) (fun _ => rfl) (by decide) (l := L) hc (by omega)
  exact ⟨b, off, e, hcs k hk 0 _ rfl, hcs k hk 1 _ rfl, hcs k hk 2 _ rfl, hcs k hk 3 _ rfl⟩
theorem Rds.keepHi {w w1 : World} {base N : Nat} {v : Value} {L : List RdG} {T : Nat → Prop} (h : Rds w base v L) (g : GrowT T w w1) (hT : ∀ k, T k → k < N) (hN : N ≤ base) : Rds w1 base v L :=
  ⟨own_keepT h.row g (fun q hq ht => by have := (h.row.lt q hq).1; have := hT q ht; omega), fun x hx => own_keepT (h.vals x hx) g (fun q hq ht => by have := ((h.vals x hx).lt q hq).1; have := hT q ht; omega)⟩
end Go.Proofs.Ytkefloekcgangaa

/-! The walk of ReadingsStay. -/
namespace Go.Proofs.Ytkefloekcgangaa
open Go.RowKit
attribute [local go_sem ↓] Go.wp_at_zero Go.wp_at_succ

structure WInv (wr : World) (w9 : World) (Q : Nat) (sa : Option Addr) (sc : Nat) (Ls : List RdG) (ra : Option Addr) (rc : Nat) (Lr : List RdG) (ta : Option Addr) (tc : Nat) (St : List StG) : Prop where
  gr : w9.grownBy wr none
  s : ShR wr w9.heap.size (.slice sa Ls.length sc) Ls
  r : ShR wr w9.heap.size (.slice ra Lr.length rc) Lr
  t : ShS wr w9.heap.size (.slice ta St.length tc) St
  q : wr.heap[Q]? = some (.cells #[.slice sa Ls.length sc, .slice ra Lr.length rc] 36 (0, 0))
section
variable {wr w1 w9 : World} {Q sc rc tc b : Nat} {sa ra ta : Option Addr} {Ls Lr : List RdG} {St : List StG} {cur : Array Value}
theorem WInv.keep0 (h : WInv wr w9 Q sa sc Ls ra rc Lr ta tc St) (g : wr.grownBy w1 none) : WInv w1 w9 Q sa sc Ls ra rc Lr ta tc St :=
  ⟨gr_trans h.gr g, h.s.keep0 g, h.r.keep0 g, h.t.keep0 g, (g.block _ (lt_of_block h.q) (by simp)).trans h.q⟩
theorem ne_of_types {w : World} {q b e f : Nat} {cs cur : Array Value} (hq : w.heap[q]? = some (.cells cs e (0, 0))) (hb : w.heap[b]? = some (.cells cur f (0, 0))) (h : e ≠ f) : q ≠ b := by
  rintro rfl
  rw [hq] at hb
  cases hb
  exact h rfl
theorem blk_set {w : World} {q b e k : Nat} {cs cur : Array Value} (hq : w.heap[q]? = some (.cells cs e (0, 0))) (hb : w.heap[b]? = some (.cells cur 3 (0, 0))) (h : e ≠ 3) (x : Int) : (w.setCell ⟨b, k, none⟩ (.int .i64 x)).heap[q]? = some (.cells cs e (0, 0)) :=
  ((gr_set (q := ⟨b, k, none⟩) (gr_refl w (some b)) rfl (.int .i64 x)).block q (lt_of_block hq) (by simpa using ne_of_types hq hb h)).trans hq
theorem WInv.set (h : WInv wr w9 Q sa sc Ls ra rc Lr ta tc St) (hb : wr.heap[b]? = some (.cells cur 3 (0, 0))) (hb9 : w9.heap.size ≤ b) (k : Nat) (x : Int) : WInv (wr.setCell ⟨b, k, none⟩ (.int .i64 x)) w9 Q sa sc Ls ra rc Lr ta tc St :=
  ⟨gr_grown h.gr (gr_set (q := ⟨b, k, none⟩) (gr_refl wr (some b)) rfl (.int .i64 x)) (fun q e => by cases e; exact hb9), h.s.set hb k x, h.r.set hb k x, h.t.set hb k x, blk_set h.q hb (by decide) x⟩
end
theorem mtrM_cnt (l : List Int) (k : Nat) : -1000 ≤ (mtrM l k).cnt ∧ (mtrM l k).cnt ≤ 1000 := by
  unfold mtrM
  split
  · have := pickM_mem l (k + 1 + 1 + 1 + 1) [0, 1, 61] (by decide)
    simp only [List.mem_cons, List.not_mem_nil, or_false] at this
    simp only; omega
  · have := nxt_range l k 3 (by decide)
    simp only; omega
theorem mtrK_le (l : List Int) (k : Nat) : mtrK l k ≤ k + 7 := by unfold mtrK; split <;> omega
set_option maxRecDepth 100000 in
set_option maxHeartbeats 8000000 in
theorem readingsStay_any (l : List Int) (a : Option Addr) (cap : Nat) (w : World) (hc : CellsAt w a (ints l)) (hl : l.length ≤ 9223372036854775807) :
    Calls Try.prog 4 #[.slice a l.length cap] w fun e w' => e = .returned (.bool true) ∧ w.grownBy w' none := by
  have hg0 := gr_alloc (gr_alloc (gr_refl w none) (.cells #[.slice a l.length cap, .int .i64 0] 25)) (.cells #[.slice a l.length cap, .int .i64 0] 25)
  have sa0 := (StreamAt.made cap hc hl).keep0 (gr_alloc (gr_refl _ _) (.cells #[.slice a l.length cap, .int .i64 0] 25))
  have sb0 := StreamAt.madeLow cap (gr_alloc (gr_refl w none) (.cells #[.slice a l.length cap, .int .i64 0] 25)) hc hl
  rw [show (w.alloc (.cells #[.slice a l.length cap, .int .i64 0] 25)).heap.size = w.heap.size + 1 by simp] at sb0
  obtain ⟨w0, hw0⟩ : ∃ w0, w0 = (w.alloc (.cells #[.slice a l.length cap, .int .i64 0] 25)).alloc (.cells #[.slice a l.length cap, .int .i64 0] 25) := ⟨_, rfl⟩
  have hz0 : w0.heap.size = w.heap.size + 2 := by rw [hw0]; simp
  rw [← hw0] at sa0 sb0 hg0
  have MA := fun (p' : Nat) (w' : World) (h : StreamAt w' p' w.heap.size l 0) => meter_any l 0 p' w' h (by omega)
  unfold MtrPost at MA
  have hmc := mtrM_cnt l 0
  have hmt := mtrM_turn l 0
  have hk1 := mtrK_le l 0
  obtain ⟨m, hme⟩ : ∃ m, m = mtrM l 0 := ⟨_, rfl⟩
  obtain ⟨k1, hk1e⟩ : ∃ k1, k1 = mtrK l 0 := ⟨_, rfl⟩
  rw [← hme] at MA hmc hmt
  rw [← hk1e] at MA hk1
  obtain ⟨right, hri⟩ : ∃ right : Bool, right = true ↔ MtrOk m := by
    by_cases h : MtrOk m
    · exact ⟨true, fun _ => h, fun _ => rfl⟩
    · exact ⟨false, fun h2 => (by cases h2), fun h2 => absurd h2 h⟩
  have RA := fun (p' : Nat) (w' : World) (h : StreamAt w' p' w.heap.size l k1) => readings_any l k1 m right hri p' w' h (by omega) hmc hmt
  unfold RdsPost at RA
  obtain ⟨hX12, hXv, -⟩ := rdsM_small l k1 m right (fun h => hri.1 h)
  obtain ⟨X, hX⟩ : ∃ X, X = rdsM l k1 m right := ⟨_, rfl⟩
  rw [← hX] at RA hX12 hXv
  have HMA := Lib.hid MA
  have HRA := Lib.hid RA
  have HXV := Lib.hid hXv
  have HMT : Hid (-1000000000 ≤ m.turn ∧ m.turn ≤ 1000000000) := ⟨by omega, by omega⟩
  clear MA RA hXv hX hri hk1e hme hc hl hmc
  obtain ⟨mc, mt, mf⟩ := m
  unfold mtrV at HMA HRA
  dsimp only at HMA HRA
  go_enter Try.func4, Try.ntmps4
  go_wp2_with (fail)
  rw [← hw0]
  have HW0 := Lib.hid hw0; clear hw0
  refine (HMA.out _ w0 sa0).mono ?_
  rintro e w1 ⟨rfl, sa1, g1⟩
  have z1 := g1.size
  have sb1 := sb0.keepNe g1 (fun q e => by cases e; omega)
  clear sa0 sb0
  go_wp2_with (fail)
  refine (HMA.out _ w1 sb1).mono ?_
  rintro e w2 ⟨rfl, sb2, g2⟩
  have z2 := g2.size
  have sa2 := sa1.keepNe g2 (fun q e => by cases e; omega)
  have hgr2 := gr_grown (gr_grown hg0 g1 (fun k e => by cases e; omega)) g2 (fun k e => by cases e; omega)
  clear sa1 sb1 g1 g2 hg0 HMA HW0
  obtain ⟨hM, hM'⟩ := heap_2 w2 (.cells #[.int .i64 mc, .int .i64 mt, .int .i64 mf] 34) (.cells #[.int .i64 mc, .int .i64 mt, .int .i64 mf] 34)
  have g24 := gr_alloc (gr_alloc (gr_refl w2 none) (.cells #[.int .i64 mc, .int .i64 mt, .int .i64 mf] 34)) (.cells #[.int .i64 mc, .int .i64 mt, .int .i64 mf] 34)
  obtain ⟨w4, hw4⟩ : ∃ w4, w4 = (w2.alloc (.cells #[.int .i64 mc, .int .i64 mt, .int .i64 mf] 34)).alloc (.cells #[.int .i64 mc, .int .i64 mt, .int .i64 mf] 34) := ⟨_, rfl⟩
  rw [← hw4] at hM g24
  obtain ⟨B5, hB5⟩ : ∃ B5, B5 = w2.heap.size := ⟨_, rfl⟩
  rw [← hB5] at hM
  have hB5l : w.heap.size + 1 < B5 := by omega
  have sa4 := sa2.keep0 g24
  have sb4 := sb2.keep0 g24
  have HM := Lib.hid hM
  have HG4 := Lib.hid (gr_trans hgr2 g24)
  have hz4 : w.heap.size + 2 ≤ w4.heap.size := by have := g24.size; omega
  have HW4 := Lib.hid hw4
  have HB5 := Lib.hid hB5
  clear hM hM' g24 hw4 sa2 sb2 hgr2 hB5 z1 z2 hz0
  go_upto_region 3 with (fail)
  rw [← HW4.out, ← HB5.out]
  go_cut [7, 8] (fun x y wx => ∃ Lx Ly, Rds wx w.heap.size x Lx ∧ Rds wx w.heap.size y Ly ∧ rdsG Lx = X ∧ rdsG Ly = X ∧ wx.heap[B5]? = some (.cells #[.int .i64 mc, .int .i64 mt, .int .i64 mf] 34 (0, 0)) ∧ w.grownBy wx none)
  case first =>
    obtain ⟨m0, m1, m2, -⟩ := blk3M HM.out
    have sa4d := sa4.keep0 (gr_drew (gr_refl w4 none))
    have sb4d := sb4.keep0 (gr_drew (gr_refl w4 none))
    have RA4 := Lib.hid (HRA.out w.heap.size w4.drew sa4d)
    have RB4 := Lib.hid (HRA.out (w.heap.size + 1) w4.drew sb4d)
    have hMl := lt_of_block HM.out
    have hgd := gr_drew (gr_refl w4 none)
    go_region_law (first
      | (go_simp; revert KB; intro KB; go_at_call 12; (with_reducible refine KB.out.mono ?_); rintro e w6 ⟨v6, L6, rfl, r6, e6, -, g6⟩; have r5 := r5.keepS g6 (by omega); have hM6 := (g6.block _ (lt_of_block hM5) (by simp; omega)).trans hM5; have hgB := gr_grown hgA g6 (fun q e => by cases e; omega); have hz6 := g6.size)
      | (go_simp; revert KA; intro KA; go_at_call 12; (with_reducible refine KA.out.mono ?_); rintro e w6 ⟨v6, L6, rfl, r6, e6, -, g6⟩; have r5 := r5.keepS g6 (by omega); have hM6 := (g6.block _ (lt_of_block hM5) (by simp; omega)).trans hM5; have hgB := gr_grown hgA g6 (fun q e => by cases e; omega); have hz6 := g6.size)
      | (go_simp; go_at_call 12; (with_reducible refine RA4.out.mono ?_); rintro e w5 ⟨v5, L5, rfl, r5, e5, -, g5⟩; have r5 := r5.base (show w4.heap.size ≤ w4.drew.heap.size from Nat.le_refl _); have sb5 := sb4d.keepNe g5 (fun q e => by cases e; omega); have KB := Lib.hid (HRA.out (w.heap.size + 1) w5 sb5); have hz5 : w4.heap.size ≤ w5.heap.size := g5.size; have hM5 := (g5.block B5 (show B5 < w4.heap.size from hMl) (by simp; omega)).trans HM.out; have hgA := gr_grown (gr_drew HG4.out) g5 (fun q e => by cases e; omega); obtain ⟨y0, y1, y2, -⟩ := blk3M hM5)
      | (go_simp; go_at_call 12; (with_reducible refine RB4.out.mono ?_); rintro e w5 ⟨v5, L5, rfl, r5, e5, -, g5⟩; have r5 := r5.base (show w4.heap.size ≤ w4.drew.heap.size from Nat.le_refl _); have sa5 := sa4d.keepNe g5 (fun q e => by cases e; omega); have KA := Lib.hid (HRA.out w.heap.size w5 sa5); have hz5 : w4.heap.size ≤ w5.heap.size := g5.size; have hM5 := (g5.block B5 (show B5 < w4.heap.size from hMl) (by simp; omega)).trans HM.out; have hgA := gr_grown (gr_drew HG4.out) g5 (fun q e => by cases e; omega); obtain ⟨y0, y1, y2, -⟩ := blk3M hM5)
      | fail)
    all_goals (go_wp2_with (fail))
    all_goals go_meet
    all_goals first
      | exact ⟨L5, L6, r5.base (by omega), r6.base (by omega), e5, e6, hM6, hgB⟩
      | exact ⟨L6, L5, r6.base (by omega), r5.base (by omega), e6, e5, hM6, hgB⟩
  case rest =>
  obtain ⟨Lx, Ly, rx, ry, ex, ey, hM6, hg6⟩ := hcut
  obtain ⟨w6, rfl⟩ : ∃ w6 : World, w6 = wc := ⟨_, rfl⟩
  obtain ⟨xa, xc, rfl, -, -⟩ := rx.shape
  obtain ⟨ya, yc, rfl, -, -⟩ := ry.shape
  have hlx : Lx.length = X.length := by have := congrArg List.length ex; rwa [rdsG_len] at this
  have hly : Ly.length = X.length := by have := congrArg List.length ey; rwa [rdsG_len] at this
  have hlx6 : Lx.length ≤ 6 := by omega
  have hly6 : Ly.length ≤ 6 := by omega
  have HXS : Hid (∀ g ∈ Lx, g.rd.vs.length ≤ 60) := fun g hg => HXV.out g.rd (by rw [← ex]; exact List.mem_map_of_mem hg)
  have HYS : Hid (∀ g ∈ Ly, g.rd.vs.length ≤ 60) := fun g hg => HXV.out g.rd (by rw [← ey]; exact List.mem_map_of_mem hg)
  have SR := sortedReadings_any ⟨mc, mt, mf⟩ Ly ya yc w6 HMT.out ry.toC (by omega) (fun g hg => by have := HYS.out g hg; omega)
  unfold SortedPost mtrV at SR
  rw [ey] at SR
  have SR := Lib.hid SR
  have HRX := Lib.hid rx
  have HXC := Lib.hid rx.toC
  have HYC := Lib.hid ry.toC
  have HEX := Lib.hid ex
  have HEY := Lib.hid ey
  have HM6 := Lib.hid hM6
  have HG6 := Lib.hid hg6
  have hz6 := hg6.size
  obtain ⟨m0, m1, m2, -⟩ := blk3M hM6
  have HNX : Hid (xa = none → Lx.length = 0 ∧ xc = 0) := own_nilS rx.row
  clear rx ry ex ey hM6 hg6 hlx hly HM HG4 HRA sa4 sb4 HMT hX12
  go_wp2_with (fail)
  refine SR.out.mono ?_
  rintro e w7 ⟨wv, r, rfl, g7, hr⟩
  have hM7 := (g7.block _ (lt_of_block HM6.out) (by simp)).trans HM6.out
  have HG7 := Lib.hid (gr_trans HG6.out g7)
  have HR := Lib.hid hr
  have HG67 := Lib.hid g7
  clear hr g7 m0 m1 m2 SR
  by_cases hr0 : r = 0
  case neg =>
    have hrb : (r != 0) = true := by simpa using hr0
    clear hr0
    go_wp2_with (fail)
    refine (meters_any w7).mono ?_
    rintro e w8 ⟨rfl, g8⟩
    have g8 := gr_trans HG7.out g8
    go_wp2_with (fail)
    go_ret
    exact ⟨rfl, g8⟩
  obtain ⟨hok, hall, Lw, hwv, hasc⟩ := HR.out hr0
  have HOK := Lib.hid hok
  have HALL := Lib.hid hall
  have HASC := Lib.hid hasc
  have HNC := Lib.hid hasc.noConf
  have HWV := Lib.hid hwv
  obtain ⟨wa, wc', rfl, -, -⟩ := hwv.shape
  subst hr0
  have HM7 := Lib.hid hM7
  obtain ⟨m0, m1, m2, -⟩ := blk3M hM7
  have NL := newLog_any ⟨mc, mt, mf⟩ hok w7
  unfold mtrV at NL
  have NL := Lib.hid NL
  clear hok hall hasc hwv hM7 HR
  go_wp2_with (fail)
  refine NL.out.mono ?_
  rintro e w8 ⟨g, rfl, hlog, hgl, g8⟩
  have hlog := hlog w7.heap.size
  have HXC7 := Lib.hid (HXC.out.keep0 HG67.out)
  have HLOG := Lib.hid hlog
  have HG78 := Lib.hid g8
  clear g8 hlog NL m0 m1 m2
  go_wp2_with (fail)
  go_loopw [66] (fun i wr => ∃ (k : Nat) (lv : Value) (L : List RdG), k ≤ Lx.length ∧ i = .int .i64 k ∧ LogAt wr g w7.heap.size ⟨mc, mt, mf⟩ lv L ∧ Hid (Asc (rdsG L) (rdsG (Lx.take k))) ∧ L.length ≤ k ∧ w7.grownBy wr none) (fun i _ => Lx.length - (intOf i).toNat)
  case atStart => exact ⟨0, _, [], Nat.zero_le _, rfl, HLOG.out, Asc.nil, Nat.zero_le _, HG78.out⟩
  case round =>
    obtain ⟨k, lv, L, hk, rfl, hlog, HAS, hlk, hgr⟩ := hrel
    obtain ⟨wo, rfl⟩ : ∃ wo : World, wo = wr := ⟨_, rfl⟩
    have HLG := Lib.hid hlog
    have HGR := Lib.hid hgr
    clear hlog hgr
    by_cases hlt : k < Lx.length
    · obtain ⟨b, off, rfl, c0, c1, cv⟩ := (HXC7.out.keep0 HGR.out).at hlt
      have hxm : Lx[k].rd ∈ X := by rw [← HEX.out]; exact List.mem_map_of_mem (List.getElem_mem hlt)
      have hrok := HALL.out _ hxm
      have hnil := HXC7.out.nil _ (List.getElem_mem hlt)
      have HTK : Hid (rdsG (Lx.take (k + 1)) = rdsG (Lx.take k) ++ [Lx[k].rd]) := by
        show _ = _
        have e : Lx.take (k + 1) = Lx.take k ++ [Lx[k]] := by simp
        rw [e, rdsG_app]
      have hnc : NoConf (rdsG (Lx.take k) ++ [Lx[k].rd]) := by
        rw [← HTK.out]
        have hsub : ∀ r ∈ rdsG (Lx.take (k + 1)), r ∈ X := by
          intro r hr
          rw [← HEX.out]
          simp only [rdsG, List.mem_map] at hr ⊢
          obtain ⟨q, hq, rfl⟩ := hr
          exact ⟨q, List.mem_of_mem_take hq, rfl⟩
        exact fun p hp q hq => HNC.out p (hsub p hp) q (hsub q hq)
      obtain ⟨x, hx⟩ : ∃ x, x = Lx[k] := ⟨_, rfl⟩
      rw [← hx] at c0 c1 cv hrok hnil HTK hnc
      clear hx hxm
      have ga := gr_alloc (gr_refl wo none) (.cells #[.int .i64 x.rd.at_, .slice x.a x.rd.vs.length x.c] 52)
      have PT := put_ok ⟨mc, mt, mf⟩ HOK.out L (rdsG (Lx.take k)) g w7.heap.size lv x _ (HLG.out.keep0 ga) (by have := HGR.out.size; have := ga.size; omega) HAS.out hrok hnc (cv.keep0 ga) hnil (by omega)
      unfold PutPost at PT
      have PT := Lib.hid PT
      have HGA := Lib.hid (gr_trans HGR.out ga)
      clear ga cv hrok hnil hnc
      go_wp2_with (fail)
      refine PT.out.mono ?_
      rintro e w9 ⟨bb, lv', L', rfl, h1, h2, h3, h4, h5⟩
      have hgg : w7.grownBy w9 none := GrowT.grown HGA.out h5 (fun q hq => by
        rcases hq with rfl | hq
        · exact hgl
        · exact (HLG.out.rds.row.lt q hq).1)
      have H1 := Lib.hid h1
      have H2 := Lib.hid h2
      clear h1 h2 h4 h5
      go_wp2_with (fail)
      go_roundw
      case rel => exact ⟨k + 1, lv', L', by omega, by go_num, H1.out, by show Asc _ _; rw [HTK.out]; exact H2.out, by omega, hgg⟩
      case measure => simp [intOf]; omega
    · obtain rfl : k = Lx.length := by omega
      have HLX : Hid (Asc (rdsG L) X) := by
        have h := HAS.out
        rw [List.take_length, HEX.out] at h
        exact h
      have HM9 := Lib.hid ((HGR.out.block _ (lt_of_block HM7.out) (by simp)).trans HM7.out)
      obtain ⟨m0, m1, m2, -⟩ := blk3M HM9.out
      have HXC9 := Lib.hid (HXC7.out.keep0 HGR.out)
      have SO := mtSort_ok ⟨mc, mt, mf⟩ HOK.out Lx xa xc wo HXC9.out HNX.out (by omega) (by rw [HEX.out]; exact HALL.out) (by rw [HEX.out]; exact HNC.out)
      have SP := fun (W : World) (gg : wo.grownBy W none) => steps_ok ⟨mc, mt, mf⟩ HOK.out Lx xa xc W (HXC9.out.keep0 gg) HNX.out (by omega) (by rw [HEX.out]; exact HALL.out) (by rw [HEX.out]; exact HNC.out)
      unfold MtSortPost mtrV at SO
      unfold StepsPost mtrV at SP
      have SO := Lib.hid SO
      have SP := Lib.hid SP
      obtain ⟨w9, rfl⟩ : ∃ w9 : World, w9 = wo := ⟨_, rfl⟩
      clear HAS
      go_wp2_with (fail)
      refine SO.out.mono ?_
      rintro e w10 ⟨sv, Ls, rfl, hs10, -, hls, g10⟩
      obtain ⟨sa, sc, rfl, -, -⟩ := hs10.shape
      have HS10 := Lib.hid hs10
      have HG10 := Lib.hid g10
      have hM10 := (g10.block _ (lt_of_block HM9.out) (by simp)).trans HM9.out
      obtain ⟨n0, n1, n2, -⟩ := blk3M hM10
      have hls6 : Ls.length ≤ 6 := by rw [rdsG_len] at hls; omega
      have HSP10 := Lib.hid (SP.out w10 g10)
      clear hs10 g10 hM10 m0 m1 m2 SO SP hls
      go_wp2_with (fail)
      refine HSP10.out.mono ?_
      rintro e w11 ⟨tv, St, Y, rfl, ht11, -, -, g11⟩
      obtain ⟨ta, tc, rfl, -, -⟩ := ht11.shape
      have HT11 := Lib.hid ht11
      have HG11 := Lib.hid (gr_trans HG10.out g11)
      have HS11 := Lib.hid (HS10.out.keep0 g11)
      have SM := Lib.hid (sameReadings_any Lx Ly (by rw [HEX.out, HEY.out]) xa ya xc yc w11 (HXC9.out.keep0 HG11.out) (HYC.out.keep0 (gr_trans HG67.out (gr_trans HGR.out HG11.out))) (by omega) (fun g hg => by have := HXS.out g hg; omega))
      have HLG11 := Lib.hid (HLG.out.keep0 HG11.out)
      clear ht11 g11 n0 n1 n2 HS10 HSP10
      go_wp2_with (fail)
      refine SM.out.mono ?_
      rintro e w12 ⟨rfl, g12⟩
      have HG12 := Lib.hid (gr_trans HG11.out g12)
      have HLG12 := Lib.hid (HLG11.out.keep0 g12)
      have HT12 := Lib.hid (HT11.out.keep0 g12)
      have HS12 := Lib.hid (HS11.out.keep0 g12)
      have hLv : ∀ x ∈ L, x.rd.vs.length ≤ 1000 := fun x hx => by
        have h1 := HXV.out x.rd ((HLX.out.mem _).1 (List.mem_map_of_mem hx))
        omega
      have HLV := Lib.hid hLv
      have LR := logReadings_any ⟨mc, mt, mf⟩ L g w7.heap.size lv w12 HLG12.out (by omega) hLv
      unfold OutPost at LR
      have LR := Lib.hid LR
      have hz9 : Hid (w9.heap.size ≤ w10.heap.size ∧ w9.heap.size ≤ w12.heap.size) := ⟨HG10.out.size, HG12.out.size⟩
      clear g12 SM hLv HT11 HS11
      go_wp2_with (fail)
      refine LR.out.mono ?_
      rintro e w13 ⟨rv, Lr, rfl, hr13, her, g13⟩
      obtain ⟨ra, rc, rfl, -, -⟩ := hr13.shape
      have hlr : Lr.length ≤ 6 := by have := congrArg List.length her; rw [rdsG_len, rdsG_len] at this; omega
      have ga := gr_alloc (gr_refl w13 none) (.cells #[.slice sa Ls.length sc, .slice ra Lr.length rc] 36)
      have hQ := heap_alloc_new w13 (.cells #[.slice sa Ls.length sc, .slice ra Lr.length rc] 36)
      have hW : WInv (w13.alloc (.cells #[.slice sa Ls.length sc, .slice ra Lr.length rc] 36)) w9 w13.heap.size sa sc Ls ra rc Lr ta tc St :=
        ⟨gr_trans HG12.out (gr_trans g13 ga), (HS12.out.sh).keep0 (gr_trans g13 ga), (hr13.sh.base hz9.out.2).keep0 ga, ((HT12.out.base hz9.out.1).sh).keep0 (gr_trans g13 ga), hQ⟩
      have HW := Lib.hid hW
      obtain ⟨Q, hQe⟩ : ∃ Q, Q = w13.heap.size := ⟨_, rfl⟩
      rw [← hQe] at HW
      have HQE := Lib.hid hQe
      clear hr13 her g13 ga hQ hW LR HLG12 HT12 HS12 hz9 hQe
      go_wp2_with (fail)
      rw [← HQE.out]
      go_loopw [108] (fun i wr => ∃ k : Nat, k ≤ 2 ∧ i = .int .i64 k ∧ WInv wr w9 Q sa sc Ls ra rc Lr ta tc St) (fun i _ => 2 - (intOf i).toNat)
      case atStart => exact ⟨0, by omega, rfl, HW.out⟩
      case round =>
        obtain ⟨i, hi, rfl, hwi⟩ := hrel
        obtain ⟨wo, rfl⟩ : ∃ wo : World, wo = wr := ⟨_, rfl⟩
        have HWI := Lib.hid hwi
        by_cases hi2 : i < 2
        · have hsel : ∃ (va : Option Addr) (vc : Nat) (Lv : List RdG), wo.cell? ⟨Q, i, none⟩ = some (.slice va Lv.length vc) ∧ Lv.length ≤ 6 ∧ ∀ W, WInv W w9 Q sa sc Ls ra rc Lr ta tc St → ShR W w9.heap.size (.slice va Lv.length vc) Lv := by
            rcases (show i = 0 ∨ i = 1 by omega) with rfl | rfl
            · exact ⟨sa, sc, Ls, blkC hwi.q 0 rfl, hls6, fun W h => h.s⟩
            · exact ⟨ra, rc, Lr, blkC hwi.q 1 rfl, hlr, fun W h => h.r⟩
          obtain ⟨va, vc, Lv, q0, hlv, hsh⟩ := hsel
          have HSH := Lib.hid hsh
          clear hsh hwi
          go_wp2_with (fail)
          go_loopw [114] (fun j wr => ∃ k : Nat, k ≤ Lv.length ∧ j = .int .i64 k ∧ WInv wr w9 Q sa sc Ls ra rc Lr ta tc St) (fun j _ => Lv.length - (intOf j).toNat)
          case atStart => exact ⟨0, Nat.zero_le _, rfl, HWI.out⟩
          case round =>
            obtain ⟨j, hj, rfl, hwj⟩ := hrel
            obtain ⟨wi, rfl⟩ : ∃ wi : World, wi = wr := ⟨_, rfl⟩
            have HWJ := Lib.hid hwj
            by_cases hjl : j < Lv.length
            · obtain ⟨b, off, rfl, c0, c1⟩ := (HSH.out wi hwj).at hjl
              have HMEM : Hid (Lv[j] ∈ Lv) := List.getElem_mem hjl
              obtain ⟨x, hx⟩ : ∃ x, x = Lv[j] := ⟨_, rfl⟩
              rw [← hx] at c0 c1 HMEM
              obtain ⟨xr, pa, pc⟩ := x
              simp only at c0 c1
              have ga := gr_alloc (gr_refl wi none) (.cells #[.int .i64 xr.at_, .slice pa xr.vs.length pc] 52)
              have hV := heap_alloc_new wi (.cells #[.int .i64 xr.at_, .slice pa xr.vs.length pc] 52)
              have HWA := Lib.hid (hwj.keep0 ga)
              have HV := Lib.hid hV
              have v1 : (wi.alloc (.cells #[.int .i64 xr.at_, .slice pa xr.vs.length pc] 52)).cell? ⟨wi.heap.size, 1, none⟩ = some (.slice pa xr.vs.length pc) := blkC hV 1 rfl
              obtain ⟨V, hVe⟩ : ∃ V, V = wi.heap.size := ⟨_, rfl⟩
              rw [← hVe] at HV v1
              have HVE := Lib.hid hVe
              have hvs : xr.vs.length ≤ 9223372036854775807 := by
                obtain ⟨M, h1, h2⟩ := (HSH.out wi hwj).vals _ HMEM.out
                obtain ⟨_, _, e, h3, h4, -, -⟩ := own_shape h2
                cases e
                unfold maxLen at h4
                dsimp only at h3 h4
                omega
              clear hx ga hV hwj hVe
              go_upto_region 27 with (fail)
              rw [← HVE.out]
              go_wp2_with (fail)
              go_loopw [121] (fun u wr => ∃ k : Nat, k ≤ xr.vs.length ∧ u = .int .i64 k ∧ WInv wr w9 Q sa sc Ls ra rc Lr ta tc St ∧ wr.heap[V]? = some (.cells #[.int .i64 xr.at_, .slice pa xr.vs.length pc] 52 (0, 0))) (fun u _ => xr.vs.length - (intOf u).toNat)
              case atStart => exact ⟨0, Nat.zero_le _, rfl, HWA.out, HV.out⟩
              case round =>
                obtain ⟨k, hk, rfl, hwk, hVk⟩ := hrel
                obtain ⟨wk, rfl⟩ : ∃ wk : World, wk = wr := ⟨_, rfl⟩
                have HWK := Lib.hid hwk
                by_cases hkl : k < xr.vs.length
                · have hrow := (HSH.out wk hwk).vals _ HMEM.out
                  obtain ⟨g0, rfl, hg9, -, ⟨uu, hu⟩, hf, cur, hcur⟩ := hrow.at hkl
                  have v1 : wk.cell? ⟨V, 1, none⟩ = some (.slice (some ⟨g0, 0, none⟩) xr.vs.length pc) := blkC hVk 1 rfl
                  have HS := Lib.hid (HWK.out.set hcur hg9 k (-5))
                  have HVS := Lib.hid (blk_set (k := k) hVk hcur (by decide) (-5))
                  clear hwk hVk hrow hcur
                  go_wp2_with (fail)
                  go_roundw
                  case rel => exact ⟨k + 1, by omega, by go_num, HS.out, HVS.out⟩
                  case measure => simp [intOf]; omega
                · clear hwk
                  go_wp2_with (fail)
                  go_roundw
                  case rel => exact ⟨j + 1, by omega, by go_num, HWK.out⟩
                  case measure => simp [intOf]; omega
            · clear hwj
              go_wp2_with (fail)
              go_roundw
              case rel => exact ⟨i + 1, by omega, by go_num, HWJ.out⟩
              case measure => simp [intOf]; omega
        · clear hwi
          go_wp2_with (fail)
          go_loopw [133] (fun i wr => ∃ k : Nat, k ≤ St.length ∧ i = .int .i64 k ∧ WInv wr w9 Q sa sc Ls ra rc Lr ta tc St) (fun i _ => St.length - (intOf i).toNat)
          case atStart => exact ⟨0, Nat.zero_le _, rfl, HWI.out⟩
          case round =>
            obtain ⟨j, hj, rfl, hwj⟩ := hrel
            obtain ⟨wi, rfl⟩ : ∃ wi : World, wi = wr := ⟨_, rfl⟩
            have HWJ := Lib.hid hwj
            have hst63 : St.length ≤ 9223372036854775807 := by
              obtain ⟨_, _, e, h3, h4, -, -⟩ := own_shape hwj.t.row
              cases e
              unfold maxLen at h4
              omega
            by_cases hjl : j < St.length
            · obtain ⟨b, off, rfl, c0, c1, c2, c3⟩ := hwj.t.at hjl
              have HMEM : Hid (St[j] ∈ St) := List.getElem_mem hjl
              obtain ⟨x, hx⟩ : ∃ x, x = St[j] := ⟨_, rfl⟩
              rw [← hx] at c0 c1 c2 c3 HMEM
              obtain ⟨xr, pa, pc⟩ := x
              simp only at c0 c1 c2 c3
              have ga := gr_alloc (gr_refl wi none) (.cells #[.int .i64 xr.fr, .int .i64 xr.til, .bool xr.rs, .slice pa xr.sold.length pc] 62)
              have hV := heap_alloc_new wi (.cells #[.int .i64 xr.fr, .int .i64 xr.til, .bool xr.rs, .slice pa xr.sold.length pc] 62)
              have HWA := Lib.hid (hwj.keep0 ga)
              have HV := Lib.hid hV
              have v1 : (wi.alloc (.cells #[.int .i64 xr.fr, .int .i64 xr.til, .bool xr.rs, .slice pa xr.sold.length pc] 62)).cell? ⟨wi.heap.size, 3, none⟩ = some (.slice pa xr.sold.length pc) := blkC hV 3 rfl
              obtain ⟨V, hVe⟩ : ∃ V, V = wi.heap.size := ⟨_, rfl⟩
              rw [← hVe] at HV v1
              have HVE := Lib.hid hVe
              have hvs : xr.sold.length ≤ 9223372036854775807 := by
                obtain ⟨M, h1, h2⟩ := hwj.t.vals _ HMEM.out
                obtain ⟨_, _, e, h3, h4, -, -⟩ := own_shape h2
                cases e
                unfold maxLen at h4
                dsimp only at h3 h4
                omega
              clear hx ga hV hwj hVe
              go_upto_region 37 with (fail)
              rw [← HVE.out]
              go_wp2_with (fail)
              go_loopw [140] (fun u wr => ∃ k : Nat, k ≤ xr.sold.length ∧ u = .int .i64 k ∧ WInv wr w9 Q sa sc Ls ra rc Lr (some ⟨b, off, none⟩) tc St ∧ wr.heap[V]? = some (.cells #[.int .i64 xr.fr, .int .i64 xr.til, .bool xr.rs, .slice pa xr.sold.length pc] 62 (0, 0))) (fun u _ => xr.sold.length - (intOf u).toNat)
              case atStart => exact ⟨0, Nat.zero_le _, rfl, HWA.out, HV.out⟩
              case round =>
                obtain ⟨k, hk, rfl, hwk, hVk⟩ := hrel
                obtain ⟨wk, rfl⟩ : ∃ wk : World, wk = wr := ⟨_, rfl⟩
                have HWK := Lib.hid hwk
                by_cases hkl : k < xr.sold.length
                · have hrow := hwk.t.vals _ HMEM.out
                  obtain ⟨g0, rfl, hg9, -, ⟨uu, hu⟩, hf, cur, hcur⟩ := hrow.at hkl
                  have v1 : wk.cell? ⟨V, 3, none⟩ = some (.slice (some ⟨g0, 0, none⟩) xr.sold.length pc) := blkC hVk 3 rfl
                  have HS := Lib.hid (HWK.out.set hcur hg9 k (-5))
                  have HVS := Lib.hid (blk_set (k := k) hVk hcur (by decide) (-5))
                  clear hwk hVk hrow hcur
                  go_wp2_with (fail)
                  go_roundw
                  case rel => exact ⟨k + 1, by omega, by go_num, HS.out, HVS.out⟩
                  case measure => simp [intOf]; omega
                · clear hwk
                  go_wp2_with (fail)
                  go_roundw
                  case rel => exact ⟨j + 1, by omega, by go_num, HWK.out⟩
                  case measure => simp [intOf]; omega
            · have HGJ := Lib.hid hwj.gr
              have SM := Lib.hid (sameReadings_any Lx Ly (by rw [HEX.out, HEY.out]) xa ya xc yc wi (HXC9.out.keep0 hwj.gr) (HYC.out.keep0 (gr_trans HG67.out (gr_trans HGR.out hwj.gr))) (by omega) (fun g hg => by have := HXS.out g hg; omega))
              clear hwj
              go_wp2_with (fail)
              refine SM.out.mono ?_
              rintro e wS ⟨rfl, gS⟩
              have HGS := Lib.hid (gr_trans HGR.out (gr_trans HGJ.out gS))
              have HLS := Lib.hid (HLG.out.keep0 (gr_trans HGJ.out gS))
              have HWS := Lib.hid (HWV.out.keep0 HGS.out)
              have HXS6 := Lib.hid ((HRX.out.keep0 (gr_trans HG67.out HGS.out)).sh)
              have HGW := Lib.hid (gr_trans HG7.out HGS.out)
              clear gS SM
              go_wp2_with (fail)
              go_loopw [155] (fun i wr => ∃ k : Nat, k ≤ Lx.length ∧ i = .int .i64 k ∧ ShR wr w.heap.size (.slice xa Lx.length xc) Lx ∧ GrowT (fun q => w.heap.size ≤ q ∧ q < w6.heap.size) wS wr) (fun i _ => Lx.length - (intOf i).toNat)
              case atStart => exact ⟨0, Nat.zero_le _, rfl, HXS6.out, GrowT.of (gr_refl _ none) (fun q e => by cases e)⟩
              case round =>
                obtain ⟨j, hj, rfl, hsr, hgt⟩ := hrel
                obtain ⟨wt, rfl⟩ : ∃ wt : World, wt = wr := ⟨_, rfl⟩
                have HSR := Lib.hid hsr
                have HGT := Lib.hid hgt
                clear hgt
                by_cases hjl : j < Lx.length
                · obtain ⟨b, off, rfl, c0, c1⟩ := hsr.at hjl
                  have HMEM : Hid (Lx[j] ∈ Lx) := List.getElem_mem hjl
                  have hvs := HXS.out _ (List.getElem_mem hjl)
                  obtain ⟨x, hx⟩ : ∃ x, x = Lx[j] := ⟨_, rfl⟩
                  rw [← hx] at c0 c1 HMEM hvs
                  obtain ⟨xr, pa, pc⟩ := x
                  simp only at c0 c1 hvs
                  have ga := gr_alloc (gr_refl wt none) (.cells #[.int .i64 xr.at_, .slice pa xr.vs.length pc] 52)
                  have hV := heap_alloc_new wt (.cells #[.int .i64 xr.at_, .slice pa xr.vs.length pc] 52)
                  have HSA := Lib.hid (hsr.keep0 ga)
                  have HTA := Lib.hid (HGT.out.trans (GrowT.of ga (fun q e => by cases e)))
                  have HV := Lib.hid hV
                  have v1 : (wt.alloc (.cells #[.int .i64 xr.at_, .slice pa xr.vs.length pc] 52)).cell? ⟨wt.heap.size, 1, none⟩ = some (.slice pa xr.vs.length pc) := blkC hV 1 rfl
                  obtain ⟨V, hVe⟩ : ∃ V, V = wt.heap.size := ⟨_, rfl⟩
                  rw [← hVe] at HV v1
                  have HVE := Lib.hid hVe
                  clear hx ga hV hsr hVe
                  go_upto_region 48 with (fail)
                  rw [← HVE.out]
                  go_wp2_with (fail)
                  go_loopw [162] (fun u wr => ∃ k : Nat, k ≤ xr.vs.length ∧ u = .int .i64 k ∧ ShR wr w.heap.size (.slice (some ⟨b, off, none⟩) Lx.length xc) Lx ∧ GrowT (fun q => w.heap.size ≤ q ∧ q < w6.heap.size) wS wr ∧ wr.heap[V]? = some (.cells #[.int .i64 xr.at_, .slice pa xr.vs.length pc] 52 (0, 0))) (fun u _ => xr.vs.length - (intOf u).toNat)
                  case atStart => exact ⟨0, Nat.zero_le _, rfl, HSA.out, HTA.out, HV.out⟩
                  case round =>
                    obtain ⟨k, hk, rfl, hsk, hgk, hVk⟩ := hrel
                    obtain ⟨wk, rfl⟩ : ∃ wk : World, wk = wr := ⟨_, rfl⟩
                    have HSK := Lib.hid hsk
                    have HGK := Lib.hid hgk
                    clear hgk
                    by_cases hkl : k < xr.vs.length
                    · have hrow := hsk.vals _ HMEM.out
                      have hrow6 := HRX.out.vals _ HMEM.out
                      obtain ⟨g0, rfl, hg9, -, ⟨uu, hu⟩, hf, cur, hcur⟩ := hrow.at hkl
                      have hg6 : g0 < w6.heap.size := (hrow6.lt g0 rfl).2
                      have v1 : wk.cell? ⟨V, 1, none⟩ = some (.slice (some ⟨g0, 0, none⟩) xr.vs.length pc) := blkC hVk 1 rfl
                      have HS := Lib.hid (HSK.out.set hcur k (-7))
                      have HVS := Lib.hid (blk_set (k := k) hVk hcur (by decide) (-7))
                      have HGS2 := Lib.hid (HGK.out.trans (GrowT.of (T := fun q => w.heap.size ≤ q ∧ q < w6.heap.size) (gr_set (q := ⟨g0, k, none⟩) (gr_refl wk (some g0)) rfl (.int .i64 (-7))) (fun q e => by cases e; exact ⟨hg9, hg6⟩)))
                      clear hsk hVk hrow hrow6 hcur
                      go_wp2_with (fail)
                      go_roundw
                      case rel => exact ⟨k + 1, by omega, by go_num, HS.out, HGS2.out, HVS.out⟩
                      case measure => simp [intOf]; omega
                    · clear hsk
                      go_wp2_with (fail)
                      go_roundw
                      case rel => exact ⟨j + 1, by omega, by go_num, HSK.out, HGK.out⟩
                      case measure => simp [intOf]; omega
                · have hzS : w7.heap.size ≤ wS.heap.size := HGS.out.size
                  have hz67 := HG67.out.size
                  have HLE : Hid (LogAt wt g w7.heap.size ⟨mc, mt, mf⟩ lv L) := ⟨(HGT.out.block g (lt_of_block HLS.out.blk) (fun h => by have := h.2; omega)).trans HLS.out.blk, HLS.out.rds.keepHi HGT.out (fun k h => h.2) hz67⟩
                  have HWE := Lib.hid ((HWS.out.keepHi HGT.out (fun k h => h.2) (Nat.le_refl _)).toC)
                  have HGE := Lib.hid (GrowT.grown HGW.out HGT.out (fun k h => h.1))
                  have ME := Lib.hid (meters_any wt)
                  clear hsr
                  go_wp2_with (fail)
                  refine ME.out.mono ?_
                  rintro e w20 ⟨rfl, g20⟩
                  have LR2 := logReadings_any ⟨mc, mt, mf⟩ L g w7.heap.size lv w20 (HLE.out.keep0 g20) (by omega) HLV.out
                  unfold OutPost at LR2
                  have LR2 := Lib.hid LR2
                  have HG20 := Lib.hid g20
                  clear g20 ME
                  go_wp2_with (fail)
                  refine LR2.out.mono ?_
                  rintro e w21 ⟨rv2, L2, rfl, hr21, her2, g21⟩
                  obtain ⟨ra2, rc2, rfl, -, -⟩ := hr21.shape
                  have heq : rdsG L2 = rdsG Lw := by rw [her2]; exact HLX.out.unique HASC.out
                  have hl2 : L2.length ≤ 6 := by have := congrArg List.length her2; rw [rdsG_len, rdsG_len] at this; omega
                  have SM2 := Lib.hid (sameReadings_any L2 Lw heq ra2 wa rc2 wc' w21 hr21.toC (HWE.out.keep0 (gr_trans HG20.out g21)) (by omega) (fun q hq => by
                    have h1 := HXV.out q.rd ((HLX.out.mem _).1 (by rw [← her2]; exact List.mem_map_of_mem hq))
                    omega))
                  have HG21 := Lib.hid (gr_trans HGE.out (gr_trans HG20.out g21))
                  clear hr21 her2 heq g21 LR2
                  go_wp2_with (fail)
                  refine SM2.out.mono ?_
                  rintro e w22 ⟨rfl, g22⟩
                  have HG22 := Lib.hid (gr_trans HG21.out g22)
                  clear g22
                  go_wp2_with (fail)
                  go_ret
                  exact ⟨rfl, HG22.out⟩
end Go.Proofs.Ytkefloekcgangaa
