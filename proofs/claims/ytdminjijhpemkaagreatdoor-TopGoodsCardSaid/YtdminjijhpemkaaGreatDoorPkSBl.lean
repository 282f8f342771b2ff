/- What ready() asks of each package, but the console: one call each. -/
import Derived.Test.YtdminjijhpemkaaGreatDoorPkSBf
import Derived.Test.YtdminjijhpemkaaGreatDoorPkSAc
import Derived.Test.YtdminjijhpemkaaGreatDoorPkSAd
import Derived.Test.YtdminjijhpemkaaGreatDoorPkSAo
import Derived.Test.YtdminjijhpemkaaGreatDoorPkSBj
import Derived.Test.YtdminjijhpemkaaGreatDoorPkSBk
namespace Go.Proofs.YtdminjijhpemkaaGreatDoor
open Go.RowKit
attribute [local go_sem ↓] Go.wp_at_zero Go.wp_at_succ

set_option maxRecDepth 100000 in
theorem far7_in (w1 : World) : Calls Tryz.prog 115 #[.agg #[.int .i64 3, .int .i64 0], .agg #[.int .i64 0, .int .i64 (-4)]] w1 fun e w' => e = .returned (.int .i64 7) ∧ w1.grownBy w' none := by
  have hg := gr_alloc (gr_alloc (gr_refl w1 none) (.cells #[.int .i64 3, .int .i64 0] 136)) (.cells #[.int .i64 0, .int .i64 (-4)] 136)
  go_enter Tryz.func115, Tryz.ntmps115
  go_wp2_with (fail)
  go_ret
  exact ⟨rfl, hg⟩
set_option maxRecDepth 100000 in
theorem far7_any (w1 : World) : Calls Tryz.prog 62 #[.agg #[.int .i64 3, .int .i64 0], .agg #[.int .i64 0, .int .i64 (-4)]] w1 fun e w' => e = .returned (.tuple #[.int .i64 7, .int .i64 0]) ∧ w1.grownBy w' none := by
  obtain ⟨w2, hw2⟩ : ∃ w2, w2 = (w1.alloc (.cells #[.int .i64 3, .int .i64 0] 136)).alloc (.cells #[.int .i64 0, .int .i64 (-4)] 136) := ⟨_, rfl⟩
  have hg2 : w1.grownBy w2 none := by rw [hw2]; exact gr_alloc (gr_alloc (gr_refl w1 none) _) _
  have hb1 : w2.heap[w1.heap.size]? = some (.cells #[.int .i64 3, .int .i64 0] 136 (0, 0)) := by rw [hw2, heap_alloc_old (h := by simp)]; exact heap_alloc_new w1 _
  have hb2 : w2.heap[w1.heap.size + 1]? = some (.cells #[.int .i64 0, .int .i64 (-4)] 136 (0, 0)) := by
    rw [hw2]
    have := heap_alloc_new (w1.alloc (.cells #[.int .i64 3, .int .i64 0] 136)) (.cells #[.int .i64 0, .int .i64 (-4)] 136)
    simpa using this
  obtain ⟨a0, a1, _, _⟩ := blk2 hb1
  obtain ⟨b0, b1, _, _⟩ := blk2 hb2
  have la := lt_of_cell a0
  have lb := lt_of_cell b0
  clear hb1 hb2
  go_enter Tryz.func62, Tryz.ntmps62
  go_wp2_with (fail)
  rw [← hw2]
  clear hw2
  refine (isSpot_any 3 0 w2 (by omega) (by omega) (by omega) (by omega)).mono ?_
  rintro e w3 ⟨rfl, hg3⟩
  have c0 := (gr_cell hg3 la).trans a0
  have c1 := (gr_cell hg3 la).trans a1
  have d0 := (gr_cell hg3 lb).trans b0
  have d1 := (gr_cell hg3 lb).trans b1
  have lc := lt_of_cell c0
  have ld := lt_of_cell d0
  clear a0 a1 b0 b1 la lb
  go_wp2_with (fail)
  refine (isSpot_any 0 (-4) w3 (by omega) (by omega) (by omega) (by omega)).mono ?_
  rintro e w4 ⟨rfl, hg4⟩
  have e0 := (gr_cell hg4 lc).trans c0
  have e1 := (gr_cell hg4 lc).trans c1
  have f0 := (gr_cell hg4 ld).trans d0
  have f1 := (gr_cell hg4 ld).trans d1
  clear c0 c1 d0 d1 lc ld
  go_wp2_with (fail)
  refine (far7_in w4).mono ?_
  rintro e w5 ⟨rfl, hg5⟩
  go_wp2_with (fail)
  go_ret2
  exact ⟨rfl, gr_trans (gr_trans (gr_trans hg2 hg3) hg4) hg5⟩
set_option maxRecDepth 100000 in
theorem even4_any (w : World) : Calls Tryz.prog 63 #[.int .i64 7, .int .i64 2] w fun e w' => e = .returned (.tuple #[.int .i64 4, .int .i64 0]) ∧ w = w' := by
  have E2 := Lib.hid (even_any 7 2 w (by decide) (by decide) (by decide) (by decide))
  rw [show evenM 7 2 = 4 by decide] at E2
  go_enter Tryz.func63, Tryz.ntmps63
  go_wp2_with (fail)
  refine (out_any 7 (-1000000000000000) 1000000000000000 w).mono ?_
  rintro e w1 ⟨rfl, rfl⟩
  go_wp2_with (fail)
  refine (out_any 2 1 1000000000 w).mono ?_
  rintro e w1 ⟨rfl, rfl⟩
  go_wp2_with (fail)
  refine E2.out.mono ?_
  rintro e w1 ⟨rfl, rfl⟩
  go_wp2_with (fail)
  go_ret2
  exact ⟨rfl, rfl⟩
set_option maxRecDepth 100000 in
set_option maxHeartbeats 1000000 in
theorem worth5_any (w : World) (A B D : Nat) (h1 : w.heap[A]? = some (.cells #[.int .i64 5] 3 (0, 0))) (h2 : w.heap[B]? = some (.cells #[.string ⟨#[97]⟩, .string ⟨#[103]⟩, .slice (some ⟨A, 0, none⟩) 1 1, .slice none 0 0, .slice none 0 0] 132 (0, 0))) (h3 : w.heap[D]? = some (.cells #[.int .i64 1] 3 (0, 0))) :
    Calls Tryz.prog 61 #[.slice (some ⟨B, 0, none⟩) 1 1, .slice (some ⟨D, 0, none⟩) 1 1] w fun e w' => e = .returned (.tuple #[.int .i64 5, .int .i64 0]) ∧ w.grownBy w' none := by
  have HE : Hid ((worthS oneOffer [1]).sum = 5) := by show _ = _; decide
  refine (worthS_any oneOffer [1] (some ⟨B, 0, none⟩) (some ⟨D, 0, none⟩) [⟨⟨#[97]⟩, ⟨#[103]⟩, some ⟨A, 0, none⟩, 1, 1, none, 0, 0, none, 0, 0⟩] 1 1 w ⟨rfl, ?_, ?_⟩ oneOffer_ok ?_ oneCount_ok).mono ?_
  · intro j x hx
    refine ⟨_, 0, rfl, ?_⟩
    rw [Nat.zero_add]
    exact blkC h2 j (by simpa [flat, encOV] using hx)
  · intro i v o hv ho
    cases i with
    | zero =>
      simp only [oneOffer, List.getElem?_cons_zero, Option.some.injEq] at hv ho
      subst hv ho
      refine ⟨rfl, rfl, rfl, rfl, rfl, ?_, CellsAt.nil _ _, CellsAt.nil _ _, by show 1 ≤ 1; omega, by show 1 ≤ maxLen; unfold maxLen; omega⟩
      intro j x hx
      refine ⟨_, 0, rfl, ?_⟩
      rw [Nat.zero_add]
      exact blkC h1 j (by simpa [ints] using hx)
    | succ i => simp at hv
  · intro j x hx
    refine ⟨_, 0, rfl, ?_⟩
    rw [Nat.zero_add]
    exact blkC h3 j (by simpa [ints] using hx)
  rintro e w2 ⟨rfl, g2⟩
  rw [HE.out]
  exact ⟨rfl, g2⟩
def sale7 : Sale := ⟨1, 7, false⟩
theorem rate7_any (a : Option Addr) (c : Nat) (w : World) (hc : CellsAt w a (sales [sale7])) :
    Calls Tryz.prog 59 #[.slice a 1 c] w fun e w' => e = .returned (.tuple #[.agg #[.int .i64 7, .int .i64 1], .int .i64 0]) ∧ w.grownBy w' none := by
  refine (rate_some [sale7] a c w hc ⟨by decide, fun i hi => ?_⟩ (by decide)).mono ?_
  · obtain rfl : i = 0 := by simp at hi; omega
    constructor <;> first | decide | (intro h; omega) | skip
  rintro e w' ⟨x, y, rfl, hf, g⟩
  have h1 : tot allP [sale7] = 7 := by decide
  have h2 : (cnt allP [sale7] : Int) = 1 := by decide
  rw [h1, h2] at hf
  have hb := hf.bP
  have hb1 := hf.b1
  have he := hf.eq
  obtain rfl : y = 1 := by omega
  obtain rfl : x = 7 := by omega
  exact ⟨rfl, g⟩
def tube30 : Tube := ⟨10, 3, 5⟩
theorem total30_any (a : Option Addr) (c : Nat) (w : World) (hc : CellsAt w a (tubes [tube30])) :
    Calls Tryz.prog 20 #[.slice a 1 c] w fun e w' => e = .returned (.tuple #[.int .i64 30, .int .i64 0]) ∧ w.grownBy w' none := by
  have ht : totT [tube30] = 30 := by decide
  have h := total_ok [tube30] a c w hc ⟨by decide, fun i hi => by
    obtain rfl : i = 0 := by simp at hi; omega
    constructor <;> first | decide | (intro h; omega) | skip⟩
  rw [ht] at h
  exact h
end Go.Proofs.YtdminjijhpemkaaGreatDoor
