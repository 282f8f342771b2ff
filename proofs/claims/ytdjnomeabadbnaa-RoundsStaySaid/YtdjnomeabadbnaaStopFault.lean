/- What is asked of stops, trips and orders: no panic; an order that passes has places of stops. -/
import Derived.Test.YtdjnomeabadbnaaFindStop
import Derived.Test.YtdjnomeabadbnaaRdFar
import Derived.Test.YtdjnomeabadbnaaKey
import Derived.Test.YtdjnomeabadbnaaMakeInts
namespace Go.Proofs.Ytdjnomeabadbnaa
open Go.RowKit

def AnErr (w : World) (e : Ending) (w' : World) : Prop := (∃ r : Int, e = .returned (.int .i64 r)) ∧ w.grownBy w' none
theorem flat_take {α : Type} {enc : α → List Value} {w : World} {a : Option Addr} {l : List α} (h : CellsAt w a (flat enc l)) (k : Nat) : CellsAt w a (flat enc (l.take k)) := by
  intro j x hx
  refine h j x ?_
  have : flat enc l = flat enc (l.take k) ++ flat enc (l.drop k) := by rw [← flat_append, List.take_append_drop]
  rw [this, List.getElem?_append_left (List.getElem?_eq_some_iff.1 hx).1]
  exact hx
theorem checkStop1_fn : ∀ (args : Array Value) (w : World), (callFunc 95 args).run Try.prog w = .ok (.enter 95 args) w := fun _ _ => by kernel_rfl
set_option maxRecDepth 100000 in
theorem checkStop1_any (x : Stop) (K : ByteArray) (q : Nat) (w : World) (hq : w.cell? ⟨q, 0, none⟩ = some (.string K)) :
    Calls Try.prog 95 #[.agg #[.string x.key, .int .i64 x.x, .int .i64 x.y, .int .i64 x.fr, .int .i64 x.tt, .int .i64 x.lo], .pointer (some ⟨q, 0, none⟩)] w fun e w' => e = .returned (.bool (x.key.toList == K.toList)) ∧ w.grownBy w' none := by
  have hqlt := lt_of_cell hq
  go_enter Try.func95, Try.ntmps95
  go_wp2_with (fail)
  go_ret
  exact ⟨rfl, gr_alloc (gr_refl _ _) _⟩
set_option maxRecDepth 100000 in
set_option maxHeartbeats 2000000 in
theorem checkStops_any (xs : List Stop) (a : Option Addr) (c : Nat) (w : World) (hc : CellsAt w a (flat encStop xs)) (hl : xs.length ≤ 1000) (hcap : xs.length ≤ c) (hk : ∀ x ∈ xs, x.key.size ≤ 100) :
    Calls Try.prog 85 #[.slice a xs.length c] w (AnErr w) := by
  have HKS := Lib.hid hk
  clear hk
  by_cases h60 : xs.length ≤ 60
  · go_enter Try.func85, Try.ntmps85
    go_wp2_with (fail)
    go_loopw [10] (fun i wr => ∃ k : Nat, k ≤ xs.length ∧ i = .int .i64 k ∧ w.grownBy wr none) (fun i _ => xs.length - (intOf i).toNat)
    case atStart => exact ⟨0, Nat.zero_le _, rfl, gr_refl _ _⟩
    case round =>
      obtain ⟨k, hkl, rfl, hgr⟩ := hrel
      obtain ⟨wo, rfl⟩ : ∃ wo : World, wo = wr := ⟨_, rfl⟩
      by_cases hlt : k < xs.length
      · obtain ⟨b, off, rfl, hcs⟩ := flat_cells encStop_len (by decide) (hc.keep0 hgr) (by omega)
        have hmem : xs[k] ∈ xs := List.getElem_mem hlt
        have hks := HKS.out _ hmem
        obtain ⟨x, hx⟩ : ∃ x, x = xs[k] := ⟨_, rfl⟩
        have d0 : wo.cell? ⟨b, off + k * 6, none⟩ = some (.string x.key) := by rw [hx]; exact hcs k hlt 0 _ rfl
        have d1 : wo.cell? ⟨b, off + k * 6 + 1, none⟩ = some (.int .i64 x.x) := by rw [hx]; exact hcs k hlt 1 _ rfl
        have d2 : wo.cell? ⟨b, off + k * 6 + 2, none⟩ = some (.int .i64 x.y) := by rw [hx]; exact hcs k hlt 2 _ rfl
        have d3 : wo.cell? ⟨b, off + k * 6 + 3, none⟩ = some (.int .i64 x.fr) := by rw [hx]; exact hcs k hlt 3 _ rfl
        have d4 : wo.cell? ⟨b, off + k * 6 + 4, none⟩ = some (.int .i64 x.tt) := by rw [hx]; exact hcs k hlt 4 _ rfl
        have d5 : wo.cell? ⟨b, off + k * 6 + 5, none⟩ = some (.int .i64 x.lo) := by rw [hx]; exact hcs k hlt 5 _ rfl
        rw [← hx] at hks
        clear hx hmem hcs
        go_wp2_with (fail)
        have hq1 := heap_alloc_new wo (.cells #[.string x.key, .int .i64 x.x, .int .i64 x.y, .int .i64 x.fr, .int .i64 x.tt, .int .i64 x.lo] 44)
        have hg1 := gr_alloc (gr_refl wo none) (.cells #[.string x.key, .int .i64 x.x, .int .i64 x.y, .int .i64 x.fr, .int .i64 x.tt, .int .i64 x.lo] 44)
        obtain ⟨w1, hw1⟩ : ∃ w1, w1 = wo.alloc (.cells #[.string x.key, .int .i64 x.x, .int .i64 x.y, .int .i64 x.fr, .int .i64 x.tt, .int .i64 x.lo] 44) := ⟨_, rfl⟩
        rw [← hw1] at hq1 hg1
        rw [← hw1]
        obtain ⟨q, hq⟩ : ∃ q, q = wo.heap.size := ⟨_, rfl⟩
        rw [← hq] at hq1
        rw [← hq]
        have hgr1 := gr_trans hgr hg1
        have hc1 := flat_take (hc.keep0 hgr1) k
        have hl1 : (xs.take k).length = k := by simp; omega
        have HC1 := Lib.hid hc1
        have HL1 := Lib.hid hl1
        clear hw1 hq hgr hc1 hl1 d0 d1 d2 d3 d4 d5
        have hqlt := lt_of_block hq1
        refine (key_any x.key w1 (by omega)).mono ?_
        rintro e w2 ⟨rfl, rfl⟩
        obtain ⟨b1, hb1⟩ : ∃ b1, b1 = keyB x.key := ⟨_, rfl⟩
        rw [← hb1]
        clear hb1
        cases b1 with
        | false =>
          go_wp2_with (fail)
          go_ret
          exact ⟨⟨_, rfl⟩, hgr1⟩
        | true =>
          have CF := Lib.hid (containsFunc_stop 95 q (fun z => z.key.toList == x.key.toList) (xs.take k) (some ⟨b, off, none⟩) c w1 HC1.out (by rw [HL1.out]; omega) checkStop1_fn (fun z _ w2 hg2 => checkStop1_any z x.key q w2 ((gr_cell hg2 hqlt).trans (blkC hq1 0 rfl))))
          rw [HL1.out] at CF
          have HQ1 := Lib.hid hq1
          clear hq1
          go_wp2_with (fail)
          refine CF.out.mono ?_
          rintro e w2 ⟨rfl, hg2⟩
          obtain ⟨b2, hb2⟩ : ∃ b2, b2 = (xs.take k).any (fun z => z.key.toList == x.key.toList) := ⟨_, rfl⟩
          rw [← hb2]
          clear hb2
          have hgr2 := gr_trans hgr1 hg2
          have hq2 := (hg2.block q hqlt (by simp)).trans HQ1.out
          cases b2 with
          | true =>
            go_wp2_with (fail)
            go_ret
            exact ⟨⟨_, rfl⟩, hgr2⟩
          | false =>
            have c1 : w2.cell? ⟨q, 1, none⟩ = some (.int .i64 x.x) := blkC hq2 1 rfl
            have c2 : w2.cell? ⟨q, 2, none⟩ = some (.int .i64 x.y) := blkC hq2 2 rfl
            have hq2l := lt_of_block hq2
            have HQ2 := Lib.hid hq2
            clear hq2 hg2 CF
            go_wp2_with (fail)
            refine (isSpot_val x.x x.y w2).mono ?_
            rintro e w3 ⟨rfl, hg3⟩
            obtain ⟨b3, hb3⟩ : ∃ b3, b3 = spotOk x.x x.y := ⟨_, rfl⟩
            rw [← hb3]
            clear hb3
            have hgr3 := gr_trans hgr2 hg3
            have hq3 := (hg3.block q hq2l (by simp)).trans HQ2.out
            have c3 : w3.cell? ⟨q, 3, none⟩ = some (.int .i64 x.fr) := blkC hq3 3 rfl
            have c4 : w3.cell? ⟨q, 4, none⟩ = some (.int .i64 x.tt) := blkC hq3 4 rfl
            have c5 : w3.cell? ⟨q, 5, none⟩ = some (.int .i64 x.lo) := blkC hq3 5 rfl
            clear c1 c2 hg3 hq3
            cases b3 with
            | false =>
              go_wp2_with (fail)
              go_ret
              exact ⟨⟨_, rfl⟩, hgr3⟩
            | true =>
              go_wp2_with (fail)
              refine (out_any x.fr 0 x.tt w3).mono ?_
              rintro e w4 ⟨rfl, rfl⟩
              obtain ⟨b4, hb4⟩ : ∃ b4, b4 = (decide (x.fr < 0) || decide (x.tt < x.fr)) := ⟨_, rfl⟩
              rw [← hb4]
              clear hb4
              cases b4 with
              | true =>
                go_wp2_with (fail)
                go_ret
                exact ⟨⟨_, rfl⟩, hgr3⟩
              | false =>
                by_cases ht : 1440 < x.tt
                · go_wp2_with (fail)
                  go_ret
                  exact ⟨⟨_, rfl⟩, hgr3⟩
                · go_wp2_with (fail)
                  refine (out_any x.lo 0 1440 w3).mono ?_
                  rintro e w4 ⟨rfl, rfl⟩
                  obtain ⟨b5, hb5⟩ : ∃ b5, b5 = (decide (x.lo < 0) || decide (1440 < x.lo)) := ⟨_, rfl⟩
                  rw [← hb5]
                  clear hb5
                  cases b5 with
                  | true =>
                    go_wp2_with (fail)
                    go_ret
                    exact ⟨⟨_, rfl⟩, hgr3⟩
                  | false =>
                    go_wp2_with (fail)
                    go_roundw
                    case rel => exact ⟨k + 1, by omega, by go_num, hgr3⟩
                    case measure => simp [intOf]; omega
      · obtain rfl : k = xs.length := by omega
        go_wp2_with (fail)
        go_ret
        exact ⟨⟨_, rfl⟩, hgr⟩
  · go_enter Try.func85, Try.ntmps85
    have h61 : 60 < xs.length := by omega
    go_wp2_with (fail)
    go_ret
    exact ⟨⟨_, rfl⟩, gr_refl _ _⟩
end Go.Proofs.Ytdjnomeabadbnaa
