/- The walk of MovesInAnyOrder. -/
import Derived.Test.YtoiclngamaadgaaPkMAq
import Derived.Test.YtoiclngamaadgaaPkMAw
import Derived.Test.YtoiclngamaadgaaPkMBc
import Derived.Test.YtoiclngamaadgaaPkMBj
namespace Go.Proofs.Ytoiclngamaadgaa
open Go.RowKit
attribute [local go_sem ↓] Go.wp_at_zero Go.wp_at_succ

theorem row_cM {w : World} {base e size n cap : Nat} {a : Option Addr} {xs : List Value} (h : w.ownsRow base e size (.slice a n cap) n xs) : CellsAt w a xs := by
  obtain ⟨_, _, e, _, _, hc, _⟩ := own_shape h
  cases e
  exact hc
theorem row_nilM {w : World} {base e size n cap : Nat} {a : Option Addr} {xs : List Value} (h : w.ownsRow base e size (.slice a n cap) n xs) : a = none → cap = 0 := by
  rcases h.2 with ⟨h2, _⟩ | ⟨g, c, cur, h2, _⟩
  · cases h2; exact fun _ => rfl
  · cases h2; exact fun e => by cases e
theorem movesNeg_fn : ∀ (args : Array Value) (w : World), (callFunc 33 args).run Try.prog w = .ok (.enter 33 args) w := fun _ _ => by kernel_rfl
theorem movesNeg_any (x : Nm) (w : World) : Calls Try.prog 33 #[.agg #[.string x.key, .int .i64 x.many]] w fun e w' => e = .returned (.bool (decide (x.many < 0))) ∧ w.grownBy w' none := by
  obtain ⟨x0, x1⟩ := x
  simp only
  have hg := gr_alloc (gr_refl w none) (.cells #[.string x0, .int .i64 x1] 34)
  go_enter Try.func33, Try.ntmps33
  go_wp2_with (fail)
  go_ret
  exact ⟨rfl, hg⟩
theorem filter_all {α : Type} (l : List α) : l.filter (fun _ => true) = l := by simp
set_option maxRecDepth 100000 in
set_option maxHeartbeats 4000000 in
theorem movesInAnyOrder_any (l : List Int) (a : Option Addr) (cap : Nat) (w : World) (hc : CellsAt w a (ints l)) (hl : l.length ≤ 9223372036854775807) :
    Calls Try.prog 5 #[.slice a l.length cap] w fun e w' => e = .returned (.bool true) ∧ w.grownBy w' none := by
  have hs0 := StreamAt.made cap hc hl
  have hg0 : w.grownBy (w.alloc (.cells #[.slice a l.length cap, .int .i64 0] 25)) none := gr_alloc (gr_refl _ _) _
  obtain ⟨w0, hw0⟩ : ∃ w0, w0 = w.alloc (.cells #[.slice a l.length cap, .int .i64 0] 25) := ⟨_, rfl⟩
  have hz0 : w0.heap.size = w.heap.size + 1 := by rw [hw0]; simp
  rw [← hw0] at hs0 hg0
  have HW0 := Lib.hid hw0
  clear hw0 hc
  go_enter Try.func5, Try.ntmps5
  go_wp2_with (fail)
  rw [← HW0.out]
  refine (rightMoves_any l 0 _ w0 hs0 (by omega)).mono ?_
  rintro e w1 ⟨v1, N, rfl, own1, hN9, hok, ⟨q1, hq1, hs1⟩, hg1⟩
  have G1 := Lib.hid (gr_grown hg0 hg1 (fun k e => by cases e; omega))
  obtain ⟨va, vc, rfl, -, -, -, -⟩ := own_shape own1
  have HOK := Lib.hid hok
  clear hs0 hg0 hok hg1
  go_wp2_with (fail)
  refine (partMoves_any l q1 _ N va vc _ w1 hs1 (by omega) own1 (by omega) (by omega) HOK.out.all).mono ?_
  rintro e w2 ⟨v2, f, rfl, own2, hs2, hg2⟩
  have G2 := Lib.hid (gr_grown G1.out hg2 (fun k e => by cases e; omega))
  have ON2 := own_keepS own1 hg2 (by omega)
  obtain ⟨fa, fc, rfl, -, -, -, -⟩ := own_shape own2
  have hz1 : w.heap.size < w1.heap.size := hs1.lt
  clear own1 hs1 hg2 G1
  go_wp2_with (fail)
  refine (partMoves_any l (q1 + 3) _ N va vc _ w2 hs2 (by omega) ON2 (by omega) (by omega) HOK.out.all).mono ?_
  rintro e w3 ⟨v3, g, rfl, own3, hs3, hg3⟩
  have G3 := Lib.hid (gr_grown G2.out hg3 (fun k e => by cases e; omega))
  have ON3 := Lib.hid (own_keepS ON2 hg3 (by omega))
  have OA3 := Lib.hid (own_keepS own2 hg3 (by omega))
  have OB3 := Lib.hid own3
  obtain ⟨ga, gc, rfl, -, -, -, -⟩ := own_shape own3
  clear own2 ON2 hs2 hs3 hg3 own3 G2
  -- the parts together, either way
  have TX := Lib.hid (together_parts N (upTo f) (upTo g) HOK.out (upTo_down f) (upTo_down g) hN9 fa ga fc gc w3 (row_cM OA3.out) (row_cM OB3.out) (row_nilM OA3.out) (row_nilM OB3.out))
  obtain ⟨R, hR⟩ : ∃ R, R = N.filter (fun x => upTo f x || upTo g x) := ⟨_, rfl⟩
  have hR2 : N.filter (fun x => upTo g x || upTo f x) = R := by rw [hR]; congr 1; funext x; exact Bool.or_comm _ _
  rw [← hR] at TX
  have HR := Lib.hid hR
  have HR2 := Lib.hid hR2
  clear hR hR2
  go_wp2_with (fail)
  refine TX.out.mono ?_
  rintro e w4 ⟨v4, rfl, own4, hg4⟩
  obtain ⟨xa, xc, rfl, -, -, -, -⟩ := own_shape own4
  have G4 := Lib.hid (gr_trans G3.out hg4)
  have ON4 := Lib.hid (own_keep0 ON3.out hg4)
  have OA4 := Lib.hid (own_keep0 OA3.out hg4)
  have OB4 := Lib.hid (own_keep0 OB3.out hg4)
  have OX4 := Lib.hid own4
  clear own4 hg4 TX ON3 OA3 OB3 G3
  have TY := Lib.hid (together_parts N (upTo g) (upTo f) HOK.out (upTo_down g) (upTo_down f) hN9 ga fa gc fc w4 (row_cM OB4.out) (row_cM OA4.out) (row_nilM OB4.out) (row_nilM OA4.out))
  rw [HR2.out] at TY
  go_wp2_with (fail)
  refine TY.out.mono ?_
  rintro e w5 ⟨v5, rfl, own5, hg5⟩
  obtain ⟨ya, yc, rfl, -, -, -, -⟩ := own_shape own5
  have G5 := Lib.hid (gr_trans G4.out hg5)
  have ON5 := Lib.hid (own_keep0 ON4.out hg5)
  have OX5 := Lib.hid (own_keep0 OX4.out hg5)
  have OY5 := Lib.hid own5
  clear own5 hg5 TY ON4 OA4 OB4 OX4 G4
  -- all and a part
  have RL : Hid (R.length ≤ 9) := by show R.length ≤ 9; rw [HR.out]; exact Nat.le_trans (List.length_filter_le _ _) hN9
  have TZ : Hid (Calls Try.prog 29 #[.slice va N.length vc, .slice xa R.length xc] w5 (TogPost N w5)) := by
    have h := together_parts N (fun _ => true) (fun x => upTo f x || upTo g x) HOK.out (fun _ _ _ _ _ => rfl) (fun x y e1 e2 h => by
      simp only [Bool.or_eq_true] at h ⊢
      rcases h with h | h
      · exact .inl (upTo_down f x y e1 e2 h)
      · exact .inr (upTo_down g x y e1 e2 h)) hN9 va xa vc xc w5 (by rw [filter_all]; exact row_cM ON5.out) (by rw [← HR.out]; exact row_cM OX5.out) (row_nilM ON5.out) (row_nilM OX5.out)
    rw [filter_all, ← HR.out] at h
    have e : N.filter (fun x => true || (upTo f x || upTo g x)) = N := by simp
    rw [e] at h
    exact h
  go_wp2_with (fail)
  refine TZ.out.mono ?_
  rintro e w6 ⟨v6, rfl, own6, hg6⟩
  obtain ⟨za, zc, rfl, -, -, -, -⟩ := own_shape own6
  have G6 := Lib.hid (gr_trans G5.out hg6)
  have ON6 := Lib.hid (own_keep0 ON5.out hg6)
  have OX6 := Lib.hid (own_keep0 OX5.out hg6)
  have OY6 := Lib.hid (own_keep0 OY5.out hg6)
  have OZ6 := Lib.hid own6
  clear own6 hg6 TZ ON5 OX5 OY5 G5
  have SH := Lib.hid (shelf_any N va vc w6 (row_cM ON6.out) HOK.out (by omega))
  go_wp2_with (fail)
  refine SH.out.mono ?_
  rintro e w7 ⟨v7, O, rfl, own7, hnm, hg7⟩
  obtain ⟨sa, sc, rfl, -, -, -, -⟩ := own_shape own7
  have G7 := Lib.hid (gr_trans G6.out hg7)
  have ON7 := Lib.hid (own_keep0 ON6.out hg7)
  have OX7 := Lib.hid (own_keep0 OX6.out hg7)
  have OY7 := Lib.hid (own_keep0 OY6.out hg7)
  have OZ7 := Lib.hid (own_keep0 OZ6.out hg7)
  have OS7 := Lib.hid own7
  have HNM := Lib.hid hnm
  have hOl := hnm.len
  have hRl := RL.out
  clear own7 hg7 SH ON6 OX6 OY6 OZ6 G6 hnm
  have EX := Lib.hid (equal_Mv R xa ya xc yc w7 (row_cM OX7.out) (row_cM OY7.out) (by omega))
  have EZ := Lib.hid (fun W (gW : w7.grownBy W none) => equal_Mv N za va zc vc W ((row_cM OZ7.out).keep0 gW) ((row_cM ON7.out).keep0 gW) (by omega))
  go_wp2_with (fail)
  refine EX.out.mono ?_
  rintro e w8 ⟨rfl, hg8⟩
  have HG8 := Lib.hid hg8
  clear hg8
  go_wp2_with (fail)
  refine (EZ.out w8 HG8.out).mono ?_
  rintro e w9 ⟨rfl, hg9⟩
  have HG9 := Lib.hid (gr_trans HG8.out hg9)
  have G9 := Lib.hid (gr_trans G7.out HG9.out)
  clear hg9 EX EZ HG8
  have CF := Lib.hid (containsFunc_Nm0 33 (fun x => decide (x.many < 0)) O sa sc w9 ((row_cM OS7.out).keep0 HG9.out) (by omega) movesNeg_fn (fun x _ w1 _ => movesNeg_any x w1))
  obtain ⟨bv, hbv⟩ : ∃ bv, bv = O.any (fun x => decide (x.many < 0)) := ⟨_, rfl⟩
  rw [← hbv] at CF
  have HBV := Lib.hid hbv
  clear hbv
  go_wp2_with (fail)
  refine CF.out.mono ?_
  rintro e w10 ⟨rfl, hg10⟩
  have HG10 := Lib.hid (gr_trans HG9.out hg10)
  have G10 := Lib.hid (gr_trans G9.out hg10)
  clear hg10 CF HG9 G9
  cases bv with
  | true =>
    go_wp2_with (fail)
    refine (depots_any w10).mono ?_
    rintro e w11 ⟨rfl, hg11⟩
    go_wp2_with (fail)
    go_ret
    exact ⟨rfl, gr_trans G10.out hg11⟩
  | false =>
    have hpos : ∀ x ∈ O, 0 ≤ x.many := fun x hx => by
      have := List.any_eq_false.1 HBV.out.symm x hx
      simp only [decide_eq_true_eq] at this
      omega
    have TH := Lib.hid (thefts_none N va vc O sa sc w10 ((row_cM ON7.out).keep0 HG10.out) ((row_cM OS7.out).keep0 HG10.out) HOK.out (by omega) HNM.out hpos)
    clear hpos
    go_wp2_with (fail)
    refine TH.out.mono ?_
    rintro e w11 ⟨ta, tc, rfl, hg11⟩
    have G11 := Lib.hid (gr_trans G10.out hg11)
    clear hg11 TH
    go_wp2_with (fail)
    refine (depots_any w11).mono ?_
    rintro e w12 ⟨rfl, hg12⟩
    have G12 := Lib.hid (gr_trans G11.out hg12)
    go_wp2_with (fail)
    go_ret
    exact ⟨rfl, G12.out⟩
end Go.Proofs.Ytoiclngamaadgaa
