/- The walk of NobodyIsLost. -/
import Derived.Test.YtlpkancpjdihgaaTableMake
import Derived.Test.YtlpkancpjdihgaaNumbers
import Derived.Test.YtlpkancpjdihgaaInstFault
import Derived.Test.YtlpkancpjdihgaaInstead
import Derived.Test.YtlpkancpjdihgaaDemands
import Derived.BigRegion
import Derived.Deep.DeepFit
import Derived.Deep.CutRange
import Derived.Deep.RegionHeld3
namespace Go.Proofs.Ytlpkancpjdihgaa
open Go.RowKit

set_option maxRecDepth 100000 in
set_option maxHeartbeats 2000000 in
theorem nobodyIsLost_any (l : List Int) (a : Option Addr) (cap : Nat) (w : World) (hc : CellsAt w a (ints l)) (hl : l.length ≤ 9223372036854775807) :
    Calls Try.prog 7 #[.slice a l.length cap] w fun e w' => e = .returned (.bool true) ∧ w.grownBy w' none := by
  have hs0 := StreamAt.made cap hc hl
  have hg0 : w.grownBy (w.alloc (.cells #[.slice a l.length cap, .int .i64 0] 25)) none := gr_alloc (gr_refl _ _) _
  obtain ⟨w0, hw0⟩ : ∃ w0, w0 = w.alloc (.cells #[.slice a l.length cap, .int .i64 0] 25) := ⟨_, rfl⟩
  have hz0 : w0.heap.size = w.heap.size + 1 := by rw [hw0]; simp
  rw [← hw0] at hs0 hg0
  go_enter Try.func7, Try.ntmps7
  go_wp2_with (fail)
  rw [← hw0]
  have HW0 := Lib.hid hw0; clear hw0
  refine (table_any l 0 _ w0 hs0 (by omega)).mono ?_
  rintro e w1 ⟨v, vs, rfl, hrows, hs1, hg1⟩
  obtain ⟨p, hp⟩ : ∃ p, p = w.heap.size := ⟨_, rfl⟩
  have hgr1 := gr_grown hg0 hg1 (fun k e => by cases e; exact Nat.le_refl _)
  have hk1 := tableM_k l 0
  have hTl := tableM_len l 0
  have hTr := tableM_row l 0
  obtain ⟨T, hT⟩ : ∃ T, T = (tableM l 0).1 := ⟨_, rfl⟩
  obtain ⟨k1, hk1e⟩ : ∃ k1, k1 = (tableM l 0).2 := ⟨_, rfl⟩
  rw [← hT] at hrows hTl hTr
  rw [← hk1e] at hs1 hk1
  clear hT hk1e
  obtain ⟨ta, tc, rfl, _, _, _, _⟩ := own_shape hrows.outer
  have hz1 := hg1.size
  have hga := gr_alloc (gr_refl w1 none) (.cells #[.slice ta T.length tc] 72)
  have hs2 := hs1.keep0 hga
  have hrows2 := hrows.keep0 hga
  obtain ⟨w2, hw2⟩ : ∃ w2, w2 = w1.alloc (.cells #[.slice ta T.length tc] 72) := ⟨_, rfl⟩
  have hz2 : w2.heap.size = w1.heap.size + 1 := by rw [hw2]; simp
  have t2 : w2.cell? ⟨w1.heap.size, 0, none⟩ = some (.slice ta T.length tc) := by rw [hw2]; exact World.cell?_alloc_at _ _ _ _ rfl
  rw [← hw2] at hs2 hrows2 hga
  go_wp2_with (fail)
  rw [← hw2]
  have HW2 := Lib.hid hw2; clear hw2
  have hT2 : ∀ r ∈ T, r.length ≤ 1000000 := fun r hr => by have := hTr r hr; omega
  have HT2 := Lib.hid hT2
  clear hT2
  have hpt : w1.heap.size ≠ w.heap.size := by omega
  have hlt2 : w1.heap.size < w2.heap.size := by omega
  have hgr2 := gr_trans hgr1 hga
  have hk2 := numsK_le l k1 T.length 20
  have t2' : w2.drew.cell? ⟨w1.heap.size, 0, none⟩ = some (.slice ta T.length tc) := t2
  have hs2d := hs2.keep0 (gr_drew (gr_refl w2 none))
  have hgd := gr_drew (gr_refl w2 (some w.heap.size))
  clear hp p hs0 hs1 hrows hg1 hgr1 hg0 hga hc hl
  have hXl := numsM_len l k1 T.length 20
  have hYl := numsM_len l (numsK l k1 T.length 20) T.length 12
  have N1 := Lib.hid (fun (w' : World) (h : StreamAt w' w.heap.size l k1) => numbers_any l k1 T.length 20 w.heap.size w' h (by omega) (by omega) (by omega) (by omega))
  have N2 := Lib.hid (fun (w' : World) (h : StreamAt w' w.heap.size l (numsK l k1 T.length 20)) => numbers_any l (numsK l k1 T.length 20) T.length 12 w.heap.size w' h (by omega) (by omega) (by omega) (by omega))
  obtain ⟨k2, hk2e⟩ : ∃ k2, k2 = numsK l k1 T.length 20 := ⟨_, rfl⟩
  rw [← hk2e] at N1 N2 hYl hk2
  obtain ⟨k3, hk3e⟩ : ∃ k3, k3 = numsK l k2 T.length 12 := ⟨_, rfl⟩
  rw [← hk3e] at N2
  obtain ⟨X, hX⟩ : ∃ X, X = numsM l k1 T.length 20 := ⟨_, rfl⟩
  obtain ⟨Y, hY⟩ : ∃ Y, Y = numsM l k2 T.length 12 := ⟨_, rfl⟩
  rw [← hX] at N1 hXl
  rw [← hY] at N2 hYl
  clear hk2e hk3e hX hY hTr
  go_cut [5, 6] from 16 to 25 (fun s5 s6 wx => wx.ownsRow w2.heap.size 3 1 s5 X.length (ints X) ∧ wx.ownsRow w2.heap.size 3 1 s6 Y.length (ints Y) ∧ w2.grownBy wx (some w.heap.size))
  case first =>
    go_region_with ((first
      | (go_at_call 40; go_fit (N1.out w2.drew hs2d); rintro e w3 ⟨v3, rfl, hown3, hs3, hg3⟩; have hgA3 := gr_trans hgd hg3; have t3 := (gr_cellS hgA3 hlt2 hpt).trans t2; have hz3 := hgA3.size)
      | (go_at_call 40; go_fit (N2.out w3 hs3); rintro e w4 ⟨v4, rfl, hown4, hs4, hg4⟩; have hgA4 := gr_trans hgA3 hg4; have t4 := (gr_cellS hgA4 hlt2 hpt).trans t2)))
    all_goals (go_wp2_with (fail))
    all_goals (go_meet; exact ⟨own_keepS hown3 hg4 (by show w.heap.size < w2.drew.heap.size; show w.heap.size < w2.heap.size; omega), own_base hown4 hz3, hgA4⟩)
  case rest =>
  obtain ⟨hownX, hownY, hgc⟩ := hcut
  clear hk2 hk1 hs2d hgd hs2 t2' N1 N2
  have tb := (gr_cellS hgc hlt2 hpt).trans t2
  have hrowsb := (hrows2.keepS hgc (by omega)).rows.2
  have hgrb := gr_grown hgr2 hgc (fun k e => by cases e; exact Nat.le_refl _)
  obtain ⟨ax, cx, rfl, hcx, hcx2, hcX, _⟩ := own_shape hownX
  obtain ⟨ay, cy, rfl, hcy, hcy2, hcY, _⟩ := own_shape hownY
  have hnx := fun h => (own_nil hownX h).2
  have hny := fun h => (own_nil hownY h).2
  clear hownX hownY hgc t2 hrows2 hgr2
  have hT1 : T.length ≤ 1000000 := by omega
  go_wp2_with (fail)
  refine (instF_any T X Y ta ax ay tc cx cy wc hrowsb hT1 HT2.out hcX hcY hnx hny (by omega) (by omega)).mono ?_
  rintro e w5 ⟨rfl, hg5⟩
  have hgr5 := gr_trans hgrb hg5
  have t5 := (gr_cell hg5 (lt_of_cell tb)).trans tb
  by_cases hcode : insteadCode T X Y = 0
  · rw [hcode]
    go_wp2_with (fail)
    refine (instead_any T X Y ta ax ay tc cx cy w5 (hrowsb.keep0 hg5) hT1 HT2.out (hcX.keep0 hg5) (hcY.keep0 hg5) hny (by omega) (by omega) hcy).mono ?_
    rintro e w6 (⟨h1, _, _⟩ | ⟨_, A, B, L, ga, gb, rfl, hinv, hA, hB, hgab, hg6⟩)
    · exact absurd hcode h1
    have hgr6 := gr_trans hgr5 hg6
    have hXc := (hcX.keep0 hg5).keep0 hg6
    have hYc := (hcY.keep0 hg5).keep0 hg6
    obtain ⟨_, hX1, hY1, hXb, hYb⟩ := insteadCode_ok T X Y hcode
    have q1 : ((T.length : Int) != (X.length : Int)) = false := by simp [hX1]
    go_wp2_with (fail)
    have hAb : ∀ j, j < T.length → 0 ≤ A.getD j 0 ∧ A.getD j 0 ≤ 1000000 := fun j hj => by
      have := hinv.al j hj; have := hinv.l0 j hj; have := hinv.am j hj; have := hXb j hj; have := hYb j hj; omega
    have hBb : ∀ j, j < T.length → 0 ≤ B.getD j 0 ∧ B.getD j 0 ≤ 1000000 := fun j hj => by
      have := hinv.b0 j hj; have := hinv.bw j hj; have := hXb j hj; omega
    have mem : ∀ (Z : List Int), Z.length = T.length → (∀ j, j < T.length → 0 ≤ Z.getD j 0 ∧ Z.getD j 0 ≤ 1000000) → ∀ x ∈ Z, 0 ≤ x ∧ x ≤ 1000000 := by
      intro Z hZ hb x hx
      obtain ⟨j, hj, rfl⟩ := List.getElem_of_mem hx
      have := hb j (by omega)
      rwa [List.getD_eq_getElem?_getD, List.getElem?_eq_getElem hj, Option.getD_some] at this
    have mA := mem A hinv.la hAb
    have mB := mem B hinv.lb hBb
    have mX := mem X hX1 hXb
    have sA := sum_bound_all A 0 1000000 (by decide) (by decide) mA
    have sB := sum_bound_all B 0 1000000 (by decide) (by decide) mB
    have sX := sum_bound_all X 0 1000000 (by decide) (by decide) mX
    rw [hinv.la] at sA
    rw [hinv.lb] at sB
    rw [hX1] at sX
    obtain ⟨_, _, he, _, _, cA, _⟩ := own_shape hA
    cases he
    obtain ⟨_, _, he, _, _, cB, _⟩ := own_shape hB
    cases he
    have CA := Lib.hid (keepTotal_any A (some ⟨ga, 0, none⟩) T.length w6 cA (by rw [hinv.la]; exact hT1) (fun x hx => by have := mA x hx; omega))
    rw [hinv.la] at CA
    have CB := Lib.hid (fun (w' : World) (hg : w6.grownBy w' none) => keepTotal_any B (some ⟨gb, 0, none⟩) T.length w' (cB.keep0 hg) (by rw [hinv.lb]; exact hT1) (fun x hx => by have := mB x hx; omega))
    rw [hinv.lb] at CB
    have CX := Lib.hid (fun (w' : World) (hg : w6.grownBy w' none) => keepTotal_any X ax cx w' (hXc.keep0 hg) (by rw [hX1]; exact hT1) (fun x hx => by have := mX x hx; omega))
    rw [hX1] at CX
    have hsm := hinv.sm
    obtain ⟨xA, hxA⟩ : ∃ xA, xA = A.sum := ⟨_, rfl⟩
    obtain ⟨xB, hxB⟩ : ∃ xB, xB = B.sum := ⟨_, rfl⟩
    obtain ⟨xX, hxX⟩ : ∃ xX, xX = X.sum := ⟨_, rfl⟩
    rw [← hxA] at sA CA hsm
    rw [← hxB] at sB CB hsm
    rw [← hxX] at sX CX hsm
    have sA1 : 0 ≤ xA := by omega
    have sA2 : xA ≤ 1000000000 := by omega
    have sB1 : 0 ≤ xB := by omega
    have sB2 : xB ≤ 1000000000 := by omega
    have q2 : (xA + xB != xX) = false := by simp [hsm]
    have HINV := Lib.hid hinv
    have HXB := Lib.hid hXb
    have HYB := Lib.hid hYb
    have HX1 := Lib.hid hX1
    have HY1 := Lib.hid hY1
    clear hxA hxB hxX hsm mA mB mX mem hAb hBb hinv hXb hYb hX1 hY1 sA sB sX
    go_fit CA.out
    rintro e w7 ⟨rfl, hg7⟩
    go_wp2_with (fail)
    go_fit (CB.out w7 hg7)
    rintro e w8 ⟨rfl, hg8⟩
    have hg68 := gr_trans hg7 hg8
    go_wp2_with (fail)
    go_fit (CX.out w8 hg68)
    rintro e w9 ⟨rfl, hg9⟩
    have hg69 := gr_trans hg68 hg9
    go_wp2_with (fail)
    have hgr9 := gr_trans hgr6 hg69
    have cA9 := cA.keep0 hg69
    have cB9 := cB.keep0 hg69
    have cX9 := hXc.keep0 hg69
    have cY9 := hYc.keep0 hg69
    clear q2 q1 CA CB CX hg7 hg8 hg9 hg68 hg69 hgr6 cA cB hXc hYc hA hB sA1 sA2 sB1 sB2
    go_loopw [68] (fun i wr => ∃ k : Nat, k ≤ T.length ∧ i = .int .i64 k ∧ w9.grownBy wr none) (fun i _ => T.length - (intOf i).toNat)
    case atStart => exact ⟨0, Nat.zero_le _, rfl, gr_refl _ _⟩
    case round =>
      obtain ⟨k, hk, rfl, hgk⟩ := hrel
      obtain ⟨wo, rfl⟩ : ∃ wo : World, wo = wr := ⟨_, rfl⟩
      by_cases hlt : k < T.length
      · obtain ⟨x, hx⟩ : ∃ x, x = X.getD k 0 := ⟨_, rfl⟩
        obtain ⟨y, hy⟩ : ∃ y, y = Y.getD k 0 := ⟨_, rfl⟩
        obtain ⟨z, hz⟩ : ∃ z, z = A.getD k 0 := ⟨_, rfl⟩
        obtain ⟨u, hu⟩ : ∃ u, u = B.getD k 0 := ⟨_, rfl⟩
        have h1 := HINV.out.al k hlt
        have h2 := HINV.out.l0 k hlt
        have h3 := HINV.out.am k hlt
        have h4 := HINV.out.b0 k hlt
        rw [← hz, ← hy] at h1
        rw [← hx, ← hy, ← hz] at h3
        rw [← hu] at h4
        have hX1 := HX1.out
        have hY1 := HY1.out
        have hAl := HINV.out.la
        have hBl := HINV.out.lb
        obtain ⟨bx, ox, rfl, cx9⟩ := (cX9.keep0 hgk) k _ (ints_get X k (by omega))
        obtain ⟨by_, oy, rfl, cy9⟩ := (cY9.keep0 hgk) k _ (ints_get Y k (by omega))
        obtain ⟨_, _, he, ca9⟩ := (cA9.keep0 hgk) k _ (ints_get A k (by omega))
        cases he
        obtain ⟨_, _, he, cb9⟩ := (cB9.keep0 hgk) k _ (ints_get B k (by omega))
        cases he
        rw [← hx] at cx9
        rw [← hy] at cy9
        rw [← hz, Nat.zero_add] at ca9
        rw [← hu, Nat.zero_add] at cb9
        obtain ⟨m, hm⟩ : ∃ m, m = min x y := ⟨_, rfl⟩
        have hmin : (if y < x then y else x) = m := by rw [hm]; split <;> omega
        have hmz : m ≤ z := by omega
        have hzy : z ≤ y := by omega
        have e1 : (decide (z < m)) = false := by simp; omega
        have e2 : (decide (y < z)) = false := by simp; omega
        have e3 : (decide (u < 0)) = false := by simp; omega
        clear h1 h2 h3 h4 hx hy hz hu hm hAl hBl hX1
        go_wp2_with (fail)
        go_region
        all_goals (go_wp2_with (fail))
        all_goals go_roundw
        case rel => exact ⟨k + 1, by omega, by go_num, gr_drew hgk⟩
        case measure => simp [intOf]; omega
      · go_wp2_with (fail)
        refine (demands_any _).mono ?_
        rintro e w10 ⟨rfl, hg10⟩
        go_wp2_with (fail)
        go_ret
        exact ⟨rfl, gr_trans (gr_trans hgr9 hgk) hg10⟩
  · have q0 : (insteadCode T X Y == 0) = false := beq_eq_false_iff_ne.2 hcode
    clear hcode
    go_wp2_with (fail)
    refine (demands_any _).mono ?_
    rintro e w6 ⟨rfl, hg6⟩
    go_wp2_with (fail)
    go_ret
    exact ⟨rfl, gr_trans hgr5 hg6⟩
end Go.Proofs.Ytlpkancpjdihgaa
