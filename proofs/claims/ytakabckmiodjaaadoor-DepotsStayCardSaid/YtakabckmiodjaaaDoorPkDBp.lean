/- slices.Compact of a row of moves that the call owns. -/
import Derived.Test.YtakabckmiodjaaaDoorPkDBn
import Derived.Test.YtakabckmiodjaaaDoorPkDBj
import Derived.Test.YtakabckmiodjaaaDoorPkDBo
namespace Go.Proofs.YtakabckmiodjaaaDoor
open Go.RowKit
attribute [local go_sem ↓] Go.wp_at_zero Go.wp_at_succ mvEql_run mvNeq_run

theorem compTo_one {S : List Mv} (h : S.length ≤ 1) : compTo S S.length = S := by
  match S, h with
  | [], _ => rfl
  | [x], _ => rfl
theorem mv_snoc (S : List Mv) (k : Nat) (h : k < S.length) : S.take (k + 1) = S.take k ++ [S[k]] := by simp
theorem flat_takeL {α : Type} {enc : α → List Value} {m : Nat} (hm : ∀ a, (enc a).length = m) (l : List α) (j : Nat) (hj : j ≤ l.length) : (flat enc l).take (j * m) = flat enc (l.take j) := by
  have e : flat enc l = flat enc (l.take j) ++ flat enc (l.drop j) := by rw [← flat_append, List.take_append_drop]
  have hl : (flat enc (l.take j)).length = j * m := by rw [flat_length hm, List.length_take, Nat.min_eq_left hj]
  rw [e, ← hl, List.take_left]
/-- What stands while like neighbours are left out: m moves are looked at, j stand at the front. -/
structure CompAt (S O : List Mv) (n m j : Nat) : Prop where
  len : O.length = n
  front : compTo S m = O.take j
  jl : j + 1 ≤ m
  rest : ∀ i, m ≤ i + 1 → i < n → mvN O i = mvN S i
theorem CompAt.skip {S O : List Mv} {n m j : Nat} (h : CompAt S O n m j) (hm : ¬ m = 0) (he : mvEqB (mvN S m) (mvN S (m - 1)) = true) : CompAt S O n (m + 1) j :=
  ⟨h.len, by rw [compTo_succ, if_neg (by rw [he]; simp [hm])]; exact h.front, by have := h.jl; omega, fun i hi hn => h.rest i (by omega) hn⟩
theorem mv_set_get (O : List Mv) (j : Nat) (x : Mv) (i : Nat) (h : j < O.length) : mvN (O.set j x) i = if j = i then x else mvN O i := by
  unfold mvN
  rw [List.getD_eq_getElem?_getD, List.getElem?_set]
  by_cases e : j = i
  · subst e; simp [h]
  · rw [if_neg e, if_neg e, ← List.getD_eq_getElem?_getD]
theorem CompAt.put {S O : List Mv} {n m j : Nat} (h : CompAt S O n m j) (hmn : m < n) (he : mvEqB (mvN S m) (mvN S (m - 1)) = false) : CompAt S (O.set j (mvN S m)) n (m + 1) (j + 1) := by
  have hl := h.len
  have hj := h.jl
  have hjl : j < O.length := by omega
  refine ⟨by simp [hl], ?_, by omega, fun i hi hn => ?_⟩
  · rw [compTo_succ, if_pos (.inr he), h.front, mv_snoc _ j (by simpa using hjl)]
    congr 1
    · rw [List.take_set_of_le (Nat.le_refl _)]
    · simp
  · rw [mv_set_get O j _ i hjl, if_neg (by omega)]
    exact h.rest i (by omega) hn
set_option maxRecDepth 100000 in
set_option maxHeartbeats 2000000 in
theorem compactMv_any (S : List Mv) (v : Value) (n base : Nat) (w : World) (hown : w.ownsRow base 41 5 v n (flat encMv S)) (hS : S.length = n) (hn : n ≤ 1000) :
    Calls Tryd.prog 37 #[v] w fun e w' => ∃ v', e = .returned v' ∧ w'.ownsRow base 41 5 v' (compTo S n).length (flat encMv (compTo S n)) ∧ w.grownBy w' v.ownBlock := by
  obtain ⟨va, vc, rfl, hnc, _, _, _⟩ := own_shape hown
  have HS := Lib.hid hS
  have HOWN := Lib.hid hown
  clear hS hown
  go_enter Tryd.func37, Tryd.ntmps37
  by_cases h2 : n < 2
  · have d2 : decide ((n : Int) < 2) = true := decide_eq_true (by omega)
    go_wp2_with (fail)
    go_ret
    have e : compTo S n = S := by rw [← HS.out]; exact compTo_one (by rw [HS.out]; omega)
    rw [e, HS.out]
    exact ⟨_, rfl, HOWN.out, gr_refl _ _⟩
  · have d2 : decide ((n : Int) < 2) = false := decide_eq_false (by omega)
    obtain ⟨g, gc, hge, hgb, _, _, _⟩ := own_some HOWN.out (by omega)
    cases hge
    go_wp2_with (fail)
    go_loopw [3] (fun i wr => ∃ k : Nat, 1 ≤ k ∧ k ≤ n ∧ i = .int .i64 k ∧ compTo S k = S.take k ∧ w.grownBy wr none) (fun i _ => n - (intOf i).toNat)
    case atStart => exact ⟨1, by omega, by omega, rfl, by
      rw [compTo_succ, if_pos (.inl rfl), mvN_get (by rw [HS.out]; omega), mv_snoc S 0 (by rw [HS.out]; omega)]
      rfl, gr_refl _ _⟩
    case round =>
      obtain ⟨k, hk1, hkn, rfl, hcp, hgr⟩ := hrel
      obtain ⟨wo, rfl⟩ : ∃ wo : World, wo = wr := ⟨_, rfl⟩
      have HCP := Lib.hid hcp
      clear hcp
      by_cases hlt : k < n
      · obtain ⟨i, hi⟩ : ∃ i, i = k - 1 := ⟨_, rfl⟩
        have hik : k = i + 1 := by omega
        subst hik
        have hlS := HS.out
        have hc := (own_shape (own_keep0 HOWN.out hgr))
        obtain ⟨_, _, e, _, _, hcc, _⟩ := hc
        cases e
        obtain ⟨_, _, e, hA⟩ := mv_cellsS hcc (i + 1) (by omega)
        cases e
        obtain ⟨_, _, e, hB⟩ := mv_cellsS hcc i (by omega)
        cases e
        have hbq : mvEqB S[i + 1] S[i] = mvEqB (mvN S (i + 1)) (mvN S (i + 1 - 1)) := by rw [mvN_get (by omega : i + 1 < S.length), show i + 1 - 1 = i from rfl, mvN_get (by omega : i < S.length)]
        obtain ⟨qb, hqb⟩ : ∃ qb, qb = mvEqB (mvN S (i + 1)) (mvN S (i + 1 - 1)) := ⟨_, rfl⟩
        have HQB := Lib.hid hqb
        rw [← hqb] at hbq
        clear hqb
        obtain ⟨x, hx⟩ : ∃ x, x = S[i + 1] := ⟨_, rfl⟩
        obtain ⟨y, hy⟩ : ∃ y, y = S[i] := ⟨_, rfl⟩
        rw [← hx] at hA hbq
        rw [← hy] at hB hbq
        obtain ⟨x0, x1, x2, x3, x4⟩ := x
        obtain ⟨y0, y1, y2, y3, y4⟩ := y
        obtain ⟨a0, a1, a2, a3, a4⟩ := hA
        obtain ⟨b0, b1, b2, b3, b4⟩ := hB
        simp only [Nat.zero_add] at a0 a1 a2 a3 a4 b0 b1 b2 b3 b4
        have hi1 : ((i : Int) + 1 - 1) = i := by omega
        have hwi : IntKind.i64.wrap (((i : Int) + 1) - 1) = i := by rw [hi1]; exact IntWalk.i64_in _ (by omega)
        have hq0 : (0 : Int) ≤ (i : Int) := by omega
        have hq1 : (i : Int) < (n : Int) := by omega
        have hq2 : (0 : Int) ≤ (i : Int) + 1 := by omega
        have hq3 : (i : Int) + 1 < (n : Int) := by omega
        have hq4 : ((i : Int) + 1).toNat = i + 1 := by omega
        have HGR := Lib.hid hgr
        clear hcc hx hy hi hgr
        clear hlS
        cases qb with
        | false =>
          go_wp2_with (fail)
          go_quiet (fail)
          go_wp2_with (fail)
          go_roundw
          case rel => exact ⟨i + 1 + 1, by omega, by omega, by go_num, by
            have hlS := HS.out
            rw [compTo_succ, if_pos (.inr HQB.out.symm), HCP.out, mv_snoc S (i + 1) (by omega), mvN_get (by omega : i + 1 < S.length)], gr_drewN HGR.out _⟩
          case measure => simp [intOf]; omega
        | true =>
          go_wp2_with (fail)
          go_quiet (fail)
          obtain ⟨wn, hwn⟩ : ∃ wn, wn = wo.drewN nq := ⟨_, rfl⟩
          have gq : Hid (w.grownBy wn none) := by show w.grownBy wn none; rw [hwn]; exact gr_drewN HGR.out _
          rw [← hwn]
          clear hwn a0 a1 a2 a3 a4 b0 b1 b2 b3 b4 hbq hwi hi1 HGR
          have K0 : Hid (CompAt S S n (i + 1 + 1) (i + 1)) := by
            refine ⟨HS.out, ?_, by omega, fun _ _ _ => rfl⟩
            rw [compTo_succ, if_neg (by rw [← HQB.out]; simp), HCP.out]
          have HOn := Lib.hid (own_keep0 HOWN.out gq.out)
          go_wp2_with (fail)
          go_loopw [3, 5] (fun a b wr => ∃ (j t : Nat) (O : List Mv), i + 1 + (t + 1) ≤ n ∧ a = .int .i64 j ∧ b = .int .i64 (t + 1 : Nat) ∧ CompAt S O n (i + 1 + (t + 1)) j ∧ wr.ownsRow base 41 5 (.slice (some ⟨g, 0, none⟩) n vc) n (flat encMv O) ∧ w.grownBy wr (some g)) (fun _ b _ => n - (intOf b).toNat)
          case atStart => exact ⟨i + 1, 0, S, by omega, by go_num, rfl, K0.out, HOn.out, gr_weak gq.out _⟩
          case round =>
            clear K0 HOn gq
            obtain ⟨j, t, O, htn, rfl, rfl, hCA, hOw, hgr⟩ := hrel
            obtain ⟨wi, rfl⟩ : ∃ wi : World, wi = wr := ⟨_, rfl⟩
            have hOl := hCA.len
            have hjl := hCA.jl
            by_cases htl : i + 1 + (t + 1) < n
            · have hc := (own_shape hOw)
              obtain ⟨_, _, e, _, _, hcc, _⟩ := hc
              cases e
              obtain ⟨_, _, e, hA⟩ := mv_cellsS hcc (i + 1 + (t + 1)) (by omega)
              cases e
              obtain ⟨_, _, e, hB⟩ := mv_cellsS hcc (i + 1 + t) (by omega)
              cases e
              have oA : O[i + 1 + (t + 1)]'(by omega) = mvN S (i + 1 + (t + 1)) := by rw [← mvN_get]; exact hCA.rest _ (by omega) htl
              have oB : O[i + 1 + t]'(by omega) = mvN S (i + 1 + (t + 1) - 1) := by rw [← mvN_get]; exact hCA.rest _ (by omega) (by omega)
              rw [oA] at hA
              rw [oB] at hB
              have hjO : j < O.length := by omega
              have f0 := own_cellE (enc := encMv) (m := 5) (fun _ => rfl) hOw j hjO 0 (by decide) _ rfl hOl
              have f1 := own_cellE (enc := encMv) (m := 5) (fun _ => rfl) hOw j hjO 1 (by decide) _ rfl hOl
              have f2 := own_cellE (enc := encMv) (m := 5) (fun _ => rfl) hOw j hjO 2 (by decide) _ rfl hOl
              have f3 := own_cellE (enc := encMv) (m := 5) (fun _ => rfl) hOw j hjO 3 (by decide) _ rfl hOl
              have f4 := own_cellE (enc := encMv) (m := 5) (fun _ => rfl) hOw j hjO 4 (by decide) _ rfl hOl
              have WR : Hid (∀ (W : World) (y : Mv), W.ownsRow base 41 5 (.slice (some ⟨g, 0, none⟩) n vc) n (flat encMv O) → (((((W.setCell ⟨g, j * 5, none⟩ (.string y.site)).setCell ⟨g, j * 5 + 1, none⟩ (.int .i64 y.no)).setCell ⟨g, j * 5 + 2, none⟩ (.int .i64 y.day)).setCell ⟨g, j * 5 + 3, none⟩ (.string y.ware)).setCell ⟨g, j * 5 + 4, none⟩ (.int .i64 y.many)).ownsRow base 41 5 (.slice (some ⟨g, 0, none⟩) n vc) n (flat encMv (O.set j y))) := fun W y hW => by
                have h5 := (((((hW.stored (j * 5) (.string y.site)).1).stored (j * 5 + 1) (.int .i64 y.no)).1.stored (j * 5 + 2) (.int .i64 y.day)).1.stored (j * 5 + 3) (.string y.ware)).1.stored (j * 5 + 4) (.int .i64 y.many)
                have h6 := h5.1
                rw [flat_rowMv O j hjO y] at h6
                exact h6
              have SK : Hid (mvEqB (mvN S (i + 1 + (t + 1))) (mvN S (i + 1 + (t + 1) - 1)) = true → CompAt S O n (i + 1 + (t + 1) + 1) j) := fun h => hCA.skip (by omega) h
              have PT : Hid (mvEqB (mvN S (i + 1 + (t + 1))) (mvN S (i + 1 + (t + 1) - 1)) = false → CompAt S (O.set j (mvN S (i + 1 + (t + 1)))) n (i + 1 + (t + 1) + 1) (j + 1)) := fun h => hCA.put htl h
              obtain ⟨x, hx⟩ : ∃ x, x = mvN S (i + 1 + (t + 1)) := ⟨_, rfl⟩
              obtain ⟨y, hy⟩ : ∃ y, y = mvN S (i + 1 + (t + 1) - 1) := ⟨_, rfl⟩
              rw [← hx] at hA SK PT
              rw [← hy] at hB SK PT
              obtain ⟨qb, hqb⟩ : ∃ qb, mvEqB x y = qb := ⟨_, rfl⟩
              rw [hqb] at SK PT
              obtain ⟨x0, x1, x2, x3, x4⟩ := x
              obtain ⟨y0, y1, y2, y3, y4⟩ := y
              obtain ⟨a0, a1, a2, a3, a4⟩ := hA
              obtain ⟨b0, b1, b2, b3, b4⟩ := hB
              have ead : 0 + (i + 1 + (t + 1)) * 5 = (i + 1) * 5 + (t + 1) * 5 := by omega
              have ebd : 0 + (i + 1 + t) * 5 = (i + 1) * 5 + t * 5 := by omega
              rw [ead] at a0 a1 a2 a3 a4
              rw [ebd] at b0 b1 b2 b3 b4
              simp only at a0 a1 a2 a3 a4 b0 b1 b2 b3 b4
              obtain ⟨z, hz⟩ : ∃ z, z = O[j] := ⟨_, rfl⟩
              rw [← hz] at f0 f1 f2 f3 f4
              obtain ⟨z0, z1, z2, z3, z4⟩ := z
              obtain ⟨f0, h0, -⟩ := f0
              obtain ⟨f1, h1, -⟩ := f1
              obtain ⟨f2, h2, -⟩ := f2
              obtain ⟨f3, h3, -⟩ := f3
              obtain ⟨f4, h4, -⟩ := f4
              have f0 : wi.cell? ⟨g, j * 5, none⟩ = some (.string z0) := f0
              have f1 : wi.cell? ⟨g, j * 5 + 1, none⟩ = some (.int .i64 z1) := f1
              have f2 : wi.cell? ⟨g, j * 5 + 2, none⟩ = some (.int .i64 z2) := f2
              have f3 : wi.cell? ⟨g, j * 5 + 3, none⟩ = some (.string z3) := f3
              have f4 : wi.cell? ⟨g, j * 5 + 4, none⟩ = some (.int .i64 z4) := f4
              have H0 : wi.frozen? ⟨g, j * 5, none⟩ = false := h0
              have hi1 : ((t : Int) + 1 - 1) = t := by omega
              have hwi : IntKind.i64.wrap (((t : Int) + 1) - 1) = t := by rw [hi1]; exact IntWalk.i64_in _ (by omega)
              have hu0 : (0 : Int) ≤ (t : Int) := by omega
              have hu1 : (t : Int) < ((n - (i + 1) : Nat) : Int) := by omega
              have hu2 : (0 : Int) ≤ (t : Int) + 1 := by omega
              have hu3 : (t : Int) + 1 < ((n - (i + 1) : Nat) : Int) := by omega
              have hu4 : ((t : Int) + 1).toNat = t + 1 := by omega
              have hj0 : (0 : Int) ≤ (j : Int) := by omega
              have hjn : (j : Int) < (n : Int) := by omega
              have HOW := Lib.hid hOw
              have HGR := Lib.hid hgr
              clear hcc hx hy hz oA oB hCA hOw hgr h0 ead ebd hq0 hq1 hq2 hq3 hq4 hi1
              push_cast
              cases qb with
              | true =>
                have SK2 := Lib.hid (SK.out rfl)
                clear SK PT f0 f1 f2 f3 f4 h1 h2 h3 h4 H0
                go_wp2_with (fail)
                go_quiet (fail)
                go_wp2_with (fail)
                go_roundw
                case rel => exact ⟨j, t + 1, O, by omega, rfl, by go_num, SK2.out, own_keep0 HOW.out (gr_drewN (gr_refl _ _) _), gr_drewN HGR.out _⟩
                case measure => simp [intOf]; omega
              | false =>
                have PT2 := Lib.hid (PT.out rfl)
                clear SK PT
                go_wp2_with (fail)
                go_quiet (fail)
                obtain ⟨wn, hwn⟩ : ∃ wn, wn = wi.drewN nq := ⟨_, rfl⟩
                have gq : wi.grownBy wn none := by rw [hwn]; exact gr_drewN (gr_refl _ _) _
                rw [← hwn]
                clear hwn
                have hgl := lt_of_cell f0
                have A0 := (gr_cell gq (lt_of_cell a0)).trans a0
                have A1 := (gr_cell gq (lt_of_cell a1)).trans a1
                have A2 := (gr_cell gq (lt_of_cell a2)).trans a2
                have A3 := (gr_cell gq (lt_of_cell a3)).trans a3
                have A4 := (gr_cell gq (lt_of_cell a4)).trans a4
                have F0 := (gr_cell gq (lt_of_cell f0)).trans f0
                have F1 := (gr_cell gq (lt_of_cell f1)).trans f1
                have F2 := (gr_cell gq (lt_of_cell f2)).trans f2
                have F3 := (gr_cell gq (lt_of_cell f3)).trans f3
                have F4 := (gr_cell gq (lt_of_cell f4)).trans f4
                have Z0 := (gr_free gq hgl (o := j * 5)).trans H0
                have Z1 := (gr_free gq hgl (o := j * 5 + 1)).trans h1
                have Z2 := (gr_free gq hgl (o := j * 5 + 2)).trans h2
                have Z3 := (gr_free gq hgl (o := j * 5 + 3)).trans h3
                have Z4 := (gr_free gq hgl (o := j * 5 + 4)).trans h4
                have HW6 := Lib.hid (WR.out wn ⟨x0, x1, x2, x3, x4⟩ (own_keep0 HOW.out gq))
                have HG6 := Lib.hid (gr_trans HGR.out (gr_weak gq _))
                clear a0 a1 a2 a3 a4 b0 b1 b2 b3 b4 f0 f1 f2 f3 f4 h1 h2 h3 h4 H0 gq WR HOW HGR hwi
                go_wp2_with (fail)
                go_roundw
                case rel => exact ⟨j + 1, t + 1, _, by omega, by go_num, by go_num, PT2.out, HW6.out, gr_set (gr_set (gr_set (gr_set (gr_set HG6.out rfl _) rfl _) rfl _) rfl _) rfl _⟩
                case measure => simp [intOf]; omega
            · have hm : i + 1 + (t + 1) = n := by omega
              have hfr := hCA.front
              rw [hm] at hfr
              have FR : Hid (flat encMv (compTo S n) = (flat encMv O).take (j * 5) ∧ (compTo S n).length = j) := by
                refine ⟨?_, ?_⟩
                · rw [hfr, flat_takeL (m := 5) encMv_len O j (by omega)]
                · rw [hfr, List.length_take]; omega
              have HOW := Lib.hid hOw
              have HGR := Lib.hid hgr
              have hj0 : (0 : Int) ≤ (j : Int) := by omega
              have hjn : (j : Int) ≤ (n : Int) := by omega
              have hjv : j ≤ vc := by omega
              have hjn2 : j < n := by omega
              clear hCA hOw hgr hfr hq0 hq1 hq2 hq3 hq4
              go_wp2_with (refine wpList_clear eMv rfl _ rfl base g n vc j (flat encMv O) HOW.out hjn2 _ rfl (by decide) ?_; intro w9 o9 g9)
              have HO9 := Lib.hid o9
              have HG9 := Lib.hid (gr_trans HGR.out g9)
              clear o9 g9
              go_wp2_with (fail)
              go_ret
              rw [FR.out.1, FR.out.2]
              exact ⟨_, rfl, HO9.out, HG9.out⟩
      · obtain rfl : k = n := by omega
        have HGR := Lib.hid hgr
        clear hgr
        go_wp2_with (fail)
        go_ret
        have e : compTo S k = S := by rw [HCP.out, List.take_of_length_le (by rw [HS.out]; exact Nat.le_refl _)]
        rw [e, HS.out]
        exact ⟨_, rfl, own_keep0 HOWN.out HGR.out, gr_weak HGR.out _⟩
end Go.Proofs.YtakabckmiodjaaaDoor

/-! depot.Together of parts of right moves: the moves that are in one of them. -/
namespace Go.Proofs.YtakabckmiodjaaaDoor
open Go.RowKit
attribute [local go_sem ↓] Go.wp_at_zero Go.wp_at_succ

theorem concat_pairMv (X U : List Mv) (W : World) (a1 a2 : Option Addr) (c1 c2 : Nat) (hX : CellsAt W a1 (flat encMv X)) (hU : CellsAt W a2 (flat encMv U)) (h1 : a1 = none → c1 = 0) (h2 : a2 = none → c2 = 0) (hl1 : X.length ≤ 1000) (hl2 : U.length ≤ 1000) :
    Calls Tryd.prog 34 #[.slice (some ⟨W.heap.size, 0, none⟩) 2 2] (W.alloc (.cells #[.slice a1 X.length c1, .slice a2 U.length c2] 32)) fun e w' => ∃ v, e = .returned v ∧ w'.ownsRow W.heap.size 41 5 v (X ++ U).length (flat encMv (X ++ U)) ∧ W.grownBy w' none := by
  refine (concatMv X U W.heap.size 2 a1 a2 c1 c2 _ (made_cell (gr_refl _ _) 0 rfl) (made_cell (gr_refl _ _) 1 rfl) (hX.alloc _) (hU.alloc _) h1 h2 (by omega) (by omega)).mono ?_
  rintro e w' ⟨v, rfl, ho, hg⟩
  exact ⟨v, rfl, own_base ho (by simp), gr_trans (gr_alloc (gr_refl _ _) _) hg⟩
def TogPost (R : List Mv) (w : World) (e : Ending) (w' : World) : Prop := ∃ v, e = .returned (.tuple #[v, .int .i64 0]) ∧ w'.ownsRow w.heap.size 41 5 v R.length (flat encMv R) ∧ w.grownBy w' none
set_option maxRecDepth 100000 in
set_option maxHeartbeats 2000000 in
theorem together_any (A B R : List Mv) (a1 a2 : Option Addr) (c1 c2 : Nat) (w : World) (hA : CellsAt w a1 (flat encMv A)) (hB : CellsAt w a2 (flat encMv B)) (h1 : a1 = none → c1 = 0) (h2 : a2 = none → c2 = 0) (hl : A.length + B.length < 20)
    (hoA : MvsOk A) (hoR : MvsOk R) (hR : ∀ S : List Mv, S.Perm (A ++ B) → Srt mvCm mvD S S.length → compTo S S.length = R) :
    Calls Tryd.prog 9 #[.slice a1 A.length c1, .slice a2 B.length c2] w (TogPost R w) := by
  have HA := Lib.hid hA
  have HB := Lib.hid hB
  have HOR := Lib.hid hoR
  have HR := Lib.hid hR
  have CA := Lib.hid (checkShelf_ok A a1 c1 w hA hoA (by omega))
  clear hA hB hoA hoR hR
  have dB : decide ((2000 : Int) < (B.length : Int)) = false := decide_eq_false (by omega)
  go_enter Tryd.func9, Tryd.ntmps9
  go_wp2_with (fail)
  refine CA.out.mono ?_
  rintro e w1 ⟨rfl, g1⟩
  have G1 := Lib.hid g1
  have CC := Lib.hid (concat_pairMv A B w1 a1 a2 c1 c2 (HA.out.keep0 g1) (HB.out.keep0 g1) h1 h2 (by omega) (by omega))
  clear g1 CA HA HB
  go_wp2_with (fail)
  refine CC.out.mono ?_
  rintro e w2 ⟨v2, rfl, o2, g2⟩
  obtain ⟨n, hn⟩ : ∃ n, n = (A ++ B).length := ⟨_, rfl⟩
  have hnl : n < 20 := by rw [hn, List.length_append]; exact hl
  have HN := Lib.hid hn
  rw [← hn] at o2
  obtain ⟨va, vc, rfl, -, -, -, -⟩ := own_shape o2
  have G2 := Lib.hid (gr_trans G1.out g2)
  have SF := Lib.hid (sortMv_any 36 n mvCm _ w1.heap.size (A ++ B) w2 o2 hn.symm hnl byMove_fn mvCm_ok (fun x y W _ _ _ => byMove_any x y W))
  have hz2 := G1.out.size
  have LT2 := Lib.hid o2.lt
  clear hn o2 g2 CC G1
  go_wp2_with (fail)
  refine SF.out.mono ?_
  rintro e w3 ⟨O, rfl, o3, hp3, hs3, g3⟩
  have hOl : O.length = n := by rw [hp3.length_eq, HN.out]
  have G3 := Lib.hid (gr_grown G2.out g3 (fun q hq => by have := (LT2.out q hq).1; omega))
  have CP := Lib.hid (compactMv_any O _ n w1.heap.size w3 o3 hOl (by omega))
  have hRe := HR.out O hp3 (by rw [hOl]; exact hs3)
  rw [hOl] at hRe
  have HRE := Lib.hid hRe
  have LT3 := Lib.hid o3.lt
  have hRl : R.length ≤ n := by rw [← hRe]; exact compTo_le O n
  clear o3 hp3 hs3 g3 SF G2 hOl HR hRe
  go_wp2_with (fail)
  refine CP.out.mono ?_
  rintro e w4 ⟨v4, rfl, o4, g4⟩
  rw [HRE.out] at o4
  have G4 := Lib.hid (gr_grown G3.out g4 (fun q hq => by have := (LT3.out q hq).1; omega))
  obtain ⟨ra, rc, rfl, -, -, -, -⟩ := own_shape o4
  have HO4 := Lib.hid o4
  clear o4 g4 CP G3 HRE LT2 LT3
  go_wp2_with (fail)
  go_loopw [9] (fun i wr => ∃ k : Nat, k ≤ R.length ∧ (i = .int .i64 (k + 1 : Nat)) ∧ w4.grownBy wr none) (fun i _ => R.length + 1 - (intOf i).toNat)
  case atStart => exact ⟨0, Nat.zero_le _, rfl, gr_refl _ _⟩
  case round =>
    obtain ⟨k, hk, rfl, hgr⟩ := hrel
    obtain ⟨wo, rfl⟩ : ∃ wo : World, wo = wr := ⟨_, rfl⟩
    have o5 := own_keep0 HO4.out hgr
    by_cases hlt : k + 1 < R.length
    · obtain ⟨_, _, e, _, _, hcc, _⟩ := own_shape o5
      cases e
      obtain ⟨b, off, rfl, hC⟩ := mv_cellsS hcc (k + 1) (by omega)
      obtain ⟨_, _, e, hD⟩ := mv_cellsS hcc k (by omega)
      cases e
      have hlt2 := HOR.out.lt (i := k) (j := k + 1) (by omega) hlt (by omega)
      unfold mvLt at hlt2
      have BM := Lib.hid (byMove_any R[k] R[k + 1])
      obtain ⟨cv, hcv⟩ : ∃ cv, cv = mvCm R[k] R[k + 1] := ⟨_, rfl⟩
      rw [← hcv] at hlt2 BM
      have hc0 : (cv == 0) = false := beq_eq_false_iff_ne.2 (by omega)
      obtain ⟨x, hx⟩ : ∃ x, x = R[k + 1] := ⟨_, rfl⟩
      obtain ⟨y, hy⟩ : ∃ y, y = R[k] := ⟨_, rfl⟩
      rw [← hx] at hC BM
      rw [← hy] at hD BM
      obtain ⟨x0, x1, x2, x3, x4⟩ := x
      obtain ⟨y0, y1, y2, y3, y4⟩ := y
      obtain ⟨a0, a1, a2, a3, a4⟩ := hC
      obtain ⟨b0, b1, b2, b3, b4⟩ := hD
      simp only [mvCells] at a0 a1 a2 a3 a4 b0 b1 b2 b3 b4 BM
      have hi1 : ((k : Int) + 1 - 1) = k := by omega
      have hwi : IntKind.i64.wrap (((k : Int) + 1) - 1) = k := by rw [hi1]; exact IntWalk.i64_in _ (by omega)
      have hq0 : (0 : Int) ≤ (k : Int) := by omega
      have hq1 : (k : Int) < (R.length : Int) := by omega
      have hq2 : (0 : Int) ≤ (k : Int) + 1 := by omega
      have hq3 : (k : Int) + 1 < (R.length : Int) := by omega
      have hq4 : ((k : Int) + 1).toNat = k + 1 := by omega
      have ga0 := grew_cell a0
      have ga1 := grew_cell a1
      have ga2 := grew_cell a2
      have ga3 := grew_cell a3
      have ga4 := grew_cell a4
      have gb0 := grew_cell b0
      have gb1 := grew_cell b1
      have gb2 := grew_cell b2
      have gb3 := grew_cell b3
      have gb4 := grew_cell b4
      have HGR := Lib.hid hgr
      clear hcc hcv hx hy o5 hgr a0 a1 a2 a3 a4 b0 b1 b2 b3 b4 hlt2 hi1
      go_wp2_with (fail)
      refine wp_region_grew (by kernel_rfl) (by kernel_rfl) ?_
      repeat (go_big_quiet_step (first
        | (go_at_call 36; exact Calls.grew_of (fun W g => BM.out W))))
      refine wpQuiet_nil ?_
      rintro wq ⟨nn, rfl⟩
      have G6 := Lib.hid (gr_trans HGR.out nn.gr)
      obtain ⟨wn, hwn⟩ : ∃ wn, wn = nn.w := ⟨_, rfl⟩
      rw [← hwn] at G6
      rw [← hwn]
      clear hwn ga0 ga1 ga2 ga3 ga4 gb0 gb1 gb2 gb3 gb4 BM HGR
      go_wp2_with (fail)
      go_roundw
      case rel => exact ⟨k + 1, by omega, by go_num, G6.out⟩
      case measure => simp [intOf]; omega
    · have hd : decide (((k + 1 : Nat) : Int) < (R.length : Int)) = false := decide_eq_false (by omega)
      have hd2 : decide ((k : Int) + 1 < (R.length : Int)) = false := decide_eq_false (by omega)
      have HO5 := Lib.hid o5
      have CS := Lib.hid (checkShelf_ok R ra rc wo (by
        obtain ⟨_, _, e, _, _, hcc, _⟩ := own_shape o5
        cases e
        exact hcc) HOR.out (by omega))
      have G5 := Lib.hid (gr_trans G4.out hgr)
      clear o5 hgr
      go_wp2_with (fail)
      refine CS.out.mono ?_
      rintro e w6 ⟨rfl, g6⟩
      go_wp2_with (fail)
      go_ret2
      exact ⟨_, rfl, own_base (own_keep0 HO5.out g6) hz2, gr_trans G5.out g6⟩
theorem together_parts (all : List Mv) (f g : Mv → Bool) (hall : MvsOk all) (hf : ∀ x y : Mv, x.site = y.site → x.no ≤ y.no → f y = true → f x = true) (hg : ∀ x y : Mv, x.site = y.site → x.no ≤ y.no → g y = true → g x = true) (hl : all.length ≤ 9) (a1 a2 : Option Addr) (c1 c2 : Nat) (w : World) (hA : CellsAt w a1 (flat encMv (all.filter f))) (hB : CellsAt w a2 (flat encMv (all.filter g))) (h1 : a1 = none → c1 = 0) (h2 : a2 = none → c2 = 0) :
    Calls Tryd.prog 9 #[.slice a1 (all.filter f).length c1, .slice a2 (all.filter g).length c2] w (TogPost (all.filter (fun x => f x || g x)) w) := by
  have l1 := List.length_filter_le f all
  have l2 := List.length_filter_le g all
  refine together_any _ _ _ a1 a2 c1 c2 w hA hB h1 h2 (by omega) (hall.filter f hf) (hall.filter _ (fun x y e1 e2 h => ?_)) (fun S hp hs => tog_eq hall hp hs)
  simp only [Bool.or_eq_true] at h ⊢
  rcases h with h | h
  · exact .inl (hf x y e1 e2 h)
  · exact .inr (hg x y e1 e2 h)
end Go.Proofs.YtakabckmiodjaaaDoor
