/- slices.Compact at elements coilrack/api.Finding: what is left is among what was there. Written by mkcompact.py. -/
import Derived.Test.YtehhmgbgkemidaaGreatDoorPkSBb
import Derived.Test.YtehhmgbgkemidaaGreatDoorPkSAa
import Derived.Test.YtehhmgbgkemidaaGreatDoorPkSAb
import Derived.Test.YtehhmgbgkemidaaGreatDoorPkSBj
import Derived.Test.YtehhmgbgkemidaaGreatDoorPkSAg
import Derived.WalkLawsBesides
import Derived.Deep.DrawnRows
namespace Go.Proofs.YtehhmgbgkemidaaGreatDoor
open Go.RowKit
attribute [local go_sem ↓] Go.wp_at_zero Go.wp_at_succ

def eqBFd (x y : Fd) : Bool := decide (x.fault = y.fault) && decide (x.fr = y.fr) && decide (x.to = y.to)
theorem bytesIffFd (a b : ByteArray) : (a.toList = b.toList) ↔ a = b := by
  constructor
  · intro h
    rw [ByteArray.toList_eq, ByteArray.toList_eq] at h
    cases a; cases b
    simp at h
    rw [h]
  · rintro rfl; rfl
theorem eqlInFd (w : World) (x0 y0 : ByteArray) (x1 y1 x2 y2 : Int) :
    (Op.equalIn 10000 44 (.agg #[.string x0, .int .i64 x1, .int .i64 x2]) (.agg #[.string y0, .int .i64 y1, .int .i64 y2])).run Tryz.prog w = .ok (eqBFd ⟨x0, x1, x2⟩ ⟨y0, y1, y2⟩) w := by
  go_simp
  simp only [bytesIffFd]
  by_cases h0 : x0 = y0 <;> by_cases h1 : x1 = y1 <;> by_cases h2 : x2 = y2 <;> simp [eqBFd, h0, h1, h2]
theorem eqlRunFd (w : World) (x0 y0 : ByteArray) (x1 y1 x2 y2 : Int) :
    (binOp .eql 44 (.agg #[.string x0, .int .i64 x1, .int .i64 x2]) (.agg #[.string y0, .int .i64 y1, .int .i64 y2])).run Tryz.prog w = .ok (.bool (eqBFd ⟨x0, x1, x2⟩ ⟨y0, y1, y2⟩)) w := by
  rw [run_eql_struct, eqlInFd]; rfl
theorem neqRunFd (w : World) (x0 y0 : ByteArray) (x1 y1 x2 y2 : Int) :
    (binOp .neq 44 (.agg #[.string x0, .int .i64 x1, .int .i64 x2]) (.agg #[.string y0, .int .i64 y1, .int .i64 y2])).run Tryz.prog w = .ok (.bool (!eqBFd ⟨x0, x1, x2⟩ ⟨y0, y1, y2⟩)) w := by
  rw [run_neq_struct, eqlInFd]; rfl
attribute [local go_sem ↓] eqlRunFd neqRunFd
theorem flat_rowCFd (l : List Fd) (i : Nat) (h : i < l.length) (y : Fd) : ((((flat encFd l).set (i * 3) (.string y.fault)).set (i * 3 + 1) (.int .i64 y.fr)).set (i * 3 + 2) (.int .i64 y.to)) = flat encFd (l.set i y) := by
  have e0 := flat_set (enc := encFd) (m := 3) (fun _ => rfl) l i h 0 (by decide) (.string y.fault) (⟨y.fault, l[i].fr, l[i].to⟩ : Fd) rfl
  have g1 : (l.set i (⟨y.fault, l[i].fr, l[i].to⟩ : Fd))[i]'(by simp; omega) = (⟨y.fault, l[i].fr, l[i].to⟩ : Fd) := by rw [List.getElem_set_self]
  have e1 := flat_set (enc := encFd) (m := 3) (fun _ => rfl) (l.set i (⟨y.fault, l[i].fr, l[i].to⟩ : Fd)) i (by simp; omega) 1 (by decide) (.int .i64 y.fr) (⟨y.fault, y.fr, l[i].to⟩ : Fd) (by rw [g1]; rfl)
  rw [List.set_set] at e1
  have g2 : (l.set i (⟨y.fault, y.fr, l[i].to⟩ : Fd))[i]'(by simp; omega) = (⟨y.fault, y.fr, l[i].to⟩ : Fd) := by rw [List.getElem_set_self]
  have e2 := flat_set (enc := encFd) (m := 3) (fun _ => rfl) (l.set i (⟨y.fault, y.fr, l[i].to⟩ : Fd)) i (by simp; omega) 2 (by decide) (.int .i64 y.to) (⟨y.fault, y.fr, y.to⟩ : Fd) (by rw [g2]; rfl)
  rw [List.set_set] at e2
  rw [show i * 3 + 0 = i * 3 from rfl] at e0
  rw [e0, e1, e2]

theorem flat_takeCFd (l : List Fd) (j : Nat) (hj : j ≤ l.length) : (flat encFd l).take (j * 3) = flat encFd (l.take j) := by
  have e : flat encFd l = flat encFd (l.take j) ++ flat encFd (l.drop j) := by rw [← flat_append, List.take_append_drop]
  have hl : (flat encFd (l.take j)).length = j * 3 := by rw [flat_length (m := 3) (fun _ => rfl), List.length_take, Nat.min_eq_left hj]
  rw [e, ← hl, List.take_left]
set_option maxRecDepth 100000 in
set_option maxHeartbeats 2000000 in
theorem compactFd_any (S : List Fd) (v : Value) (n base : Nat) (w : World) (hown : w.ownsRow base 44 3 v n (flat encFd S)) (hS : S.length = n) (hn : n ≤ 1000) :
    Calls Tryz.prog 71 #[v] w fun e w' => ∃ v' O, e = .returned v' ∧ w'.ownsRow base 44 3 v' O.length (flat encFd O) ∧ (∀ x ∈ O, x ∈ S) ∧ O.length ≤ n ∧ w.grownBy w' v.ownBlock := by
  obtain ⟨va, vc, rfl, hnc, _, _, _⟩ := own_shape hown
  have HS := Lib.hid hS
  have HOWN := Lib.hid hown
  clear hS hown
  go_enter Tryz.func71, Tryz.ntmps71
  by_cases h2 : n < 2
  · have d2 : decide ((n : Int) < 2) = true := decide_eq_true (by omega)
    go_wp2_with (fail)
    go_ret
    exact ⟨_, S, rfl, by rw [HS.out]; exact HOWN.out, fun x hx => hx, by rw [HS.out]; exact Nat.le_refl _, gr_refl _ _⟩
  · have d2 : decide ((n : Int) < 2) = false := decide_eq_false (by omega)
    obtain ⟨g, gc, hge, hgb, _, _, _⟩ := own_some HOWN.out (by omega)
    cases hge
    go_wp2_with (fail)
    go_loopw [3] (fun i wr => ∃ k : Nat, 1 ≤ k ∧ k ≤ n ∧ i = .int .i64 k ∧ w.grownBy wr none) (fun i _ => n - (intOf i).toNat)
    case atStart => exact ⟨1, by omega, by omega, rfl, gr_refl _ _⟩
    case round =>
      obtain ⟨k, hk1, hkn, rfl, hgr⟩ := hrel
      obtain ⟨wo, rfl⟩ : ∃ wo : World, wo = wr := ⟨_, rfl⟩
      by_cases hlt : k < n
      · obtain ⟨i, hi⟩ : ∃ i, i = k - 1 := ⟨_, rfl⟩
        have hik : k = i + 1 := by omega
        subst hik
        have hOw := own_keep0 HOWN.out hgr
        have hlS := HS.out
        have a0 := (own_cellE (enc := encFd) (m := 3) (fun _ => rfl) hOw (i + 1) (by omega) 0 (by decide) _ rfl hlS).1
        have a1 := (own_cellE (enc := encFd) (m := 3) (fun _ => rfl) hOw (i + 1) (by omega) 1 (by decide) _ rfl hlS).1
        have a2 := (own_cellE (enc := encFd) (m := 3) (fun _ => rfl) hOw (i + 1) (by omega) 2 (by decide) _ rfl hlS).1
        have b0 := (own_cellE (enc := encFd) (m := 3) (fun _ => rfl) hOw (i) (by omega) 0 (by decide) _ rfl hlS).1
        have b1 := (own_cellE (enc := encFd) (m := 3) (fun _ => rfl) hOw (i) (by omega) 1 (by decide) _ rfl hlS).1
        have b2 := (own_cellE (enc := encFd) (m := 3) (fun _ => rfl) hOw (i) (by omega) 2 (by decide) _ rfl hlS).1
        obtain ⟨x, hx⟩ : ∃ x, x = S[i + 1] := ⟨_, rfl⟩
        obtain ⟨y, hy⟩ : ∃ y, y = S[i] := ⟨_, rfl⟩
        rw [← hx] at a0 a1 a2
        rw [← hy] at b0 b1 b2
        obtain ⟨x0, x1, x2⟩ := x
        obtain ⟨y0, y1, y2⟩ := y
        have a0 : wo.cell? ⟨g, (i + 1) * 3, none⟩ = some (.string x0) := a0
        have a1 : wo.cell? ⟨g, (i + 1) * 3 + 1, none⟩ = some (.int .i64 x1) := a1
        have a2 : wo.cell? ⟨g, (i + 1) * 3 + 2, none⟩ = some (.int .i64 x2) := a2
        have b0 : wo.cell? ⟨g, i * 3, none⟩ = some (.string y0) := b0
        have b1 : wo.cell? ⟨g, i * 3 + 1, none⟩ = some (.int .i64 y1) := b1
        have b2 : wo.cell? ⟨g, i * 3 + 2, none⟩ = some (.int .i64 y2) := b2
        have hi1 : ((i : Int) + 1 - 1) = i := by omega
        have hwi : IntKind.i64.wrap (((i : Int) + 1) - 1) = i := by rw [hi1]; exact IntWalk.i64_in _ (by omega)
        have hq0 : (0 : Int) ≤ (i : Int) := by omega
        have hq1 : (i : Int) < (n : Int) := by omega
        have hq2 : (0 : Int) ≤ (i : Int) + 1 := by omega
        have hq3 : (i : Int) + 1 < (n : Int) := by omega
        have hq4 : ((i : Int) + 1).toNat = i + 1 := by omega
        obtain ⟨qb, hqb⟩ : ∃ qb, eqBFd ⟨x0, x1, x2⟩ ⟨y0, y1, y2⟩ = qb := ⟨_, rfl⟩
        have HGR := Lib.hid hgr
        clear hx hy hi hgr hOw hlS
        cases qb with
        | false =>
          go_wp2_with (fail)
          go_quiet (fail)
          go_wp2_with (fail)
          go_roundw
          case rel => exact ⟨i + 1 + 1, by omega, by omega, by go_num, gr_drewN HGR.out _⟩
          case measure => simp [intOf]; omega
        | true =>
          go_wp2_with (fail)
          go_quiet (fail)
          obtain ⟨wn, hwn⟩ : ∃ wn, wn = wo.drewN nq := ⟨_, rfl⟩
          have gq : Hid (w.grownBy wn none) := by show w.grownBy wn none; rw [hwn]; exact gr_drewN HGR.out _
          rw [← hwn]
          clear hwn a0 b0 a1 b1 a2 b2 hwi hi1 HGR hqb
          have HOn := Lib.hid (own_keep0 HOWN.out gq.out)
          go_wp2_with (fail)
          go_loopw [3, 5] (fun a b wr => ∃ (j t : Nat) (O : List Fd), i + 1 + (t + 1) ≤ n ∧ j ≤ i + 1 + t ∧ a = .int .i64 j ∧ b = .int .i64 (t + 1 : Nat) ∧ O.length = n ∧ (∀ x ∈ O, x ∈ S) ∧ wr.ownsRow base 44 3 (.slice (some ⟨g, 0, none⟩) n vc) n (flat encFd O) ∧ w.grownBy wr (some g)) (fun _ b _ => n - (intOf b).toNat)
          case atStart => exact ⟨i + 1, 0, S, by omega, by omega, by go_num, rfl, HS.out, fun x hx => hx, HOn.out, gr_weak gq.out _⟩
          case round =>
            clear HOn gq
            obtain ⟨j, t, O, htn, hjl, rfl, rfl, hOl, hsub, hOw, hgr⟩ := hrel
            obtain ⟨wi, rfl⟩ : ∃ wi : World, wi = wr := ⟨_, rfl⟩
            by_cases htl : i + 1 + (t + 1) < n
            · have hjO : j < O.length := by omega
              have a0 := (own_cellE (enc := encFd) (m := 3) (fun _ => rfl) hOw (i + 1 + (t + 1)) (by omega) 0 (by decide) _ rfl hOl).1
              have a1 := (own_cellE (enc := encFd) (m := 3) (fun _ => rfl) hOw (i + 1 + (t + 1)) (by omega) 1 (by decide) _ rfl hOl).1
              have a2 := (own_cellE (enc := encFd) (m := 3) (fun _ => rfl) hOw (i + 1 + (t + 1)) (by omega) 2 (by decide) _ rfl hOl).1
              have b0 := (own_cellE (enc := encFd) (m := 3) (fun _ => rfl) hOw (i + 1 + t) (by omega) 0 (by decide) _ rfl hOl).1
              have b1 := (own_cellE (enc := encFd) (m := 3) (fun _ => rfl) hOw (i + 1 + t) (by omega) 1 (by decide) _ rfl hOl).1
              have b2 := (own_cellE (enc := encFd) (m := 3) (fun _ => rfl) hOw (i + 1 + t) (by omega) 2 (by decide) _ rfl hOl).1
              have f0 := own_cellE (enc := encFd) (m := 3) (fun _ => rfl) hOw j hjO 0 (by decide) _ rfl hOl
              have f1 := own_cellE (enc := encFd) (m := 3) (fun _ => rfl) hOw j hjO 1 (by decide) _ rfl hOl
              have f2 := own_cellE (enc := encFd) (m := 3) (fun _ => rfl) hOw j hjO 2 (by decide) _ rfl hOl
              have WR : Hid (∀ (W : World) (y : Fd), W.ownsRow base 44 3 (.slice (some ⟨g, 0, none⟩) n vc) n (flat encFd O) → ((((W.setCell ⟨g, j * 3, none⟩ (.string y.fault)).setCell ⟨g, j * 3 + 1, none⟩ (.int .i64 y.fr)).setCell ⟨g, j * 3 + 2, none⟩ (.int .i64 y.to))).ownsRow base 44 3 (.slice (some ⟨g, 0, none⟩) n vc) n (flat encFd (O.set j y))) := fun W y hW => by
                have h6 := (((hW.stored (j * 3) (.string y.fault)).1.stored (j * 3 + 1) (.int .i64 y.fr)).1.stored (j * 3 + 2) (.int .i64 y.to)).1
                rw [flat_rowCFd O j hjO y] at h6
                exact h6
              have hm : O[i + 1 + (t + 1)]'(by omega) ∈ S := hsub _ (List.getElem_mem _)
              obtain ⟨x, hx⟩ : ∃ x, x = O[i + 1 + (t + 1)]'(by omega) := ⟨_, rfl⟩
              obtain ⟨y, hy⟩ : ∃ y, y = O[i + 1 + t]'(by omega) := ⟨_, rfl⟩
              rw [← hx] at a0 a1 a2 hm
              rw [← hy] at b0 b1 b2
              obtain ⟨z, hz⟩ : ∃ z, z = O[j] := ⟨_, rfl⟩
              rw [← hz] at f0 f1 f2
              have ST : Hid (∀ y ∈ O.set j x, y ∈ S) := fun y hy => (List.mem_or_eq_of_mem_set hy).elim (fun h => hsub y h) (fun e => by rw [e]; exact hm)
              obtain ⟨x0, x1, x2⟩ := x
              obtain ⟨y0, y1, y2⟩ := y
              obtain ⟨z0, z1, z2⟩ := z
              obtain ⟨qb, hqb⟩ : ∃ qb, eqBFd ⟨x0, x1, x2⟩ ⟨y0, y1, y2⟩ = qb := ⟨_, rfl⟩
              have a0 : wi.cell? ⟨g, (i + 1) * 3 + (t + 1) * 3, none⟩ = some (.string x0) := by
                have e := a0
                rw [show (i + 1 + (t + 1)) * 3 = (i + 1) * 3 + (t + 1) * 3 by omega] at e
                exact e
              have a1 : wi.cell? ⟨g, (i + 1) * 3 + (t + 1) * 3 + 1, none⟩ = some (.int .i64 x1) := by
                have e := a1
                rw [show (i + 1 + (t + 1)) * 3 + 1 = (i + 1) * 3 + (t + 1) * 3 + 1 by omega] at e
                exact e
              have a2 : wi.cell? ⟨g, (i + 1) * 3 + (t + 1) * 3 + 2, none⟩ = some (.int .i64 x2) := by
                have e := a2
                rw [show (i + 1 + (t + 1)) * 3 + 2 = (i + 1) * 3 + (t + 1) * 3 + 2 by omega] at e
                exact e
              have b0 : wi.cell? ⟨g, (i + 1) * 3 + t * 3, none⟩ = some (.string y0) := by
                have e := b0
                rw [show (i + 1 + t) * 3 = (i + 1) * 3 + t * 3 by omega] at e
                exact e
              have b1 : wi.cell? ⟨g, (i + 1) * 3 + t * 3 + 1, none⟩ = some (.int .i64 y1) := by
                have e := b1
                rw [show (i + 1 + t) * 3 + 1 = (i + 1) * 3 + t * 3 + 1 by omega] at e
                exact e
              have b2 : wi.cell? ⟨g, (i + 1) * 3 + t * 3 + 2, none⟩ = some (.int .i64 y2) := by
                have e := b2
                rw [show (i + 1 + t) * 3 + 2 = (i + 1) * 3 + t * 3 + 2 by omega] at e
                exact e
              obtain ⟨f0, h0, -⟩ := f0
              have f0 : wi.cell? ⟨g, j * 3, none⟩ = some (.string z0) := f0
              have h0 : wi.frozen? ⟨g, j * 3, none⟩ = false := h0
              obtain ⟨f1, h1, -⟩ := f1
              have f1 : wi.cell? ⟨g, j * 3 + 1, none⟩ = some (.int .i64 z1) := f1
              have h1 : wi.frozen? ⟨g, j * 3 + 1, none⟩ = false := h1
              obtain ⟨f2, h2, -⟩ := f2
              have f2 : wi.cell? ⟨g, j * 3 + 2, none⟩ = some (.int .i64 z2) := f2
              have h2 : wi.frozen? ⟨g, j * 3 + 2, none⟩ = false := h2
              have hi1 : ((t : Int) + 1 - 1) = t := by omega
              have hwi : IntKind.i64.wrap (((t : Int) + 1) - 1) = t := by rw [hi1]; exact IntWalk.i64_in _ (by omega)
              have hu0 : (0 : Int) ≤ (t : Int) := by omega
              have hu1 : (t : Int) < ((n - (i + 1) : Nat) : Int) := by omega
              have hu2 : (0 : Int) ≤ (t : Int) + 1 := by omega
              have hu3 : (t : Int) + 1 < ((n - (i + 1) : Nat) : Int) := by omega
              have hu4 : ((t : Int) + 1).toNat = t + 1 := by omega
              have hj0 : (0 : Int) ≤ (j : Int) := by omega
              have hjn : (j : Int) < (n : Int) := by omega
              have HOW := Lib.hid hOw
              have HGR := Lib.hid hgr
              have HSUB := Lib.hid hsub
              have HOL := Lib.hid hOl
              clear hx hy hz hOw hgr hq0 hq1 hq2 hq3 hq4 hi1 hsub hm hOl
              push_cast
              cases qb with
              | true =>
                clear f0 h0 f1 h1 f2 h2
                go_wp2_with (fail)
                go_quiet (fail)
                go_wp2_with (fail)
                go_roundw
                case rel => exact ⟨j, t + 1, O, by omega, by omega, rfl, by go_num, HOL.out, HSUB.out, own_keep0 HOW.out (gr_drewN (gr_refl _ _) _), gr_drewN HGR.out _⟩
                case measure => simp [intOf]; omega
              | false =>
                go_wp2_with (fail)
                go_quiet (fail)
                obtain ⟨wn, hwn⟩ : ∃ wn, wn = wi.drewN nq := ⟨_, rfl⟩
                have gq : wi.grownBy wn none := by rw [hwn]; exact gr_drewN (gr_refl _ _) _
                rw [← hwn]
                clear hwn
                have hgl := lt_of_cell f0
                have A0 := (gr_cell gq (lt_of_cell a0)).trans a0
                have F0 := (gr_cell gq (lt_of_cell f0)).trans f0
                have Z0 := (gr_free gq hgl (o := j * 3)).trans h0
                have A1 := (gr_cell gq (lt_of_cell a1)).trans a1
                have F1 := (gr_cell gq (lt_of_cell f1)).trans f1
                have Z1 := (gr_free gq hgl (o := j * 3 + 1)).trans h1
                have A2 := (gr_cell gq (lt_of_cell a2)).trans a2
                have F2 := (gr_cell gq (lt_of_cell f2)).trans f2
                have Z2 := (gr_free gq hgl (o := j * 3 + 2)).trans h2
                have HW6 := Lib.hid (WR.out wn ⟨x0, x1, x2⟩ (own_keep0 HOW.out gq))
                have HG6 := Lib.hid (gr_trans HGR.out (gr_weak gq _))
                clear a0 b0 f0 h0 a1 b1 f1 h1 a2 b2 f2 h2 gq WR HOW HGR hwi hqb
                go_wp2_with (fail)
                go_roundw
                case rel => exact ⟨j + 1, t + 1, _, by omega, by omega, by go_num, by go_num, by rw [List.length_set]; exact HOL.out, ST.out, HW6.out, gr_set (gr_set (gr_set (HG6.out) rfl _) rfl _) rfl _⟩
                case measure => simp [intOf]; omega
            · have hm : i + 1 + (t + 1) = n := by omega
              have FR : Hid ((flat encFd O).take (j * 3) = flat encFd (O.take j) ∧ (O.take j).length = j) := ⟨flat_takeCFd O j (by omega), by rw [List.length_take]; omega⟩
              have HOW := Lib.hid hOw
              have HGR := Lib.hid hgr
              have HSUB := Lib.hid hsub
              have hj0 : (0 : Int) ≤ (j : Int) := by omega
              have hjn : (j : Int) ≤ (n : Int) := by omega
              have hjv : j ≤ vc := by omega
              have hjn2 : j < n := by omega
              clear hOw hgr hsub hq0 hq1 hq2 hq3 hq4
              go_wp2_with (refine wpList_clear eFd rfl _ rfl base g n vc j (flat encFd O) HOW.out hjn2 _ rfl (by decide) ?_; intro w9 o9 g9)
              have HO9 := Lib.hid o9
              have HG9 := Lib.hid (gr_trans HGR.out g9)
              clear o9 g9
              go_wp2_with (fail)
              go_ret
              refine ⟨_, O.take j, rfl, ?_, fun x hx => HSUB.out x (List.mem_of_mem_take hx), by rw [FR.out.2]; omega, HG9.out⟩
              rw [← FR.out.1, FR.out.2]
              exact HO9.out
      · obtain rfl : k = n := by omega
        have HGR := Lib.hid hgr
        clear hgr
        go_wp2_with (fail)
        go_ret
        exact ⟨_, S, rfl, by rw [HS.out]; exact own_keep0 HOWN.out HGR.out, fun x hx => hx, by rw [HS.out]; exact Nat.le_refl _, gr_weak HGR.out _⟩
end Go.Proofs.YtehhmgbgkemidaaGreatDoor
