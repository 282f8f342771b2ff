/- Lots that are right pass; where a lot is; what a store of one lot counts. -/
import Derived.Test.YtoiclngamaadgaaCoilR
import Derived.Test.YtoiclngamaadgaaKitB
namespace Go.Proofs.Ytoiclngamaadgaa
open Go.RowKit
attribute [local go_sem ↓] Go.wp_at_zero Go.wp_at_succ

def leS (a b : ByteArray) : Bool := Op.bytesLess a.toList b.toList || a.toList == b.toList
structure LotOk (x : Lot) : Prop where
  id : keyB x.id = true
  ids : x.id.size ≤ 1000
  prod : keyB x.prod = true
  prods : x.prod.size ≤ 1000
  e0 : 0 ≤ x.exp
  e1 : x.exp ≤ 4000
  m0 : 0 ≤ x.many
  m1 : x.many ≤ 100000
structure LotsOk (xs : List Lot) : Prop where
  len : xs.length ≤ 500
  all : ∀ x ∈ xs, LotOk x
  up : ∀ i (h0 : 0 < i) (h : i < xs.length), leS xs[i].id (xs[i - 1]'(by omega)).id = false
theorem dayL_any (n : Int) (w : World) : Calls Try.prog 116 #[.int .i64 n] w fun e w' => e = .returned (.bool (!(decide (n < 0) || decide (4000 < n)))) ∧ w = w' := by
  go_enter Try.func116, Try.ntmps116
  go_wp2_with (fail)
  refine (out_any n 0 4000 w).mono ?_
  rintro e w2 ⟨rfl, rfl⟩
  obtain ⟨b, hb⟩ : ∃ b, b = (decide (n < 0) || decide (4000 < n)) := ⟨_, rfl⟩
  rw [← hb]
  have HB := Lib.hid hb
  clear hb
  go_wp2_with (fail)
  go_ret
  exact ⟨ret_bool (by rw [HB.out]), rfl⟩
theorem lot_cells {w : World} {a : Option Addr} {xs : List Lot} (h : CellsAt w a (flat encLot xs)) (k : Nat) (hk : k < xs.length) :
    ∃ b off, a = some ⟨b, off, none⟩ ∧ w.cell? ⟨b, off + k * 4, none⟩ = some (.string xs[k].id) ∧ w.cell? ⟨b, off + k * 4 + 1, none⟩ = some (.string xs[k].prod) ∧ w.cell? ⟨b, off + k * 4 + 2, none⟩ = some (.int .i64 xs[k].exp) ∧ w.cell? ⟨b, off + k * 4 + 3, none⟩ = some (.int .i64 xs[k].many) := by
  obtain ⟨b, off, rfl, hcs⟩ := flat_cells encLot_len (by decide) h (by omega)
  exact ⟨b, off, rfl, hcs k hk 0 _ rfl, hcs k hk 1 _ rfl, hcs k hk 2 _ rfl, hcs k hk 3 _ rfl⟩
set_option maxRecDepth 100000 in
set_option maxHeartbeats 1000000 in
theorem lotFault_ok (x : Lot) (w : World) (h : LotOk x) :
    Calls Try.prog 123 #[.agg #[.string x.id, .string x.prod, .int .i64 x.exp, .int .i64 x.many]] w fun e w' => e = .returned (.int .i64 0) ∧ w.grownBy w' none := by
  obtain ⟨-, -, h1, h2, h3, h4, h5, h6⟩ := h
  obtain ⟨i, p, e, m⟩ := x
  simp only at h1 h2 h3 h4 h5 h6 ⊢
  have H1 := Lib.hid h1
  clear h1
  go_enter Try.func123, Try.ntmps123
  go_wp2_with (fail)
  have hg := gr_alloc (gr_refl w none) (.cells #[.string i, .string p, .int .i64 e, .int .i64 m] 81)
  refine (key_any p _ (by omega)).mono ?_
  rintro _ w2 ⟨rfl, rfl⟩
  rw [H1.out]
  go_wp2_with (fail)
  refine (dayL_any e _).mono ?_
  rintro _ w2 ⟨rfl, rfl⟩
  have e1 : (!(decide (e < 0) || decide (4000 < e))) = true := by simp; omega
  rw [e1]
  go_wp2_with (fail)
  refine (out_any m 0 100000 _).mono ?_
  rintro _ w2 ⟨rfl, rfl⟩
  have e2 : (decide (m < 0) || decide (100000 < m)) = false := by simp; omega
  rw [e2]
  go_wp2_with (fail)
  go_ret
  exact ⟨rfl, hg⟩
set_option maxRecDepth 100000 in
set_option maxHeartbeats 2000000 in
theorem checkLots_ok (xs : List Lot) (a : Option Addr) (c : Nat) (w : World) (h : CellsAt w a (flat encLot xs)) (hok : LotsOk xs) :
    Calls Try.prog 89 #[.slice a xs.length c] w fun e w' => e = .returned (.int .i64 0) ∧ w.grownBy w' none := by
  have hl := hok.len
  have HK := Lib.hid hok
  have H := Lib.hid h
  clear hok h
  go_enter Try.func89, Try.ntmps89
  go_wp2_with (fail)
  go_loopw [11] (fun i wr => ∃ k : Nat, k ≤ xs.length ∧ i = .int .i64 k ∧ w.grownBy wr none) (fun i _ => xs.length - (intOf i).toNat)
  case atStart => exact ⟨0, Nat.zero_le _, rfl, gr_refl _ _⟩
  case round =>
    obtain ⟨k, hk, rfl, hgr⟩ := hrel
    obtain ⟨wo, rfl⟩ : ∃ wo : World, wo = wr := ⟨_, rfl⟩
    by_cases hlt : k < xs.length
    · obtain ⟨b, off, rfl, d0, d1, d2, d3⟩ := lot_cells (H.out.keep0 hgr) k hlt
      have hlo := HK.out.all xs[k] (List.getElem_mem hlt)
      have hul := HK.out.up k
      have hprev : 0 < k → ∃ y : ByteArray, wo.cell? ⟨b, off + (k - 1) * 4, none⟩ = some (.string y) ∧ leS xs[k].id y = false := by
        intro h0
        obtain ⟨b', off', e', y0, -⟩ := lot_cells (H.out.keep0 hgr) (k - 1) (by omega)
        cases e'
        exact ⟨_, y0, hul h0 hlt⟩
      obtain ⟨x, hx⟩ : ∃ x, x = xs[k] := ⟨_, rfl⟩
      rw [← hx] at d0 d1 d2 d3 hlo hprev
      obtain ⟨K, P, E, M⟩ := x
      simp only at d0 d1 d2 d3 hlo hprev
      have HLO := Lib.hid hlo
      have HPV := Lib.hid hprev
      have hKs := hlo.ids
      simp only at hKs
      have HGR := Lib.hid hgr
      clear hx hlo hprev hul hgr
      go_wp2_with (fail)
      have hV := heap_alloc_new wo (.cells #[.string K, .string P, .int .i64 E, .int .i64 M] 81)
      have hg2 := gr_alloc (gr_refl wo none) (.cells #[.string K, .string P, .int .i64 E, .int .i64 M] 81)
      obtain ⟨w3, hw3⟩ : ∃ w3, w3 = wo.alloc (.cells #[.string K, .string P, .int .i64 E, .int .i64 M] 81) := ⟨_, rfl⟩
      rw [← hw3] at hV hg2
      rw [← hw3]
      obtain ⟨V, hVe⟩ : ∃ V, V = wo.heap.size := ⟨_, rfl⟩
      rw [← hVe] at hV
      rw [← hVe]
      clear hw3 hVe
      refine (key_any K w3 (by omega)).mono ?_
      rintro _ w4 ⟨rfl, rfl⟩
      rw [HLO.out.id]
      have g34 := gr_refl w3 none
      have hg24 := hg2
      obtain ⟨v0, v1, v2, v3⟩ := blk4 hV
      have HPV4 : Hid (0 < k → ∃ y : ByteArray, w3.cell? ⟨b, off + (k - 1) * 4, none⟩ = some (.string y) ∧ leS K y = false) := fun h0 => by
        obtain ⟨y, hy, hle⟩ := HPV.out h0
        exact ⟨y, (gr_cell hg24 (lt_of_cell hy)).trans hy, hle⟩
      have HG24 := Lib.hid (gr_trans HGR.out hg24)
      clear hg2 hg24 g34 hV d0 d1 d2 d3 HPV
      go_wp2_with (fail)
      go_cut [32] from 20 to 31 (fun s wx => s = .bool false ∧ ∃ nx, wx = w3.drewN nx)
      case first =>
        by_cases h0 : 0 < k
        · obtain ⟨y, m1, hle⟩ := HPV4.out h0
          have hle2 : (Op.bytesLess K.toList y.toList || K.toList == y.toList) = false := hle
          have hkc : (((k - 1 : Nat)) : Int) = (k : Int) - 1 := by omega
          have hint1 : (0 : Int) ≤ (k : Int) - 1 := by omega
          have hint2 : (k : Int) - 1 < (xs.length : Int) := by omega
          have hint3 : (0 : Int) < (k : Int) := by omega
          have htn : ((k : Int) - 1).toNat = k - 1 := by omega
          have hwr : IntKind.i64.wrap ((k : Int) - 1) = (k : Int) - 1 := IntWalk.i64_in _ (by omega)
          clear hkc hle
          go_quiet (fail)
          go_wp2_with (fail)
          go_meet
          exact ⟨rfl, _, rfl⟩
        · obtain rfl : k = 0 := by omega
          have hdf : decide ((0 : Int) < 0) = false := by decide
          go_quiet (fail)
          go_wp2_with (fail)
          go_meet
          exact ⟨rfl, _, rfl⟩
      case rest =>
      obtain ⟨rfl, nq, rfl⟩ := hcut
      have LF := Lib.hid (lotFault_ok ⟨K, P, E, M⟩ (w3.drewN nq) HLO.out)
      have HGQ := Lib.hid (gr_drewN HG24.out nq)
      go_wp2_with (fail)
      refine LF.out.mono ?_
      rintro _ w5 ⟨rfl, g5⟩
      have g5 := gr_trans HGQ.out g5
      go_wp2_with (fail)
      go_roundw
      case rel => exact ⟨k + 1, by omega, by go_num, g5⟩
      case measure => simp [intOf]; omega
    · obtain rfl : k = xs.length := by omega
      go_wp2_with (fail)
      go_ret
      exact ⟨rfl, hgr⟩
end Go.Proofs.Ytoiclngamaadgaa
