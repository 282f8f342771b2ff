/- What is wrong with a coil: package stock. -/
import Derived.Test.YtoiclngamaadgaaPkMAi
import Derived.Test.YtoiclngamaadgaaPkMAk
import Derived.Test.YtoiclngamaadgaaPkMAl
import Derived.Test.YtoiclngamaadgaaPkMAa
import Derived.WalkLawsBesides
namespace Go.Proofs.Ytoiclngamaadgaa
open Go.RowKit
attribute [local go_sem ↓] Go.wp_at_zero Go.wp_at_succ

def pcMany (ps : List Piece) (i : Nat) : Int := (ps.getD i ⟨⟨#[]⟩, 0⟩).many
def pcLot (ps : List Piece) (i : Nat) : ByteArray := (ps.getD i ⟨⟨#[]⟩, 0⟩).lot
def pcSum (ps : List Piece) : Int := (ps.map Piece.many).sum
structure PcOk (ps : List Piece) (i : Nat) : Prop where
  key : keyB (pcLot ps i) = true
  lo : 1 ≤ pcMany ps i
  hi : pcMany ps i ≤ 1000
  ne : 0 < i → (pcLot ps i).toList ≠ (pcLot ps (i - 1)).toList
structure CoilOk (c : Coil) : Prop where
  key : keyB c.prod = true
  m0 : 0 ≤ c.most
  m1 : c.most ≤ 1000
  len : c.ps.length ≤ 1000
  all : ∀ i, i < c.ps.length → PcOk c.ps i
  sum : pcSum c.ps ≤ c.most
/-- Sizes that every coil of the stream has. -/
structure CoilSm (c : Coil) : Prop where
  prod : c.prod.size ≤ 1000
  len : c.ps.length ≤ 1000
  all : ∀ x ∈ c.ps, x.lot.size ≤ 1000 ∧ -100000 ≤ x.many ∧ x.many ≤ 100000
theorem pc_cells {w : World} {a : Option Addr} {ps : List Piece} (h : CellsAt w a (flat encPc ps)) (k : Nat) (hk : k < ps.length) :
    ∃ b off, a = some ⟨b, off, none⟩ ∧ w.cell? ⟨b, off + k * 2, none⟩ = some (.string (pcLot ps k)) ∧ w.cell? ⟨b, off + k * 2 + 1, none⟩ = some (.int .i64 (pcMany ps k)) := by
  obtain ⟨b, off, rfl, hcs⟩ := flat_cells encPc_len (by decide) h (by omega)
  have e : ps.getD k ⟨⟨#[]⟩, 0⟩ = ps[k] := getD_eq ps k _ hk
  refine ⟨b, off, rfl, ?_, ?_⟩
  · unfold pcLot; rw [e]; exact hcs k hk 0 _ rfl
  · unfold pcMany; rw [e]; exact hcs k hk 1 _ rfl
theorem pc_mem {P : Piece → Prop} {ps : List Piece} (h : ∀ x ∈ ps, P x) (k : Nat) (hk : k < ps.length) : P ⟨pcLot ps k, pcMany ps k⟩ := by
  have e : ps.getD k ⟨⟨#[]⟩, 0⟩ = ps[k] := getD_eq ps k _ hk
  unfold pcLot pcMany
  rw [e]
  exact h _ (List.getElem_mem hk)
theorem pcMany_get (ps : List Piece) (k : Nat) (hk : k < ps.length) : (ps.map Piece.many).getD k 0 = pcMany ps k := by
  unfold pcMany
  rw [List.getD_eq_getElem?_getD, List.getD_eq_getElem?_getD, List.getElem?_map, List.getElem?_eq_getElem hk]
  rfl
theorem pc_bd {ps : List Piece} (h : ∀ x ∈ ps, x.lot.size ≤ 1000 ∧ -100000 ≤ x.many ∧ x.many ≤ 100000) : ∀ y ∈ ps.map Piece.many, (-100000 : Int) ≤ y ∧ y ≤ 100000 := by
  intro y hy
  obtain ⟨x, hx, rfl⟩ := List.mem_map.1 hy
  exact (h x hx).2
def CoilChk (c : Coil) (w : World) (e : Ending) (w' : World) : Prop := ∃ r : Int, e = .returned (.int .i64 r) ∧ (r = 0 ↔ CoilOk c) ∧ w.grownBy w' none
theorem coil_no {c : Coil} {w w' : World} (r : Int) (hr : r ≠ 0) (h : ¬ CoilOk c) (g : w.grownBy w' none) : CoilChk c w (.returned (.int .i64 r)) w' := ⟨r, rfl, ⟨fun e => absurd e hr, fun e => absurd e h⟩, g⟩
end Go.Proofs.Ytoiclngamaadgaa

/-! What is wrong with a coil: the reference. -/
namespace Go.Proofs.Ytoiclngamaadgaa
open Go.RowKit
attribute [local go_sem ↓] Go.wp_at_zero Go.wp_at_succ

end Go.Proofs.Ytoiclngamaadgaa

/-! Lots that are right pass; where a lot is; what a store of one lot counts. -/
namespace Go.Proofs.Ytoiclngamaadgaa
open Go.RowKit
attribute [local go_sem ↓] Go.wp_at_zero Go.wp_at_succ

def leS (a b : ByteArray) : Bool := Op.bytesLess a.toList b.toList || a.toList == b.toList
structure LotOk (x : Lot) : Prop where
  id : keyB x.id = true
  ids : x.id.size ≤ 1000
  prod : keyB x.prod = true
  prods : x.prod.size ≤ 1000
  e0 : 0 ≤ x.exp
  e1 : x.exp ≤ 4000
  m0 : 0 ≤ x.many
  m1 : x.many ≤ 100000
structure LotsOk (xs : List Lot) : Prop where
  len : xs.length ≤ 500
  all : ∀ x ∈ xs, LotOk x
  up : ∀ i (h0 : 0 < i) (h : i < xs.length), leS xs[i].id (xs[i - 1]'(by omega)).id = false
theorem dayL_any (n : Int) (w : World) : Calls Try.prog 116 #[.int .i64 n] w fun e w' => e = .returned (.bool (!(decide (n < 0) || decide (4000 < n)))) ∧ w = w' := by
  go_enter Try.func116, Try.ntmps116
  go_wp2_with (fail)
  refine (out_any n 0 4000 w).mono ?_
  rintro e w2 ⟨rfl, rfl⟩
  obtain ⟨b, hb⟩ : ∃ b, b = (decide (n < 0) || decide (4000 < n)) := ⟨_, rfl⟩
  rw [← hb]
  have HB := Lib.hid hb
  clear hb
  go_wp2_with (fail)
  go_ret
  exact ⟨ret_bool (by rw [HB.out]), rfl⟩
theorem lot_cells {w : World} {a : Option Addr} {xs : List Lot} (h : CellsAt w a (flat encLot xs)) (k : Nat) (hk : k < xs.length) :
    ∃ b off, a = some ⟨b, off, none⟩ ∧ w.cell? ⟨b, off + k * 4, none⟩ = some (.string xs[k].id) ∧ w.cell? ⟨b, off + k * 4 + 1, none⟩ = some (.string xs[k].prod) ∧ w.cell? ⟨b, off + k * 4 + 2, none⟩ = some (.int .i64 xs[k].exp) ∧ w.cell? ⟨b, off + k * 4 + 3, none⟩ = some (.int .i64 xs[k].many) := by
  obtain ⟨b, off, rfl, hcs⟩ := flat_cells encLot_len (by decide) h (by omega)
  exact ⟨b, off, rfl, hcs k hk 0 _ rfl, hcs k hk 1 _ rfl, hcs k hk 2 _ rfl, hcs k hk 3 _ rfl⟩
set_option maxRecDepth 100000 in
set_option maxHeartbeats 1000000 in
theorem lotFault_ok (x : Lot) (w : World) (h : LotOk x) :
    Calls Try.prog 123 #[.agg #[.string x.id, .string x.prod, .int .i64 x.exp, .int .i64 x.many]] w fun e w' => e = .returned (.int .i64 0) ∧ w.grownBy w' none := by
  obtain ⟨-, -, h1, h2, h3, h4, h5, h6⟩ := h
  obtain ⟨i, p, e, m⟩ := x
  simp only at h1 h2 h3 h4 h5 h6 ⊢
  have H1 := Lib.hid h1
  clear h1
  go_enter Try.func123, Try.ntmps123
  go_wp2_with (fail)
  have hg := gr_alloc (gr_refl w none) (.cells #[.string i, .string p, .int .i64 e, .int .i64 m] 81)
  refine (key_any p _ (by omega)).mono ?_
  rintro _ w2 ⟨rfl, rfl⟩
  rw [H1.out]
  go_wp2_with (fail)
  refine (dayL_any e _).mono ?_
  rintro _ w2 ⟨rfl, rfl⟩
  have e1 : (!(decide (e < 0) || decide (4000 < e))) = true := by simp; omega
  rw [e1]
  go_wp2_with (fail)
  refine (out_any m 0 100000 _).mono ?_
  rintro _ w2 ⟨rfl, rfl⟩
  have e2 : (decide (m < 0) || decide (100000 < m)) = false := by simp; omega
  rw [e2]
  go_wp2_with (fail)
  go_ret
  exact ⟨rfl, hg⟩
set_option maxRecDepth 100000 in
set_option maxHeartbeats 2000000 in
theorem checkLots_ok (xs : List Lot) (a : Option Addr) (c : Nat) (w : World) (h : CellsAt w a (flat encLot xs)) (hok : LotsOk xs) :
    Calls Try.prog 89 #[.slice a xs.length c] w fun e w' => e = .returned (.int .i64 0) ∧ w.grownBy w' none := by
  have hl := hok.len
  have HK := Lib.hid hok
  have H := Lib.hid h
  clear hok h
  go_enter Try.func89, Try.ntmps89
  go_wp2_with (fail)
  go_loopw [11] (fun i wr => ∃ k : Nat, k ≤ xs.length ∧ i = .int .i64 k ∧ w.grownBy wr none) (fun i _ => xs.length - (intOf i).toNat)
  case atStart => exact ⟨0, Nat.zero_le _, rfl, gr_refl _ _⟩
  case round =>
    obtain ⟨k, hk, rfl, hgr⟩ := hrel
    obtain ⟨wo, rfl⟩ : ∃ wo : World, wo = wr := ⟨_, rfl⟩
    by_cases hlt : k < xs.length
    · obtain ⟨b, off, rfl, d0, d1, d2, d3⟩ := lot_cells (H.out.keep0 hgr) k hlt
      have hlo := HK.out.all xs[k] (List.getElem_mem hlt)
      have hul := HK.out.up k
      have hprev : 0 < k → ∃ y : ByteArray, wo.cell? ⟨b, off + (k - 1) * 4, none⟩ = some (.string y) ∧ leS xs[k].id y = false := by
        intro h0
        obtain ⟨b', off', e', y0, -⟩ := lot_cells (H.out.keep0 hgr) (k - 1) (by omega)
        cases e'
        exact ⟨_, y0, hul h0 hlt⟩
      obtain ⟨x, hx⟩ : ∃ x, x = xs[k] := ⟨_, rfl⟩
      rw [← hx] at d0 d1 d2 d3 hlo hprev
      obtain ⟨K, P, E, M⟩ := x
      simp only at d0 d1 d2 d3 hlo hprev
      have HLO := Lib.hid hlo
      have HPV := Lib.hid hprev
      have hKs := hlo.ids
      simp only at hKs
      have HGR := Lib.hid hgr
      clear hx hlo hprev hul hgr
      go_wp2_with (fail)
      have hV := heap_alloc_new wo (.cells #[.string K, .string P, .int .i64 E, .int .i64 M] 81)
      have hg2 := gr_alloc (gr_refl wo none) (.cells #[.string K, .string P, .int .i64 E, .int .i64 M] 81)
      obtain ⟨w3, hw3⟩ : ∃ w3, w3 = wo.alloc (.cells #[.string K, .string P, .int .i64 E, .int .i64 M] 81) := ⟨_, rfl⟩
      rw [← hw3] at hV hg2
      rw [← hw3]
      obtain ⟨V, hVe⟩ : ∃ V, V = wo.heap.size := ⟨_, rfl⟩
      rw [← hVe] at hV
      rw [← hVe]
      clear hw3 hVe
      refine (key_any K w3 (by omega)).mono ?_
      rintro _ w4 ⟨rfl, rfl⟩
      rw [HLO.out.id]
      have g34 := gr_refl w3 none
      have hg24 := hg2
      obtain ⟨v0, v1, v2, v3⟩ := blk4 hV
      have HPV4 : Hid (0 < k → ∃ y : ByteArray, w3.cell? ⟨b, off + (k - 1) * 4, none⟩ = some (.string y) ∧ leS K y = false) := fun h0 => by
        obtain ⟨y, hy, hle⟩ := HPV.out h0
        exact ⟨y, (gr_cell hg24 (lt_of_cell hy)).trans hy, hle⟩
      have HG24 := Lib.hid (gr_trans HGR.out hg24)
      clear hg2 hg24 g34 hV d0 d1 d2 d3 HPV
      go_wp2_with (fail)
      go_cut [32] from 20 to 31 (fun s wx => s = .bool false ∧ ∃ nx, wx = w3.drewN nx)
      case first =>
        by_cases h0 : 0 < k
        · obtain ⟨y, m1, hle⟩ := HPV4.out h0
          have hle2 : (Op.bytesLess K.toList y.toList || K.toList == y.toList) = false := hle
          have hkc : (((k - 1 : Nat)) : Int) = (k : Int) - 1 := by omega
          have hint1 : (0 : Int) ≤ (k : Int) - 1 := by omega
          have hint2 : (k : Int) - 1 < (xs.length : Int) := by omega
          have hint3 : (0 : Int) < (k : Int) := by omega
          have htn : ((k : Int) - 1).toNat = k - 1 := by omega
          have hwr : IntKind.i64.wrap ((k : Int) - 1) = (k : Int) - 1 := IntWalk.i64_in _ (by omega)
          clear hkc hle
          go_quiet (fail)
          go_wp2_with (fail)
          go_meet
          exact ⟨rfl, _, rfl⟩
        · obtain rfl : k = 0 := by omega
          have hdf : decide ((0 : Int) < 0) = false := by decide
          go_quiet (fail)
          go_wp2_with (fail)
          go_meet
          exact ⟨rfl, _, rfl⟩
      case rest =>
      obtain ⟨rfl, nq, rfl⟩ := hcut
      have LF := Lib.hid (lotFault_ok ⟨K, P, E, M⟩ (w3.drewN nq) HLO.out)
      have HGQ := Lib.hid (gr_drewN HG24.out nq)
      go_wp2_with (fail)
      refine LF.out.mono ?_
      rintro _ w5 ⟨rfl, g5⟩
      have g5 := gr_trans HGQ.out g5
      go_wp2_with (fail)
      go_roundw
      case rel => exact ⟨k + 1, by omega, by go_num, g5⟩
      case measure => simp [intOf]; omega
    · obtain rfl : k = xs.length := by omega
      go_wp2_with (fail)
      go_ret
      exact ⟨rfl, hgr⟩
end Go.Proofs.Ytoiclngamaadgaa

/-! Package slices at elements coilrack/api.Lot: with a function value. Written by mkfind.py. -/
namespace Go.Proofs.Ytoiclngamaadgaa
open Go.RowKit

set_option maxRecDepth 100000 in
set_option maxHeartbeats 1000000 in
theorem indexFunc_Lot (F : FuncId) (ad : Addr) (P : Lot → Bool) (xs : List (Lot)) (a : Option Addr) (c : Nat) (w : World) (hc : CellsAt w a (flat encLot xs)) (hl : xs.length ≤ 137438953472)
    (hE : ∀ (args : Array Value) (w : World), (callFunc F args).run Try.prog w = .ok (.enter F args) w)
    (hF : ∀ x ∈ xs, ∀ w1, w.grownBy w1 none → Calls Try.prog F #[.agg #[.string x.id, .string x.prod, .int .i64 x.exp, .int .i64 x.many], .pointer (some ad)] w1 fun e w2 => e = .returned (.bool (P x)) ∧ w1.grownBy w2 none) :
    Calls Try.prog 130 #[.slice a xs.length c, Value.func (.func F) #[] #[.pointer (some ad)]] w fun e w' => e = .returned (.int .i64 (findA P xs)) ∧ w.grownBy w' none := by
  have HF := Lib.hid hF; clear hF
  go_enter Try.func130, Try.ntmps130
  go_wp2_with (fail)
  go_loopw [8] (fun i wr => ∃ k : Nat, k ≤ xs.length ∧ i = .int .i64 k ∧ (∀ j (hj : j < xs.length), j < k → P xs[j] = false) ∧ w.grownBy wr none) (fun i _ => xs.length - (intOf i).toNat)
  case atStart => exact ⟨0, Nat.zero_le _, rfl, fun j _ hj => absurd hj (Nat.not_lt_zero _), gr_refl _ _⟩
  case round =>
    obtain ⟨k, hk, rfl, hno, hgr⟩ := hrel
    obtain ⟨wo, rfl⟩ : ∃ wo : World, wo = wr := ⟨_, rfl⟩
    have HNO := Lib.hid hno; clear hno
    by_cases hlt : k < xs.length
    · obtain ⟨b, off, rfl, hcs⟩ := flat_cells (enc := encLot) (m := 4) (fun _ => rfl) (by decide) (hc.keep0 hgr) (by omega)
      have hmem : xs[k] ∈ xs := List.getElem_mem hlt
      obtain ⟨x, hx⟩ : ∃ x, x = xs[k] := ⟨_, rfl⟩
      have HX := Lib.hid hx
      have d0 : wo.cell? ⟨b, off + k * 4, none⟩ = some (.string x.id) := by have := hcs k hlt 0 _ rfl; simpa [← HX.out] using this
      have d1 : wo.cell? ⟨b, off + k * 4 + 1, none⟩ = some (.string x.prod) := by have := hcs k hlt 1 _ rfl; simpa [← HX.out] using this
      have d2 : wo.cell? ⟨b, off + k * 4 + 2, none⟩ = some (.int .i64 x.exp) := by have := hcs k hlt 2 _ rfl; simpa [← HX.out] using this
      have d3 : wo.cell? ⟨b, off + k * 4 + 3, none⟩ = some (.int .i64 x.many) := by have := hcs k hlt 3 _ rfl; simpa [← HX.out] using this
      rw [← hx] at hmem
      clear hx
      have HM := Lib.hid hmem; clear hmem hcs
      go_wp2_with (fail)
      refine (HF.out x HM.out wo hgr).mono ?_
      rintro e w1 ⟨rfl, hg1⟩
      cases hp : P x with
      | true =>
        have HP := Lib.hid hp; clear hp
        go_wp2_with (fail)
        go_ret
        refine ⟨ret_int (findA_at hlt (by rw [← HX.out]; exact HP.out) (fun j hj => HNO.out j (by omega) hj)).symm, gr_trans hgr hg1⟩
      | false =>
        have HP := Lib.hid hp; clear hp
        go_wp2_with (fail)
        go_roundw
        case rel =>
          refine ⟨k + 1, by omega, by go_num, fun j hjl hj => ?_, gr_trans hgr hg1⟩
          by_cases hjk : j = k
          · subst hjk; rw [← HX.out]; exact HP.out
          · exact HNO.out j hjl (by omega)
        case measure => simp [intOf]; omega
    · have hkl : k = xs.length := by omega
      have HK := Lib.hid hkl; clear hkl
      go_wp2_with (fail)
      go_ret
      exact ⟨ret_int (findA_none (fun j hj => HNO.out j hj (by rw [HK.out]; exact hj))).symm, hgr⟩

end Go.Proofs.Ytoiclngamaadgaa

/-! Where a lot is: in stock, and in the reference. -/
namespace Go.Proofs.Ytoiclngamaadgaa
open Go.RowKit

def idIs (k : ByteArray) (x : Lot) : Bool := x.id.toList == k.toList
def lotIx (xs : List Lot) (k : ByteArray) : Int := findA (idIs k) xs
theorem lot1_fn : ∀ (args : Array Value) (w : World), (callFunc 131 args).run Try.prog w = .ok (.enter 131 args) w := fun _ _ => by kernel_rfl
set_option maxRecDepth 100000 in
theorem lot1_any (t : Lot) (x : ByteArray) (q : Nat) (w : World) (hq : w.cell? ⟨q, 0, none⟩ = some (.string x)) :
    Calls Try.prog 131 #[.agg #[.string t.id, .string t.prod, .int .i64 t.exp, .int .i64 t.many], .pointer (some ⟨q, 0, none⟩)] w fun e w' => e = .returned (.bool (idIs x t)) ∧ w.grownBy w' none := by
  have hqlt := lt_of_cell hq
  go_enter Try.func131, Try.ntmps131
  go_wp2_with (fail)
  go_ret
  exact ⟨rfl, gr_alloc (gr_refl w none) _⟩
set_option maxRecDepth 100000 in
theorem lot_any (key : ByteArray) (xs : List Lot) (a : Option Addr) (c : Nat) (w : World) (h : CellsAt w a (flat encLot xs)) (hl : xs.length ≤ 100000) :
    Calls Try.prog 96 #[.slice a xs.length c, .string key] w fun e w' => e = .returned (.int .i64 (lotIx xs key)) ∧ w.grownBy w' none := by
  have H := Lib.hid h
  clear h
  go_enter Try.func96, Try.ntmps96
  go_wp2_with (fail)
  have hg1 := gr_alloc (gr_refl w none) (.cells #[.string key] 9)
  refine (indexFunc_Lot _ ⟨w.heap.size, 0, none⟩ (idIs key) xs a c _ (H.out.keep0 hg1) (by omega) lot1_fn ?_).mono ?_
  · intro t _ w1 hg
    exact lot1_any t key w.heap.size w1 ((gr_cell hg (by simp)).trans (by rw [World.cell?_alloc_at _ _ _ _ rfl]; rfl))
  rintro e w2 ⟨rfl, hg2⟩
  go_wp2_with (fail)
  go_ret
  exact ⟨rfl, gr_trans hg1 hg2⟩
/-- The lot that is found, or an empty one. -/
def lotGet (xs : List Lot) (k : ByteArray) : Lot := (xs.find? (idIs k)).getD ⟨⟨#[]⟩, ⟨#[]⟩, 0, 0⟩
def lotHas (xs : List Lot) (k : ByteArray) : Bool := xs.any (idIs k)
theorem find_at {α : Type} {P : α → Bool} {xs : List α} {k : Nat} (hk : k < xs.length) (hp : P xs[k] = true) (hno : ∀ j (hj : j < xs.length), j < k → P xs[j] = false) : xs.find? P = some xs[k] := by
  induction xs generalizing k with
  | nil => cases hk
  | cons x xs ih =>
    cases k with
    | zero => simp only [List.getElem_cons_zero] at hp ⊢; rw [List.find?_cons, hp]
    | succ k =>
      have h0 := hno 0 (by simp) (by omega)
      simp only [List.getElem_cons_zero] at h0
      rw [List.find?_cons, h0]
      exact ih (by simpa using hk) hp (fun j hj h => by have := hno (j + 1) (by simpa using hj) (by omega); simpa using this)
theorem find_not {α : Type} {P : α → Bool} {xs : List α} (hno : ∀ j (hj : j < xs.length), P xs[j] = false) : xs.find? P = none := by
  rw [List.find?_eq_none]
  intro x hx
  obtain ⟨j, hj, rfl⟩ := List.getElem_of_mem hx
  simp [hno j hj]
theorem lotHas_get {xs : List Lot} {k : ByteArray} : lotHas xs k = (xs.find? (idIs k)).isSome := by
  unfold lotHas
  rw [Bool.eq_iff_iff, List.any_eq_true, List.find?_isSome]
theorem lotIx_neg {xs : List Lot} {k : ByteArray} : lotIx xs k < 0 ↔ lotHas xs k = false := by
  have := any_findA (idIs k) xs
  unfold lotIx lotHas
  rw [this]
  simp
theorem lotIx_at {xs : List Lot} {k : ByteArray} (h : lotHas xs k = true) : ∃ (j : Nat) (hj : j < xs.length), lotIx xs k = j ∧ xs[j] = lotGet xs k := by
  rw [lotHas_get] at h
  have hex : ∃ j, ∃ hj : j < xs.length, idIs k xs[j] = true := by
    obtain ⟨x, hx, hp⟩ := List.find?_isSome.mp h
    obtain ⟨j, hj, rfl⟩ := List.getElem_of_mem hx
    exact ⟨j, hj, hp⟩
  have hmin : ∀ n, (∃ j, ∃ hj : j < xs.length, j ≤ n ∧ idIs k xs[j] = true) → ∃ j, ∃ hj : j < xs.length, idIs k xs[j] = true ∧ ∀ i (hi : i < xs.length), i < j → idIs k xs[i] = false := by
    intro n
    induction n with
    | zero =>
      rintro ⟨j, hj, h0, hp⟩
      exact ⟨j, hj, hp, fun i _ hi => by omega⟩
    | succ n ih =>
      rintro ⟨j, hj, h0, hp⟩
      by_cases hb : ∃ j, ∃ hj : j < xs.length, j ≤ n ∧ idIs k xs[j] = true
      · exact ih hb
      · refine ⟨j, hj, hp, fun i hi hij => ?_⟩
        cases hq : idIs k xs[i] with
        | false => rfl
        | true => exact absurd ⟨i, hi, by omega, hq⟩ hb
  obtain ⟨j, hj, hp⟩ := hex
  obtain ⟨j, hj, hp, hno⟩ := hmin j ⟨j, hj, Nat.le_refl _, hp⟩
  refine ⟨j, hj, findA_at hj hp (fun i hi => hno i (by omega) hi), ?_⟩
  unfold lotGet
  rw [find_at hj hp hno]
  rfl
def vLot (x : Lot) : Value := .agg #[.string x.id, .string x.prod, .int .i64 x.exp, .int .i64 x.many]
end Go.Proofs.Ytoiclngamaadgaa

/-! The units of pieces, one by one: the reference. -/
namespace Go.Proofs.Ytoiclngamaadgaa
open Go.RowKit
attribute [local go_sem ↓] Go.wp_at_zero Go.wp_at_succ

def unitsL (ps : List Piece) : List ByteArray := ps.flatMap (fun p => List.replicate p.many.toNat p.lot)
theorem unitsL_take (ps : List Piece) (k : Nat) (hk : k < ps.length) : unitsL (ps.take (k + 1)) = unitsL (ps.take k) ++ List.replicate (pcMany ps k).toNat (pcLot ps k) := by
  have : ps.take (k + 1) = ps.take k ++ [ps[k]] := by simp
  rw [this]
  unfold unitsL pcMany pcLot
  rw [List.flatMap_append]
  rw [getD_eq ps k _ hk]
  simp
theorem unitsL_mono (ps : List Piece) (k : Nat) : (unitsL (ps.take k)).length ≤ (unitsL ps).length := by
  have : unitsL ps = unitsL (ps.take k) ++ unitsL (ps.drop k) := by
    unfold unitsL; rw [← List.flatMap_append, List.take_append_drop]
  rw [this, List.length_append]; omega
theorem strs_app (a b : List ByteArray) : strs (a ++ b) = strs a ++ strs b := by simp [strs]
end Go.Proofs.Ytoiclngamaadgaa
