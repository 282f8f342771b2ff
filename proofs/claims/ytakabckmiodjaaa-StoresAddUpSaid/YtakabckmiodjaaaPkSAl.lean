/- What is wrong with a coil: package stock. -/
import Derived.Test.YtakabckmiodjaaaPkSAh
import Derived.Test.YtakabckmiodjaaaPkSAj
import Derived.Test.YtakabckmiodjaaaPkSAk
import Derived.Test.YtakabckmiodjaaaPkSAa
namespace Go.Proofs.Ytakabckmiodjaaa
open Go.RowKit
attribute [local go_sem ↓] Go.wp_at_zero Go.wp_at_succ

def pcMany (ps : List Piece) (i : Nat) : Int := (ps.getD i ⟨⟨#[]⟩, 0⟩).many
def pcLot (ps : List Piece) (i : Nat) : ByteArray := (ps.getD i ⟨⟨#[]⟩, 0⟩).lot
def pcSum (ps : List Piece) : Int := (ps.map Piece.many).sum
structure PcOk (ps : List Piece) (i : Nat) : Prop where
  key : keyB (pcLot ps i) = true
  lo : 1 ≤ pcMany ps i
  hi : pcMany ps i ≤ 1000
  ne : 0 < i → (pcLot ps i).toList ≠ (pcLot ps (i - 1)).toList
structure CoilOk (c : Coil) : Prop where
  key : keyB c.prod = true
  m0 : 0 ≤ c.most
  m1 : c.most ≤ 1000
  len : c.ps.length ≤ 1000
  all : ∀ i, i < c.ps.length → PcOk c.ps i
  sum : pcSum c.ps ≤ c.most
/-- Sizes that every coil of the stream has. -/
structure CoilSm (c : Coil) : Prop where
  prod : c.prod.size ≤ 1000
  len : c.ps.length ≤ 1000
  all : ∀ x ∈ c.ps, x.lot.size ≤ 1000 ∧ -100000 ≤ x.many ∧ x.many ≤ 100000
theorem pc_cells {w : World} {a : Option Addr} {ps : List Piece} (h : CellsAt w a (flat encPc ps)) (k : Nat) (hk : k < ps.length) :
    ∃ b off, a = some ⟨b, off, none⟩ ∧ w.cell? ⟨b, off + k * 2, none⟩ = some (.string (pcLot ps k)) ∧ w.cell? ⟨b, off + k * 2 + 1, none⟩ = some (.int .i64 (pcMany ps k)) := by
  obtain ⟨b, off, rfl, hcs⟩ := flat_cells encPc_len (by decide) h (by omega)
  have e : ps.getD k ⟨⟨#[]⟩, 0⟩ = ps[k] := getD_eq ps k _ hk
  refine ⟨b, off, rfl, ?_, ?_⟩
  · unfold pcLot; rw [e]; exact hcs k hk 0 _ rfl
  · unfold pcMany; rw [e]; exact hcs k hk 1 _ rfl
theorem pc_mem {P : Piece → Prop} {ps : List Piece} (h : ∀ x ∈ ps, P x) (k : Nat) (hk : k < ps.length) : P ⟨pcLot ps k, pcMany ps k⟩ := by
  have e : ps.getD k ⟨⟨#[]⟩, 0⟩ = ps[k] := getD_eq ps k _ hk
  unfold pcLot pcMany
  rw [e]
  exact h _ (List.getElem_mem hk)
theorem pcMany_get (ps : List Piece) (k : Nat) (hk : k < ps.length) : (ps.map Piece.many).getD k 0 = pcMany ps k := by
  unfold pcMany
  rw [List.getD_eq_getElem?_getD, List.getD_eq_getElem?_getD, List.getElem?_map, List.getElem?_eq_getElem hk]
  rfl
theorem pc_bd {ps : List Piece} (h : ∀ x ∈ ps, x.lot.size ≤ 1000 ∧ -100000 ≤ x.many ∧ x.many ≤ 100000) : ∀ y ∈ ps.map Piece.many, (-100000 : Int) ≤ y ∧ y ≤ 100000 := by
  intro y hy
  obtain ⟨x, hx, rfl⟩ := List.mem_map.1 hy
  exact (h x hx).2
def CoilChk (c : Coil) (w : World) (e : Ending) (w' : World) : Prop := ∃ r : Int, e = .returned (.int .i64 r) ∧ (r = 0 ↔ CoilOk c) ∧ w.grownBy w' none
theorem coil_no {c : Coil} {w w' : World} (r : Int) (hr : r ≠ 0) (h : ¬ CoilOk c) (g : w.grownBy w' none) : CoilChk c w (.returned (.int .i64 r)) w' := ⟨r, rfl, ⟨fun e => absurd e hr, fun e => absurd e h⟩, g⟩
end Go.Proofs.Ytakabckmiodjaaa

/-! What is wrong with a coil: the reference. -/
namespace Go.Proofs.Ytakabckmiodjaaa
open Go.RowKit
attribute [local go_sem ↓] Go.wp_at_zero Go.wp_at_succ

end Go.Proofs.Ytakabckmiodjaaa

/-! Lots that are right pass; where a lot is; what a store of one lot counts. -/
namespace Go.Proofs.Ytakabckmiodjaaa
open Go.RowKit
attribute [local go_sem ↓] Go.wp_at_zero Go.wp_at_succ

def leS (a b : ByteArray) : Bool := Op.bytesLess a.toList b.toList || a.toList == b.toList
structure LotOk (x : Lot) : Prop where
  id : keyB x.id = true
  ids : x.id.size ≤ 1000
  prod : keyB x.prod = true
  prods : x.prod.size ≤ 1000
  e0 : 0 ≤ x.exp
  e1 : x.exp ≤ 4000
  m0 : 0 ≤ x.many
  m1 : x.many ≤ 100000
structure LotsOk (xs : List Lot) : Prop where
  len : xs.length ≤ 500
  all : ∀ x ∈ xs, LotOk x
  up : ∀ i (h0 : 0 < i) (h : i < xs.length), leS xs[i].id (xs[i - 1]'(by omega)).id = false
theorem dayL_any (n : Int) (w : World) : Calls Try.prog 113 #[.int .i64 n] w fun e w' => e = .returned (.bool (!(decide (n < 0) || decide (4000 < n)))) ∧ w = w' := by
  go_enter Try.func113, Try.ntmps113
  go_wp2_with (fail)
  refine (out_any n 0 4000 w).mono ?_
  rintro e w2 ⟨rfl, rfl⟩
  obtain ⟨b, hb⟩ : ∃ b, b = (decide (n < 0) || decide (4000 < n)) := ⟨_, rfl⟩
  rw [← hb]
  have HB := Lib.hid hb
  clear hb
  go_wp2_with (fail)
  go_ret
  exact ⟨ret_bool (by rw [HB.out]), rfl⟩
theorem lot_cells {w : World} {a : Option Addr} {xs : List Lot} (h : CellsAt w a (flat encLot xs)) (k : Nat) (hk : k < xs.length) :
    ∃ b off, a = some ⟨b, off, none⟩ ∧ w.cell? ⟨b, off + k * 4, none⟩ = some (.string xs[k].id) ∧ w.cell? ⟨b, off + k * 4 + 1, none⟩ = some (.string xs[k].prod) ∧ w.cell? ⟨b, off + k * 4 + 2, none⟩ = some (.int .i64 xs[k].exp) ∧ w.cell? ⟨b, off + k * 4 + 3, none⟩ = some (.int .i64 xs[k].many) := by
  obtain ⟨b, off, rfl, hcs⟩ := flat_cells encLot_len (by decide) h (by omega)
  exact ⟨b, off, rfl, hcs k hk 0 _ rfl, hcs k hk 1 _ rfl, hcs k hk 2 _ rfl, hcs k hk 3 _ rfl⟩
set_option maxRecDepth 100000 in
set_option maxHeartbeats 1000000 in
theorem lotFault_ok (x : Lot) (w : World) (h : LotOk x) :
    Calls Try.prog 107 #[.agg #[.string x.id, .string x.prod, .int .i64 x.exp, .int .i64 x.many]] w fun e w' => e = .returned (.int .i64 0) ∧ w.grownBy w' none := by
  obtain ⟨-, -, h1, h2, h3, h4, h5, h6⟩ := h
  obtain ⟨i, p, e, m⟩ := x
  simp only at h1 h2 h3 h4 h5 h6 ⊢
  have H1 := Lib.hid h1
  clear h1
  go_enter Try.func107, Try.ntmps107
  go_wp2_with (fail)
  have hg := gr_alloc (gr_refl w none) (.cells #[.string i, .string p, .int .i64 e, .int .i64 m] 69)
  refine (key_any p _ (by omega)).mono ?_
  rintro _ w2 ⟨rfl, rfl⟩
  rw [H1.out]
  go_wp2_with (fail)
  refine (dayL_any e _).mono ?_
  rintro _ w2 ⟨rfl, rfl⟩
  have e1 : (!(decide (e < 0) || decide (4000 < e))) = true := by simp; omega
  rw [e1]
  go_wp2_with (fail)
  refine (out_any m 0 100000 _).mono ?_
  rintro _ w2 ⟨rfl, rfl⟩
  have e2 : (decide (m < 0) || decide (100000 < m)) = false := by simp; omega
  rw [e2]
  go_wp2_with (fail)
  go_ret
  exact ⟨rfl, hg⟩
set_option maxRecDepth 100000 in
set_option maxHeartbeats 2000000 in
theorem checkLots_ok (xs : List Lot) (a : Option Addr) (c : Nat) (w : World) (h : CellsAt w a (flat encLot xs)) (hok : LotsOk xs) :
    Calls Try.prog 73 #[.slice a xs.length c] w fun e w' => e = .returned (.int .i64 0) ∧ w.grownBy w' none := by
  have hl := hok.len
  have HK := Lib.hid hok
  have H := Lib.hid h
  clear hok h
  go_enter Try.func73, Try.ntmps73
  go_wp2_with (fail)
  go_loopw [11] (fun i wr => ∃ k : Nat, k ≤ xs.length ∧ i = .int .i64 k ∧ w.grownBy wr none) (fun i _ => xs.length - (intOf i).toNat)
  case atStart => exact ⟨0, Nat.zero_le _, rfl, gr_refl _ _⟩
  case round =>
    obtain ⟨k, hk, rfl, hgr⟩ := hrel
    obtain ⟨wo, rfl⟩ : ∃ wo : World, wo = wr := ⟨_, rfl⟩
    by_cases hlt : k < xs.length
    · obtain ⟨b, off, rfl, d0, d1, d2, d3⟩ := lot_cells (H.out.keep0 hgr) k hlt
      have hlo := HK.out.all xs[k] (List.getElem_mem hlt)
      have hul := HK.out.up k
      have hprev : 0 < k → ∃ y : ByteArray, wo.cell? ⟨b, off + (k - 1) * 4, none⟩ = some (.string y) ∧ leS xs[k].id y = false := by
        intro h0
        obtain ⟨b', off', e', y0, -⟩ := lot_cells (H.out.keep0 hgr) (k - 1) (by omega)
        cases e'
        exact ⟨_, y0, hul h0 hlt⟩
      obtain ⟨x, hx⟩ : ∃ x, x = xs[k] := ⟨_, rfl⟩
      rw [← hx] at d0 d1 d2 d3 hlo hprev
      obtain ⟨K, P, E, M⟩ := x
      simp only at d0 d1 d2 d3 hlo hprev
      have HLO := Lib.hid hlo
      have HPV := Lib.hid hprev
      have hKs := hlo.ids
      simp only at hKs
      have HGR := Lib.hid hgr
      clear hx hlo hprev hul hgr
      go_wp2_with (fail)
      have hV := heap_alloc_new wo (.cells #[.string K, .string P, .int .i64 E, .int .i64 M] 69)
      have hg2 := gr_alloc (gr_refl wo none) (.cells #[.string K, .string P, .int .i64 E, .int .i64 M] 69)
      obtain ⟨w3, hw3⟩ : ∃ w3, w3 = wo.alloc (.cells #[.string K, .string P, .int .i64 E, .int .i64 M] 69) := ⟨_, rfl⟩
      rw [← hw3] at hV hg2
      rw [← hw3]
      obtain ⟨V, hVe⟩ : ∃ V, V = wo.heap.size := ⟨_, rfl⟩
      rw [← hVe] at hV
      rw [← hVe]
      clear hw3 hVe
      refine (key_any K w3 (by omega)).mono ?_
      rintro _ w4 ⟨rfl, rfl⟩
      rw [HLO.out.id]
      have g34 := gr_refl w3 none
      have hg24 := hg2
      obtain ⟨v0, v1, v2, v3⟩ := blk4 hV
      have HPV4 : Hid (0 < k → ∃ y : ByteArray, w3.cell? ⟨b, off + (k - 1) * 4, none⟩ = some (.string y) ∧ leS K y = false) := fun h0 => by
        obtain ⟨y, hy, hle⟩ := HPV.out h0
        exact ⟨y, (gr_cell hg24 (lt_of_cell hy)).trans hy, hle⟩
      have HG24 := Lib.hid (gr_trans HGR.out hg24)
      clear hg2 hg24 g34 hV d0 d1 d2 d3 HPV
      go_wp2_with (fail)
      go_cut [32] from 20 to 31 (fun s wx => s = .bool false ∧ ∃ nx, wx = w3.drewN nx)
      case first =>
        by_cases h0 : 0 < k
        · obtain ⟨y, m1, hle⟩ := HPV4.out h0
          have hle2 : (Op.bytesLess K.toList y.toList || K.toList == y.toList) = false := hle
          have hkc : (((k - 1 : Nat)) : Int) = (k : Int) - 1 := by omega
          have hint1 : (0 : Int) ≤ (k : Int) - 1 := by omega
          have hint2 : (k : Int) - 1 < (xs.length : Int) := by omega
          have hint3 : (0 : Int) < (k : Int) := by omega
          have htn : ((k : Int) - 1).toNat = k - 1 := by omega
          have hwr : IntKind.i64.wrap ((k : Int) - 1) = (k : Int) - 1 := IntWalk.i64_in _ (by omega)
          clear hkc hle
          go_quiet (fail)
          go_wp2_with (fail)
          go_meet
          exact ⟨rfl, _, rfl⟩
        · obtain rfl : k = 0 := by omega
          have hdf : decide ((0 : Int) < 0) = false := by decide
          go_quiet (fail)
          go_wp2_with (fail)
          go_meet
          exact ⟨rfl, _, rfl⟩
      case rest =>
      obtain ⟨rfl, nq, rfl⟩ := hcut
      have LF := Lib.hid (lotFault_ok ⟨K, P, E, M⟩ (w3.drewN nq) HLO.out)
      have HGQ := Lib.hid (gr_drewN HG24.out nq)
      go_wp2_with (fail)
      refine LF.out.mono ?_
      rintro _ w5 ⟨rfl, g5⟩
      have g5 := gr_trans HGQ.out g5
      go_wp2_with (fail)
      go_roundw
      case rel => exact ⟨k + 1, by omega, by go_num, g5⟩
      case measure => simp [intOf]; omega
    · obtain rfl : k = xs.length := by omega
      go_wp2_with (fail)
      go_ret
      exact ⟨rfl, hgr⟩
end Go.Proofs.Ytakabckmiodjaaa

/-! slices.Clone at []coilrack/api.Lot. Written by mkclone.py. -/
namespace Go.Proofs.Ytakabckmiodjaaa
open Go.RowKit

theorem cloneLot_any (a : Option Addr) (n c : Nat) (xs : List Value) (w : World) (hn : xs.length = n * 4) (hc : CellsAt w a xs) (hnil : a = none → n = 0 ∧ c = 0) (h1 : ∀ u ∈ xs, u.oneCell' = true) (hb : n ≤ 137438953472) :
    Calls Try.prog 84 #[.slice a n c] w fun e w' => ∃ v, e = .returned v ∧ w'.ownsRow w.heap.size 69 4 v n xs ∧ w.grownBy w' none := by
  have q22 : ∀ (w : World) (a : Option Addr) (n c n' c' : Nat), (binOp .eql 66 (.slice a n c) (.slice none n' c')).run Try.prog w = .ok (.bool a.isNone) w := fun w a n c n' c' => Lib.run_eql_slice_nil w _ _ a n c n' c' Try.underlying66
  cases a with
  | none =>
    obtain ⟨hn0, hc0⟩ := hnil rfl
    subst hn0 hc0
    have hx : xs = [] := List.eq_nil_of_length_eq_zero (by omega)
    subst hx
    clear hnil hn
    go_enter Try.func84, Try.ntmps84
    go_wp2
    go_ret
    exact ⟨_, rfl, World.ownsRow_nil _ _ _ _, gr_refl _ _⟩
  | some ad =>
    have HN := Lib.hid hn
    clear hnil hn
    go_enter Try.func84, Try.ntmps84
    go_wp2_with (at_builtin; refine wpList_app eLot rfl _ _ rfl w.heap.size _ _ _ rfl (World.ownsRow_made w #[] 0 (Nat.le_refl _) (Nat.zero_le _) rfl) (some ad) n c xs rfl ?c1 ?c2 ?c3 ?c4 ?c5 ?c6 ?_)
    case c1 => rw [HN.out]
    case c2 => exact hc.alloc _
    case c3 => intro h; cases h
    case c4 => exact h1
    case c5 => omega
    case c6 => simp
    intro v' w1 hown hg
    go_wp2
    go_ret
    refine ⟨v', rfl, by simpa using hown, ?_⟩
    exact gr_grown (gr_alloc (gr_refl _ _) _) hg (by intro k hk; simp [Value.ownBlock] at hk; omega)
end Go.Proofs.Ytakabckmiodjaaa

/-! What can be sold no more is taken out of lots. -/
namespace Go.Proofs.Ytakabckmiodjaaa
open Go.RowKit
attribute [local go_sem ↓] Go.wp_at_zero Go.wp_at_succ

theorem encLot_one : ∀ x, (encLot x).all (fun u => u.oneCell') = true := fun _ => rfl
def spoil1 (day : Int) (x : Lot) : Lot := if day ≤ x.exp then x else ⟨x.id, x.prod, x.exp, 0⟩
def spoilTo (day : Int) (xs : List Lot) (k : Nat) : List Lot := (xs.take k).map (spoil1 day) ++ xs.drop k
theorem spoilTo_len (day : Int) (xs : List Lot) (k : Nat) : (spoilTo day xs k).length = xs.length := by simp [spoilTo]; omega
theorem spoilTo_zero (day : Int) (xs : List Lot) : spoilTo day xs 0 = xs := by simp [spoilTo]
theorem spoilTo_at (day : Int) (xs : List Lot) (k : Nat) (hk : k < xs.length) : (spoilTo day xs k)[k]'(by rw [spoilTo_len]; exact hk) = xs[k] := by
  simp only [spoilTo]
  rw [List.getElem_append_right (by simp; omega)]
  simp [Nat.min_eq_left (Nat.le_of_lt hk)]
theorem spoilTo_next (day : Int) (xs : List Lot) (k : Nat) (hk : k < xs.length) : spoilTo day xs (k + 1) = (spoilTo day xs k).set k (spoil1 day xs[k]) := by
  simp only [spoilTo]
  rw [take_next xs k hk, List.map_append, List.set_append_right _ _ (by simp; omega)]
  simp only [List.length_map, List.length_take, Nat.min_eq_left (Nat.le_of_lt hk), Nat.sub_self, List.map_cons, List.map_nil]
  rw [List.drop_eq_getElem_cons hk, List.set_cons_zero]
  simp
theorem nil_of_lots {w : World} {a : Option Addr} {xs : List Lot} (h : CellsAt w a (flat encLot xs)) (e : a = none) : xs.length = 0 := by
  subst e
  cases xs with
  | nil => rfl
  | cons x xs => obtain ⟨_, _, e, _⟩ := h 0 (.string x.id) rfl; cases e
end Go.Proofs.Ytakabckmiodjaaa

/-! Package slices at elements coilrack/api.Lot: with a function value. Written by mkfind.py. -/
namespace Go.Proofs.Ytakabckmiodjaaa
open Go.RowKit

set_option maxRecDepth 100000 in
set_option maxHeartbeats 1000000 in
theorem indexFunc_Lot (F : FuncId) (ad : Addr) (P : Lot → Bool) (xs : List (Lot)) (a : Option Addr) (c : Nat) (w : World) (hc : CellsAt w a (flat encLot xs)) (hl : xs.length ≤ 137438953472)
    (hE : ∀ (args : Array Value) (w : World), (callFunc F args).run Try.prog w = .ok (.enter F args) w)
    (hF : ∀ x ∈ xs, ∀ w1, w.grownBy w1 none → Calls Try.prog F #[.agg #[.string x.id, .string x.prod, .int .i64 x.exp, .int .i64 x.many], .pointer (some ad)] w1 fun e w2 => e = .returned (.bool (P x)) ∧ w1.grownBy w2 none) :
    Calls Try.prog 116 #[.slice a xs.length c, Value.func (.func F) #[] #[.pointer (some ad)]] w fun e w' => e = .returned (.int .i64 (findA P xs)) ∧ w.grownBy w' none := by
  have HF := Lib.hid hF; clear hF
  go_enter Try.func116, Try.ntmps116
  go_wp2_with (fail)
  go_loopw [8] (fun i wr => ∃ k : Nat, k ≤ xs.length ∧ i = .int .i64 k ∧ (∀ j (hj : j < xs.length), j < k → P xs[j] = false) ∧ w.grownBy wr none) (fun i _ => xs.length - (intOf i).toNat)
  case atStart => exact ⟨0, Nat.zero_le _, rfl, fun j _ hj => absurd hj (Nat.not_lt_zero _), gr_refl _ _⟩
  case round =>
    obtain ⟨k, hk, rfl, hno, hgr⟩ := hrel
    obtain ⟨wo, rfl⟩ : ∃ wo : World, wo = wr := ⟨_, rfl⟩
    have HNO := Lib.hid hno; clear hno
    by_cases hlt : k < xs.length
    · obtain ⟨b, off, rfl, hcs⟩ := flat_cells (enc := encLot) (m := 4) (fun _ => rfl) (by decide) (hc.keep0 hgr) (by omega)
      have hmem : xs[k] ∈ xs := List.getElem_mem hlt
      obtain ⟨x, hx⟩ : ∃ x, x = xs[k] := ⟨_, rfl⟩
      have HX := Lib.hid hx
      have d0 : wo.cell? ⟨b, off + k * 4, none⟩ = some (.string x.id) := by have := hcs k hlt 0 _ rfl; simpa [← HX.out] using this
      have d1 : wo.cell? ⟨b, off + k * 4 + 1, none⟩ = some (.string x.prod) := by have := hcs k hlt 1 _ rfl; simpa [← HX.out] using this
      have d2 : wo.cell? ⟨b, off + k * 4 + 2, none⟩ = some (.int .i64 x.exp) := by have := hcs k hlt 2 _ rfl; simpa [← HX.out] using this
      have d3 : wo.cell? ⟨b, off + k * 4 + 3, none⟩ = some (.int .i64 x.many) := by have := hcs k hlt 3 _ rfl; simpa [← HX.out] using this
      rw [← hx] at hmem
      clear hx
      have HM := Lib.hid hmem; clear hmem hcs
      go_wp2_with (fail)
      refine (HF.out x HM.out wo hgr).mono ?_
      rintro e w1 ⟨rfl, hg1⟩
      cases hp : P x with
      | true =>
        have HP := Lib.hid hp; clear hp
        go_wp2_with (fail)
        go_ret
        refine ⟨ret_int (findA_at hlt (by rw [← HX.out]; exact HP.out) (fun j hj => HNO.out j (by omega) hj)).symm, gr_trans hgr hg1⟩
      | false =>
        have HP := Lib.hid hp; clear hp
        go_wp2_with (fail)
        go_roundw
        case rel =>
          refine ⟨k + 1, by omega, by go_num, fun j hjl hj => ?_, gr_trans hgr hg1⟩
          by_cases hjk : j = k
          · subst hjk; rw [← HX.out]; exact HP.out
          · exact HNO.out j hjl (by omega)
        case measure => simp [intOf]; omega
    · have hkl : k = xs.length := by omega
      have HK := Lib.hid hkl; clear hkl
      go_wp2_with (fail)
      go_ret
      exact ⟨ret_int (findA_none (fun j hj => HNO.out j hj (by rw [HK.out]; exact hj))).symm, hgr⟩

end Go.Proofs.Ytakabckmiodjaaa
