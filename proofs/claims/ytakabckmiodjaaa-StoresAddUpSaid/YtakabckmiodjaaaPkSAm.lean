/- A store of lots: taken in order. -/
import Derived.Test.YtakabckmiodjaaaPkSAb
import Derived.Test.YtakabckmiodjaaaPkSAl
namespace Go.Proofs.Ytakabckmiodjaaa
open Go.RowKit
attribute [local go_sem ↓] Go.wp_at_zero Go.wp_at_succ

set_option maxRecDepth 100000 in
theorem take1_any (t : Lot) (x : ByteArray) (w : World) :
    Calls Try.prog 75 #[.agg #[.string t.id, .string t.prod, .int .i64 t.exp, .int .i64 t.many], .string x] w fun e w' => e = .returned (.int .i64 (cmpB t.id x)) ∧ w.grownBy w' none := by
  have CM := Lib.hid (fun W => compare_any t.id x W)
  have g := gr_alloc (gr_refl w none) (.cells #[.string t.id, .string t.prod, .int .i64 t.exp, .int .i64 t.many] 69)
  go_enter Try.func75, Try.ntmps75
  go_wp2_with (fail)
  refine (CM.out _).mono ?_
  rintro e w2 ⟨rfl, rfl⟩
  go_wp2_with (fail)
  go_ret
  exact ⟨rfl, g⟩
theorem take1_fn : ∀ (args : Array Value) (w : World), (callFunc 75 args).run Try.prog w = .ok (.enter 75 args) w := fun _ _ => by kernel_rfl
set_option maxRecDepth 100000 in
set_option maxHeartbeats 1000000 in
theorem bsearchLot_end (xs : List Lot) (a : Option Addr) (c : Nat) (key : ByteArray) (w : World) (hc : CellsAt w a (flat encLot xs)) (hl : xs.length ≤ 100000) (hall : ∀ x ∈ xs, cmpB x.id key < 0) :
    Calls Try.prog 74 #[.slice a xs.length c, .string key, Value.func (.func 75) #[] #[]] w fun e w' => e = .returned (.tuple #[.int .i64 xs.length, .bool false]) ∧ w.grownBy w' none := by
  have H := Lib.hid hc
  have HA := Lib.hid hall
  have hE := take1_fn
  clear hc hall
  go_enter Try.func74, Try.ntmps74
  go_wp2_with (fail)
  go_loopw [9, 10] (fun i j wr => ∃ k : Nat, k ≤ xs.length ∧ i = .int .i64 k ∧ j = .int .i64 xs.length ∧ w.grownBy wr none) (fun i _ _ => xs.length - (intOf i).toNat)
  case atStart => exact ⟨0, Nat.zero_le _, rfl, rfl, gr_refl _ _⟩
  case round =>
    obtain ⟨k, hk, rfl, rfl, hgr⟩ := hrel
    obtain ⟨wo, rfl⟩ : ∃ wo : World, wo = wr := ⟨_, rfl⟩
    by_cases hlt : k < xs.length
    · have hh1 : k ≤ (k + xs.length) / 2 := by omega
      have hh2 : (k + xs.length) / 2 < xs.length := by omega
      obtain ⟨b, off, rfl, d0, d1, d2, d3⟩ := lot_cells (H.out.keep0 hgr) _ hh2
      have hneg := HA.out _ (List.getElem_mem hh2)
      obtain ⟨x, hx⟩ : ∃ x, x = xs[(k + xs.length) / 2] := ⟨_, rfl⟩
      rw [← hx] at d0 d1 d2 d3 hneg
      have TK := Lib.hid (fun W => take1_any x key W)
      have HGR := Lib.hid hgr
      clear hx hgr
      go_wp2_with (fail)
      refine (TK.out wo).mono ?_
      rintro e w2 ⟨rfl, g2⟩
      have HG2 := Lib.hid (gr_trans HGR.out g2)
      go_wp2_with (fail)
      go_roundw
      case rel => exact ⟨(k + xs.length) / 2 + 1, by omega, by go_num, rfl, HG2.out⟩
      case measure => simp [intOf]; omega
    · obtain rfl : k = xs.length := by omega
      go_wp2_with (fail)
      go_ret2
      exact ⟨rfl, hgr⟩
theorem eMapSI : ElemT Try.prog 116 65 (.map none) 1 8 := ⟨by kernel_rfl, by kernel_rfl, by decide, by decide, by decide⟩
set_option maxRecDepth 100000 in
set_option maxHeartbeats 1000000 in
theorem insertEnd_Lot (base : Nat) (a : Option Addr) (n cap : Nat) (xs news : List Value) (g c : Nat) (w : World) (hown : w.ownsRow base 69 4 (.slice a n cap) n xs) (hcells : CellsAt w (some ⟨g, 0, none⟩) news) (hl : news.length = 4) (h1 : ∀ u ∈ news, u.oneCell' = true) (hn : n ≤ 100000) (hbase : base ≤ w.heap.size) :
    Calls Try.prog 77 #[.slice a n cap, .int .i64 n, .slice (some ⟨g, 0, none⟩) 1 c] w fun e w' => ∃ v, e = .returned v ∧ w'.ownsRow base 69 4 v (n + 1) (xs ++ news) ∧ w.grownBy w' (Value.slice a n cap).ownBlock := by
  obtain ⟨va, vc, hv, hn1, hc1, -, -⟩ := own_shape hown
  cases hv
  unfold maxLen at hc1
  have HO := Lib.hid hown
  have HC := Lib.hid hcells
  have HL := Lib.hid hl
  have H1 := Lib.hid h1
  clear hown hcells hl h1
  by_cases hcn : cap = n
  · subst hcn
    go_enter Try.func77, Try.ntmps77
    go_wp2_with (at_builtin; refine wpList_app eLot rfl _ _ rfl base (.slice a cap cap) cap xs rfl HO.out (some ⟨g, 0, none⟩) 1 c news rfl (by rw [HL.out]) HC.out (fun h => by cases h) H1.out (by omega) hbase ?_; intro v6 w6 ho6 g6; have HO6 := Lib.hid ho6; have HG6 := Lib.hid g6; clear ho6 g6)
    go_ret
    exact ⟨_, rfl, HO6.out, HG6.out⟩
  · go_enter Try.func77, Try.ntmps77
    go_wp2_with (at_builtin; refine wpList_app eLot rfl _ _ rfl base (.slice a n cap) n xs rfl HO.out (some ⟨g, 0, none⟩) 1 c news rfl (by rw [HL.out]) HC.out (fun h => by cases h) H1.out (by omega) hbase ?_; intro v6 w6 ho6 g6; have HO6 := Lib.hid ho6; have HG6 := Lib.hid g6; clear ho6 g6)
    go_ret
    exact ⟨_, rfl, HO6.out, HG6.out⟩
set_option maxRecDepth 100000 in
set_option maxHeartbeats 1000000 in
theorem insertEnd_MapSI (base : Nat) (a : Option Addr) (n cap : Nat) (xs news : List Value) (g c : Nat) (w : World) (hown : w.ownsRow base 65 1 (.slice a n cap) n xs) (hcells : CellsAt w (some ⟨g, 0, none⟩) news) (hl : news.length = 1) (h1 : ∀ u ∈ news, u.oneCell' = true) (hn : n ≤ 100000) (hbase : base ≤ w.heap.size) :
    Calls Try.prog 78 #[.slice a n cap, .int .i64 n, .slice (some ⟨g, 0, none⟩) 1 c] w fun e w' => ∃ v, e = .returned v ∧ w'.ownsRow base 65 1 v (n + 1) (xs ++ news) ∧ w.grownBy w' (Value.slice a n cap).ownBlock := by
  obtain ⟨va, vc, hv, hn1, hc1, -, -⟩ := own_shape hown
  cases hv
  unfold maxLen at hc1
  have HO := Lib.hid hown
  have HC := Lib.hid hcells
  have HL := Lib.hid hl
  have H1 := Lib.hid h1
  clear hown hcells hl h1
  by_cases hcn : cap = n
  · subst hcn
    go_enter Try.func78, Try.ntmps78
    go_wp2_with (at_builtin; refine wpList_app eMapSI rfl _ _ rfl base (.slice a cap cap) cap xs rfl HO.out (some ⟨g, 0, none⟩) 1 c news rfl (by rw [HL.out]) HC.out (fun h => by cases h) H1.out (by omega) hbase ?_; intro v6 w6 ho6 g6; have HO6 := Lib.hid ho6; have HG6 := Lib.hid g6; clear ho6 g6)
    go_ret
    exact ⟨_, rfl, HO6.out, HG6.out⟩
  · go_enter Try.func78, Try.ntmps78
    go_wp2_with (at_builtin; refine wpList_app eMapSI rfl _ _ rfl base (.slice a n cap) n xs rfl HO.out (some ⟨g, 0, none⟩) 1 c news rfl (by rw [HL.out]) HC.out (fun h => by cases h) H1.out (by omega) hbase ?_; intro v6 w6 ho6 g6; have HO6 := Lib.hid ho6; have HG6 := Lib.hid g6; clear ho6 g6)
    go_ret
    exact ⟨_, rfl, HO6.out, HG6.out⟩
end Go.Proofs.Ytakabckmiodjaaa
