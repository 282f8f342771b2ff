/- Room in a coil; whether all its lots are known. -/
import Derived.Test.YtdjnomeabadbnaaDoorFindPc
import Derived.Test.YtdjnomeabadbnaaDoorSell
import Derived.Test.YtdjnomeabadbnaaDoorGrew
namespace Go.Proofs.YtdjnomeabadbnaaDoor
open Go.RowKit
attribute [local go_sem ↓] Go.wp_at_zero Go.wp_at_succ

set_option maxRecDepth 100000 in
set_option maxHeartbeats 2000000 in
theorem room_any (co : Coil) (a : Option Addr) (c : Nat) (w : World) (h : CellsAt w a (flat encPc co.ps)) (hsm : CoilSm co) (hok : CoilOk co) (hs0 : 0 ≤ pcSum co.ps) :
    Calls Tryd.prog 45 #[.agg #[.string co.prod, .int .i64 co.most, .slice a co.ps.length c]] w fun e w' => e = .returned (.tuple #[.int .i64 (co.most - pcSum co.ps), .int .i64 0]) ∧ w.grownBy w' none := by
  have CF : Hid (∀ W, w.grownBy W none → Calls Tryd.prog 106 #[.agg #[.string co.prod, .int .i64 co.most, .slice a co.ps.length c]] W fun e w' => e = .returned (.int .i64 0) ∧ W.grownBy w' none) := fun W g => checkCoil_ok co a c W (h.keep0 g) hsm hok
  have UF : Hid (∀ W, w.grownBy W none → Calls Tryd.prog 107 #[.slice a co.ps.length c] W fun e w' => e = .returned (.int .i64 (pcSum co.ps)) ∧ W.grownBy w' none) := fun W g => units_any co.ps a c W (h.keep0 g) (by have := hsm.len; omega) hsm.all
  have hsu : pcSum co.ps ≤ co.most ∧ co.most ≤ 1000 := ⟨hok.sum, hok.m1⟩
  obtain ⟨P, m, ps⟩ := co
  simp only at CF UF hsu hs0 ⊢
  clear h hsm hok
  obtain ⟨S, hS⟩ : ∃ S, S = pcSum ps := ⟨_, rfl⟩
  rw [← hS] at UF hsu hs0
  rw [← hS]
  obtain ⟨k, hk⟩ : ∃ k, k = ps.length := ⟨_, rfl⟩
  rw [← hk] at CF UF
  rw [← hk]
  clear hS hk
  obtain ⟨u1, u2⟩ := hsu
  have hO := heap_alloc_new w (.cells #[.string P, .int .i64 m, .slice a k c] 83)
  have hg := gr_alloc (gr_refl w none) (.cells #[.string P, .int .i64 m, .slice a k c] 83)
  obtain ⟨w1, hw1⟩ : ∃ w1, w1 = w.alloc (.cells #[.string P, .int .i64 m, .slice a k c] 83) := ⟨_, rfl⟩
  rw [← hw1] at hO hg
  have HW := Lib.hid hw1
  have HO := Lib.hid hO
  have HG := Lib.hid hg
  have c0 := blkC hO 0 rfl
  have c1 : w1.cell? ⟨w.heap.size, 1, none⟩ = some (.int .i64 m) := blkC hO 1 rfl
  have c2 : w1.cell? ⟨w.heap.size, 2, none⟩ = some (.slice a k c) := blkC hO 2 rfl
  clear hw1 hO hg
  go_enter Tryd.func45, Tryd.ntmps45
  go_wp2_with (fail)
  rw [← HW.out]
  refine (CF.out w1 HG.out).mono ?_
  rintro e w2 ⟨rfl, g2⟩
  have HG2 := Lib.hid (gr_trans HG.out g2)
  have HO2 := Lib.hid ((g2.block _ (lt_of_block HO.out) (by simp)).trans HO.out)
  clear c0 c1 c2 g2 HW
  have c1 : w2.cell? ⟨w.heap.size, 1, none⟩ = some (.int .i64 m) := blkC HO2.out 1 rfl
  have c2 : w2.cell? ⟨w.heap.size, 2, none⟩ = some (.slice a k c) := blkC HO2.out 2 rfl
  have x1 := grew_cell c1
  have x2 := grew_cell c2
  have hwr : IntKind.i64.wrap (m - S) = m - S := IntWalk.i64_in _ (by omega)
  have U2 := Lib.hid (fun W g => UF.out W (gr_trans HG2.out g))
  go_wp2_with (fail)
  refine wp_region_grew (by kernel_rfl) (by kernel_rfl) ?_
  repeat (go_big_quiet_step (first
    | (go_at_call 107; exact Calls.grew_of (fun W g => U2.out W g))))
  refine wpQuiet_nil ?_
  rintro wq ⟨nn, rfl⟩
  have gq := gr_trans HG2.out nn.gr
  go_wp2_with (fail)
  go_ret2
  exact ⟨rfl, gq⟩
def knownB (xs : List Lot) (ps : List Piece) : Bool := ps.all (fun p => lotHas xs p.lot)
set_option maxRecDepth 100000 in
set_option maxHeartbeats 2000000 in
theorem known_any (co : Coil) (a : Option Addr) (c : Nat) (xs : List Lot) (xa : Option Addr) (xc : Nat) (w : World) (h : CellsAt w a (flat encPc co.ps)) (hl : co.ps.length ≤ 100000) (hx : CellsAt w xa (flat encLot xs)) (hxl : xs.length ≤ 100000) :
    Calls Tryd.prog 51 #[.agg #[.string co.prod, .int .i64 co.most, .slice a co.ps.length c], .slice xa xs.length xc] w fun e w' => e = .returned (.int .i64 (if knownB xs co.ps then 0 else 8)) ∧ w.grownBy w' none := by
  have LF := Lib.hid (fun (W : World) (k : ByteArray) (g : w.grownBy W none) => lotOf_any k xs xa xc W (hx.keep0 g) hxl)
  obtain ⟨P, m, ps⟩ := co
  simp only at h hl ⊢
  have H := Lib.hid h
  have g1 := gr_alloc (gr_refl w none) (.cells #[.string P, .int .i64 m, .slice a ps.length c] 83)
  have HG1 := Lib.hid g1
  obtain ⟨Q, hQ⟩ : ∃ Q, Q = fun (e : Ending) (w' : World) => e = .returned (.int .i64 (if knownB xs ps then 0 else 8)) ∧ w.grownBy w' none := ⟨_, rfl⟩
  have YES : Hid ((∀ i, i < ps.length → lotHas xs (pcLot ps i) = true) → ∀ W, w.grownBy W none → Q (.returned (.int .i64 0)) W) := fun hall W g => by
    have : knownB xs ps = true := List.all_eq_true.2 fun p hp => by
      obtain ⟨i, hi, rfl⟩ := List.getElem_of_mem hp
      have := hall i hi
      rw [pc_get ps i hi]; exact this
    rw [hQ]; exact ⟨by rw [this]; rfl, g⟩
  have NO : Hid (∀ i, i < ps.length → lotHas xs (pcLot ps i) = false → ∀ W, w.grownBy W none → Q (.returned (.int .i64 8)) W) := fun i hi hn W g => by
    have : knownB xs ps = false := by
      rw [knownB, List.all_eq_false]
      exact ⟨ps[i], List.getElem_mem hi, by rw [pc_get ps i hi]; simp [hn]⟩
    rw [hQ]; exact ⟨by rw [this]; rfl, g⟩
  rw [← hQ]
  clear h g1 hx hQ
  go_enter Tryd.func51, Tryd.ntmps51
  go_wp2_with (fail)
  go_loopw [12] (fun i wr => ∃ k : Nat, k ≤ ps.length ∧ i = .int .i64 k ∧ (∀ j, j < k → lotHas xs (pcLot ps j) = true) ∧ w.grownBy wr none) (fun i _ => ps.length - (intOf i).toNat)
  case atStart => exact ⟨0, Nat.zero_le _, rfl, fun j hj => absurd hj (Nat.not_lt_zero _), HG1.out⟩
  case round =>
    obtain ⟨k, hk, rfl, hall, hgr⟩ := hrel
    obtain ⟨wo, rfl⟩ : ∃ wo : World, wo = wr := ⟨_, rfl⟩
    by_cases hlt : k < ps.length
    · obtain ⟨b, off, rfl, d0, d1⟩ := pc_cells (H.out.keep0 hgr) k hlt
      have NOk := Lib.hid (NO.out k hlt)
      have HALL := Lib.hid hall
      obtain ⟨K, hK⟩ : ∃ K, K = pcLot ps k := ⟨_, rfl⟩
      obtain ⟨x, hx⟩ : ∃ x, x = pcMany ps k := ⟨_, rfl⟩
      rw [← hK] at d0 NOk
      rw [← hx] at d1
      have HK := Lib.hid hK
      have g3 := gr_alloc (gr_refl wo none) (.cells #[.string K, .int .i64 x] 94)
      have HG3 := Lib.hid (gr_trans hgr g3)
      have L3 := Lib.hid (LF.out _ K HG3.out)
      clear hK hx hall hgr g3
      go_wp2_with (fail)
      refine L3.out.mono ?_
      rintro e w4 ⟨rfl, g4⟩
      have HG4 := Lib.hid (gr_trans HG3.out g4)
      cases ht : lotHas xs K with
      | false =>
        have HN := Lib.hid (NOk.out ht)
        obtain ⟨vl, hvl⟩ : ∃ y : Lot, y = lotGet xs K := ⟨_, rfl⟩
        rw [← hvl]
        obtain ⟨z1, z2, z3, z4⟩ := vl
        have HVL : Hid (vLot ⟨z1, z2, z3, z4⟩ = .agg #[.string z1, .string z2, .int .i64 z3, .int .i64 z4]) := rfl
        rw [HVL.out]
        clear ht g4 hvl HVL L3
        go_wp2_with (fail)
        exact HN.out _ (gr_alloc HG4.out _)
      | true =>
        have HT := Lib.hid ht
        obtain ⟨vl, hvl⟩ : ∃ y : Lot, y = lotGet xs K := ⟨_, rfl⟩
        rw [← hvl]
        obtain ⟨z1, z2, z3, z4⟩ := vl
        have HVL : Hid (vLot ⟨z1, z2, z3, z4⟩ = .agg #[.string z1, .string z2, .int .i64 z3, .int .i64 z4]) := rfl
        rw [HVL.out]
        clear ht g4 hvl HVL L3
        go_wp2_with (fail)
        go_roundw
        case rel =>
          refine ⟨k + 1, by omega, by go_num, fun j hj => ?_, gr_alloc HG4.out _⟩
          by_cases e : j = k
          · subst e; rw [← HK.out]; exact HT.out
          · exact HALL.out j (by omega)
        case measure => simp [intOf]; omega
    · obtain rfl : k = ps.length := by omega
      have HALL := Lib.hid hall
      clear hall
      go_wp2_with (fail)
      exact YES.out HALL.out _ hgr
set_option maxRecDepth 100000 in
theorem strange1_any (t : Piece) (xs : List Lot) (xa : Option Addr) (xc q : Nat) (w : World) (hq : w.cell? ⟨q, 0, none⟩ = some (.slice xa xs.length xc)) (hx : CellsAt w xa (flat encLot xs)) (hxl : xs.length ≤ 100000) :
    Calls Tryd.prog 154 #[.agg #[.string t.lot, .int .i64 t.many], .pointer (some ⟨q, 0, none⟩)] w fun e w' => e = .returned (.bool (decide (lotIx xs t.lot < 0))) ∧ w.grownBy w' none := by
  have hqlt := lt_of_cell hq
  have g := gr_alloc (gr_refl w none) (.cells #[.string t.lot, .int .i64 t.many] 94)
  have LF := Lib.hid (lot_any t.lot xs xa xc _ (hx.keep0 g) hxl)
  clear hx
  go_enter Tryd.func154, Tryd.ntmps154
  go_wp2_with (fail)
  refine LF.out.mono ?_
  rintro e w2 ⟨rfl, g2⟩
  obtain ⟨i, hi⟩ : ∃ i, i = lotIx xs t.lot := ⟨_, rfl⟩
  rw [← hi]
  go_wp2_with (fail)
  go_ret
  exact ⟨rfl, gr_trans g g2⟩
theorem strange1_fn : ∀ (args : Array Value) (w : World), (callFunc 154 args).run Tryd.prog w = .ok (.enter 154 args) w := fun _ _ => by kernel_rfl
theorem strange_eq (xs : List Lot) (ps : List Piece) : ps.any (fun p => decide (lotIx xs p.lot < 0)) = !knownB xs ps := by
  unfold knownB
  rw [Bool.eq_iff_iff, List.any_eq_true, Bool.not_eq_true', List.all_eq_false]
  constructor
  · rintro ⟨p, hp, h⟩
    exact ⟨p, hp, by rw [lotIx_neg.1 (of_decide_eq_true h)]; decide⟩
  · rintro ⟨p, hp, h⟩
    exact ⟨p, hp, decide_eq_true (lotIx_neg.2 (by simpa using h))⟩
set_option maxRecDepth 100000 in
set_option maxHeartbeats 1000000 in
theorem strange_any (co : Coil) (a : Option Addr) (c : Nat) (xs : List Lot) (xa : Option Addr) (xc : Nat) (w : World) (h : CellsAt w a (flat encPc co.ps)) (hl : co.ps.length ≤ 100000) (hx : CellsAt w xa (flat encLot xs)) (hxl : xs.length ≤ 100000) :
    Calls Tryd.prog 109 #[.agg #[.string co.prod, .int .i64 co.most, .slice a co.ps.length c], .slice xa xs.length xc] w fun e w' => e = .returned (.bool (!knownB xs co.ps)) ∧ w.grownBy w' none := by
  have HE := Lib.hid (strange_eq xs co.ps)
  obtain ⟨P, m, ps⟩ := co
  simp only at h hl HE ⊢
  have g2 := gr_alloc (gr_alloc (gr_refl w none) (.cells #[.string P, .int .i64 m, .slice a ps.length c] 83)) (.cells #[.slice xa xs.length xc] 85)
  have hB := (heap_2 w (.cells #[.string P, .int .i64 m, .slice a ps.length c] 83) (.cells #[.slice xa xs.length xc] 85)).2
  have CF := Lib.hid (containsFunc_Pc 154 ⟨w.heap.size + 1, 0, none⟩ (fun p => decide (lotIx xs p.lot < 0)) ps a c _ (h.keep0 g2) (by omega) strange1_fn (fun x _ w1 g => strange1_any x xs xa xc (w.heap.size + 1) w1 (blkC ((g.block _ (lt_of_block hB) (by simp)).trans hB) 0 rfl) (hx.keep0 (gr_trans g2 g)) hxl))
  have HG := Lib.hid g2
  clear h hx g2 hB
  go_enter Tryd.func109, Tryd.ntmps109
  go_wp2_with (fail)
  refine CF.out.mono ?_
  rintro e w2 ⟨rfl, g2⟩
  rw [HE.out]
  go_wp2_with (fail)
  go_ret
  exact ⟨rfl, gr_trans HG.out g2⟩
end Go.Proofs.YtdjnomeabadbnaaDoor
