/- What is wrong with pieces for a coil: the reference. -/
import Derived.Test.YtdjnomeabadbnaaDoorUnits
import Derived.Deep.DrawnRows
import Derived.IntWalk
import Derived.Deep.QuietTactic
import Derived.BigQuiet
import Derived.Deep.RegionLaw
import Derived.Deep.CutRange
namespace Go.Proofs.YtdjnomeabadbnaaDoor
open Go.RowKit
attribute [local go_sem ↓] Go.wp_at_zero Go.wp_at_succ

set_option maxRecDepth 100000 in
theorem or2_any (a b : Int) (g c : Nat) (w : World) (h0 : w.cell? ⟨g, 0, none⟩ = some (.int .i64 a)) (h1 : w.cell? ⟨g, 1, none⟩ = some (.int .i64 b)) :
    Calls Tryd.prog 125 #[.slice (some ⟨g, 0, none⟩) 2 c] w fun e w' => e = .returned (.int .i64 (if a = 0 then b else a)) ∧ w = w' := by
  go_enter Tryd.func125, Tryd.ntmps125
  go_wp2_with (fail)
  go_loop [8] (fun i => (i = .int .i64 0 ∨ (i = .int .i64 1 ∧ a = 0) ∨ (i = .int .i64 2 ∧ a = 0 ∧ b = 0))) (fun i => 2 - (intOf i).toNat)
  case atStart => exact .inl rfl
  case round =>
    rcases hrel with rfl | ⟨rfl, rfl⟩ | ⟨rfl, rfl, rfl⟩
    · by_cases ha : a = 0
      · subst ha
        go_wp2_with (fail)
        go_round
        case rel => exact .inr (.inl (by simp))
        case measure => simp [intOf]
      · have ha2 : (a != 0) = true := by simpa using ha
        go_wp2_with (fail)
        go_ret
        exact ⟨rfl, rfl⟩
    · by_cases hb : b = 0
      · subst hb
        go_wp2_with (fail)
        go_round
        case rel => exact .inr (.inr (by simp))
        case measure => simp [intOf]
      · have hb2 : (b != 0) = true := by simpa using hb
        go_wp2_with (fail)
        go_ret
        exact ⟨rfl, rfl⟩
    · go_wp2_with (fail)
      go_ret
      exact ⟨rfl, rfl⟩
theorem or2_zero (b : Int) (g c : Nat) (w : World) (h0 : w.cell? ⟨g, 0, none⟩ = some (.int .i64 0)) (h1 : w.cell? ⟨g, 1, none⟩ = some (.int .i64 b)) :
    Calls Tryd.prog 125 #[.slice (some ⟨g, 0, none⟩) 2 c] w fun e w' => e = .returned (.int .i64 b) ∧ w = w' := by
  simpa using or2_any 0 b g c w h0 h1
set_option maxRecDepth 100000 in
set_option maxHeartbeats 2000000 in
theorem coilsFault_any (co : Coil) (a : Option Addr) (c : Nat) (xs : List Lot) (xa : Option Addr) (xc : Nat) (w : World) (h : CellsAt w a (flat encPc co.ps)) (hsm : CoilSm co) (hx : CellsAt w xa (flat encLot xs)) (hok : LotsOk xs) :
    Calls Tryd.prog 99 #[.agg #[.string co.prod, .int .i64 co.most, .slice a co.ps.length c], .slice xa xs.length xc] w (CoilChk co w) := by
  have LF : Hid (∀ W, w.grownBy W none → Calls Tryd.prog 150 #[.slice xa xs.length xc] W fun e w' => e = .returned (.int .i64 0) ∧ W.grownBy w' none) := fun W g => lotsFault_ok xs xa xc W (hx.keep0 g) hok
  have CF : Hid (∀ W, w.grownBy W none → Calls Tryd.prog 40 #[.agg #[.string co.prod, .int .i64 co.most, .slice a co.ps.length c]] W (CoilChk co W)) := fun W g => coilFault_any co a c W (h.keep0 g) hsm
  have CC : Hid (∀ e W', CoilChk co w e W' ↔ ∃ r : Int, e = .returned (.int .i64 r) ∧ (r = 0 ↔ CoilOk co) ∧ w.grownBy W' none) := fun e W' => Iff.rfl
  have CO : Hid (∀ W e W', CoilChk co W e W' → ∃ r : Int, e = .returned (.int .i64 r) ∧ (r = 0 ↔ CoilOk co) ∧ W.grownBy W' none) := fun W e W' h => h
  obtain ⟨n, hn⟩ : ∃ n, n = co.ps.length := ⟨_, rfl⟩
  rw [← hn] at CF
  rw [← hn]
  obtain ⟨Q, hQ⟩ : ∃ Q, Q = CoilChk co := ⟨_, rfl⟩
  rw [← hQ] at CF CC CO
  rw [← hQ]
  obtain ⟨OK, hOK⟩ : ∃ OK, OK = CoilOk co := ⟨_, rfl⟩
  rw [← hOK] at CC CO
  clear h hsm hx hok hn hQ hOK
  obtain ⟨P, m, ps⟩ := co
  simp only at CF ⊢
  have hO := heap_alloc_new w (.cells #[.string P, .int .i64 m, .slice a n c] 83)
  have hg := gr_alloc (gr_refl w none) (.cells #[.string P, .int .i64 m, .slice a n c] 83)
  obtain ⟨w1, hw1⟩ : ∃ w1, w1 = w.alloc (.cells #[.string P, .int .i64 m, .slice a n c] 83) := ⟨_, rfl⟩
  rw [← hw1] at hO hg
  obtain ⟨O, hOe⟩ : ∃ O, O = w.heap.size := ⟨_, rfl⟩
  rw [← hOe] at hO
  have HW := Lib.hid hw1
  have HOE := Lib.hid hOe
  have HO := Lib.hid hO
  have HG := Lib.hid hg
  clear hw1 hOe hO hg
  go_enter Tryd.func99, Tryd.ntmps99
  go_wp2_with (fail)
  rw [← HW.out, ← HOE.out]
  have hgd := gr_drew (gr_refl w1 none)
  have c0 := blkC HO.out 0 rfl
  have c1 := blkC HO.out 1 rfl
  have c2 := blkC HO.out 2 rfl
  go_region_law (first
    | (go_simp; go_at_call 150; (with_reducible refine (LF.out _ ?_).mono ?_); (· first | exact gr_trans HG.out hgd | exact gr_trans (gr_trans HG.out hgd) g5); rintro e w4 ⟨rfl, g4⟩; have c0 := (gr_cell g4 (lt_of_cell c0)).trans c0; have c1 := (gr_cell g4 (lt_of_cell c1)).trans c1; have c2 := (gr_cell g4 (lt_of_cell c2)).trans c2)
    | (go_simp; go_at_call 40; (with_reducible refine (CF.out _ ?_).mono ?_); (· first | exact gr_trans HG.out hgd | exact gr_trans (gr_trans HG.out hgd) g4); intro e w5 hq; obtain ⟨r, rfl, hr, g5⟩ := CO.out _ _ _ hq; have c0 := (gr_cell g5 (lt_of_cell c0)).trans c0; have c1 := (gr_cell g5 (lt_of_cell c1)).trans c1; have c2 := (gr_cell g5 (lt_of_cell c2)).trans c2)
    | (go_simp; go_at_call 125; (first | (with_reducible refine (or2_zero r w5.heap.size 2 (w5.alloc _) (made_cell (gr_refl _ _) 0 rfl) (made_cell (gr_refl _ _) 1 rfl)).mono ?_) | (with_reducible refine (or2_zero r w4.heap.size 2 (w4.alloc _) (made_cell (gr_refl _ _) 0 rfl) (made_cell (gr_refl _ _) 1 rfl)).mono ?_)); rintro e w6 ⟨rfl, rfl⟩)
    | fail)
  all_goals (go_wp2_with (fail); go_ret)
  all_goals refine (CC.out _ _).2 ⟨r, rfl, hr, gr_alloc ?_ _⟩
  all_goals first | exact gr_trans (gr_trans (gr_trans HG.out hgd) g4) g5 | exact gr_trans (gr_trans (gr_trans HG.out hgd) g5) g4
theorem unitsL_len (ps : List Piece) (h : ∀ i, i < ps.length → 0 ≤ pcMany ps i) : ((unitsL ps).length : Int) = pcSum ps := by
  have h2 : ∀ x ∈ ps, 0 ≤ x.many := by
    intro x hx
    obtain ⟨i, hi, rfl⟩ := List.getElem_of_mem hx
    have := h i hi
    unfold pcMany at this
    rwa [getD_eq ps i _ hi] at this
  clear h
  induction ps with
  | nil => rfl
  | cons x ps ih =>
    have := ih (fun y hy => h2 y (by simp [hy]))
    have hx := h2 x (by simp)
    unfold unitsL pcSum at *
    simp only [List.flatMap_cons, List.length_append, List.length_replicate, List.map_cons, List.sum_cons]
    omega
set_option maxRecDepth 100000 in
set_option maxHeartbeats 2000000 in
theorem roomOf_any (co : Coil) (a : Option Addr) (c : Nat) (w : World) (h : CellsAt w a (flat encPc co.ps)) (hok : CoilOk co) (hsm : CoilSm co) :
    Calls Tryd.prog 101 #[.agg #[.string co.prod, .int .i64 co.most, .slice a co.ps.length c]] w fun e w' => e = .returned (.int .i64 (co.most - pcSum co.ps)) ∧ w.grownBy w' none := by
  have hul := unitsL_len co.ps (fun i hi => by have := (hok.all i hi).lo; omega)
  have hb1 := hok.m0
  have hb2 := hok.m1
  have hb3 := hok.sum
  have hl := hsm.len
  have UF : Hid (∀ W, w.grownBy W none → Calls Tryd.prog 151 #[.slice a co.ps.length c] W fun e w' => ∃ v, e = .returned v ∧ w'.ownsRow W.heap.size 9 1 v (unitsL co.ps).length (strs (unitsL co.ps)) ∧ W.grownBy w' none) := fun W g => refUnits_any co.ps a c W (h.keep0 g) (by omega) (by omega)
  obtain ⟨u, hu⟩ : ∃ u, u = unitsL co.ps := ⟨_, rfl⟩
  obtain ⟨S, hS⟩ : ∃ S, S = pcSum co.ps := ⟨_, rfl⟩
  obtain ⟨n, hn⟩ : ∃ n, n = co.ps.length := ⟨_, rfl⟩
  obtain ⟨m, hm⟩ : ∃ m, m = co.most := ⟨_, rfl⟩
  rw [← hu, ← hS] at hul
  rw [← hn, ← hu] at UF
  rw [← hm] at hb1 hb2 hb3
  rw [← hS] at hb3
  rw [← hS, ← hn, ← hm]
  have hS0 : 0 ≤ S := by omega
  have hwr : IntKind.i64.wrap (m - S) = m - S := IntWalk.i64_in _ (by omega)
  obtain ⟨P, hP⟩ : ∃ P, P = co.prod := ⟨_, rfl⟩
  rw [← hP]
  have HUL := Lib.hid hul
  clear h hok hsm hu hS hn hm hP hul hl
  have hO := heap_alloc_new w (.cells #[.string P, .int .i64 m, .slice a n c] 83)
  have hg := gr_alloc (gr_refl w none) (.cells #[.string P, .int .i64 m, .slice a n c] 83)
  obtain ⟨w1, hw1⟩ : ∃ w1, w1 = w.alloc (.cells #[.string P, .int .i64 m, .slice a n c] 83) := ⟨_, rfl⟩
  rw [← hw1] at hO hg
  obtain ⟨O, hOe⟩ : ∃ O, O = w.heap.size := ⟨_, rfl⟩
  rw [← hOe] at hO
  have HW := Lib.hid hw1
  have HOE := Lib.hid hOe
  have HO := Lib.hid hO
  have HG := Lib.hid hg
  clear hw1 hOe hO hg
  go_enter Tryd.func101, Tryd.ntmps101
  go_wp2_with (fail)
  rw [← HW.out, ← HOE.out]
  have hgd := gr_drew (gr_refl w1 none)
  have c0 := blkC HO.out 0 rfl
  have c1 : w1.cell? ⟨O, 1, none⟩ = some (.int .i64 m) := blkC HO.out 1 rfl
  have c2 : w1.cell? ⟨O, 2, none⟩ = some (.slice a n c) := blkC HO.out 2 rfl
  go_region_law (first
    | (go_simp; go_at_call 151; (with_reducible refine (UF.out _ ?_).mono ?_); (· exact gr_trans HG.out hgd); rintro e w4 ⟨v, rfl, ho4, g4⟩; obtain ⟨va, vc, rfl, -, -, -, -⟩ := own_shape ho4; have c0 := (gr_cell g4 (lt_of_cell c0)).trans c0; have c1 := (gr_cell g4 (lt_of_cell c1)).trans c1; have c2 := (gr_cell g4 (lt_of_cell c2)).trans c2)
    | fail)
  all_goals rw [HUL.out]
  all_goals (go_wp2_with (fail); go_ret)
  all_goals exact ⟨ret_int hwr, gr_trans (gr_trans HG.out hgd) g4⟩
/-- A piece fits: its lot is known, of the coil's product, and it has a right number. -/
structure PcFit (P : ByteArray) (xs : List Lot) (k : ByteArray) (m : Int) : Prop where
  has : lotHas xs k = true
  prod : ((lotGet xs k).prod.toList == P.toList) = true
  lo : 1 ≤ m
  hi : m ≤ 1000
structure PushOk (c : Coil) (xs : List Lot) (p : List Piece) : Prop where
  coil : CoilOk c
  fit : ∀ i, i < p.length → PcFit c.prod xs (pcLot p i) (pcMany p i)
  sum : pcSum c.ps + pcSum p ≤ c.most
def PushChk (c : Coil) (xs : List Lot) (p : List Piece) (w : World) (e : Ending) (w' : World) : Prop := ∃ r : Int, e = .returned (.int .i64 r) ∧ (r = 0 ↔ PushOk c xs p) ∧ w.grownBy w' none
theorem push_no {c : Coil} {xs : List Lot} {p : List Piece} {w w' : World} (r : Int) (hr : r ≠ 0) (h : ¬ PushOk c xs p) (g : w.grownBy w' none) : PushChk c xs p w (.returned (.int .i64 r)) w' := ⟨r, rfl, ⟨fun e => absurd e hr, fun e => absurd e h⟩, g⟩
structure PcsSm (ps : List Piece) : Prop where
  len : ps.length ≤ 1000
  all : ∀ x ∈ ps, x.lot.size ≤ 1000 ∧ -100000 ≤ x.many ∧ x.many ≤ 100000
set_option maxRecDepth 100000 in
set_option maxHeartbeats 4000000 in
theorem pushFaultR_any (co : Coil) (a : Option Addr) (c : Nat) (xs : List Lot) (xa : Option Addr) (xc : Nat) (p : List Piece) (pa : Option Addr) (pc : Nat) (w : World) (h : CellsAt w a (flat encPc co.ps)) (hsm : CoilSm co) (hx : CellsAt w xa (flat encLot xs)) (hok : LotsOk xs) (hp : CellsAt w pa (flat encPc p)) (hps : PcsSm p) :
    Calls Tryd.prog 41 #[.agg #[.string co.prod, .int .i64 co.most, .slice a co.ps.length c], .slice xa xs.length xc, .slice pa p.length pc] w (PushChk co xs p w) := by
  have CF : Hid (∀ W, w.grownBy W none → Calls Tryd.prog 99 #[.agg #[.string co.prod, .int .i64 co.most, .slice a co.ps.length c], .slice xa xs.length xc] W (CoilChk co W)) := fun W g => coilsFault_any co a c xs xa xc W (h.keep0 g) hsm (hx.keep0 g) hok
  have RO : Hid (∀ W, w.grownBy W none → CoilOk co → Calls Tryd.prog 101 #[.agg #[.string co.prod, .int .i64 co.most, .slice a co.ps.length c]] W fun e w' => e = .returned (.int .i64 (co.most - pcSum co.ps)) ∧ W.grownBy w' none) := fun W g ho => roomOf_any co a c W (h.keep0 g) ho hsm
  have hlx := hok.len
  have LO : Hid (∀ W key, w.grownBy W none → Calls Tryd.prog 100 #[.slice xa xs.length xc, .string key] W fun e w' => e = .returned (.tuple #[vLot (lotGet xs key), .bool (lotHas xs key)]) ∧ W.grownBy w' none) := fun W key g => lotOf_any key xs xa xc W (hx.keep0 g) (by omega)
  have NO1 : Hid (∀ e W, ¬ CoilOk co → ∀ r : Int, r ≠ 0 → w.grownBy W none → e = .returned (.int .i64 r) → PushChk co xs p w e W) := fun e W hn r hr g he => by rw [he]; exact push_no r hr (fun hh => hn hh.coil) g
  have NO2 : Hid (∀ e W i, i < p.length → ¬ PcFit co.prod xs (pcLot p i) (pcMany p i) → ∀ r : Int, r ≠ 0 → w.grownBy W none → e = .returned (.int .i64 r) → PushChk co xs p w e W) := fun e W i hi hn r hr g he => by rw [he]; exact push_no r hr (fun hh => hn (hh.fit i hi)) g
  have NO3 : Hid (∀ e W, ¬ (pcSum co.ps + pcSum p ≤ co.most) → ∀ r : Int, r ≠ 0 → w.grownBy W none → e = .returned (.int .i64 r) → PushChk co xs p w e W) := fun e W hn r hr g he => by rw [he]; exact push_no r hr (fun hh => hn hh.sum) g
  have YES : Hid (∀ e W, CoilOk co → (∀ i, i < p.length → PcFit co.prod xs (pcLot p i) (pcMany p i)) → pcSum co.ps + pcSum p ≤ co.most → w.grownBy W none → e = .returned (.int .i64 0) → PushChk co xs p w e W) := fun e W h1 h2 h3 g he => ⟨0, he, ⟨fun _ => ⟨h1, h2, h3⟩, fun _ => rfl⟩, g⟩
  have CO : Hid (∀ W e W', CoilChk co W e W' → ∃ r : Int, e = .returned (.int .i64 r) ∧ (r = 0 ↔ CoilOk co) ∧ W.grownBy W' none) := fun W e W' h => h
  have SM : Hid (CoilOk co → 0 ≤ pcSum co.ps ∧ pcSum co.ps ≤ 1000 ∧ 0 ≤ co.most ∧ co.most ≤ 1000) := fun ho => by
    have := unitsL_len co.ps (fun i hi => by have := (ho.all i hi).lo; omega)
    have := ho.sum; have := ho.m0; have := ho.m1; omega
  have hpl := hps.len
  have HB := Lib.hid (sum_bound (p.map Piece.many) (-100000) 100000 (by omega) (by omega) (pc_bd hps.all))
  have HP := Lib.hid hp
  obtain ⟨n, hn⟩ : ∃ n, n = co.ps.length := ⟨_, rfl⟩
  rw [← hn] at CF RO
  rw [← hn]
  obtain ⟨Q, hQ⟩ : ∃ Q, Q = PushChk co xs p w := ⟨_, rfl⟩
  rw [← hQ] at NO1 NO2 NO3 YES
  rw [← hQ]
  obtain ⟨Q2, hQ2⟩ : ∃ Q2, Q2 = CoilChk co := ⟨_, rfl⟩
  rw [← hQ2] at CF CO
  obtain ⟨OK, hOK⟩ : ∃ OK, OK = CoilOk co := ⟨_, rfl⟩
  rw [← hOK] at RO NO1 YES CO SM
  clear h hsm hx hok hp hps hn hQ hQ2 hOK
  obtain ⟨P, m, ps⟩ := co
  simp only at CF RO NO2 NO3 YES SM ⊢
  obtain ⟨S, hS⟩ : ∃ S, S = pcSum ps := ⟨_, rfl⟩
  rw [← hS] at RO NO3 YES SM
  clear hS
  have hO := heap_alloc_new w (.cells #[.string P, .int .i64 m, .slice a n c] 83)
  have hg := gr_alloc (gr_refl w none) (.cells #[.string P, .int .i64 m, .slice a n c] 83)
  obtain ⟨w1, hw1⟩ : ∃ w1, w1 = w.alloc (.cells #[.string P, .int .i64 m, .slice a n c] 83) := ⟨_, rfl⟩
  rw [← hw1] at hO hg
  obtain ⟨O, hOe⟩ : ∃ O, O = w.heap.size := ⟨_, rfl⟩
  rw [← hOe] at hO
  have HW := Lib.hid hw1
  have HOE := Lib.hid hOe
  have HO := Lib.hid hO
  have HG := Lib.hid hg
  have c0 := blkC hO 0 rfl
  have c1 : w1.cell? ⟨O, 1, none⟩ = some (.int .i64 m) := blkC hO 1 rfl
  have c2 : w1.cell? ⟨O, 2, none⟩ = some (.slice a n c) := blkC hO 2 rfl
  clear hw1 hOe hO hg
  go_enter Tryd.func41, Tryd.ntmps41
  go_wp2_with (fail)
  rw [← HW.out, ← HOE.out]
  refine (CF.out w1 HG.out).mono ?_
  intro e w2 hq
  obtain ⟨r, rfl, hr, hg2⟩ := CO.out _ _ _ hq
  have HR := Lib.hid hr
  have HG2 := Lib.hid hg2
  clear hq hr c0 c1 c2 hg2
  by_cases hr0 : r = 0
  · have HOK : Hid OK := HR.out.1 hr0
    subst hr0
    obtain ⟨s1, s2, s3, s4⟩ := SM.out HOK.out
    have hO2 := (HG2.out.block O (lt_of_block HO.out) (by simp)).trans HO.out
    have HO2 := Lib.hid hO2
    clear HO HR SM hO2
    go_wp2_with (fail)
    go_loopw [8, 21] (fun s i wr => ∃ k : Nat, k ≤ p.length ∧ i = .int .i64 k ∧ s = .int .i64 ((p.map Piece.many).take k).sum ∧ (∀ j, j < k → PcFit P xs (pcLot p j) (pcMany p j)) ∧ w2.grownBy wr none) (fun _ i _ => p.length - (intOf i).toNat)
    case atStart => exact ⟨0, Nat.zero_le _, rfl, rfl, fun j hj => absurd hj (Nat.not_lt_zero _), gr_refl _ _⟩
    case round =>
      obtain ⟨k, hk, rfl, rfl, hall, hgr⟩ := hrel
      obtain ⟨wo, rfl⟩ : ∃ wo : World, wo = wr := ⟨_, rfl⟩
      have HGR := Lib.hid hgr
      have HALL := Lib.hid hall
      have hOo := (hgr.block O (lt_of_block HO2.out) (by simp)).trans HO2.out
      have HOO := Lib.hid hOo
      clear hgr hall hOo
      by_cases hlt : k < p.length
      · obtain ⟨b, off, rfl, d0, d1⟩ := pc_cells (HP.out.keep0 (gr_trans (gr_trans HG.out HG2.out) HGR.out)) k hlt
        obtain ⟨b0, b1⟩ := HB.out k
        obtain ⟨b2, b3⟩ := HB.out (k + 1)
        have hnx := sum_next (p.map Piece.many) k (by simpa using hlt)
        rw [pcMany_get p k hlt] at hnx
        have HNO : Hid (¬ PcFit P xs (pcLot p k) (pcMany p k) → ∀ e W, ∀ r : Int, r ≠ 0 → w.grownBy W none → e = .returned (.int .i64 r) → Q e W) := fun hn e W r hr g he => NO2.out e W k hlt hn r hr g he
        have HYS : Hid (PcFit P xs (pcLot p k) (pcMany p k) → ∀ j, j < k + 1 → PcFit P xs (pcLot p j) (pcMany p j)) := fun hp j hj => by
          by_cases e : j = k
          · subst e; exact hp
          · exact HALL.out j (by omega)
        obtain ⟨x, hx⟩ : ∃ x, x = pcMany p k := ⟨_, rfl⟩
        obtain ⟨K, hK⟩ : ∃ K, K = pcLot p k := ⟨_, rfl⟩
        obtain ⟨s, hs⟩ : ∃ s, s = ((p.map Piece.many).take k).sum := ⟨_, rfl⟩
        rw [← hx] at d1 hnx HNO HYS
        rw [← hK] at d0 HNO HYS
        rw [← hs] at hnx b0 b1
        rw [← hs]
        rw [hnx] at b2 b3
        have HNX := Lib.hid hnx
        clear hnx hx hK hs
        go_wp2_with (fail)
        have hV := heap_alloc_new wo (.cells #[.string K, .int .i64 x] 94)
        have hg3 := gr_alloc (gr_refl wo none) (.cells #[.string K, .int .i64 x] 94)
        obtain ⟨w3, hw3⟩ : ∃ w3, w3 = wo.alloc (.cells #[.string K, .int .i64 x] 94) := ⟨_, rfl⟩
        rw [← hw3] at hV hg3
        rw [← hw3]
        obtain ⟨V, hVe⟩ : ∃ V, V = wo.heap.size := ⟨_, rfl⟩
        rw [← hVe] at hV
        rw [← hVe]
        have HG3 := Lib.hid (gr_trans (gr_trans (gr_trans HG.out HG2.out) HGR.out) hg3)
        refine (LO.out w3 K HG3.out).mono ?_
        rintro e w4 ⟨rfl, hg4⟩
        have hO4 := ((gr_trans hg3 hg4).block O (lt_of_block HOO.out) (by simp)).trans HOO.out
        have hV4 := (hg4.block V (lt_of_block hV) (by simp)).trans hV
        have hOl := lt_of_block hO4
        have hVl := lt_of_block hV4
        have HG4 := Lib.hid (gr_trans HG3.out hg4)
        have HGR4 := Lib.hid (gr_trans (gr_trans HGR.out hg3) hg4)
        have o0 : w4.cell? ⟨O, 0, none⟩ = some (.string P) := blkC hO4 0 rfl
        obtain ⟨v0, v1⟩ := blk2 hV4
        have HFI : Hid (lotHas xs K = true → ((lotGet xs K).prod.toList == P.toList) = true → 1 ≤ x → x ≤ 1000 → PcFit P xs K x) := fun a b c d => ⟨a, b, c, d⟩
        have HFO : Hid (PcFit P xs K x → lotHas xs K = true ∧ ((lotGet xs K).prod.toList == P.toList) = true ∧ 1 ≤ x ∧ x ≤ 1000) := fun h => ⟨h.1, h.2, h.3, h.4⟩
        obtain ⟨y, hy⟩ : ∃ y, y = lotGet xs K := ⟨_, rfl⟩
        obtain ⟨t, ht⟩ : ∃ t, t = lotHas xs K := ⟨_, rfl⟩
        rw [← hy, ← ht] at HFI HFO
        rw [← hy, ← ht]
        clear hw3 hVe hV hg3 d0 d1 hO4 hV4 hg4 hy ht
        obtain ⟨y1, y2, y3, y4⟩ := y
        simp only at HFI HFO
        have HVL : Hid (vLot ⟨y1, y2, y3, y4⟩ = .agg #[.string y1, .string y2, .int .i64 y3, .int .i64 y4]) := rfl
        rw [HVL.out]
        clear HVL
        cases t with
        | false =>
          have HN : Hid (¬ PcFit P xs K x) := fun h => by have := (HFO.out h).1; cases this
          go_wp2_with (fail)
          exact HNO.out HN.out _ _ 8 (by decide) (gr_alloc HG4.out _) rfl
        | true =>
        cases hpd : (y2.toList == P.toList) with
        | false =>
          have hpd2 : (y2.toList != P.toList) = true := by simp [bne, hpd]
          have HN : Hid (¬ PcFit P xs K x) := fun h => by have := (HFO.out h).2.1; rw [hpd] at this; cases this
          go_wp2_with (fail)
          exact HNO.out HN.out _ _ 13 (by decide) (gr_alloc HG4.out _) rfl
        | true =>
        have hpd2 : (y2.toList != P.toList) = false := by simp [bne, hpd]
        by_cases hx1 : x < 1
        · have e1 : decide (x < 1) = true := by simpa using hx1
          have HN : Hid (¬ PcFit P xs K x) := fun h => by have := (HFO.out h).2.2.1; omega
          go_wp2_with (fail)
          exact HNO.out HN.out _ _ 1 (by decide) (gr_alloc HG4.out _) rfl
        · have e1 : decide (x < 1) = false := by simpa using hx1
          by_cases hx2 : 1000 < x
          · have e2 : decide (1000 < x) = true := by simpa using hx2
            have HN : Hid (¬ PcFit P xs K x) := fun h => by have := (HFO.out h).2.2.2; omega
            go_wp2_with (fail)
            exact HNO.out HN.out _ _ 1 (by decide) (gr_alloc HG4.out _) rfl
          · have e2 : decide (1000 < x) = false := by simpa using hx2
            have HY : Hid (PcFit P xs K x) := HFI.out rfl hpd (by omega) (by omega)
            go_wp2_with (fail)
            go_roundw
            case rel => exact ⟨k + 1, by omega, by go_num, by rw [HNX.out], HYS.out HY.out, gr_alloc HGR4.out _⟩
            case measure => simp [intOf]; omega
      · obtain rfl : k = p.length := by omega
        have hfin : Hid (((p.map Piece.many).take p.length).sum = pcSum p) := by show _ = _; rw [List.take_of_length_le (by simp)]; rfl
        rw [hfin.out]
        obtain ⟨b0, b1⟩ := HB.out p.length
        rw [hfin.out] at b0 b1
        obtain ⟨T, hT⟩ : ∃ T, T = pcSum p := ⟨_, rfl⟩
        rw [← hT] at NO3 YES b0 b1
        rw [← hT]
        clear hT hfin
        have o0 : wo.cell? ⟨O, 0, none⟩ = some (.string P) := blkC HOO.out 0 rfl
        have o1 : wo.cell? ⟨O, 1, none⟩ = some (.int .i64 m) := blkC HOO.out 1 rfl
        have o2 : wo.cell? ⟨O, 2, none⟩ = some (.slice a n c) := blkC HOO.out 2 rfl
        have RO := Lib.hid (RO.out wo (gr_trans (gr_trans HG.out HG2.out) HGR.out) HOK.out)
        have HGA := Lib.hid (gr_trans (gr_trans HG.out HG2.out) HGR.out)
        go_wp2_with (fail)
        refine RO.out.mono ?_
        rintro e w5 ⟨rfl, hg5⟩
        by_cases hT : m - S < T
        · go_wp2_with (fail)
          exact NO3.out _ _ (by omega) 12 (by decide) (gr_trans HGA.out hg5) rfl
        · go_wp2_with (fail)
          exact YES.out _ _ HOK.out HALL.out (by omega) (gr_trans HGA.out hg5) rfl
  · have hrn : (r != 0) = true := by simpa using hr0
    have HN : Hid (¬ OK) := fun h => hr0 (HR.out.2 h)
    have HR0 := Lib.hid hr0
    clear hr0
    go_wp2_with (fail)
    exact NO1.out _ _ HN.out r HR0.out (gr_trans HG.out HG2.out) rfl
end Go.Proofs.YtdjnomeabadbnaaDoor
