/- What is wrong with pieces for a coil: package stock. -/
import Derived.Test.YtdjnomeabadbnaaDoorPushR
import Derived.Test.YtdjnomeabadbnaaDoorGrew
namespace Go.Proofs.YtdjnomeabadbnaaDoor
open Go.RowKit
attribute [local go_sem ↓] Go.wp_at_zero Go.wp_at_succ

set_option maxRecDepth 100000 in
set_option maxHeartbeats 4000000 in
theorem pushFault_any (co : Coil) (a : Option Addr) (c : Nat) (xs : List Lot) (xa : Option Addr) (xc : Nat) (p : List Piece) (pa : Option Addr) (pc : Nat) (w : World) (h : CellsAt w a (flat encPc co.ps)) (hsm : CoilSm co) (hx : CellsAt w xa (flat encLot xs)) (hok : LotsOk xs) (hp : CellsAt w pa (flat encPc p)) (hps : PcsSm p) :
    Calls Tryd.prog 103 #[.agg #[.string co.prod, .int .i64 co.most, .slice a co.ps.length c], .slice xa xs.length xc, .slice pa p.length pc] w (PushChk co xs p w) := by
  have LF : Hid (∀ W, w.grownBy W none → Calls Tryd.prog 116 #[.slice xa xs.length xc] W fun e w' => e = .returned (.int .i64 0) ∧ W.grownBy w' none) := fun W g => checkLots_ok xs xa xc W (hx.keep0 g) hok
  have CF : Hid (∀ W, w.grownBy W none → Calls Tryd.prog 106 #[.agg #[.string co.prod, .int .i64 co.most, .slice a co.ps.length c]] W (CoilChk co W)) := fun W g => checkCoil_any co a c W (h.keep0 g) hsm
  have U1 : Hid (∀ W, w.grownBy W none → Calls Tryd.prog 107 #[.slice a co.ps.length c] W fun e w' => e = .returned (.int .i64 (pcSum co.ps)) ∧ W.grownBy w' none) := fun W g => units_any co.ps a c W (h.keep0 g) (by have := hsm.len; omega) hsm.all
  have U2 : Hid (∀ W, w.grownBy W none → Calls Tryd.prog 107 #[.slice pa p.length pc] W fun e w' => e = .returned (.int .i64 (pcSum p)) ∧ W.grownBy w' none) := fun W g => units_any p pa pc W (hp.keep0 g) (by have := hps.len; omega) hps.all
  have hlx := hok.len
  have LO : Hid (∀ W key, w.grownBy W none → Calls Tryd.prog 114 #[.slice xa xs.length xc, .string key] W fun e w' => e = .returned (.int .i64 (lotIx xs key)) ∧ W.grownBy w' none) := fun W key g => lot_any key xs xa xc W (hx.keep0 g) (by omega)
  have HX := Lib.hid hx
  have NO1 : Hid (∀ e W, ¬ CoilOk co → ∀ r : Int, r ≠ 0 → w.grownBy W none → e = .returned (.int .i64 r) → PushChk co xs p w e W) := fun e W hn r hr g he => by rw [he]; exact push_no r hr (fun hh => hn hh.coil) g
  have NO2 : Hid (∀ e W i, i < p.length → ¬ PcFit co.prod xs (pcLot p i) (pcMany p i) → ∀ r : Int, r ≠ 0 → w.grownBy W none → e = .returned (.int .i64 r) → PushChk co xs p w e W) := fun e W i hi hn r hr g he => by rw [he]; exact push_no r hr (fun hh => hn (hh.fit i hi)) g
  have NO3 : Hid (∀ e W, ¬ (pcSum co.ps + pcSum p ≤ co.most) → ∀ r : Int, r ≠ 0 → w.grownBy W none → e = .returned (.int .i64 r) → PushChk co xs p w e W) := fun e W hn r hr g he => by rw [he]; exact push_no r hr (fun hh => hn hh.sum) g
  have YES : Hid (∀ e W, CoilOk co → (∀ i, i < p.length → PcFit co.prod xs (pcLot p i) (pcMany p i)) → pcSum co.ps + pcSum p ≤ co.most → w.grownBy W none → e = .returned (.int .i64 0) → PushChk co xs p w e W) := fun e W h1 h2 h3 g he => ⟨0, he, ⟨fun _ => ⟨h1, h2, h3⟩, fun _ => rfl⟩, g⟩
  have CO : Hid (∀ W e W', CoilChk co W e W' → ∃ r : Int, e = .returned (.int .i64 r) ∧ (r = 0 ↔ CoilOk co) ∧ W.grownBy W' none) := fun W e W' h => h
  have SM : Hid (CoilOk co → 0 ≤ pcSum co.ps ∧ pcSum co.ps ≤ 1000 ∧ 0 ≤ co.most ∧ co.most ≤ 1000) := fun ho => by
    have := unitsL_len co.ps (fun i hi => by have := (ho.all i hi).lo; omega)
    have := ho.sum; have := ho.m0; have := ho.m1; omega
  have hpl := hps.len
  have HB := Lib.hid (sum_bound (p.map Piece.many) (-100000) 100000 (by omega) (by omega) (pc_bd hps.all))
  have HP := Lib.hid hp
  obtain ⟨n, hn⟩ : ∃ n, n = co.ps.length := ⟨_, rfl⟩
  rw [← hn] at CF U1
  rw [← hn]
  obtain ⟨Q, hQ⟩ : ∃ Q, Q = PushChk co xs p w := ⟨_, rfl⟩
  rw [← hQ] at NO1 NO2 NO3 YES
  rw [← hQ]
  obtain ⟨Q2, hQ2⟩ : ∃ Q2, Q2 = CoilChk co := ⟨_, rfl⟩
  rw [← hQ2] at CF CO
  obtain ⟨OK, hOK⟩ : ∃ OK, OK = CoilOk co := ⟨_, rfl⟩
  rw [← hOK] at NO1 YES CO SM
  clear h hsm hx hok hp hps hn hQ hQ2 hOK
  obtain ⟨P, m, ps⟩ := co
  simp only at CF U1 NO2 NO3 YES SM ⊢
  obtain ⟨S, hS⟩ : ∃ S, S = pcSum ps := ⟨_, rfl⟩
  rw [← hS] at U1 NO3 YES SM
  clear hS
  have hO := heap_alloc_new w (.cells #[.string P, .int .i64 m, .slice a n c] 83)
  have hg := gr_alloc (gr_refl w none) (.cells #[.string P, .int .i64 m, .slice a n c] 83)
  obtain ⟨w1, hw1⟩ : ∃ w1, w1 = w.alloc (.cells #[.string P, .int .i64 m, .slice a n c] 83) := ⟨_, rfl⟩
  rw [← hw1] at hO hg
  obtain ⟨O, hOe⟩ : ∃ O, O = w.heap.size := ⟨_, rfl⟩
  rw [← hOe] at hO
  have HW := Lib.hid hw1
  have HOE := Lib.hid hOe
  have HO := Lib.hid hO
  have HG := Lib.hid hg
  have c0 := blkC hO 0 rfl
  have c1 : w1.cell? ⟨O, 1, none⟩ = some (.int .i64 m) := blkC hO 1 rfl
  have c2 : w1.cell? ⟨O, 2, none⟩ = some (.slice a n c) := blkC hO 2 rfl
  clear hw1 hOe hO hg
  go_enter Tryd.func103, Tryd.ntmps103
  go_wp2_with (fail)
  rw [← HW.out, ← HOE.out]
  refine (LF.out w1 HG.out).mono ?_
  rintro e wl ⟨rfl, hgl⟩
  have hOl := (hgl.block O (lt_of_block HO.out) (by simp)).trans HO.out
  have HG := Lib.hid (gr_trans HG.out hgl)
  have HO := Lib.hid hOl
  clear c0 c1 c2 HW
  have c0 : wl.cell? ⟨O, 0, none⟩ = some (.string P) := blkC hOl 0 rfl
  have c1 : wl.cell? ⟨O, 1, none⟩ = some (.int .i64 m) := blkC hOl 1 rfl
  have c2 : wl.cell? ⟨O, 2, none⟩ = some (.slice a n c) := blkC hOl 2 rfl
  clear hgl hOl
  go_wp2_with (fail)
  refine (CF.out wl HG.out).mono ?_
  intro e w2 hq
  obtain ⟨r, rfl, hr, hg2⟩ := CO.out _ _ _ hq
  have HR := Lib.hid hr
  have HG2 := Lib.hid hg2
  clear hq hr c0 c1 c2 hg2
  by_cases hr0 : r = 0
  · have HOK : Hid OK := HR.out.1 hr0
    subst hr0
    obtain ⟨s1, s2, s3, s4⟩ := SM.out HOK.out
    have hO2 := (HG2.out.block O (lt_of_block HO.out) (by simp)).trans HO.out
    have HO2 := Lib.hid hO2
    clear HO HR SM hO2
    go_wp2_with (fail)
    go_loopw [24] (fun i wr => ∃ k : Nat, k ≤ p.length ∧ i = .int .i64 k ∧ (∀ j, j < k → PcFit P xs (pcLot p j) (pcMany p j)) ∧ w2.grownBy wr none) (fun i _ => p.length - (intOf i).toNat)
    case atStart => exact ⟨0, Nat.zero_le _, rfl, fun j hj => absurd hj (Nat.not_lt_zero _), gr_refl _ _⟩
    case round =>
      obtain ⟨k, hk, rfl, hall, hgr⟩ := hrel
      obtain ⟨wo, rfl⟩ : ∃ wo : World, wo = wr := ⟨_, rfl⟩
      have HGR := Lib.hid hgr
      have HALL := Lib.hid hall
      have hOo := (hgr.block O (lt_of_block HO2.out) (by simp)).trans HO2.out
      have HOO := Lib.hid hOo
      clear hgr hall hOo
      by_cases hlt : k < p.length
      · obtain ⟨b, off, rfl, d0, d1⟩ := pc_cells (HP.out.keep0 (gr_trans (gr_trans HG.out HG2.out) HGR.out)) k hlt
        have HNO : Hid (¬ PcFit P xs (pcLot p k) (pcMany p k) → ∀ e W, ∀ r : Int, r ≠ 0 → w.grownBy W none → e = .returned (.int .i64 r) → Q e W) := fun hn e W r hr g he => NO2.out e W k hlt hn r hr g he
        have HYS : Hid (PcFit P xs (pcLot p k) (pcMany p k) → ∀ j, j < k + 1 → PcFit P xs (pcLot p j) (pcMany p j)) := fun hp j hj => by
          by_cases e : j = k
          · subst e; exact hp
          · exact HALL.out j (by omega)
        obtain ⟨x, hx⟩ : ∃ x, x = pcMany p k := ⟨_, rfl⟩
        obtain ⟨K, hK⟩ : ∃ K, K = pcLot p k := ⟨_, rfl⟩
        rw [← hx] at d1 HNO HYS
        rw [← hK] at d0 HNO HYS
        clear hx hK
        go_wp2_with (fail)
        have hV := heap_alloc_new wo (.cells #[.string K, .int .i64 x] 94)
        have hg3 := gr_alloc (gr_refl wo none) (.cells #[.string K, .int .i64 x] 94)
        obtain ⟨w3, hw3⟩ : ∃ w3, w3 = wo.alloc (.cells #[.string K, .int .i64 x] 94) := ⟨_, rfl⟩
        rw [← hw3] at hV hg3
        rw [← hw3]
        obtain ⟨V, hVe⟩ : ∃ V, V = wo.heap.size := ⟨_, rfl⟩
        rw [← hVe] at hV
        rw [← hVe]
        have HG3 := Lib.hid (gr_trans (gr_trans (gr_trans HG.out HG2.out) HGR.out) hg3)
        refine (LO.out w3 K HG3.out).mono ?_
        rintro e w4 ⟨rfl, hg4⟩
        have hO4 := ((gr_trans hg3 hg4).block O (lt_of_block HOO.out) (by simp)).trans HOO.out
        have hV4 := (hg4.block V (lt_of_block hV) (by simp)).trans hV
        have hOl := lt_of_block hO4
        have hVl := lt_of_block hV4
        have HG4 := Lib.hid (gr_trans HG3.out hg4)
        have HGR4 := Lib.hid (gr_trans (gr_trans HGR.out hg3) hg4)
        have o0 : w4.cell? ⟨O, 0, none⟩ = some (.string P) := blkC hO4 0 rfl
        obtain ⟨v0, v1, -, -⟩ := blk2 hV4
        have HFI : Hid (lotHas xs K = true → ((lotGet xs K).prod.toList == P.toList) = true → 1 ≤ x → x ≤ 1000 → PcFit P xs K x) := fun a b c d => ⟨a, b, c, d⟩
        have HFO : Hid (PcFit P xs K x → lotHas xs K = true ∧ ((lotGet xs K).prod.toList == P.toList) = true ∧ 1 ≤ x ∧ x ≤ 1000) := fun h => ⟨h.1, h.2, h.3, h.4⟩
        clear hw3 hVe hV hg3 d0 d1 hO4 hV4
        cases ht : lotHas xs K with
        | false =>
          have hix : lotIx xs K < 0 := lotIx_neg.2 ht
          have HN : Hid (¬ PcFit P xs K x) := fun h => by have := (HFO.out h).1; rw [ht] at this; cases this
          clear hg4
          go_wp2_with (fail)
          exact HNO.out HN.out _ _ 8 (by decide) HG4.out rfl
        | true =>
        obtain ⟨j, hj, hje, hjg⟩ := lotIx_at ht
        obtain ⟨lb, lo, rfl, l0, l1, l2, l3⟩ := lot_cells (HX.out.keep0 HG4.out) j hj
        rw [hjg] at l1
        rw [hje]
        obtain ⟨y2, hy2⟩ : ∃ y, y = (lotGet xs K).prod := ⟨_, rfl⟩
        rw [← hy2] at l1 HFI HFO
        have HT := Lib.hid ht
        have hj0 : (0 : Int) ≤ (j : Int) := by omega
        have hj1 : (j : Int) < (xs.length : Int) := by omega
        have hj2 : ¬ (j : Int) < 0 := by omega
        clear l0 l2 l3 hje hjg hy2 ht hg4
        cases hpd : (y2.toList == P.toList) with
        | false =>
          have hpd2 : (y2.toList != P.toList) = true := by simp [bne, hpd]
          have HN : Hid (¬ PcFit P xs K x) := fun h => by have := (HFO.out h).2.1; rw [hpd] at this; cases this
          go_wp2_with (fail)
          go_quiet (fail)
          go_wp2_with (fail)
          exact HNO.out HN.out _ _ 13 (by decide) (gr_drewN HG4.out nq) rfl
        | true =>
        have hpd2 : (y2.toList != P.toList) = false := by simp [bne, hpd]
        go_wp2_with (fail)
        go_quiet (fail)
        go_wp2_with (fail)
        refine (out_any x 1 1000 (w4.drewN nq)).mono ?_
        rintro e w5 ⟨rfl, rfl⟩
        by_cases hx1 : x < 1 ∨ 1000 < x
        · have hb : (decide (x < 1) || decide (1000 < x)) = true := by rcases hx1 with h | h <;> simp [h]
          have HN : Hid (¬ PcFit P xs K x) := fun h => by have := (HFO.out h).2.2; omega
          rw [hb]
          go_wp2_with (fail)
          exact HNO.out HN.out _ _ 1 (by decide) (gr_drewN HG4.out nq) rfl
        · have hb : (decide (x < 1) || decide (1000 < x)) = false := by simp; omega
          have HY : Hid (PcFit P xs K x) := HFI.out HT.out hpd (by omega) (by omega)
          rw [hb]
          go_wp2_with (fail)
          go_roundw
          case rel => exact ⟨k + 1, by omega, by go_num, HYS.out HY.out, gr_drewN HGR4.out nq⟩
          case measure => simp [intOf]; omega
      · obtain rfl : k = p.length := by omega
        have hfin : Hid (((p.map Piece.many).take p.length).sum = pcSum p) := by show _ = _; rw [List.take_of_length_le (by simp)]; rfl
        obtain ⟨b0, b1⟩ := HB.out p.length
        rw [hfin.out] at b0 b1
        obtain ⟨T, hT⟩ : ∃ T, T = pcSum p := ⟨_, rfl⟩
        rw [← hT] at NO3 YES U2 b0 b1
        clear hT hfin
        have o1 : wo.cell? ⟨O, 1, none⟩ = some (.int .i64 m) := blkC HOO.out 1 rfl
        have o2 : wo.cell? ⟨O, 2, none⟩ = some (.slice a n c) := blkC HOO.out 2 rfl
        have HGA := Lib.hid (gr_trans (gr_trans HG.out HG2.out) HGR.out)
        have U1 := Lib.hid (fun W g => U1.out W (gr_trans HGA.out g))
        have U2 := Lib.hid (fun W g => U2.out W (gr_trans HGA.out g))
        have x1 := grew_cell o1
        have x2 := grew_cell o2
        have hwr : IntKind.i64.wrap (S + T) = S + T := IntWalk.i64_in _ (by omega)
        go_wp2_with (fail)
        refine wp_region_grew (by kernel_rfl) (by kernel_rfl) ?_
        repeat (go_big_quiet_step (first
          | (go_at_call 107; first | (with_reducible exact Calls.grew_of (fun W g => U1.out W g)) | (with_reducible exact Calls.grew_of (fun W g => U2.out W g)))))
        refine wpQuiet_nil ?_
        rintro wq ⟨nn, rfl⟩
        have gq := nn.gr
        by_cases hT : m < S + T
        · go_wp2_with (fail)
          exact NO3.out _ _ (by omega) 12 (by decide) (gr_trans HGA.out gq) rfl
        · go_wp2_with (fail)
          exact YES.out _ _ HOK.out HALL.out (by omega) (gr_trans HGA.out gq) rfl
  · have hrn : (r != 0) = true := by simpa using hr0
    have HN : Hid (¬ OK) := fun h => hr0 (HR.out.2 h)
    have HR0 := Lib.hid hr0
    clear hr0
    go_wp2_with (fail)
    exact NO1.out _ _ HN.out r HR0.out (gr_trans HG.out HG2.out) rfl
end Go.Proofs.YtdjnomeabadbnaaDoor
