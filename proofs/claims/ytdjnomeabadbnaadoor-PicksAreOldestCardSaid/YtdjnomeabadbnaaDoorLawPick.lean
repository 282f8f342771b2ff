/- The walk of PicksAreOldest. -/
import Derived.Test.YtdjnomeabadbnaaDoorPickEnd
import Derived.Test.YtdjnomeabadbnaaDoorStockEnd
import Derived.Deep.DeepCutAuto
import Derived.Deep.DeepFit
namespace Go.Proofs.YtdjnomeabadbnaaDoor
open Go.RowKit
attribute [local go_sem ↓] Go.wp_at_zero Go.wp_at_succ

def canB : ByteArray := ⟨#[99, 97, 110]⟩
set_option maxRecDepth 100000 in
set_option maxHeartbeats 8000000 in
theorem picksAreOldest_any (l : List Int) (a : Option Addr) (cap : Nat) (w : World) (hc : CellsAt w a (ints l)) (hl : l.length ≤ 9223372036854775807) :
    Calls Tryd.prog 8 #[.slice a l.length cap] w fun e w' => e = .returned (.bool true) ∧ w.grownBy w' none := by
  have hg0 := gr_alloc (gr_refl w none) (.cells #[.slice a l.length cap, .int .i64 0] 25)
  have s0 := StreamAt.made cap hc hl
  obtain ⟨w0, hw0⟩ : ∃ w0, w0 = w.alloc (.cells #[.slice a l.length cap, .int .i64 0] 25) := ⟨_, rfl⟩
  have hz0 : w0.heap.size = w.heap.size + 1 := by rw [hw0]; simp
  rw [← hw0] at s0 hg0
  obtain ⟨p, hp⟩ : ∃ p, p = w.heap.size := ⟨_, rfl⟩
  rw [← hp] at s0 hz0
  have LA := lots_any l 0 p w0 s0 (by omega)
  unfold LotsPost at LA
  have hLO := lotsM_ok l 0
  have hX5 : (lotsM l 0).length ≤ 5 := by have := (lotsTo_bd l 0 5).1; unfold lotsM; omega
  have hk1 : lotsK l 0 ≤ 100 := by have := (lotsTo_bd l 0 5).2; unfold lotsK; omega
  obtain ⟨k1, hk1e⟩ : ∃ k1, k1 = lotsK l 0 := ⟨_, rfl⟩
  obtain ⟨X, hX⟩ : ∃ X, X = lotsM l 0 := ⟨_, rfl⟩
  rw [← hk1e, ← hX] at LA
  rw [← hk1e] at hk1
  rw [← hX] at hLO hX5
  have hnx := nxt_range l k1 12 (by decide)
  have NA := fun (W : World) (h : StreamAt W p p l k1) => next_any l k1 12 p W h (by omega) (by decide)
  obtain ⟨m, hm⟩ : ∃ m, m = nxt l k1 12 := ⟨_, rfl⟩
  rw [← hm] at hnx NA
  have HLA := Lib.hid LA
  have HNA := Lib.hid NA
  have HLO := Lib.hid hLO
  have HPE := Lib.hid hp
  have HW0 := Lib.hid hw0
  have HG0 := Lib.hid hg0
  clear LA NA hLO hk1e hX hc hl hm hp hw0 hg0 s0
  go_enter Tryd.func8, Tryd.ntmps8
  go_wp2_with (fail)
  rw [← HW0.out, ← HPE.out]
  refine HLA.out.mono ?_
  rintro e w1 ⟨v1, rfl, o1, st1, g1⟩
  have z1 := g1.size
  obtain ⟨xa, xc, rfl, -, -, -, -⟩ := own_shape o1
  have HO1 := Lib.hid o1
  have HS1 := Lib.hid st1
  have HG1 := Lib.hid (gr_trans (gr_weak HG0.out (some p)) g1)
  clear HLA o1 st1 g1
  go_wp2_with (fail)
  refine (HNA.out w1 HS1.out).mono ?_
  rintro e w2 ⟨rfl, st2, g2⟩
  have o2 := own_keepS HO1.out g2 (by omega)
  have HXN := Lib.hid (own_nil o2)
  have HG2 : Hid (w.grownBy w2 none) := gr_grown (gr_refl w none) (gr_trans HG1.out g2) (fun k e => by cases e; rw [HPE.out]; exact Nat.le_refl _)
  obtain ⟨_, _, e1, -, -, cX, bX⟩ := own_shape o2
  cases e1
  have NX : Hid (∀ b off, xa = some ⟨b, off, none⟩ → some b ≠ some p) := fun b off e e2 => by have := (bX b off e).1; cases e2; omega
  have HX2 := Lib.hid cX
  have HS2 := Lib.hid st2
  have PK := Lib.hid (pick_lots canB m 3 0 X xa xc w2 cX (fun e => (HXN.out e).2) HLO.out (by omega) (by kernel_rfl) (by decide) (by omega) (by omega) (by decide) (by decide))
  have hpw : p < w2.heap.size := st2.lt
  clear cX bX o2 st2 g2 HO1 HS1 HG1 HNA z1 hz0
  go_wp2_with (fail)
  refine PK.out.mono ?_
  rintro e w3 ⟨pv, r, ord, rfl, hr, g3⟩
  have HR := Lib.hid hr
  have HG3 := Lib.hid g3
  clear hr g3 PK
  go_upto_if 40 with (fail)
  go_cut [] (fun wx => w3.grownBy wx none)
  case first =>
    by_cases hr0 : r = 0
    · obtain ⟨hfr, hord, op⟩ := HR.out hr0
      subst hr0
      have hgood := pick_good X canB (3 + 0) m ord hord (by omega) (fun i hi => (lotN_bd HLO.out i hi).1) hfr
      have hkp := Keeps.take (m := m) (lots_apart HLO.out) (Keeps.start (lotN_bd HLO.out)) ord hord.lt ord.length
      have hpl := takeTo_len ord X m ord.length
      have hol := hord.len
      obtain ⟨ps, hps⟩ : ∃ ps, ps = (takeTo ord X m ord.length).1 := ⟨_, rfl⟩
      rw [← hps] at op hgood hkp hpl
      obtain ⟨hsum, hold⟩ := hgood
      obtain ⟨pa, pc, rfl, -, -, cP, -⟩ := own_shape op
      have hp5 : ps.length ≤ 5 := by omega
      have HPM : Hid (∀ q ∈ ps, 0 ≤ q.many ∧ q.many ≤ 100000) := fun q hq => by have := hkp.pcs q (by simpa using hq); omega
      have HOLD : Hid (∀ q ∈ ps, ∀ j (hj : j < X.length), (X[j].prod.toList == canB.toList) = true → 3 ≤ X[j].exp → X[j].exp < (lotGet X q.lot).exp → 0 < X[j].many → (⟨X[j].id, X[j].many⟩ : Piece) ∈ ps) := fun q hq j hj h1 h2 h3 h4 => by
        obtain ⟨i, hi, e1, e2⟩ := hold q hq
        rw [e1, lotGet_of (lots_apart HLO.out) i hi] at h3
        have := e2 j hj (by rw [lotN_get hj]; unfold canGo; rw [h1]; simp; omega) (by rw [lotN_get hj]; exact h3) (by rw [lotN_get hj]; exact h4)
        rw [lotN_get hj] at this
        exact this
      have HCP := Lib.hid cP
      have HSUM := Lib.hid hsum
      have HX3 := Lib.hid (HX2.out.keep0 HG3.out)
      have S0 : Hid ((0 : Int) = pcSum (ps.take 0)) := by show _ = _; simp [pcSum]
      clear hfr hord op hkp hpl hol hps hsum hold cP HR
      go_wp2_with (fail)
      go_loopw [8, 43] (fun s i wr => ∃ k : Nat, k ≤ ps.length ∧ i = .int .i64 k ∧ s = .int .i64 (pcSum (ps.take k)) ∧ w3.grownBy wr none) (fun _ i _ => ps.length - (intOf i).toNat)
      case atStart => exact ⟨0, Nat.zero_le _, rfl, congrArg _ S0.out, gr_refl _ _⟩
      case round =>
        clear S0
        obtain ⟨k, hk, rfl, rfl, hgr⟩ := hrel
        obtain ⟨wo, rfl⟩ : ∃ wo : World, wo = wr := ⟨_, rfl⟩
        by_cases hlt : k < ps.length
        · obtain ⟨b, off, rfl, d0, d1⟩ := pc_cells (HCP.out.keep0 hgr) k hlt
          have hmn := HPM.out _ (List.getElem_mem hlt)
          have OLD2 := HOLD.out _ (List.getElem_mem hlt)
          have e := pc_get ps k hlt
          have hst := pcSum_take ps k hlt
          have hsb := sum_bd 100000 ((ps.take k).map Piece.many) (fun x hx => by
            obtain ⟨y, hy, rfl⟩ := List.mem_map.1 hx
            exact HPM.out y (List.mem_of_mem_take hy))
          have hsl : ((ps.take k).map Piece.many).length ≤ 5 := by simp; omega
          have hse : ((ps.take k).map Piece.many).sum = pcSum (ps.take k) := rfl
          rw [hse] at hsb
          rw [e] at hmn OLD2
          simp only at hmn OLD2
          obtain ⟨lot, hlot⟩ : ∃ s, s = pcLot ps k := ⟨_, rfl⟩
          obtain ⟨mn, hmn2⟩ : ∃ s, s = pcMany ps k := ⟨_, rfl⟩
          obtain ⟨S, hS⟩ : ∃ s, s = pcSum (ps.take k) := ⟨_, rfl⟩
          rw [← hlot] at d0 OLD2
          rw [← hmn2] at d1 hmn hst
          rw [← hS] at hst hsb
          rw [← hS]
          have HST := Lib.hid hst
          have hS5 : S ≤ 500000 := by omega
          obtain ⟨hS0, -⟩ := hsb
          have HQ := Lib.hid (heap_alloc_new wo (.cells #[.string lot, .int .i64 mn] 94))
          have g4 := gr_alloc (gr_refl wo none) (.cells #[.string lot, .int .i64 mn] 94)
          have LO := Lib.hid (fun (W : World) (g : w3.grownBy W none) => keepLotOf_any lot X xa xc W (HX3.out.keep0 g) (by omega))
          have OLD2 := Lib.hid OLD2
          obtain ⟨lx, hlx⟩ : ∃ e, e = lotGet X lot := ⟨_, rfl⟩
          rw [← hlx] at LO OLD2
          obtain ⟨u1, u2, u3, u4⟩ := lx
          simp only at OLD2
          have HVX : Hid (vLot ⟨u1, u2, u3, u4⟩ = .agg #[.string u1, .string u2, .int .i64 u3, .int .i64 u4]) := rfl
          rw [HVX.out] at LO
          have HG4 := Lib.hid (gr_trans hgr g4)
          have HLX := Lib.hid hlx
          clear e hst hse hsl hlot hmn2 hS hgr g4 HVX hlx
          go_wp2_with (fail)
          refine (LO.out _ HG4.out).mono ?_
          rintro e w5 ⟨rfl, g5⟩
          have HG5 := Lib.hid (gr_trans HG4.out g5)
          have HU := Lib.hid (heap_alloc_new w5 (.cells #[.string u1, .string u2, .int .i64 u3, .int .i64 u4] 106))
          have g6 := gr_alloc (gr_refl w5 none) (.cells #[.string u1, .string u2, .int .i64 u3, .int .i64 u4] 106)
          obtain ⟨w6, hw6⟩ : ∃ w6, w6 = w5.alloc (.cells #[.string u1, .string u2, .int .i64 u3, .int .i64 u4] 106) := ⟨_, rfl⟩
          rw [← hw6] at HU g6
          obtain ⟨T, hT⟩ : ∃ T, T = w5.heap.size := ⟨_, rfl⟩
          rw [← hT] at HU
          have HG6 := Lib.hid (gr_trans HG5.out g6)
          have HW6 := Lib.hid hw6
          have HTE := Lib.hid hT
          clear g5 hw6 hT g6 d0 d1 HQ
          go_upto_region 11 with (fail)
          rw [← HW6.out, ← HTE.out]
          go_wp2_with (fail)
          go_loopw [57] (fun i wr => ∃ j : Nat, j ≤ X.length ∧ i = .int .i64 j ∧ wr.heap[T]? = some (.cells #[.string u1, .string u2, .int .i64 u3, .int .i64 u4] 106 (0, 0)) ∧ w3.grownBy wr none) (fun i _ => X.length - (intOf i).toNat)
          case atStart => exact ⟨0, Nat.zero_le _, rfl, HU.out, HG6.out⟩
          case round =>
            clear HU HG6 HG5 HG4
            obtain ⟨j, hj, rfl, hU, hgr⟩ := hrel
            obtain ⟨wi, rfl⟩ : ∃ wi : World, wi = wr := ⟨_, rfl⟩
            by_cases hjl : j < X.length
            · obtain ⟨xb, xo, rfl, d0, d1, d2, d3⟩ := lot_cells (HX3.out.keep0 hgr) j hjl
              have OLD3 := OLD2.out j hjl
              obtain ⟨x, hx⟩ : ∃ x, x = X[j] := ⟨_, rfl⟩
              rw [← hx] at d0 d1 d2 d3 OLD3
              obtain ⟨K, P, E, M⟩ := x
              simp only at d0 d1 d2 d3 OLD3
              have OLD3 := Lib.hid OLD3
              have hV := heap_alloc_new wi (.cells #[.string K, .string P, .int .i64 E, .int .i64 M] 106)
              have g7 := gr_alloc (gr_refl wi none) (.cells #[.string K, .string P, .int .i64 E, .int .i64 M] 106)
              obtain ⟨w7, hw7⟩ : ∃ w7, w7 = wi.alloc (.cells #[.string K, .string P, .int .i64 E, .int .i64 M] 106) := ⟨_, rfl⟩
              rw [← hw7] at hV g7
              obtain ⟨T2, hT2⟩ : ∃ T, T = wi.heap.size := ⟨_, rfl⟩
              rw [← hT2] at hV
              have HW7 := Lib.hid hw7
              have HT2 := Lib.hid hT2
              have HV := Lib.hid hV
              have hU7 := (g7.block T (lt_of_block hU) (by simp)).trans hU
              have HU7 := Lib.hid hU7
              have HG7 := Lib.hid (gr_trans hgr g7)
              have CN := Lib.hid (containsPc ps K M (some ⟨b, off, none⟩) pc w7 (HCP.out.keep0 HG7.out) (by omega))
              have v0 := blkC hV 0 rfl
              have v3 : w7.cell? ⟨T2, 3, none⟩ = some (.int .i64 M) := blkC hV 3 rfl
              clear hx hU hgr hV g7 hw7 hT2 hU7
              go_upto_region 14 with (fail)
              rw [← HW7.out, ← HT2.out]
              clear d0 d1 d2 d3
              go_wp2_with (fail)
              refine CN.out.mono ?_
              rintro e w8 ⟨bb, rfl, hbb, g8⟩
              have hV8 := (g8.block T2 (lt_of_block HV.out) (by simp)).trans HV.out
              have hU8 := (g8.block T (lt_of_block HU7.out) (by simp)).trans HU7.out
              have HU8 := Lib.hid hU8
              have HBB := Lib.hid hbb
              have HG8 := Lib.hid (gr_trans HG7.out g8)
              have y1 : w8.cell? ⟨T2, 1, none⟩ = some (.string P) := blkC hV8 1 rfl
              have y2 : w8.cell? ⟨T2, 2, none⟩ = some (.int .i64 E) := blkC hV8 2 rfl
              have y3 : w8.cell? ⟨T2, 3, none⟩ = some (.int .i64 M) := blkC hV8 3 rfl
              have z2 : w8.cell? ⟨T, 2, none⟩ = some (.int .i64 u3) := blkC hU8 2 rfl
              clear v0 v3 hV8 hU8 hbb g8 CN
              cases hq : (P.toList == [99, 97, 110]) with
              | false =>
                go_wp2_with (fail)
                go_roundw
                case rel => exact ⟨j + 1, by omega, by go_num, HU8.out, HG8.out⟩
                case measure => simp [intOf]; omega
              | true =>
                by_cases h1 : 3 ≤ E
                · have e1 : decide (3 ≤ E) = true := decide_eq_true h1
                  by_cases h2 : E < u3
                  · have e2 : decide (E < u3) = true := decide_eq_true h2
                    by_cases h3 : 0 < M
                    · have e3 : decide (0 < M) = true := decide_eq_true h3
                      have hbt : bb = true := HBB.out (OLD3.out (by rw [show canB.toList = [99, 97, 110] by kernel_rfl]; exact hq) h1 h2 h3)
                      subst hbt
                      go_wp2_with (fail)
                      go_roundw
                      case rel => exact ⟨j + 1, by omega, by go_num, HU8.out, HG8.out⟩
                      case measure => simp [intOf]; omega
                    · have e3 : decide (0 < M) = false := decide_eq_false h3
                      go_wp2_with (fail)
                      go_roundw
                      case rel => exact ⟨j + 1, by omega, by go_num, HU8.out, HG8.out⟩
                      case measure => simp [intOf]; omega
                  · have e2 : decide (E < u3) = false := decide_eq_false h2
                    go_wp2_with (fail)
                    go_roundw
                    case rel => exact ⟨j + 1, by omega, by go_num, HU8.out, HG8.out⟩
                    case measure => simp [intOf]; omega
                · have e1 : decide (3 ≤ E) = false := decide_eq_false h1
                  go_wp2_with (fail)
                  go_roundw
                  case rel => exact ⟨j + 1, by omega, by go_num, HU8.out, HG8.out⟩
                  case measure => simp [intOf]; omega
            · obtain rfl : j = X.length := by omega
              have HGR := Lib.hid hgr
              clear hU hgr
              go_wp2_with (fail)
              go_roundw
              case rel => (repeat apply Exists.intro); exact ⟨⟨k + 1, by omega, by go_num, congrArg (Value.int .i64) HST.out.symm, HGR.out⟩, rfl⟩
              case measure => simp [intOf]; omega
        · obtain rfl : k = ps.length := by omega
          rw [List.take_length, HSUM.out]
          go_wp2_with (fail)
          go_meet
          exact hgr
    · have hr1b : (r == 0) = false := by simpa using hr0
      clear HR
      go_wp2_with (fail)
      go_meet
      exact gr_refl _ _
  case rest =>
  obtain ⟨w4, rfl⟩ : ∃ w4 : World, w4 = wc := ⟨_, rfl⟩
  have HG4 := Lib.hid (gr_trans HG3.out hcut)
  clear hcut HR HG3
  have NE := Lib.hid (needs_any (lw := p) l (k1 + 1) p w4 (HS2.out.keep0 HG4.out) (by omega))
  go_wp2_with (fail)
  refine NE.out.mono ?_
  rintro e w5 ⟨nv, N, rfl, o5, hN, g5⟩
  obtain ⟨na, nc, rfl, -, -, cN, -⟩ := own_shape o5
  have HX5 := Lib.hid ((HX2.out.keep0 HG4.out).keep g5 NX.out)
  have HG5 : Hid (w.grownBy w5 none) := gr_grown (gr_trans HG2.out HG4.out) g5 (fun k e => by cases e; rw [HPE.out]; exact Nat.le_refl _)
  have HNS := Lib.hid hN
  have HN5 := Lib.hid cN
  have KF := Lib.hid (kitFault_any N 3 0 na nc w5 cN hN (by decide) (by decide))
  clear o5 hN cN g5 NE HS2 HX2 HG4
  go_wp2_with (fail)
  refine KF.out.mono ?_
  rintro e w6 ⟨r2, rfl, hr2, g6⟩
  have HR2 := Lib.hid hr2
  have G6 := Lib.hid g6
  clear hr2 g6 KF
  by_cases hr0 : r2 = 0
  · have HNO := Lib.hid (HR2.out hr0)
    subst hr0
    clear HR2
    have KT := Lib.hid (kit_ok X xa xc N 3 0 na nc w6 (HX5.out.keep0 G6.out) (fun e => (HXN.out e).2) HLO.out (by omega) (lots_apart HLO.out) (HN5.out.keep0 G6.out) HNS.out HNO.out (by decide) (by decide))
    go_wp2_with (fail)
    refine KT.out.mono ?_
    rintro e w7 ⟨kv, rv, ks, L, rfl, hks, ok, ol, hpcs, hkeep, g7⟩
    obtain ⟨ka, kc, rfl, -, -, cK, -⟩ := own_shape ok
    obtain ⟨ra, rc, rfl, -, -, cL, -⟩ := own_shape ol
    have hLl := hkeep.len
    have HCK := Lib.hid cK
    have HCL := Lib.hid cL
    have HPC := Lib.hid hpcs
    have HKE := Lib.hid hkeep
    have HX7 := Lib.hid ((HX5.out.keep0 G6.out).keep0 g7)
    have G7 := Lib.hid (gr_trans (gr_trans HG5.out G6.out) g7)
    have hb1 : ((ks.length : Int) == (N.length : Int)) = true := by rw [hks]; simp
    have hkl7 : ks.length ≤ 7 := by have := HNS.out.len; omega
    have HLL := Lib.hid hLl
    have HKS := Lib.hid hks
    clear ok ol cK cL hpcs hkeep g7 KT hLl hks
    go_wp2_with (fail)
    all_goals first | (exfalso; rename_i hq; exact hq (by rw [HKS.out]); done) | skip
    rename_i hq _ _
    clear hq hb1
    go_loopw [128] (fun i wr => ∃ k : Nat, k ≤ X.length ∧ i = .int .i64 k ∧ w7.grownBy wr none) (fun i _ => X.length - (intOf i).toNat)
    case atStart => exact ⟨0, Nat.zero_le _, rfl, gr_refl _ _⟩
    case round =>
      obtain ⟨k, hk, rfl, hgr⟩ := hrel
      obtain ⟨wo, rfl⟩ : ∃ wo : World, wo = wr := ⟨_, rfl⟩
      by_cases hlt : k < X.length
      · obtain ⟨b, off, rfl, d0, d1, d2, d3⟩ := lot_cells (HX7.out.keep0 hgr) k hlt
        have hkL : k < L.length := by rw [HLL.out]; exact hlt
        obtain ⟨b2, off2, rfl, -, -, -, f3⟩ := lot_cells (HCL.out.keep0 hgr) k hkL
        have hsm := HKE.out.sum k hlt
        have hbd := HKE.out.bd k hlt
        have hmb := lotN_bd HLO.out k hlt
        rw [lotN_get hkL, lotN_get hlt] at hsm
        rw [lotN_get hkL] at hbd
        rw [lotN_get hlt] at hmb
        obtain ⟨x, hx⟩ : ∃ x, x = X[k] := ⟨_, rfl⟩
        rw [← hx] at d0 d1 d2 d3 hsm hmb
        obtain ⟨y, hy⟩ : ∃ y, y = L[k].many := ⟨_, rfl⟩
        rw [← hy] at f3 hsm hbd
        obtain ⟨K, P, E, M⟩ := x
        simp only at d0 d1 d2 d3 hsm hmb
        have hV := heap_alloc_new wo (.cells #[.string K, .string P, .int .i64 E, .int .i64 M] 106)
        have g3 := gr_alloc (gr_refl wo none) (.cells #[.string K, .string P, .int .i64 E, .int .i64 M] 106)
        obtain ⟨w9, hw9⟩ : ∃ w9, w9 = wo.alloc (.cells #[.string K, .string P, .int .i64 E, .int .i64 M] 106) := ⟨_, rfl⟩
        rw [← hw9] at hV g3
        obtain ⟨T, hT⟩ : ∃ T, T = wo.heap.size := ⟨_, rfl⟩
        rw [← hT] at hV
        have HTE := Lib.hid hT
        have HW9 := Lib.hid hw9
        have HV := Lib.hid hV
        have HGR := Lib.hid (gr_trans hgr g3)
        have f3' := (gr_cell g3 (lt_of_cell f3)).trans f3
        have hpos : Hid (∀ q ∈ allPs ks, 0 ≤ q.many) := fun q hq => by have := (HKE.out.pcs q hq).1; omega
        have PRE : Hid (∀ t, cntP (allPs (ks.take t)) K ≤ M - y ∧ 0 ≤ cntP (allPs (ks.take t)) K) := fun t => by
          have e : allPs ks = allPs (ks.take t) ++ allPs (ks.drop t) := by unfold allPs; rw [← List.flatMap_append, List.take_append_drop]
          have h1 := cntP_app (allPs (ks.take t)) (allPs (ks.drop t)) K
          rw [← e] at h1
          have h2 := cntP_nonneg (allPs (ks.drop t)) K (fun q hq => hpos.out q (by rw [e]; exact List.mem_append_right _ hq))
          have h3 := cntP_nonneg (allPs (ks.take t)) K (fun q hq => hpos.out q (by rw [e]; exact List.mem_append_left _ hq))
          omega
        have HSM := Lib.hid hsm
        have C0 : Hid (y = y + cntP (allPs (ks.take 0)) K) := by show _ = _; simp [allPs, cntP]
        clear hx hy hgr hV g3 hw9 hT hsm
        go_upto_region 30 with (fail)
        rw [← HW9.out, ← HTE.out]
        clear d0 d1 d2 d3 f3
        go_wp2_with (fail)
        go_loopw [21, 140] (fun nn i wr => ∃ t : Nat, t ≤ ks.length ∧ i = .int .i64 t ∧ nn = .int .i64 (y + cntP (allPs (ks.take t)) K) ∧ wr.heap[T]? = some (.cells #[.string K, .string P, .int .i64 E, .int .i64 M] 106 (0, 0)) ∧ w7.grownBy wr none) (fun _ i _ => ks.length - (intOf i).toNat)
        case atStart => exact ⟨0, Nat.zero_le _, rfl, congrArg _ C0.out, HV.out, HGR.out⟩
        case round =>
          clear C0 HV HGR f3'
          obtain ⟨t, ht, rfl, rfl, hV, hgr⟩ := hrel
          obtain ⟨wi, rfl⟩ : ∃ wi : World, wi = wr := ⟨_, rfl⟩
          by_cases htl : t < ks.length
          · obtain ⟨kb, ko, rfl, hcs⟩ := flat_cells encKit_len (by decide) (HCK.out.keep0 hgr) (by omega)
            have k0 : wi.cell? ⟨kb, ko + t * 3, none⟩ = some (.string ks[t].place) := hcs t htl 0 _ rfl
            have k1' : wi.cell? ⟨kb, ko + t * 3 + 1, none⟩ = some (.string ks[t].prod) := hcs t htl 1 _ rfl
            have k2 : wi.cell? ⟨kb, ko + t * 3 + 2, none⟩ = some ks[t].pv := hcs t htl 2 _ rfl
            obtain ⟨ob, hob⟩ := HPC.out _ (List.getElem_mem htl)
            obtain ⟨qa, qc, hpv, hq1, hq2, cQ, -⟩ := own_shape hob
            have hqm : ks[t].ps.length ≤ 9223372036854775807 := by unfold maxLen at hq2; omega
            clear hq1 hq2
            rw [hpv] at k2
            have hpre := PRE.out t
            have hpre1 := PRE.out (t + 1)
            rw [allPs_take ks t htl, cntP_app] at hpre1
            have hqpos : Hid (∀ q ∈ ks[t].ps, 0 ≤ q.many) := fun q hq => hpos.out q (List.mem_flatMap.2 ⟨_, List.getElem_mem htl, hq⟩)
            have HCQ := Lib.hid (cQ.keep0 hgr)
            have HAT : Hid (cntP (allPs (ks.take (t + 1))) K = cntP (allPs (ks.take t)) K + cntP ks[t].ps K) := by show _ = _; rw [allPs_take ks t htl, cntP_app]
            obtain ⟨kp, hkp⟩ : ∃ s, s = ks[t].place := ⟨_, rfl⟩
            obtain ⟨kr, hkr⟩ : ∃ s, s = ks[t].prod := ⟨_, rfl⟩
            obtain ⟨ps, hps⟩ : ∃ s, s = ks[t].ps := ⟨_, rfl⟩
            rw [← hkp] at k0
            rw [← hkr] at k1'
            rw [← hps] at hpre1 hqpos HCQ k2 HAT hqm
            obtain ⟨base, hbase⟩ : ∃ s, s = y + cntP (allPs (ks.take t)) K := ⟨_, rfl⟩
            rw [← hbase]
            have HBA := Lib.hid hbase
            have hbM : base + cntP ps K ≤ M := by omega
            have hb0 : 0 ≤ base := by omega
            have C0 : Hid (base = base + cntP (ps.take 0) K) := by show _ = _; simp [cntP]
            have HV2 := Lib.hid ((Below.heap_alloc wi (.cells #[.string kp, .string kr, .slice qa ps.length qc] 128) T (lt_of_block hV)).trans hV)
            have g4 := gr_alloc (gr_refl wi none) (.cells #[.string kp, .string kr, .slice qa ps.length qc] 128)
            have HG4 := Lib.hid (gr_trans hgr g4)
            have HCQ2 := Lib.hid (HCQ.out.keep0 g4)
            obtain ⟨w10, hw10⟩ : ∃ w10, w10 = wi.alloc (.cells #[.string kp, .string kr, .slice qa ps.length qc] 128) := ⟨_, rfl⟩
            rw [← hw10] at HV2 HG4 HCQ2
            have HW10 := Lib.hid hw10
            have hz10 : wi.heap.size < w10.heap.size := by rw [hw10]; simp
            have hM1 : M ≤ 100000 := hmb.2
            clear hcs hob hpv cQ hkp hkr hps hbase hV hgr g4 HCQ hw10 hpre hpre1
            go_wp2_with (fail)
            rw [← HW10.out]
            clear k0 k1' k2
            go_loopw [21, 147] (fun nn i wr => ∃ q : Nat, q ≤ ps.length ∧ i = .int .i64 q ∧ nn = .int .i64 (base + cntP (ps.take q) K) ∧ wr.heap[T]? = some (.cells #[.string K, .string P, .int .i64 E, .int .i64 M] 106 (0, 0)) ∧ w10.grownBy wr none) (fun _ i _ => ps.length - (intOf i).toNat)
            case atStart => exact ⟨0, Nat.zero_le _, rfl, congrArg _ C0.out, HV2.out, gr_refl _ _⟩
            case round =>
              clear C0 HV2
              obtain ⟨q, hq, rfl, rfl, hV, hgr⟩ := hrel
              obtain ⟨wj, rfl⟩ : ∃ wj : World, wj = wr := ⟨_, rfl⟩
              by_cases hql : q < ps.length
              · obtain ⟨pb, po, rfl, p0, p1⟩ := pc_cells (HCQ2.out.keep0 hgr) q hql
                have hpp := hqpos.out _ (List.getElem_mem hql)
                have e := pc_get ps q hql
                have hct := cntP_take ps q hql K
                have hc0 := cntP_nonneg (ps.take q) K (fun x hx => hqpos.out x (List.mem_of_mem_take hx))
                have hcp := cntP_pre ps (q + 1) K hqpos.out
                rw [e] at hpp hct
                simp only at hpp hct
                obtain ⟨lot, hlot⟩ : ∃ s, s = pcLot ps q := ⟨_, rfl⟩
                obtain ⟨mn, hmn⟩ : ∃ s, s = pcMany ps q := ⟨_, rfl⟩
                rw [← hlot] at p0 hct
                rw [← hmn] at p1 hct hpp
                have v0 := blkC hV 0 rfl
                have hvl := lt_of_block hV
                have HV3 := Lib.hid ((Below.heap_alloc wj (.cells #[.string lot, .int .i64 mn] 94) T hvl).trans hV)
                have HGR := Lib.hid (gr_alloc hgr (.cells #[.string lot, .int .i64 mn] 94))
                obtain ⟨cq, hcq⟩ : ∃ s, s = cntP (ps.take q) K := ⟨_, rfl⟩
                rw [← hcq] at hct hc0
                rw [← hcq]
                clear e hlot hmn hV hgr hcq
                cases hb : (lot.toList == K.toList) with
                | true =>
                  rw [hb, if_pos rfl] at hct
                  have HCT := Lib.hid hct
                  have hbb : base + cq + mn ≤ 100000 := by omega
                  clear hct hcp
                  go_wp2_with (fail)
                  go_roundw
                  case rel => exact ⟨q + 1, by omega, by go_num, congrArg (Value.int .i64) (by rw [HCT.out]; omega), HV3.out, HGR.out⟩
                  case measure => simp [intOf]; omega
                | false =>
                  rw [hb, if_neg Bool.false_ne_true, Int.add_zero] at hct
                  have HCT := Lib.hid hct
                  clear hct hcp
                  go_wp2_with (fail)
                  go_roundw
                  case rel => exact ⟨q + 1, by omega, by go_num, congrArg (Value.int .i64) (by rw [HCT.out]), HV3.out, HGR.out⟩
                  case measure => simp [intOf]; omega
              · obtain rfl : q = ps.length := by omega
                rw [List.take_length]
                have HV3 := Lib.hid hV
                have HGR := Lib.hid (gr_trans HG4.out hgr)
                clear hV hgr
                go_wp2_with (fail)
                go_roundw
                case rel => exact ⟨t + 1, by omega, by go_num, congrArg (Value.int .i64) (by rw [HAT.out, HBA.out]; omega), HV3.out, HGR.out⟩
                case measure => simp [intOf]; omega
          · obtain rfl : t = ks.length := by omega
            rw [List.take_length, HSM.out]
            have v3 : wi.cell? ⟨T, 3, none⟩ = some (.int .i64 M) := blkC hV 3 rfl
            have HGR := Lib.hid hgr
            clear hV hgr
            go_wp2_with (fail)
            go_roundw
            case rel => exact ⟨k + 1, by omega, by go_num, HGR.out⟩
            case measure => simp [intOf]; omega
      · obtain rfl : k = X.length := by omega
        have HGR := Lib.hid hgr
        clear hgr
        go_wp2_with (fail)
        refine (stocks_any wo).mono ?_
        rintro e w17 ⟨rfl, g17⟩
        go_wp2_with (fail)
        go_ret
        exact ⟨rfl, gr_trans (gr_trans G7.out HGR.out) g17⟩
  · have hr1b : (r2 == 0) = false := by simpa using hr0
    clear HR2
    go_wp2_with (fail)
    refine (stocks_any w6).mono ?_
    rintro e w7 ⟨rfl, g7⟩
    go_wp2_with (fail)
    go_ret
    exact ⟨rfl, gr_trans (gr_trans HG5.out G6.out) g7⟩
end Go.Proofs.YtdjnomeabadbnaaDoor
