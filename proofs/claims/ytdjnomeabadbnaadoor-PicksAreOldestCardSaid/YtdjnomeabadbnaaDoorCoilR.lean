/- What is wrong with a coil: the reference. -/
import Derived.Test.YtdjnomeabadbnaaDoorCoilF
namespace Go.Proofs.YtdjnomeabadbnaaDoor
open Go.RowKit
attribute [local go_sem ↓] Go.wp_at_zero Go.wp_at_succ

set_option maxRecDepth 100000 in
set_option maxHeartbeats 4000000 in
theorem coilFault_any (co : Coil) (a : Option Addr) (c : Nat) (w : World) (h : CellsAt w a (flat encPc co.ps)) (hsm : CoilSm co) :
    Calls Tryd.prog 40 #[.agg #[.string co.prod, .int .i64 co.most, .slice a co.ps.length c]] w (CoilChk co w) := by
  have MK : Hid (∀ (P : ByteArray) (m : Int) (ps : List Piece), co = ⟨P, m, ps⟩ → keyB P = true → 0 ≤ m → m ≤ 1000 → ps.length ≤ 1000 → (∀ i, i < ps.length → PcOk ps i) → pcSum ps ≤ m → CoilOk co) := by
    intro P m ps e a1 a2 a3 a4 a5 a6; subst e; exact ⟨a1, a2, a3, a4, a5, a6⟩
  have UN : Hid (∀ (P : ByteArray) (m : Int) (ps : List Piece), co = ⟨P, m, ps⟩ → CoilOk co → keyB P = true ∧ 0 ≤ m ∧ m ≤ 1000 ∧ ps.length ≤ 1000 ∧ (∀ i, i < ps.length → PcOk ps i) ∧ pcSum ps ≤ m) := by
    intro P m ps e hh; subst e; exact ⟨hh.key, hh.m0, hh.m1, hh.len, hh.all, hh.sum⟩
  obtain ⟨s1, s2, s3⟩ := hsm
  obtain ⟨P, m, ps⟩ := co
  have MK := Lib.hid (MK.out P m ps rfl)
  have UN := Lib.hid (UN.out P m ps rfl)
  simp only at s1 s2 s3 h ⊢
  have hO := heap_alloc_new w (.cells #[.string P, .int .i64 m, .slice a ps.length c] 83)
  have hg := gr_alloc (gr_refl w none) (.cells #[.string P, .int .i64 m, .slice a ps.length c] 83)
  obtain ⟨w1, hw1⟩ : ∃ w1, w1 = w.alloc (.cells #[.string P, .int .i64 m, .slice a ps.length c] 83) := ⟨_, rfl⟩
  rw [← hw1] at hO hg
  obtain ⟨O, hOe⟩ : ∃ O, O = w.heap.size := ⟨_, rfl⟩
  rw [← hOe] at hO
  have HW := Lib.hid hw1
  have HOE := Lib.hid hOe
  have H := Lib.hid (h.keep0 hg)
  have HB := Lib.hid (sum_bound (ps.map Piece.many) (-100000) 100000 (by omega) (by omega) (pc_bd s3))
  have HS3 := Lib.hid s3
  have HG1 := Lib.hid hg
  have HO := Lib.hid hO
  have c0 := blkC hO 0 rfl
  have c1 := blkC hO 1 rfl
  have c2 := blkC hO 2 rfl
  clear h s3 hw1 hOe hO hg
  go_enter Tryd.func40, Tryd.ntmps40
  go_wp2_with (fail)
  rw [← HW.out, ← HOE.out]
  refine (keyOf_any P w1 (by omega)).mono ?_
  rintro e w2 ⟨rfl, g2⟩
  have hO2 := (g2.block O (lt_of_block HO.out) (by simp)).trans HO.out
  have HO := Lib.hid hO2
  have HG2 := Lib.hid (gr_trans HG1.out g2)
  have H := Lib.hid (H.out.keep0 g2)
  clear c0 c1 c2 HO
  have HO := Lib.hid hO2
  have c0 := blkC hO2 0 rfl
  have c1 := blkC hO2 1 rfl
  have c2 := blkC hO2 2 rfl
  clear hO2 g2 HG1 HW
  cases hk : keyB P with
  | false =>
    have HNO : Hid (¬ CoilOk ⟨P, m, ps⟩) := fun hh => by have := (UN.out hh).1; rw [hk] at this; cases this
    go_wp2_with (fail)
    go_ret
    exact coil_no 5 (by decide) HNO.out HG2.out
  | true =>
  have HKY := Lib.hid hk
  clear hk
  by_cases hm : m < 0 ∨ 1000 < m
  · have HNO : Hid (¬ CoilOk ⟨P, m, ps⟩) := fun hh => by have := UN.out hh; omega
    rcases hm with hd | hd
    · have e1 : decide (m < 0) = true := by simpa using hd
      go_wp2_with (fail)
      go_ret
      exact coil_no 1 (by decide) HNO.out HG2.out
    · have e1 : decide (m < 0) = false := by simp; omega
      have e2 : decide (1000 < m) = true := by simpa using hd
      go_wp2_with (fail)
      go_ret
      exact coil_no 1 (by decide) HNO.out HG2.out
  have hm0 : 0 ≤ m := by omega
  have hm1 : m ≤ 1000 := by omega
  have e1 : decide (m < 0) = false := by simp; omega
  have e2 : decide (1000 < m) = false := by simp; omega
  clear hm
  go_wp2_with (fail)
  clear e1 e2
  go_loopw [3, 28] (fun s i wr => ∃ k : Nat, k ≤ ps.length ∧ i = .int .i64 k ∧ s = .int .i64 ((ps.map Piece.many).take k).sum ∧ (∀ j, j < k → PcOk ps j) ∧ w2.grownBy wr none) (fun _ i _ => ps.length - (intOf i).toNat)
  case atStart => exact ⟨0, Nat.zero_le _, rfl, rfl, fun j hj => absurd hj (Nat.not_lt_zero _), gr_refl _ _⟩
  case round =>
    clear c0 c1 c2
    obtain ⟨k, hk, rfl, rfl, hall, hgr⟩ := hrel
    obtain ⟨wo, rfl⟩ : ∃ wo : World, wo = wr := ⟨_, rfl⟩
    have HALL := Lib.hid hall
    have bO := (hgr.block O (lt_of_block HO.out) (by simp)).trans HO.out
    have HGR := Lib.hid hgr
    clear hall
    by_cases hlt : k < ps.length
    · obtain ⟨b, off, rfl, d0, d1⟩ := pc_cells (H.out.keep0 hgr) k hlt
      have hs := pc_mem HS3.out k hlt
      have hprev : 0 < k → wo.cell? ⟨b, off + (k - 1) * 2, none⟩ = some (.string (pcLot ps (k - 1))) := by
        intro h0
        obtain ⟨b', off', e', y0, -⟩ := pc_cells (H.out.keep0 hgr) (k - 1) (by omega)
        cases e'
        exact y0
      have MKP : Hid (keyB (pcLot ps k) = true → 1 ≤ pcMany ps k → pcMany ps k ≤ 1000 → (0 < k → (pcLot ps k).toList ≠ (pcLot ps (k - 1)).toList) → PcOk ps k) := fun a1 a2 a3 a4 => ⟨a1, a2, a3, a4⟩
      have NOP : Hid (¬ (keyB (pcLot ps k) = true ∧ 1 ≤ pcMany ps k ∧ pcMany ps k ≤ 1000 ∧ (0 < k → (pcLot ps k).toList ≠ (pcLot ps (k - 1)).toList)) → ¬ CoilOk ⟨P, m, ps⟩) := fun hn hh => by
        have := (UN.out hh).2.2.2.2.1 k hlt
        exact hn ⟨this.key, this.lo, this.hi, this.ne⟩
      obtain ⟨b0, b1⟩ := HB.out k
      obtain ⟨b2, b3⟩ := HB.out (k + 1)
      have hnx := sum_next (ps.map Piece.many) k (by simpa using hlt)
      rw [pcMany_get ps k hlt] at hnx
      obtain ⟨K, hK⟩ : ∃ K, K = pcLot ps k := ⟨_, rfl⟩
      obtain ⟨x, hx⟩ : ∃ x, x = pcMany ps k := ⟨_, rfl⟩
      obtain ⟨K', hK'⟩ : ∃ K, K = pcLot ps (k - 1) := ⟨_, rfl⟩
      obtain ⟨s, hse⟩ : ∃ s, s = ((ps.map Piece.many).take k).sum := ⟨_, rfl⟩
      rw [← hK, ← hx] at hs
      rw [← hK] at d0 MKP NOP
      rw [← hx] at d1 MKP NOP hnx
      rw [← hK'] at hprev MKP NOP
      rw [← hse] at hnx b0 b1
      rw [← hse]
      rw [hnx] at b2 b3
      have HNX := Lib.hid hnx
      obtain ⟨hsK, hx0, hx1⟩ := hs
      have HPV := Lib.hid hprev
      clear hK hx hK' hprev hgr hse hnx
      go_wp2_with (fail)
      have hV := heap_alloc_new wo (.cells #[.string K, .int .i64 x] 94)
      have hg2 := gr_alloc (gr_refl wo none) (.cells #[.string K, .int .i64 x] 94)
      obtain ⟨w3, hw3⟩ : ∃ w3, w3 = wo.alloc (.cells #[.string K, .int .i64 x] 94) := ⟨_, rfl⟩
      rw [← hw3] at hV hg2
      rw [← hw3]
      obtain ⟨V, hVe⟩ : ∃ V, V = wo.heap.size := ⟨_, rfl⟩
      rw [← hVe] at hV
      rw [← hVe]
      clear hw3 hVe
      refine (keyOf_any K w3 (by omega)).mono ?_
      rintro e w4 ⟨rfl, g4⟩
      have hg24 := gr_trans hg2 g4
      have hV4 := (g4.block V (lt_of_block hV) (by simp)).trans hV
      have bO4 := (hg24.block O (lt_of_block bO) (by simp)).trans bO
      have c0 := blkC bO4 0 rfl
      have c1 := blkC bO4 1 rfl
      have c2 := blkC bO4 2 rfl
      have v0 := blkC hV4 0 rfl
      have v1 := blkC hV4 1 rfl
      have HPV4 : Hid (0 < k → w4.cell? ⟨b, off + (k - 1) * 2, none⟩ = some (.string K')) := fun h0 => (gr_cell hg24 (lt_of_cell (HPV.out h0))).trans (HPV.out h0)
      have HG4 := Lib.hid (gr_trans HG2.out (gr_trans HGR.out hg24))
      have HG24 := Lib.hid (gr_trans HGR.out hg24)
      clear hg2 g4 hg24 hV hV4 bO bO4 d0 d1 HPV
      cases hk1 : keyB K with
      | false =>
        have HNO : Hid (¬ CoilOk ⟨P, m, ps⟩) := NOP.out (fun hh => by have := hh.1; rw [hk1] at this; cases this)
        go_wp2_with (fail)
        go_ret
        exact coil_no 5 (by decide) HNO.out HG4.out
      | true =>
      have HK1 := Lib.hid hk1
      clear hk1
      by_cases hx2 : x < 1 ∨ 1000 < x
      · have HNO : Hid (¬ CoilOk ⟨P, m, ps⟩) := NOP.out (fun hh => by omega)
        rcases hx2 with hd | hd
        · have e1 : decide (x < 1) = true := by simpa using hd
          go_wp2_with (fail)
          go_ret
          exact coil_no 1 (by decide) HNO.out HG4.out
        · have e1 : decide (x < 1) = false := by simp; omega
          have e2 : decide (1000 < x) = true := by simpa using hd
          go_wp2_with (fail)
          go_ret
          exact coil_no 1 (by decide) HNO.out HG4.out
      have hx3 : 1 ≤ x := by omega
      have hx4 : x ≤ 1000 := by omega
      have e1 : decide (x < 1) = false := by simp; omega
      have e2 : decide (1000 < x) = false := by simp; omega
      clear hx2
      obtain ⟨bq, hbq⟩ : ∃ bq, bq = (decide (0 < k) && (K.toList == K'.toList)) := ⟨_, rfl⟩
      have HBQ := Lib.hid hbq
      clear hbq
      go_wp2_with (fail)
      go_cut [47] from 48 to 61 (fun s wx => s = .bool bq ∧ ∃ nx, wx = w4.drewN nx)
      case first =>
        clear e1 e2
        by_cases h0 : 0 < k
        · have m1 := HPV4.out h0
          have hkc : (((k - 1 : Nat)) : Int) = (k : Int) - 1 := by omega
          have hint1 : (0 : Int) ≤ (k : Int) - 1 := by omega
          have hint2 : (k : Int) - 1 < (ps.length : Int) := by omega
          have hint3 : (0 : Int) < (k : Int) := by omega
          have htn : ((k : Int) - 1).toNat = k - 1 := by omega
          have hwr : IntKind.i64.wrap ((k : Int) - 1) = (k : Int) - 1 := IntWalk.i64_in _ (by omega)
          have HB2 : Hid (bq = (K.toList == K'.toList)) := by show _ = _; rw [HBQ.out]; simp [h0]
          clear hkc
          go_quiet (fail)
          go_wp2_with (fail)
          go_meet
          exact ⟨by rw [HB2.out], _, rfl⟩
        · obtain rfl : k = 0 := by omega
          have hdf : decide ((0 : Int) < 0) = false := by decide
          have HB2 : Hid (bq = false) := by show _ = _; rw [HBQ.out]; simp
          go_quiet (fail)
          go_wp2_with (fail)
          go_meet
          exact ⟨by rw [HB2.out], _, rfl⟩
      case rest =>
      obtain ⟨rfl, nq, rfl⟩ := hcut
      have HG5 := Lib.hid (gr_drewN HG4.out nq)
      have HG25 := Lib.hid (gr_drewN HG24.out nq)
      cases bq with
      | true =>
        have HNO : Hid (¬ CoilOk ⟨P, m, ps⟩) := NOP.out (fun hh => by
          have h2 := HBQ.out
          simp only [Bool.true_eq, Bool.and_eq_true, decide_eq_true_eq, beq_iff_eq] at h2
          exact hh.2.2.2 h2.1 h2.2)
        go_wp2_with (fail)
        go_ret
        exact coil_no 3 (by decide) HNO.out HG5.out
      | false =>
        have HPK : Hid (PcOk ps k) := MKP.out HK1.out hx3 hx4 (fun h0 e => by
          have h2 := HBQ.out
          simp [h0, e] at h2)
        go_wp2_with (fail)
        go_roundw
        case rel =>
          refine ⟨k + 1, by omega, by go_num, by rw [HNX.out], fun j hj => ?_, HG25.out⟩
          by_cases hjk : j = k
          · rw [hjk]; exact HPK.out
          · exact HALL.out j (by omega)
        case measure => simp [intOf]; omega
    · obtain rfl : k = ps.length := by omega
      have c0 := blkC bO 0 rfl
      have c1 := blkC bO 1 rfl
      have c2 := blkC bO 2 rfl
      have hfin : Hid (((ps.map Piece.many).take ps.length).sum = pcSum ps) := by show _ = _; rw [List.take_of_length_le (by simp)]; rfl
      rw [hfin.out]
      obtain ⟨S, hS⟩ : ∃ S, S = pcSum ps := ⟨_, rfl⟩
      rw [← hS] at MK UN
      rw [← hS]
      have gq := gr_trans HG2.out HGR.out
      clear hgr bO hS hfin
      by_cases hsum : m < S
      · have HNO : Hid (¬ CoilOk ⟨P, m, ps⟩) := fun hh => by have := (UN.out hh).2.2.2.2.2; omega
        go_wp2_with (fail)
        go_ret
        exact coil_no 12 (by decide) HNO.out gq
      · have HOK : Hid (CoilOk ⟨P, m, ps⟩) := MK.out HKY.out hm0 hm1 s2 HALL.out (by omega)
        go_wp2_with (fail)
        go_ret
        exact ⟨0, rfl, ⟨fun _ => HOK.out, fun _ => rfl⟩, gq⟩
end Go.Proofs.YtdjnomeabadbnaaDoor
