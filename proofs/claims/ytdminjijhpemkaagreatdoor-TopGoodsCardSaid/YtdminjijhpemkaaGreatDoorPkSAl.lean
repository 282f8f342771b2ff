/- What is wrong with a coil: package stock. -/
import Derived.Test.YtdminjijhpemkaaGreatDoorPkSAh
import Derived.Test.YtdminjijhpemkaaGreatDoorPkSAj
import Derived.Test.YtdminjijhpemkaaGreatDoorPkSAk
import Derived.Test.YtdminjijhpemkaaGreatDoorPkSAa
import Derived.WalkLawsBesides
import Derived.IntWalk
namespace Go.Proofs.YtdminjijhpemkaaGreatDoor
open Go.RowKit
attribute [local go_sem ↓] Go.wp_at_zero Go.wp_at_succ

def pcMany (ps : List Piece) (i : Nat) : Int := (ps.getD i ⟨⟨#[]⟩, 0⟩).many
def pcLot (ps : List Piece) (i : Nat) : ByteArray := (ps.getD i ⟨⟨#[]⟩, 0⟩).lot
def pcSum (ps : List Piece) : Int := (ps.map Piece.many).sum
structure PcOk (ps : List Piece) (i : Nat) : Prop where
  key : keyB (pcLot ps i) = true
  lo : 1 ≤ pcMany ps i
  hi : pcMany ps i ≤ 1000
  ne : 0 < i → (pcLot ps i).toList ≠ (pcLot ps (i - 1)).toList
structure CoilOk (c : Coil) : Prop where
  key : keyB c.prod = true
  m0 : 0 ≤ c.most
  m1 : c.most ≤ 1000
  len : c.ps.length ≤ 1000
  all : ∀ i, i < c.ps.length → PcOk c.ps i
  sum : pcSum c.ps ≤ c.most
/-- Sizes that every coil of the stream has. -/
structure CoilSm (c : Coil) : Prop where
  prod : c.prod.size ≤ 1000
  len : c.ps.length ≤ 1000
  all : ∀ x ∈ c.ps, x.lot.size ≤ 1000 ∧ -100000 ≤ x.many ∧ x.many ≤ 100000
theorem pc_cells {w : World} {a : Option Addr} {ps : List Piece} (h : CellsAt w a (flat encPc ps)) (k : Nat) (hk : k < ps.length) :
    ∃ b off, a = some ⟨b, off, none⟩ ∧ w.cell? ⟨b, off + k * 2, none⟩ = some (.string (pcLot ps k)) ∧ w.cell? ⟨b, off + k * 2 + 1, none⟩ = some (.int .i64 (pcMany ps k)) := by
  obtain ⟨b, off, rfl, hcs⟩ := flat_cells encPc_len (by decide) h (by omega)
  have e : ps.getD k ⟨⟨#[]⟩, 0⟩ = ps[k] := getD_eq ps k _ hk
  refine ⟨b, off, rfl, ?_, ?_⟩
  · unfold pcLot; rw [e]; exact hcs k hk 0 _ rfl
  · unfold pcMany; rw [e]; exact hcs k hk 1 _ rfl
theorem pc_mem {P : Piece → Prop} {ps : List Piece} (h : ∀ x ∈ ps, P x) (k : Nat) (hk : k < ps.length) : P ⟨pcLot ps k, pcMany ps k⟩ := by
  have e : ps.getD k ⟨⟨#[]⟩, 0⟩ = ps[k] := getD_eq ps k _ hk
  unfold pcLot pcMany
  rw [e]
  exact h _ (List.getElem_mem hk)
theorem pcMany_get (ps : List Piece) (k : Nat) (hk : k < ps.length) : (ps.map Piece.many).getD k 0 = pcMany ps k := by
  unfold pcMany
  rw [List.getD_eq_getElem?_getD, List.getD_eq_getElem?_getD, List.getElem?_map, List.getElem?_eq_getElem hk]
  rfl
theorem pc_bd {ps : List Piece} (h : ∀ x ∈ ps, x.lot.size ≤ 1000 ∧ -100000 ≤ x.many ∧ x.many ≤ 100000) : ∀ y ∈ ps.map Piece.many, (-100000 : Int) ≤ y ∧ y ≤ 100000 := by
  intro y hy
  obtain ⟨x, hx, rfl⟩ := List.mem_map.1 hy
  exact (h x hx).2
set_option maxRecDepth 100000 in
set_option maxHeartbeats 1000000 in
theorem units_any (ps : List Piece) (a : Option Addr) (c : Nat) (w : World) (h : CellsAt w a (flat encPc ps)) (hl : ps.length ≤ 1000000) (hb : ∀ x ∈ ps, x.lot.size ≤ 1000 ∧ -100000 ≤ x.many ∧ x.many ≤ 100000) :
    Calls Tryz.prog 56 #[.slice a ps.length c] w fun e w' => e = .returned (.int .i64 (pcSum ps)) ∧ w.grownBy w' none := by
  have HB := Lib.hid (sum_bound (ps.map Piece.many) (-100000) 100000 (by omega) (by omega) (pc_bd hb))
  have H := Lib.hid h
  clear hb h
  go_enter Tryz.func56, Tryz.ntmps56
  go_wp2_with (fail)
  go_loopw [3, 8] (fun s i wr => ∃ k : Nat, k ≤ ps.length ∧ i = .int .i64 k ∧ s = .int .i64 ((ps.map Piece.many).take k).sum ∧ w.grownBy wr none) (fun _ i _ => ps.length - (intOf i).toNat)
  case atStart => exact ⟨0, Nat.zero_le _, rfl, rfl, gr_refl _ _⟩
  case round =>
    obtain ⟨k, hk, rfl, rfl, hgr⟩ := hrel
    obtain ⟨wo, rfl⟩ : ∃ wo : World, wo = wr := ⟨_, rfl⟩
    by_cases hlt : k < ps.length
    · obtain ⟨b, off, rfl, d0, d1⟩ := pc_cells (H.out.keep0 hgr) k hlt
      obtain ⟨b0, b1⟩ := HB.out k
      obtain ⟨b2, b3⟩ := HB.out (k + 1)
      have hnx := sum_next (ps.map Piece.many) k (by simpa using hlt)
      rw [pcMany_get ps k hlt] at hnx
      obtain ⟨x, hx⟩ : ∃ x, x = pcMany ps k := ⟨_, rfl⟩
      obtain ⟨K, hK⟩ : ∃ K, K = pcLot ps k := ⟨_, rfl⟩
      obtain ⟨s, hs⟩ : ∃ s, s = ((ps.map Piece.many).take k).sum := ⟨_, rfl⟩
      rw [← hx] at d1 hnx
      rw [← hK] at d0
      rw [← hs] at hnx b0 b1
      rw [← hs]
      rw [hnx] at b2 b3
      have HNX := Lib.hid hnx
      have HG := Lib.hid hgr
      clear hnx hx hK hs hgr
      go_wp2_with (fail)
      go_roundw
      case rel => exact ⟨k + 1, by omega, by go_num, by rw [HNX.out], gr_alloc HG.out _⟩
      case measure => simp [intOf]; omega
    · obtain rfl : k = ps.length := by omega
      have hfin : Hid (((ps.map Piece.many).take ps.length).sum = pcSum ps) := by show _ = _; rw [List.take_of_length_le (by simp)]; rfl
      go_wp2_with (fail)
      go_ret
      exact ⟨ret_int hfin.out, hgr⟩
def CoilChk (c : Coil) (w : World) (e : Ending) (w' : World) : Prop := ∃ r : Int, e = .returned (.int .i64 r) ∧ (r = 0 ↔ CoilOk c) ∧ w.grownBy w' none
theorem coil_no {c : Coil} {w w' : World} (r : Int) (hr : r ≠ 0) (h : ¬ CoilOk c) (g : w.grownBy w' none) : CoilChk c w (.returned (.int .i64 r)) w' := ⟨r, rfl, ⟨fun e => absurd e hr, fun e => absurd e h⟩, g⟩
set_option maxRecDepth 100000 in
set_option maxHeartbeats 4000000 in
theorem checkCoil_any (co : Coil) (a : Option Addr) (c : Nat) (w : World) (h : CellsAt w a (flat encPc co.ps)) (hsm : CoilSm co) :
    Calls Tryz.prog 55 #[.agg #[.string co.prod, .int .i64 co.most, .slice a co.ps.length c]] w (CoilChk co w) := by
  have MK : Hid (∀ (P : ByteArray) (m : Int) (ps : List Piece), co = ⟨P, m, ps⟩ → keyB P = true → 0 ≤ m → m ≤ 1000 → ps.length ≤ 1000 → (∀ i, i < ps.length → PcOk ps i) → pcSum ps ≤ m → CoilOk co) := by
    intro P m ps e a1 a2 a3 a4 a5 a6; subst e; exact ⟨a1, a2, a3, a4, a5, a6⟩
  have UN : Hid (∀ (P : ByteArray) (m : Int) (ps : List Piece), co = ⟨P, m, ps⟩ → CoilOk co → keyB P = true ∧ 0 ≤ m ∧ m ≤ 1000 ∧ ps.length ≤ 1000 ∧ (∀ i, i < ps.length → PcOk ps i) ∧ pcSum ps ≤ m) := by
    intro P m ps e hh; subst e; exact ⟨hh.key, hh.m0, hh.m1, hh.len, hh.all, hh.sum⟩
  obtain ⟨s1, s2, s3⟩ := hsm
  obtain ⟨P, m, ps⟩ := co
  have MK := Lib.hid (MK.out P m ps rfl)
  have UN := Lib.hid (UN.out P m ps rfl)
  simp only at s1 s2 s3 h ⊢
  have hO := heap_alloc_new w (.cells #[.string P, .int .i64 m, .slice a ps.length c] 44)
  have hg := gr_alloc (gr_refl w none) (.cells #[.string P, .int .i64 m, .slice a ps.length c] 44)
  obtain ⟨w1, hw1⟩ : ∃ w1, w1 = w.alloc (.cells #[.string P, .int .i64 m, .slice a ps.length c] 44) := ⟨_, rfl⟩
  rw [← hw1] at hO hg
  obtain ⟨O, hOe⟩ : ∃ O, O = w.heap.size := ⟨_, rfl⟩
  rw [← hOe] at hO
  have HW := Lib.hid hw1
  have HOE := Lib.hid hOe
  have H := Lib.hid (h.keep0 hg)
  have HS3 := Lib.hid s3
  have HG1 := Lib.hid hg
  have HO := Lib.hid hO
  have c0 := blkC hO 0 rfl
  have c1 := blkC hO 1 rfl
  have c2 := blkC hO 2 rfl
  clear h s3 hw1 hOe hO hg
  go_enter Tryz.func55, Tryz.ntmps55
  go_wp2_with (fail)
  rw [← HW.out, ← HOE.out]
  refine (key_any P w1 (by omega)).mono ?_
  rintro e w2 ⟨rfl, rfl⟩
  cases hk : keyB P with
  | false =>
    have HNO : Hid (¬ CoilOk ⟨P, m, ps⟩) := fun hh => by have := (UN.out hh).1; rw [hk] at this; cases this
    go_wp2_with (fail)
    go_ret
    exact coil_no 5 (by decide) HNO.out HG1.out
  | true =>
  have HKY := Lib.hid hk
  clear hk
  go_wp2_with (fail)
  refine (out_any m 0 1000 w1).mono ?_
  rintro e w2 ⟨rfl, rfl⟩
  by_cases hm : m < 0 ∨ 1000 < m
  · have HNO : Hid (¬ CoilOk ⟨P, m, ps⟩) := fun hh => by have := UN.out hh; omega
    have hb : (decide (m < 0) || decide (1000 < m)) = true := by rcases hm with h | h <;> simp [h]
    rw [hb]
    clear hm hb
    go_wp2_with (fail)
    go_ret
    exact coil_no 1 (by decide) HNO.out HG1.out
  have hm0 : 0 ≤ m := by omega
  have hm1 : m ≤ 1000 := by omega
  have hb : (decide (m < 0) || decide (1000 < m)) = false := by simp; omega
  rw [hb]
  clear hm hb
  go_wp2_with (fail)
  go_loopw [22] (fun i wr => ∃ k : Nat, k ≤ ps.length ∧ i = .int .i64 k ∧ (∀ j, j < k → PcOk ps j) ∧ w1.grownBy wr none) (fun i _ => ps.length - (intOf i).toNat)
  case atStart => exact ⟨0, Nat.zero_le _, rfl, fun j hj => absurd hj (Nat.not_lt_zero _), gr_refl _ _⟩
  case round =>
    clear c0 c1 c2
    obtain ⟨k, hk, rfl, hall, hgr⟩ := hrel
    obtain ⟨wo, rfl⟩ : ∃ wo : World, wo = wr := ⟨_, rfl⟩
    have HALL := Lib.hid hall
    have bO := (hgr.block O (lt_of_block HO.out) (by simp)).trans HO.out
    have HGR := Lib.hid hgr
    clear hall
    by_cases hlt : k < ps.length
    · obtain ⟨b, off, rfl, d0, d1⟩ := pc_cells (H.out.keep0 hgr) k hlt
      have hs := pc_mem HS3.out k hlt
      have hprev : 0 < k → wo.cell? ⟨b, off + (k - 1) * 2, none⟩ = some (.string (pcLot ps (k - 1))) := by
        intro h0
        obtain ⟨b', off', e', y0, -⟩ := pc_cells (H.out.keep0 hgr) (k - 1) (by omega)
        cases e'
        exact y0
      have MKP : Hid (keyB (pcLot ps k) = true → 1 ≤ pcMany ps k → pcMany ps k ≤ 1000 → (0 < k → (pcLot ps k).toList ≠ (pcLot ps (k - 1)).toList) → PcOk ps k) := fun a1 a2 a3 a4 => ⟨a1, a2, a3, a4⟩
      have NOP : Hid (¬ (keyB (pcLot ps k) = true ∧ 1 ≤ pcMany ps k ∧ pcMany ps k ≤ 1000 ∧ (0 < k → (pcLot ps k).toList ≠ (pcLot ps (k - 1)).toList)) → ¬ CoilOk ⟨P, m, ps⟩) := fun hn hh => by
        have := (UN.out hh).2.2.2.2.1 k hlt
        exact hn ⟨this.key, this.lo, this.hi, this.ne⟩
      obtain ⟨K, hK⟩ : ∃ K, K = pcLot ps k := ⟨_, rfl⟩
      obtain ⟨x, hx⟩ : ∃ x, x = pcMany ps k := ⟨_, rfl⟩
      obtain ⟨K', hK'⟩ : ∃ K, K = pcLot ps (k - 1) := ⟨_, rfl⟩
      rw [← hK, ← hx] at hs
      rw [← hK] at d0 MKP NOP
      rw [← hx] at d1 MKP NOP
      rw [← hK'] at hprev MKP NOP
      obtain ⟨hsK, hx0, hx1⟩ := hs
      have HPV := Lib.hid hprev
      clear hK hx hK' hprev hgr
      go_wp2_with (fail)
      have hV := heap_alloc_new wo (.cells #[.string K, .int .i64 x] 53)
      have hg2 := gr_alloc (gr_refl wo none) (.cells #[.string K, .int .i64 x] 53)
      obtain ⟨w3, hw3⟩ : ∃ w3, w3 = wo.alloc (.cells #[.string K, .int .i64 x] 53) := ⟨_, rfl⟩
      rw [← hw3] at hV hg2
      rw [← hw3]
      obtain ⟨V, hVe⟩ : ∃ V, V = wo.heap.size := ⟨_, rfl⟩
      rw [← hVe] at hV
      rw [← hVe]
      have bO3 := (hg2.block O (lt_of_block bO) (by simp)).trans bO
      have c0 := blkC bO3 0 rfl
      have c1 := blkC bO3 1 rfl
      have c2 := blkC bO3 2 rfl
      have v0 := blkC hV 0 rfl
      have v1 := blkC hV 1 rfl
      have HPV3 : Hid (0 < k → w3.cell? ⟨b, off + (k - 1) * 2, none⟩ = some (.string K')) := fun h0 => (gr_cell hg2 (lt_of_cell (HPV.out h0))).trans (HPV.out h0)
      have HG3 := Lib.hid (gr_trans HG1.out (gr_trans HGR.out hg2))
      have HG13 := Lib.hid (gr_trans HGR.out hg2)
      clear hw3 hVe hg2 hV bO bO3 d0 d1 HPV
      refine (key_any K w3 (by omega)).mono ?_
      rintro e w4 ⟨rfl, rfl⟩
      cases hk1 : keyB K with
      | false =>
        have HNO : Hid (¬ CoilOk ⟨P, m, ps⟩) := NOP.out (fun hh => by have := hh.1; rw [hk1] at this; cases this)
        go_wp2_with (fail)
        go_ret
        exact coil_no 5 (by decide) HNO.out HG3.out
      | true =>
      have HK1 := Lib.hid hk1
      clear hk1
      go_wp2_with (fail)
      refine (out_any x 1 1000 w3).mono ?_
      rintro e w4 ⟨rfl, rfl⟩
      by_cases hx2 : x < 1 ∨ 1000 < x
      · have HNO : Hid (¬ CoilOk ⟨P, m, ps⟩) := NOP.out (fun hh => by omega)
        have hb : (decide (x < 1) || decide (1000 < x)) = true := by rcases hx2 with h | h <;> simp [h]
        rw [hb]
        clear hx2 hb
        go_wp2_with (fail)
        go_ret
        exact coil_no 1 (by decide) HNO.out HG3.out
      have hx3 : 1 ≤ x := by omega
      have hx4 : x ≤ 1000 := by omega
      have hb : (decide (x < 1) || decide (1000 < x)) = false := by simp; omega
      rw [hb]
      clear hx2 hb
      obtain ⟨bq, hbq⟩ : ∃ bq, bq = (decide (0 < k) && (K.toList == K'.toList)) := ⟨_, rfl⟩
      have HBQ := Lib.hid hbq
      clear hbq
      go_wp2_with (fail)
      go_cut [36] from 37 to 50 (fun s wx => s = .bool bq ∧ ∃ nx, wx = w3.drewN nx)
      case first =>
        by_cases h0 : 0 < k
        · have m1 := HPV3.out h0
          have hkc : (((k - 1 : Nat)) : Int) = (k : Int) - 1 := by omega
          have hint1 : (0 : Int) ≤ (k : Int) - 1 := by omega
          have hint2 : (k : Int) - 1 < (ps.length : Int) := by omega
          have hint3 : (0 : Int) < (k : Int) := by omega
          have htn : ((k : Int) - 1).toNat = k - 1 := by omega
          have hwr : IntKind.i64.wrap ((k : Int) - 1) = (k : Int) - 1 := IntWalk.i64_in _ (by omega)
          have HB2 : Hid (bq = (K.toList == K'.toList)) := by show _ = _; rw [HBQ.out]; simp [h0]
          clear hkc
          go_quiet (fail)
          go_wp2_with (fail)
          go_meet
          exact ⟨by rw [HB2.out], _, rfl⟩
        · obtain rfl : k = 0 := by omega
          have hdf : decide ((0 : Int) < 0) = false := by decide
          have HB2 : Hid (bq = false) := by show _ = _; rw [HBQ.out]; simp
          go_quiet (fail)
          go_wp2_with (fail)
          go_meet
          exact ⟨by rw [HB2.out], _, rfl⟩
      case rest =>
      obtain ⟨rfl, nq, rfl⟩ := hcut
      have HG4 := Lib.hid (gr_drewN HG3.out nq)
      have HG14 := Lib.hid (gr_drewN HG13.out nq)
      cases bq with
      | true =>
        have HNO : Hid (¬ CoilOk ⟨P, m, ps⟩) := NOP.out (fun hh => by
          have h2 := HBQ.out
          simp only [Bool.true_eq, Bool.and_eq_true, decide_eq_true_eq, beq_iff_eq] at h2
          exact hh.2.2.2 h2.1 h2.2)
        go_wp2_with (fail)
        go_ret
        exact coil_no 3 (by decide) HNO.out HG4.out
      | false =>
        have HPK : Hid (PcOk ps k) := MKP.out HK1.out hx3 hx4 (fun h0 e => by
          have h2 := HBQ.out
          simp [h0, e] at h2)
        go_wp2_with (fail)
        go_roundw
        case rel =>
          refine ⟨k + 1, by omega, by go_num, fun j hj => ?_, HG14.out⟩
          by_cases hjk : j = k
          · rw [hjk]; exact HPK.out
          · exact HALL.out j (by omega)
        case measure => simp [intOf]; omega
    · obtain rfl : k = ps.length := by omega
      have c0 := blkC bO 0 rfl
      have c1 := blkC bO 1 rfl
      have c2 := blkC bO 2 rfl
      have x0 := grew_cell c0
      have x1 := grew_cell c1
      have x2 := grew_cell c2
      have UA : Hid (∀ W, wo.grownBy W none → Calls Tryz.prog 56 #[.slice a ps.length c] W fun e w' => e = .returned (.int .i64 (pcSum ps)) ∧ W.grownBy w' none) := fun W g => units_any ps a c W ((H.out.keep0 hgr).keep0 g) (by omega) HS3.out
      obtain ⟨S, hS⟩ : ∃ S, S = pcSum ps := ⟨_, rfl⟩
      rw [← hS] at UA MK UN
      clear hgr bO hS
      go_wp2_with (fail)
      refine wp_region_grew (by kernel_rfl) (by kernel_rfl) ?_
      repeat (go_big_quiet_step (first | (go_at_call 56; exact Calls.grew_of (fun W g => UA.out W g))))
      refine wpQuiet_nil ?_
      rintro wq ⟨n, rfl⟩
      have gq := gr_trans HG1.out (gr_trans HGR.out n.gr)
      clear x0 x1 x2
      by_cases hsum : m < S
      · have HNO : Hid (¬ CoilOk ⟨P, m, ps⟩) := fun hh => by have := (UN.out hh).2.2.2.2.2; omega
        go_wp2_with (fail)
        go_ret
        exact coil_no 12 (by decide) HNO.out gq
      · have HOK : Hid (CoilOk ⟨P, m, ps⟩) := MK.out HKY.out hm0 hm1 s2 HALL.out (by omega)
        go_wp2_with (fail)
        go_ret
        exact ⟨0, rfl, ⟨fun _ => HOK.out, fun _ => rfl⟩, gq⟩
end Go.Proofs.YtdminjijhpemkaaGreatDoor

/-! What is wrong with a coil: the reference. -/
namespace Go.Proofs.YtdminjijhpemkaaGreatDoor
open Go.RowKit
attribute [local go_sem ↓] Go.wp_at_zero Go.wp_at_succ

end Go.Proofs.YtdminjijhpemkaaGreatDoor

/-! Lots that are right pass; where a lot is; what a store of one lot counts. -/
namespace Go.Proofs.YtdminjijhpemkaaGreatDoor
open Go.RowKit
attribute [local go_sem ↓] Go.wp_at_zero Go.wp_at_succ

def leS (a b : ByteArray) : Bool := Op.bytesLess a.toList b.toList || a.toList == b.toList
structure LotOk (x : Lot) : Prop where
  id : keyB x.id = true
  ids : x.id.size ≤ 1000
  prod : keyB x.prod = true
  prods : x.prod.size ≤ 1000
  e0 : 0 ≤ x.exp
  e1 : x.exp ≤ 4000
  m0 : 0 ≤ x.many
  m1 : x.many ≤ 100000
structure LotsOk (xs : List Lot) : Prop where
  len : xs.length ≤ 500
  all : ∀ x ∈ xs, LotOk x
  up : ∀ i (h0 : 0 < i) (h : i < xs.length), leS xs[i].id (xs[i - 1]'(by omega)).id = false
theorem dayL_any (n : Int) (w : World) : Calls Tryz.prog 95 #[.int .i64 n] w fun e w' => e = .returned (.bool (!(decide (n < 0) || decide (4000 < n)))) ∧ w = w' := by
  go_enter Tryz.func95, Tryz.ntmps95
  go_wp2_with (fail)
  refine (out_any n 0 4000 w).mono ?_
  rintro e w2 ⟨rfl, rfl⟩
  obtain ⟨b, hb⟩ : ∃ b, b = (decide (n < 0) || decide (4000 < n)) := ⟨_, rfl⟩
  rw [← hb]
  have HB := Lib.hid hb
  clear hb
  go_wp2_with (fail)
  go_ret
  exact ⟨ret_bool (by rw [HB.out]), rfl⟩
theorem lot_cells {w : World} {a : Option Addr} {xs : List Lot} (h : CellsAt w a (flat encLot xs)) (k : Nat) (hk : k < xs.length) :
    ∃ b off, a = some ⟨b, off, none⟩ ∧ w.cell? ⟨b, off + k * 4, none⟩ = some (.string xs[k].id) ∧ w.cell? ⟨b, off + k * 4 + 1, none⟩ = some (.string xs[k].prod) ∧ w.cell? ⟨b, off + k * 4 + 2, none⟩ = some (.int .i64 xs[k].exp) ∧ w.cell? ⟨b, off + k * 4 + 3, none⟩ = some (.int .i64 xs[k].many) := by
  obtain ⟨b, off, rfl, hcs⟩ := flat_cells encLot_len (by decide) h (by omega)
  exact ⟨b, off, rfl, hcs k hk 0 _ rfl, hcs k hk 1 _ rfl, hcs k hk 2 _ rfl, hcs k hk 3 _ rfl⟩
set_option maxRecDepth 100000 in
set_option maxHeartbeats 1000000 in
theorem lotFault_ok (x : Lot) (w : World) (h : LotOk x) :
    Calls Tryz.prog 141 #[.agg #[.string x.id, .string x.prod, .int .i64 x.exp, .int .i64 x.many]] w fun e w' => e = .returned (.int .i64 0) ∧ w.grownBy w' none := by
  obtain ⟨-, -, h1, h2, h3, h4, h5, h6⟩ := h
  obtain ⟨i, p, e, m⟩ := x
  simp only at h1 h2 h3 h4 h5 h6 ⊢
  have H1 := Lib.hid h1
  clear h1
  go_enter Tryz.func141, Tryz.ntmps141
  go_wp2_with (fail)
  have hg := gr_alloc (gr_refl w none) (.cells #[.string i, .string p, .int .i64 e, .int .i64 m] 39)
  refine (key_any p _ (by omega)).mono ?_
  rintro _ w2 ⟨rfl, rfl⟩
  rw [H1.out]
  go_wp2_with (fail)
  refine (dayL_any e _).mono ?_
  rintro _ w2 ⟨rfl, rfl⟩
  have e1 : (!(decide (e < 0) || decide (4000 < e))) = true := by simp; omega
  rw [e1]
  go_wp2_with (fail)
  refine (out_any m 0 100000 _).mono ?_
  rintro _ w2 ⟨rfl, rfl⟩
  have e2 : (decide (m < 0) || decide (100000 < m)) = false := by simp; omega
  rw [e2]
  go_wp2_with (fail)
  go_ret
  exact ⟨rfl, hg⟩
set_option maxRecDepth 100000 in
set_option maxHeartbeats 2000000 in
theorem checkLots_ok (xs : List Lot) (a : Option Addr) (c : Nat) (w : World) (h : CellsAt w a (flat encLot xs)) (hok : LotsOk xs) :
    Calls Tryz.prog 93 #[.slice a xs.length c] w fun e w' => e = .returned (.int .i64 0) ∧ w.grownBy w' none := by
  have hl := hok.len
  have HK := Lib.hid hok
  have H := Lib.hid h
  clear hok h
  go_enter Tryz.func93, Tryz.ntmps93
  go_wp2_with (fail)
  go_loopw [11] (fun i wr => ∃ k : Nat, k ≤ xs.length ∧ i = .int .i64 k ∧ w.grownBy wr none) (fun i _ => xs.length - (intOf i).toNat)
  case atStart => exact ⟨0, Nat.zero_le _, rfl, gr_refl _ _⟩
  case round =>
    obtain ⟨k, hk, rfl, hgr⟩ := hrel
    obtain ⟨wo, rfl⟩ : ∃ wo : World, wo = wr := ⟨_, rfl⟩
    by_cases hlt : k < xs.length
    · obtain ⟨b, off, rfl, d0, d1, d2, d3⟩ := lot_cells (H.out.keep0 hgr) k hlt
      have hlo := HK.out.all xs[k] (List.getElem_mem hlt)
      have hul := HK.out.up k
      have hprev : 0 < k → ∃ y : ByteArray, wo.cell? ⟨b, off + (k - 1) * 4, none⟩ = some (.string y) ∧ leS xs[k].id y = false := by
        intro h0
        obtain ⟨b', off', e', y0, -⟩ := lot_cells (H.out.keep0 hgr) (k - 1) (by omega)
        cases e'
        exact ⟨_, y0, hul h0 hlt⟩
      obtain ⟨x, hx⟩ : ∃ x, x = xs[k] := ⟨_, rfl⟩
      rw [← hx] at d0 d1 d2 d3 hlo hprev
      obtain ⟨K, P, E, M⟩ := x
      simp only at d0 d1 d2 d3 hlo hprev
      have HLO := Lib.hid hlo
      have HPV := Lib.hid hprev
      have hKs := hlo.ids
      simp only at hKs
      have HGR := Lib.hid hgr
      clear hx hlo hprev hul hgr
      go_wp2_with (fail)
      have hV := heap_alloc_new wo (.cells #[.string K, .string P, .int .i64 E, .int .i64 M] 39)
      have hg2 := gr_alloc (gr_refl wo none) (.cells #[.string K, .string P, .int .i64 E, .int .i64 M] 39)
      obtain ⟨w3, hw3⟩ : ∃ w3, w3 = wo.alloc (.cells #[.string K, .string P, .int .i64 E, .int .i64 M] 39) := ⟨_, rfl⟩
      rw [← hw3] at hV hg2
      rw [← hw3]
      obtain ⟨V, hVe⟩ : ∃ V, V = wo.heap.size := ⟨_, rfl⟩
      rw [← hVe] at hV
      rw [← hVe]
      clear hw3 hVe
      refine (key_any K w3 (by omega)).mono ?_
      rintro _ w4 ⟨rfl, rfl⟩
      rw [HLO.out.id]
      have g34 := gr_refl w3 none
      have hg24 := hg2
      obtain ⟨v0, v1, v2, v3⟩ := blk4 hV
      have HPV4 : Hid (0 < k → ∃ y : ByteArray, w3.cell? ⟨b, off + (k - 1) * 4, none⟩ = some (.string y) ∧ leS K y = false) := fun h0 => by
        obtain ⟨y, hy, hle⟩ := HPV.out h0
        exact ⟨y, (gr_cell hg24 (lt_of_cell hy)).trans hy, hle⟩
      have HG24 := Lib.hid (gr_trans HGR.out hg24)
      clear hg2 hg24 g34 hV d0 d1 d2 d3 HPV
      go_wp2_with (fail)
      go_cut [32] from 20 to 31 (fun s wx => s = .bool false ∧ ∃ nx, wx = w3.drewN nx)
      case first =>
        by_cases h0 : 0 < k
        · obtain ⟨y, m1, hle⟩ := HPV4.out h0
          have hle2 : (Op.bytesLess K.toList y.toList || K.toList == y.toList) = false := hle
          have hkc : (((k - 1 : Nat)) : Int) = (k : Int) - 1 := by omega
          have hint1 : (0 : Int) ≤ (k : Int) - 1 := by omega
          have hint2 : (k : Int) - 1 < (xs.length : Int) := by omega
          have hint3 : (0 : Int) < (k : Int) := by omega
          have htn : ((k : Int) - 1).toNat = k - 1 := by omega
          have hwr : IntKind.i64.wrap ((k : Int) - 1) = (k : Int) - 1 := IntWalk.i64_in _ (by omega)
          clear hkc hle
          go_quiet (fail)
          go_wp2_with (fail)
          go_meet
          exact ⟨rfl, _, rfl⟩
        · obtain rfl : k = 0 := by omega
          have hdf : decide ((0 : Int) < 0) = false := by decide
          go_quiet (fail)
          go_wp2_with (fail)
          go_meet
          exact ⟨rfl, _, rfl⟩
      case rest =>
      obtain ⟨rfl, nq, rfl⟩ := hcut
      have LF := Lib.hid (lotFault_ok ⟨K, P, E, M⟩ (w3.drewN nq) HLO.out)
      have HGQ := Lib.hid (gr_drewN HG24.out nq)
      go_wp2_with (fail)
      refine LF.out.mono ?_
      rintro _ w5 ⟨rfl, g5⟩
      have g5 := gr_trans HGQ.out g5
      go_wp2_with (fail)
      go_roundw
      case rel => exact ⟨k + 1, by omega, by go_num, g5⟩
      case measure => simp [intOf]; omega
    · obtain rfl : k = xs.length := by omega
      go_wp2_with (fail)
      go_ret
      exact ⟨rfl, hgr⟩
end Go.Proofs.YtdminjijhpemkaaGreatDoor

/-! Package slices at elements coilrack/api.Lot: with a function value. Written by mkfind.py. -/
namespace Go.Proofs.YtdminjijhpemkaaGreatDoor
open Go.RowKit

set_option maxRecDepth 100000 in
set_option maxHeartbeats 1000000 in
theorem indexFunc_Lot (F : FuncId) (ad : Addr) (P : Lot → Bool) (xs : List (Lot)) (a : Option Addr) (c : Nat) (w : World) (hc : CellsAt w a (flat encLot xs)) (hl : xs.length ≤ 137438953472)
    (hE : ∀ (args : Array Value) (w : World), (callFunc F args).run Tryz.prog w = .ok (.enter F args) w)
    (hF : ∀ x ∈ xs, ∀ w1, w.grownBy w1 none → Calls Tryz.prog F #[.agg #[.string x.id, .string x.prod, .int .i64 x.exp, .int .i64 x.many], .pointer (some ad)] w1 fun e w2 => e = .returned (.bool (P x)) ∧ w1.grownBy w2 none) :
    Calls Tryz.prog 13 #[.slice a xs.length c, Value.func (.func F) #[] #[.pointer (some ad)]] w fun e w' => e = .returned (.int .i64 (findA P xs)) ∧ w.grownBy w' none := by
  have HF := Lib.hid hF; clear hF
  go_enter Tryz.func13, Tryz.ntmps13
  go_wp2_with (fail)
  go_loopw [8] (fun i wr => ∃ k : Nat, k ≤ xs.length ∧ i = .int .i64 k ∧ (∀ j (hj : j < xs.length), j < k → P xs[j] = false) ∧ w.grownBy wr none) (fun i _ => xs.length - (intOf i).toNat)
  case atStart => exact ⟨0, Nat.zero_le _, rfl, fun j _ hj => absurd hj (Nat.not_lt_zero _), gr_refl _ _⟩
  case round =>
    obtain ⟨k, hk, rfl, hno, hgr⟩ := hrel
    obtain ⟨wo, rfl⟩ : ∃ wo : World, wo = wr := ⟨_, rfl⟩
    have HNO := Lib.hid hno; clear hno
    by_cases hlt : k < xs.length
    · obtain ⟨b, off, rfl, hcs⟩ := flat_cells (enc := encLot) (m := 4) (fun _ => rfl) (by decide) (hc.keep0 hgr) (by omega)
      have hmem : xs[k] ∈ xs := List.getElem_mem hlt
      obtain ⟨x, hx⟩ : ∃ x, x = xs[k] := ⟨_, rfl⟩
      have HX := Lib.hid hx
      have d0 : wo.cell? ⟨b, off + k * 4, none⟩ = some (.string x.id) := by have := hcs k hlt 0 _ rfl; simpa [← HX.out] using this
      have d1 : wo.cell? ⟨b, off + k * 4 + 1, none⟩ = some (.string x.prod) := by have := hcs k hlt 1 _ rfl; simpa [← HX.out] using this
      have d2 : wo.cell? ⟨b, off + k * 4 + 2, none⟩ = some (.int .i64 x.exp) := by have := hcs k hlt 2 _ rfl; simpa [← HX.out] using this
      have d3 : wo.cell? ⟨b, off + k * 4 + 3, none⟩ = some (.int .i64 x.many) := by have := hcs k hlt 3 _ rfl; simpa [← HX.out] using this
      rw [← hx] at hmem
      clear hx
      have HM := Lib.hid hmem; clear hmem hcs
      go_wp2_with (fail)
      refine (HF.out x HM.out wo hgr).mono ?_
      rintro e w1 ⟨rfl, hg1⟩
      cases hp : P x with
      | true =>
        have HP := Lib.hid hp; clear hp
        go_wp2_with (fail)
        go_ret
        refine ⟨ret_int (findA_at hlt (by rw [← HX.out]; exact HP.out) (fun j hj => HNO.out j (by omega) hj)).symm, gr_trans hgr hg1⟩
      | false =>
        have HP := Lib.hid hp; clear hp
        go_wp2_with (fail)
        go_roundw
        case rel =>
          refine ⟨k + 1, by omega, by go_num, fun j hjl hj => ?_, gr_trans hgr hg1⟩
          by_cases hjk : j = k
          · subst hjk; rw [← HX.out]; exact HP.out
          · exact HNO.out j hjl (by omega)
        case measure => simp [intOf]; omega
    · have hkl : k = xs.length := by omega
      have HK := Lib.hid hkl; clear hkl
      go_wp2_with (fail)
      go_ret
      exact ⟨ret_int (findA_none (fun j hj => HNO.out j hj (by rw [HK.out]; exact hj))).symm, hgr⟩

end Go.Proofs.YtdminjijhpemkaaGreatDoor

/-! Where a lot is: in stock, and in the reference. -/
namespace Go.Proofs.YtdminjijhpemkaaGreatDoor
open Go.RowKit

def idIs (k : ByteArray) (x : Lot) : Bool := x.id.toList == k.toList
def lotIx (xs : List Lot) (k : ByteArray) : Int := findA (idIs k) xs
theorem lot1_fn : ∀ (args : Array Value) (w : World), (callFunc 104 args).run Tryz.prog w = .ok (.enter 104 args) w := fun _ _ => by kernel_rfl
set_option maxRecDepth 100000 in
theorem lot1_any (t : Lot) (x : ByteArray) (q : Nat) (w : World) (hq : w.cell? ⟨q, 0, none⟩ = some (.string x)) :
    Calls Tryz.prog 104 #[.agg #[.string t.id, .string t.prod, .int .i64 t.exp, .int .i64 t.many], .pointer (some ⟨q, 0, none⟩)] w fun e w' => e = .returned (.bool (idIs x t)) ∧ w.grownBy w' none := by
  have hqlt := lt_of_cell hq
  go_enter Tryz.func104, Tryz.ntmps104
  go_wp2_with (fail)
  go_ret
  exact ⟨rfl, gr_alloc (gr_refl w none) _⟩
set_option maxRecDepth 100000 in
theorem lot_any (key : ByteArray) (xs : List Lot) (a : Option Addr) (c : Nat) (w : World) (h : CellsAt w a (flat encLot xs)) (hl : xs.length ≤ 100000) :
    Calls Tryz.prog 52 #[.slice a xs.length c, .string key] w fun e w' => e = .returned (.int .i64 (lotIx xs key)) ∧ w.grownBy w' none := by
  have H := Lib.hid h
  clear h
  go_enter Tryz.func52, Tryz.ntmps52
  go_wp2_with (fail)
  have hg1 := gr_alloc (gr_refl w none) (.cells #[.string key] 9)
  refine (indexFunc_Lot _ ⟨w.heap.size, 0, none⟩ (idIs key) xs a c _ (H.out.keep0 hg1) (by omega) lot1_fn ?_).mono ?_
  · intro t _ w1 hg
    exact lot1_any t key w.heap.size w1 ((gr_cell hg (by simp)).trans (by rw [World.cell?_alloc_at _ _ _ _ rfl]; rfl))
  rintro e w2 ⟨rfl, hg2⟩
  go_wp2_with (fail)
  go_ret
  exact ⟨rfl, gr_trans hg1 hg2⟩
/-- The lot that is found, or an empty one. -/
def lotGet (xs : List Lot) (k : ByteArray) : Lot := (xs.find? (idIs k)).getD ⟨⟨#[]⟩, ⟨#[]⟩, 0, 0⟩
def lotHas (xs : List Lot) (k : ByteArray) : Bool := xs.any (idIs k)
theorem find_at {α : Type} {P : α → Bool} {xs : List α} {k : Nat} (hk : k < xs.length) (hp : P xs[k] = true) (hno : ∀ j (hj : j < xs.length), j < k → P xs[j] = false) : xs.find? P = some xs[k] := by
  induction xs generalizing k with
  | nil => cases hk
  | cons x xs ih =>
    cases k with
    | zero => simp only [List.getElem_cons_zero] at hp ⊢; rw [List.find?_cons, hp]
    | succ k =>
      have h0 := hno 0 (by simp) (by omega)
      simp only [List.getElem_cons_zero] at h0
      rw [List.find?_cons, h0]
      exact ih (by simpa using hk) hp (fun j hj h => by have := hno (j + 1) (by simpa using hj) (by omega); simpa using this)
theorem find_not {α : Type} {P : α → Bool} {xs : List α} (hno : ∀ j (hj : j < xs.length), P xs[j] = false) : xs.find? P = none := by
  rw [List.find?_eq_none]
  intro x hx
  obtain ⟨j, hj, rfl⟩ := List.getElem_of_mem hx
  simp [hno j hj]
theorem lotHas_get {xs : List Lot} {k : ByteArray} : lotHas xs k = (xs.find? (idIs k)).isSome := by
  unfold lotHas
  rw [Bool.eq_iff_iff, List.any_eq_true, List.find?_isSome]
theorem lotIx_neg {xs : List Lot} {k : ByteArray} : lotIx xs k < 0 ↔ lotHas xs k = false := by
  have := any_findA (idIs k) xs
  unfold lotIx lotHas
  rw [this]
  simp
theorem lotIx_at {xs : List Lot} {k : ByteArray} (h : lotHas xs k = true) : ∃ (j : Nat) (hj : j < xs.length), lotIx xs k = j ∧ xs[j] = lotGet xs k := by
  rw [lotHas_get] at h
  have hex : ∃ j, ∃ hj : j < xs.length, idIs k xs[j] = true := by
    obtain ⟨x, hx, hp⟩ := List.find?_isSome.mp h
    obtain ⟨j, hj, rfl⟩ := List.getElem_of_mem hx
    exact ⟨j, hj, hp⟩
  have hmin : ∀ n, (∃ j, ∃ hj : j < xs.length, j ≤ n ∧ idIs k xs[j] = true) → ∃ j, ∃ hj : j < xs.length, idIs k xs[j] = true ∧ ∀ i (hi : i < xs.length), i < j → idIs k xs[i] = false := by
    intro n
    induction n with
    | zero =>
      rintro ⟨j, hj, h0, hp⟩
      exact ⟨j, hj, hp, fun i _ hi => by omega⟩
    | succ n ih =>
      rintro ⟨j, hj, h0, hp⟩
      by_cases hb : ∃ j, ∃ hj : j < xs.length, j ≤ n ∧ idIs k xs[j] = true
      · exact ih hb
      · refine ⟨j, hj, hp, fun i hi hij => ?_⟩
        cases hq : idIs k xs[i] with
        | false => rfl
        | true => exact absurd ⟨i, hi, by omega, hq⟩ hb
  obtain ⟨j, hj, hp⟩ := hex
  obtain ⟨j, hj, hp, hno⟩ := hmin j ⟨j, hj, Nat.le_refl _, hp⟩
  refine ⟨j, hj, findA_at hj hp (fun i hi => hno i (by omega) hi), ?_⟩
  unfold lotGet
  rw [find_at hj hp hno]
  rfl
def vLot (x : Lot) : Value := .agg #[.string x.id, .string x.prod, .int .i64 x.exp, .int .i64 x.many]
end Go.Proofs.YtdminjijhpemkaaGreatDoor

/-! The units of pieces, one by one: the reference. -/
namespace Go.Proofs.YtdminjijhpemkaaGreatDoor
open Go.RowKit
attribute [local go_sem ↓] Go.wp_at_zero Go.wp_at_succ

def unitsL (ps : List Piece) : List ByteArray := ps.flatMap (fun p => List.replicate p.many.toNat p.lot)
theorem unitsL_take (ps : List Piece) (k : Nat) (hk : k < ps.length) : unitsL (ps.take (k + 1)) = unitsL (ps.take k) ++ List.replicate (pcMany ps k).toNat (pcLot ps k) := by
  have : ps.take (k + 1) = ps.take k ++ [ps[k]] := by simp
  rw [this]
  unfold unitsL pcMany pcLot
  rw [List.flatMap_append]
  rw [getD_eq ps k _ hk]
  simp
theorem unitsL_mono (ps : List Piece) (k : Nat) : (unitsL (ps.take k)).length ≤ (unitsL ps).length := by
  have : unitsL ps = unitsL (ps.take k) ++ unitsL (ps.drop k) := by
    unfold unitsL; rw [← List.flatMap_append, List.take_append_drop]
  rw [this, List.length_append]; omega
theorem strs_app (a b : List ByteArray) : strs (a ++ b) = strs a ++ strs b := by simp [strs]
end Go.Proofs.YtdminjijhpemkaaGreatDoor

/-! Pieces of one lot that stand next to each other are joined. -/
namespace Go.Proofs.YtdminjijhpemkaaGreatDoor
open Go.RowKit
attribute [local go_sem ↓] Go.wp_at_zero Go.wp_at_succ

/-- The last piece is of this lot. -/
def lastIs (out : List Piece) (k : ByteArray) : Bool := decide (0 < out.length) && (pcLot out (out.length - 1)).toList == k.toList
def joinStep (out : List Piece) (k : ByteArray) (m : Int) : List Piece :=
  if lastIs out k then out.set (out.length - 1) ⟨pcLot out (out.length - 1), pcMany out (out.length - 1) + m⟩ else out ++ [⟨k, m⟩]
def joinTo (l : List Piece) : Nat → List Piece
  | 0 => []
  | k + 1 => joinStep (joinTo l k) (pcLot l k) (pcMany l k)
def joinL (l : List Piece) : List Piece := joinTo l l.length
theorem joinStep_bd {out : List Piece} {k : ByteArray} {m : Int} {n : Nat} {B : Int} (hl : out.length ≤ n) (hb : ∀ i, i < out.length → -B ≤ pcMany out i ∧ pcMany out i ≤ B) (hm : -100000 ≤ m ∧ m ≤ 100000) (hB : 0 ≤ B) :
    (joinStep out k m).length ≤ n + 1 ∧ ∀ i, i < (joinStep out k m).length → -(B + 100000) ≤ pcMany (joinStep out k m) i ∧ pcMany (joinStep out k m) i ≤ B + 100000 := by
  unfold joinStep
  split
  · rename_i h
    unfold lastIs at h
    simp only [Bool.and_eq_true, decide_eq_true_eq] at h
    refine ⟨by simp; omega, fun i hi => ?_⟩
    simp only [List.length_set] at hi
    have h1 := hb i hi
    have h2 := hb (out.length - 1) (by omega)
    by_cases e : i = out.length - 1
    · subst e
      have : pcMany (out.set (out.length - 1) ⟨pcLot out (out.length - 1), pcMany out (out.length - 1) + m⟩) (out.length - 1) = pcMany out (out.length - 1) + m := by
        conv => lhs; unfold pcMany
        rw [getD_eq _ _ _ (by simpa using hi), List.getElem_set_self]
        rfl
      rw [this]; omega
    · have : pcMany (out.set (out.length - 1) ⟨pcLot out (out.length - 1), pcMany out (out.length - 1) + m⟩) i = pcMany out i := by
        unfold pcMany
        rw [getD_eq _ _ _ (by simpa using hi), getD_eq out _ _ hi, List.getElem_set_ne (by omega)]
      rw [this]; omega
  · refine ⟨by simp; omega, fun i hi => ?_⟩
    simp only [List.length_append, List.length_cons, List.length_nil] at hi
    by_cases e : i < out.length
    · have : pcMany (out ++ [⟨k, m⟩]) i = pcMany out i := by
        unfold pcMany
        rw [getD_eq _ _ _ (by simp; omega), getD_eq out _ _ e, List.getElem_append_left e]
      have h1 := hb i e
      rw [this]; omega
    · have : pcMany (out ++ [⟨k, m⟩]) i = m := by
        unfold pcMany
        rw [getD_eq _ _ _ (by simp; omega), List.getElem_append_right (by omega)]
        have : i - out.length = 0 := by omega
        simp [this]
      rw [this]; omega
theorem joinTo_bd (l : List Piece) (h : ∀ x ∈ l, x.lot.size ≤ 1000 ∧ -100000 ≤ x.many ∧ x.many ≤ 100000) (k : Nat) (hk : k ≤ l.length) :
    (joinTo l k).length ≤ k ∧ ∀ i, i < (joinTo l k).length → -(100000 * (k : Int)) ≤ pcMany (joinTo l k) i ∧ pcMany (joinTo l k) i ≤ 100000 * (k : Int) := by
  induction k with
  | zero => exact ⟨Nat.le_refl _, fun i hi => absurd hi (Nat.not_lt_zero _)⟩
  | succ k ih =>
    obtain ⟨h1, h2⟩ := ih (by omega)
    have hm := pc_mem (P := fun x => -100000 ≤ x.many ∧ x.many ≤ 100000) (fun x hx => (h x hx).2) k (by omega)
    simp only at hm
    have := joinStep_bd (k := pcLot l k) h1 h2 hm (by omega)
    refine ⟨this.1, fun i hi => ?_⟩
    have := this.2 i hi
    show _ ≤ pcMany (joinStep _ _ _) i ∧ pcMany (joinStep _ _ _) i ≤ _
    omega
theorem pc_get (l : List Piece) (k : Nat) (hk : k < l.length) : l[k] = ⟨pcLot l k, pcMany l k⟩ := by
  unfold pcLot pcMany
  rw [getD_eq l k _ hk]
set_option maxRecDepth 100000 in
set_option maxHeartbeats 2000000 in
theorem joined_any (ps : List Piece) (a : Option Addr) (c : Nat) (w : World) (h : CellsAt w a (flat encPc ps)) (hl : ps.length ≤ 100000) (hb : ∀ x ∈ ps, x.lot.size ≤ 1000 ∧ -100000 ≤ x.many ∧ x.many ≤ 100000) :
    Calls Tryz.prog 54 #[.slice a ps.length c] w fun e w' => ∃ v, e = .returned v ∧ w'.ownsRow w.heap.size 53 2 v (joinL ps).length (flat encPc (joinL ps)) ∧ w.grownBy w' none := by
  have H := Lib.hid h
  have HB := Lib.hid hb
  clear h hb
  go_enter Tryz.func54, Tryz.ntmps54
  go_wp2_with (fail)
  go_loopw [3, 9] (fun v i wr => ∃ k : Nat, k ≤ ps.length ∧ i = .int .i64 k ∧ wr.ownsRow w.heap.size 53 2 v (joinTo ps k).length (flat encPc (joinTo ps k)) ∧ w.grownBy wr none) (fun _ i _ => ps.length - (intOf i).toNat)
  case atStart => exact ⟨0, Nat.zero_le _, rfl, World.ownsRow_nil _ _ _ _, gr_refl _ _⟩
  case round =>
    obtain ⟨k, hk, rfl, hown, hgr⟩ := hrel
    obtain ⟨wo, rfl⟩ : ∃ wo : World, wo = wr := ⟨_, rfl⟩
    by_cases hlt : k < ps.length
    · obtain ⟨b, off, rfl, d0, d1⟩ := pc_cells (H.out.keep0 hgr) k hlt
      obtain ⟨hl1, hb1⟩ := joinTo_bd ps HB.out k hk
      have hmb := pc_mem (P := fun x => -100000 ≤ x.many ∧ x.many ≤ 100000) (fun x hx => (HB.out x hx).2) k hlt
      simp only at hmb
      have HST : Hid (joinTo ps (k + 1) = joinStep (joinTo ps k) (pcLot ps k) (pcMany ps k)) := rfl
      obtain ⟨K, hK⟩ : ∃ K, K = pcLot ps k := ⟨_, rfl⟩
      obtain ⟨m, hm⟩ : ∃ m, m = pcMany ps k := ⟨_, rfl⟩
      obtain ⟨S, hS⟩ : ∃ S, S = joinTo ps k := ⟨_, rfl⟩
      rw [← hK, ← hm, ← hS] at HST
      rw [← hm] at hmb d1
      rw [← hK] at d0
      rw [← hS] at hl1 hb1 hown
      obtain ⟨va, vc, rfl, -, -, -, -⟩ := own_shape hown
      have HB1 := Lib.hid hb1
      have HOWN := Lib.hid hown
      have HGR := Lib.hid hgr
      have hzo := hgr.size
      clear hK hm hS hb1 hown hgr
      go_wp2_with (fail)
      have hV := heap_alloc_new wo (.cells #[.string K, .int .i64 m] 53)
      have hg2 := gr_alloc (gr_refl wo none) (.cells #[.string K, .int .i64 m] 53)
      obtain ⟨w3, hw3⟩ : ∃ w3, w3 = wo.alloc (.cells #[.string K, .int .i64 m] 53) := ⟨_, rfl⟩
      rw [← hw3] at hV hg2
      rw [← hw3]
      obtain ⟨V, hVe⟩ : ∃ V, V = wo.heap.size := ⟨_, rfl⟩
      rw [← hVe] at hV
      rw [← hVe]
      have HV := Lib.hid hV
      have HO3 := Lib.hid (own_keep0 HOWN.out hg2)
      have HG3 := Lib.hid (gr_trans HGR.out hg2)
      obtain ⟨v0, v1, -, -⟩ := blk2 hV
      have hz3 := HG3.out.size
      clear hw3 hVe hV hg2 HOWN HGR d0 d1
      by_cases hn : 0 < S.length
      · obtain ⟨g, cap, hvv, hgb, hglt, hcap, hcapm⟩ := own_some HO3.out hn
        cases hvv
        obtain ⟨q, hq⟩ : ∃ q, q = S.length - 1 := ⟨_, rfl⟩
        have hqS : q < S.length := by omega
        have hge := pc_get S q hqS
        have r0' := own_cellE encPc_len HO3.out q hqS 0 (by decide) _ rfl rfl
        have r1' := own_cellE encPc_len HO3.out q hqS 1 (by decide) _ rfl rfl
        have hqb := HB1.out q hqS
        rw [hge] at r0' r1'
        have hla : lastIs S K = ((pcLot S q).toList == K.toList) := by
          unfold lastIs; rw [← hq]; simp [hn]
        have hju : Hid (joinStep S K m = if lastIs S K then S.set q ⟨pcLot S q, pcMany S q + m⟩ else S ++ [⟨K, m⟩]) := by show _ = _; unfold joinStep; rw [← hq]
        obtain ⟨K2, hK2⟩ : ∃ x, x = pcLot S q := ⟨_, rfl⟩
        obtain ⟨m2, hm2⟩ : ∃ x, x = pcMany S q := ⟨_, rfl⟩
        rw [← hK2] at hla
        rw [← hK2, ← hm2] at hju r0' r1'
        rw [← hm2] at hqb
        obtain ⟨r0', -, -⟩ := r0'
        obtain ⟨r1', f1, st⟩ := r1'
        have r0 : w3.cell? ⟨g, q * 2, none⟩ = some (.string K2) := r0'
        have r1 : w3.cell? ⟨g, q * 2 + 1, none⟩ = some (.int .i64 m2) := r1'
        have hwr : (S.length : Int) - 1 = (q : Int) := by omega
        have HST := Lib.hid (HST.out.trans hju.out)
        have HF := Lib.hid f1
        have hq0 : (0 : Int) ≤ (q : Int) := by omega
        have hq1 : (q : Int) < (S.length : Int) := by omega
        have hq2 : decide ((0 : Int) ≤ (q : Int)) = true := by simp
        have hwr2 : IntKind.i64.wrap (m2 + m) = m2 + m := IntWalk.i64_in _ (by omega)
        have x0 := grew_cell r0
        have x1 := grew_cell v0
        have ST : Hid (∀ W : World, w3.grownBy W none → (W.setCell ⟨g, q * 2 + 1, none⟩ (.int .i64 (m2 + m))).ownsRow w.heap.size 53 2 (.slice (some ⟨g, 0, none⟩) S.length vc) S.length (flat encPc (S.set q ⟨K2, m2 + m⟩))) := fun W gw =>
          (own_cellE encPc_len (own_keep0 HO3.out gw) q hqS 1 (by decide) _ rfl rfl).2.2 (.int .i64 (m2 + m)) ⟨K2, m2 + m⟩ (by rw [hge, ← hK2, ← hm2]; rfl)
        clear hge hK2 hm2 st f1 hju hq
        rw [hwr]
        cases hb : (K2.toList == K.toList) with
        | true =>
          rw [hla, hb] at HST
          refine wp_region_grew (by kernel_rfl) (by kernel_rfl) ?_
          repeat (go_big_quiet_step (fail))
          refine wpQuiet_nil ?_
          rintro wq ⟨nn, rfl⟩
          have gq := nn.gr
          have y0 := (gr_cell gq (lt_of_cell r1)).trans r1
          have y1 := (gr_cell gq (lt_of_cell v1)).trans v1
          have y2 := (gr_free gq (lt_of_cell r1)).trans HF.out
          have HST2 := Lib.hid (ST.out _ gq)
          have HGQ := Lib.hid (gr_trans HG3.out gq)
          obtain ⟨wn, hwn⟩ : ∃ wn, wn = nn.w := ⟨_, rfl⟩
          rw [← hwn] at y0 y1 y2 HST2 HGQ
          rw [← hwn]
          clear gq hwn x0 x1 r0 r1 v0 v1
          go_wp2_with (fail)
          go_region
          all_goals (go_wp2_with (fail); go_roundw)
          case rel => exact ⟨k + 1, by omega, by go_num, by rw [HST.out]; simpa using own_keep0 HST2.out (gr_drew (gr_refl _ _)), gr_new (gr_drew HGQ.out) hgb _⟩
          case measure => simp [intOf]; omega
        | false =>
          rw [hla, hb] at HST
          refine wp_region_grew (by kernel_rfl) (by kernel_rfl) ?_
          repeat (go_big_quiet_step (fail))
          refine wpQuiet_nil ?_
          rintro wq ⟨nn, rfl⟩
          have gq := nn.gr
          have y0 := (gr_cell gq (lt_of_cell v0)).trans v0
          have y1 := (gr_cell gq (lt_of_cell v1)).trans v1
          have HO5 := Lib.hid (own_keep0 HO3.out gq)
          have HGQ := Lib.hid (gr_trans HG3.out gq)
          obtain ⟨wn, hwn⟩ : ∃ wn, wn = nn.w := ⟨_, rfl⟩
          rw [← hwn] at y0 y1 HO5 HGQ
          rw [← hwn]
          clear gq hwn x0 x1 r0 r1 v0 v1 ST HO3
          have hzn := HGQ.out.size
          generalize hvv : Value.slice (some ⟨g, 0, none⟩) S.length vc = vv at HO5 ⊢
          clear hvv
          go_wp2_with (at_builtin; refine wpList_app1F ePc rfl _ _ rfl w.heap.size _ S.length (flat encPc S) rfl wn #[.string K, .int .i64 m] rfl HO5.out _ rfl rfl rfl rfl (by omega) (by omega) ?_; intro v6 w6 ho6 g6 hlt6 hf6)
          have HO6 := Lib.hid ho6
          have HG6 := Lib.hid (gr_grown HGQ.out g6 (fun q hq => by have := hlt6 q hq; omega))
          clear ho6 g6 hlt6 hf6
          go_roundw
          case rel =>
            refine ⟨k + 1, by omega, by go_num, ?_, HG6.out⟩
            rw [HST.out]
            simp only [Bool.false_eq_true, if_false]
            rw [List.length_append, flat_append, flat_one]
            exact HO6.out
          case measure => simp [intOf]; omega
      · have hS0 : S.length = 0 := by omega
        have hSn : S = [] := List.length_eq_zero_iff.1 hS0
        subst hSn
        have HST2 : Hid (joinTo ps (k + 1) = [⟨K, m⟩]) := HST.out
        have hwr : (0 : Int) - 1 = -1 := by decide
        have hq2 : decide ((0 : Int) ≤ -1) = false := by decide
        have x1 := grew_cell v0
        have hlen0 : (([] : List Piece).length : Int) = 0 := rfl
        have HO3 : Hid (w3.ownsRow w.heap.size 53 2 (.slice va 0 vc) 0 []) := HO3.out
        rw [hlen0, hwr]
        simp only [List.length_nil]
        refine wp_region_grew (by kernel_rfl) (by kernel_rfl) ?_
        repeat (go_big_quiet_step (fail))
        refine wpQuiet_nil ?_
        rintro wq ⟨nn, rfl⟩
        have gq := nn.gr
        have y0 := (gr_cell gq (lt_of_cell v0)).trans v0
        have y1 := (gr_cell gq (lt_of_cell v1)).trans v1
        have HO5 := Lib.hid (own_keep0 HO3.out gq)
        have HGQ := Lib.hid (gr_trans HG3.out gq)
        obtain ⟨wn, hwn⟩ : ∃ wn, wn = nn.w := ⟨_, rfl⟩
        rw [← hwn] at y0 y1 HO5 HGQ
        rw [← hwn]
        clear gq hwn x1 v0 v1 HO3
        have hzn := HGQ.out.size
        generalize hvv : Value.slice va 0 vc = vv at HO5 ⊢
        clear hvv
        go_wp2_with (at_builtin; refine wpList_app1F ePc rfl _ _ rfl w.heap.size _ 0 [] rfl wn #[.string K, .int .i64 m] rfl HO5.out _ rfl rfl rfl rfl (by omega) (by omega) ?_; intro v6 w6 ho6 g6 hlt6 hf6)
        have HO6 := Lib.hid ho6
        have HG6 := Lib.hid (gr_grown HGQ.out g6 (fun q hq => by have := hlt6 q hq; omega))
        clear ho6 g6 hlt6 hf6
        go_roundw
        case rel =>
          refine ⟨k + 1, by omega, by go_num, ?_, HG6.out⟩
          rw [HST2.out, flat_one]
          exact HO6.out
        case measure => simp [intOf]; omega
    · obtain rfl : k = ps.length := by omega
      have HO := Lib.hid hown
      clear hown
      go_wp2_with (fail)
      go_ret
      exact ⟨_, rfl, HO.out, hgr⟩
end Go.Proofs.YtdminjijhpemkaaGreatDoor

/-! slices.Clone at []coilrack/api.Piece. Written by mkclone.py. -/
namespace Go.Proofs.YtdminjijhpemkaaGreatDoor
open Go.RowKit

theorem clonePc_any (a : Option Addr) (n c : Nat) (xs : List Value) (w : World) (hn : xs.length = n * 2) (hc : CellsAt w a xs) (hnil : a = none → n = 0 ∧ c = 0) (h1 : ∀ u ∈ xs, u.oneCell' = true) (hb : n ≤ 137438953472) :
    Calls Tryz.prog 12 #[.slice a n c] w fun e w' => ∃ v, e = .returned v ∧ w'.ownsRow w.heap.size 53 2 v n xs ∧ w.grownBy w' none := by
  have q22 : ∀ (w : World) (a : Option Addr) (n c n' c' : Nat), (binOp .eql 40 (.slice a n c) (.slice none n' c')).run Tryz.prog w = .ok (.bool a.isNone) w := fun w a n c n' c' => Lib.run_eql_slice_nil w _ _ a n c n' c' Tryz.underlying40
  cases a with
  | none =>
    obtain ⟨hn0, hc0⟩ := hnil rfl
    subst hn0 hc0
    have hx : xs = [] := List.eq_nil_of_length_eq_zero (by omega)
    subst hx
    clear hnil hn
    go_enter Tryz.func12, Tryz.ntmps12
    go_wp2
    go_ret
    exact ⟨_, rfl, World.ownsRow_nil _ _ _ _, gr_refl _ _⟩
  | some ad =>
    have HN := Lib.hid hn
    clear hnil hn
    go_enter Tryz.func12, Tryz.ntmps12
    go_wp2_with (at_builtin; refine wpList_app ePc rfl _ _ rfl w.heap.size _ _ _ rfl (World.ownsRow_made w #[] 0 (Nat.le_refl _) (Nat.zero_le _) rfl) (some ad) n c xs rfl ?c1 ?c2 ?c3 ?c4 ?c5 ?c6 ?_)
    case c1 => rw [HN.out]
    case c2 => exact hc.alloc _
    case c3 => intro h; cases h
    case c4 => exact h1
    case c5 => omega
    case c6 => simp
    intro v' w1 hown hg
    go_wp2
    go_ret
    refine ⟨v', rfl, by simpa using hown, ?_⟩
    exact gr_grown (gr_alloc (gr_refl _ _) _) hg (by intro k hk; simp [Value.ownBlock] at hk; omega)
end Go.Proofs.YtdminjijhpemkaaGreatDoor

/-! Package slices at elements coilrack/api.Piece: with a function value. Written by mkfind.py. -/
namespace Go.Proofs.YtdminjijhpemkaaGreatDoor
open Go.RowKit

set_option maxRecDepth 100000 in
set_option maxHeartbeats 1000000 in
theorem indexFunc_Pc (F : FuncId) (ad : Addr) (P : Piece → Bool) (xs : List (Piece)) (a : Option Addr) (c : Nat) (w : World) (hc : CellsAt w a (flat encPc xs)) (hl : xs.length ≤ 137438953472)
    (hE : ∀ (args : Array Value) (w : World), (callFunc F args).run Tryz.prog w = .ok (.enter F args) w)
    (hF : ∀ x ∈ xs, ∀ w1, w.grownBy w1 none → Calls Tryz.prog F #[.agg #[.string x.lot, .int .i64 x.many], .pointer (some ad)] w1 fun e w2 => e = .returned (.bool (P x)) ∧ w1.grownBy w2 none) :
    Calls Tryz.prog 144 #[.slice a xs.length c, Value.func (.func F) #[] #[.pointer (some ad)]] w fun e w' => e = .returned (.int .i64 (findA P xs)) ∧ w.grownBy w' none := by
  have HF := Lib.hid hF; clear hF
  go_enter Tryz.func144, Tryz.ntmps144
  go_wp2_with (fail)
  go_loopw [8] (fun i wr => ∃ k : Nat, k ≤ xs.length ∧ i = .int .i64 k ∧ (∀ j (hj : j < xs.length), j < k → P xs[j] = false) ∧ w.grownBy wr none) (fun i _ => xs.length - (intOf i).toNat)
  case atStart => exact ⟨0, Nat.zero_le _, rfl, fun j _ hj => absurd hj (Nat.not_lt_zero _), gr_refl _ _⟩
  case round =>
    obtain ⟨k, hk, rfl, hno, hgr⟩ := hrel
    obtain ⟨wo, rfl⟩ : ∃ wo : World, wo = wr := ⟨_, rfl⟩
    have HNO := Lib.hid hno; clear hno
    by_cases hlt : k < xs.length
    · obtain ⟨b, off, rfl, hcs⟩ := flat_cells (enc := encPc) (m := 2) (fun _ => rfl) (by decide) (hc.keep0 hgr) (by omega)
      have hmem : xs[k] ∈ xs := List.getElem_mem hlt
      obtain ⟨x, hx⟩ : ∃ x, x = xs[k] := ⟨_, rfl⟩
      have HX := Lib.hid hx
      have d0 : wo.cell? ⟨b, off + k * 2, none⟩ = some (.string x.lot) := by have := hcs k hlt 0 _ rfl; simpa [← HX.out] using this
      have d1 : wo.cell? ⟨b, off + k * 2 + 1, none⟩ = some (.int .i64 x.many) := by have := hcs k hlt 1 _ rfl; simpa [← HX.out] using this
      rw [← hx] at hmem
      clear hx
      have HM := Lib.hid hmem; clear hmem hcs
      go_wp2_with (fail)
      refine (HF.out x HM.out wo hgr).mono ?_
      rintro e w1 ⟨rfl, hg1⟩
      cases hp : P x with
      | true =>
        have HP := Lib.hid hp; clear hp
        go_wp2_with (fail)
        go_ret
        refine ⟨ret_int (findA_at hlt (by rw [← HX.out]; exact HP.out) (fun j hj => HNO.out j (by omega) hj)).symm, gr_trans hgr hg1⟩
      | false =>
        have HP := Lib.hid hp; clear hp
        go_wp2_with (fail)
        go_roundw
        case rel =>
          refine ⟨k + 1, by omega, by go_num, fun j hjl hj => ?_, gr_trans hgr hg1⟩
          by_cases hjk : j = k
          · subst hjk; rw [← HX.out]; exact HP.out
          · exact HNO.out j hjl (by omega)
        case measure => simp [intOf]; omega
    · have hkl : k = xs.length := by omega
      have HK := Lib.hid hkl; clear hkl
      go_wp2_with (fail)
      go_ret
      exact ⟨ret_int (findA_none (fun j hj => HNO.out j hj (by rw [HK.out]; exact hj))).symm, hgr⟩

theorem containsFunc_Pc (F : FuncId) (ad : Addr) (P : Piece → Bool) (xs : List (Piece)) (a : Option Addr) (c : Nat) (w : World) (hc : CellsAt w a (flat encPc xs)) (hl : xs.length ≤ 137438953472)
    (hE : ∀ (args : Array Value) (w : World), (callFunc F args).run Tryz.prog w = .ok (.enter F args) w)
    (hF : ∀ x ∈ xs, ∀ w1, w.grownBy w1 none → Calls Tryz.prog F #[.agg #[.string x.lot, .int .i64 x.many], .pointer (some ad)] w1 fun e w2 => e = .returned (.bool (P x)) ∧ w1.grownBy w2 none) :
    Calls Tryz.prog 99 #[.slice a xs.length c, Value.func (.func F) #[] #[.pointer (some ad)]] w fun e w' => e = .returned (.bool (xs.any P)) ∧ w.grownBy w' none := by
  have HA := Lib.hid (any_findA P xs)
  go_enter Tryz.func99, Tryz.ntmps99
  go_wp2_with (fail)
  refine (indexFunc_Pc F ad P xs a c _ hc hl hE hF).mono ?_
  rintro e w1 ⟨rfl, hg1⟩
  go_wp2_with (fail)
  go_ret
  exact ⟨ret_bool (by rw [HA.out]), hg1⟩
end Go.Proofs.YtdminjijhpemkaaGreatDoor
