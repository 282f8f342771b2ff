/- What is wrong with a coil: package stock. -/
import Derived.Test.YtdjnomeabadbnaaDoorCoil
import Derived.Test.YtdjnomeabadbnaaDoorKey
import Derived.Test.YtdjnomeabadbnaaDoorSum
import Derived.Test.YtdjnomeabadbnaaDoorGrew
namespace Go.Proofs.YtdjnomeabadbnaaDoor
open Go.RowKit
attribute [local go_sem ↓] Go.wp_at_zero Go.wp_at_succ

def pcMany (ps : List Piece) (i : Nat) : Int := (ps.getD i ⟨⟨#[]⟩, 0⟩).many
def pcLot (ps : List Piece) (i : Nat) : ByteArray := (ps.getD i ⟨⟨#[]⟩, 0⟩).lot
def pcSum (ps : List Piece) : Int := (ps.map Piece.many).sum
structure PcOk (ps : List Piece) (i : Nat) : Prop where
  key : keyB (pcLot ps i) = true
  lo : 1 ≤ pcMany ps i
  hi : pcMany ps i ≤ 1000
  ne : 0 < i → (pcLot ps i).toList ≠ (pcLot ps (i - 1)).toList
structure CoilOk (c : Coil) : Prop where
  key : keyB c.prod = true
  m0 : 0 ≤ c.most
  m1 : c.most ≤ 1000
  len : c.ps.length ≤ 1000
  all : ∀ i, i < c.ps.length → PcOk c.ps i
  sum : pcSum c.ps ≤ c.most
/-- Sizes that every coil of the stream has. -/
structure CoilSm (c : Coil) : Prop where
  prod : c.prod.size ≤ 1000
  len : c.ps.length ≤ 1000
  all : ∀ x ∈ c.ps, x.lot.size ≤ 1000 ∧ -100000 ≤ x.many ∧ x.many ≤ 100000
theorem pc_cells {w : World} {a : Option Addr} {ps : List Piece} (h : CellsAt w a (flat encPc ps)) (k : Nat) (hk : k < ps.length) :
    ∃ b off, a = some ⟨b, off, none⟩ ∧ w.cell? ⟨b, off + k * 2, none⟩ = some (.string (pcLot ps k)) ∧ w.cell? ⟨b, off + k * 2 + 1, none⟩ = some (.int .i64 (pcMany ps k)) := by
  obtain ⟨b, off, rfl, hcs⟩ := flat_cells encPc_len (by decide) h (by omega)
  have e : ps.getD k ⟨⟨#[]⟩, 0⟩ = ps[k] := getD_eq ps k _ hk
  refine ⟨b, off, rfl, ?_, ?_⟩
  · unfold pcLot; rw [e]; exact hcs k hk 0 _ rfl
  · unfold pcMany; rw [e]; exact hcs k hk 1 _ rfl
theorem pc_mem {P : Piece → Prop} {ps : List Piece} (h : ∀ x ∈ ps, P x) (k : Nat) (hk : k < ps.length) : P ⟨pcLot ps k, pcMany ps k⟩ := by
  have e : ps.getD k ⟨⟨#[]⟩, 0⟩ = ps[k] := getD_eq ps k _ hk
  unfold pcLot pcMany
  rw [e]
  exact h _ (List.getElem_mem hk)
theorem pcMany_get (ps : List Piece) (k : Nat) (hk : k < ps.length) : (ps.map Piece.many).getD k 0 = pcMany ps k := by
  unfold pcMany
  rw [List.getD_eq_getElem?_getD, List.getD_eq_getElem?_getD, List.getElem?_map, List.getElem?_eq_getElem hk]
  rfl
theorem pc_bd {ps : List Piece} (h : ∀ x ∈ ps, x.lot.size ≤ 1000 ∧ -100000 ≤ x.many ∧ x.many ≤ 100000) : ∀ y ∈ ps.map Piece.many, (-100000 : Int) ≤ y ∧ y ≤ 100000 := by
  intro y hy
  obtain ⟨x, hx, rfl⟩ := List.mem_map.1 hy
  exact (h x hx).2
set_option maxRecDepth 100000 in
set_option maxHeartbeats 1000000 in
theorem units_any (ps : List Piece) (a : Option Addr) (c : Nat) (w : World) (h : CellsAt w a (flat encPc ps)) (hl : ps.length ≤ 1000000) (hb : ∀ x ∈ ps, x.lot.size ≤ 1000 ∧ -100000 ≤ x.many ∧ x.many ≤ 100000) :
    Calls Tryd.prog 107 #[.slice a ps.length c] w fun e w' => e = .returned (.int .i64 (pcSum ps)) ∧ w.grownBy w' none := by
  have HB := Lib.hid (sum_bound (ps.map Piece.many) (-100000) 100000 (by omega) (by omega) (pc_bd hb))
  have H := Lib.hid h
  clear hb h
  go_enter Tryd.func107, Tryd.ntmps107
  go_wp2_with (fail)
  go_loopw [3, 8] (fun s i wr => ∃ k : Nat, k ≤ ps.length ∧ i = .int .i64 k ∧ s = .int .i64 ((ps.map Piece.many).take k).sum ∧ w.grownBy wr none) (fun _ i _ => ps.length - (intOf i).toNat)
  case atStart => exact ⟨0, Nat.zero_le _, rfl, rfl, gr_refl _ _⟩
  case round =>
    obtain ⟨k, hk, rfl, rfl, hgr⟩ := hrel
    obtain ⟨wo, rfl⟩ : ∃ wo : World, wo = wr := ⟨_, rfl⟩
    by_cases hlt : k < ps.length
    · obtain ⟨b, off, rfl, d0, d1⟩ := pc_cells (H.out.keep0 hgr) k hlt
      obtain ⟨b0, b1⟩ := HB.out k
      obtain ⟨b2, b3⟩ := HB.out (k + 1)
      have hnx := sum_next (ps.map Piece.many) k (by simpa using hlt)
      rw [pcMany_get ps k hlt] at hnx
      obtain ⟨x, hx⟩ : ∃ x, x = pcMany ps k := ⟨_, rfl⟩
      obtain ⟨K, hK⟩ : ∃ K, K = pcLot ps k := ⟨_, rfl⟩
      obtain ⟨s, hs⟩ : ∃ s, s = ((ps.map Piece.many).take k).sum := ⟨_, rfl⟩
      rw [← hx] at d1 hnx
      rw [← hK] at d0
      rw [← hs] at hnx b0 b1
      rw [← hs]
      rw [hnx] at b2 b3
      have HNX := Lib.hid hnx
      have HG := Lib.hid hgr
      clear hnx hx hK hs hgr
      go_wp2_with (fail)
      go_roundw
      case rel => exact ⟨k + 1, by omega, by go_num, by rw [HNX.out], gr_alloc HG.out _⟩
      case measure => simp [intOf]; omega
    · obtain rfl : k = ps.length := by omega
      have hfin : Hid (((ps.map Piece.many).take ps.length).sum = pcSum ps) := by show _ = _; rw [List.take_of_length_le (by simp)]; rfl
      go_wp2_with (fail)
      go_ret
      exact ⟨ret_int hfin.out, hgr⟩
def CoilChk (c : Coil) (w : World) (e : Ending) (w' : World) : Prop := ∃ r : Int, e = .returned (.int .i64 r) ∧ (r = 0 ↔ CoilOk c) ∧ w.grownBy w' none
theorem coil_no {c : Coil} {w w' : World} (r : Int) (hr : r ≠ 0) (h : ¬ CoilOk c) (g : w.grownBy w' none) : CoilChk c w (.returned (.int .i64 r)) w' := ⟨r, rfl, ⟨fun e => absurd e hr, fun e => absurd e h⟩, g⟩
set_option maxRecDepth 100000 in
set_option maxHeartbeats 4000000 in
theorem checkCoil_any (co : Coil) (a : Option Addr) (c : Nat) (w : World) (h : CellsAt w a (flat encPc co.ps)) (hsm : CoilSm co) :
    Calls Tryd.prog 106 #[.agg #[.string co.prod, .int .i64 co.most, .slice a co.ps.length c]] w (CoilChk co w) := by
  have MK : Hid (∀ (P : ByteArray) (m : Int) (ps : List Piece), co = ⟨P, m, ps⟩ → keyB P = true → 0 ≤ m → m ≤ 1000 → ps.length ≤ 1000 → (∀ i, i < ps.length → PcOk ps i) → pcSum ps ≤ m → CoilOk co) := by
    intro P m ps e a1 a2 a3 a4 a5 a6; subst e; exact ⟨a1, a2, a3, a4, a5, a6⟩
  have UN : Hid (∀ (P : ByteArray) (m : Int) (ps : List Piece), co = ⟨P, m, ps⟩ → CoilOk co → keyB P = true ∧ 0 ≤ m ∧ m ≤ 1000 ∧ ps.length ≤ 1000 ∧ (∀ i, i < ps.length → PcOk ps i) ∧ pcSum ps ≤ m) := by
    intro P m ps e hh; subst e; exact ⟨hh.key, hh.m0, hh.m1, hh.len, hh.all, hh.sum⟩
  obtain ⟨s1, s2, s3⟩ := hsm
  obtain ⟨P, m, ps⟩ := co
  have MK := Lib.hid (MK.out P m ps rfl)
  have UN := Lib.hid (UN.out P m ps rfl)
  simp only at s1 s2 s3 h ⊢
  have hO := heap_alloc_new w (.cells #[.string P, .int .i64 m, .slice a ps.length c] 83)
  have hg := gr_alloc (gr_refl w none) (.cells #[.string P, .int .i64 m, .slice a ps.length c] 83)
  obtain ⟨w1, hw1⟩ : ∃ w1, w1 = w.alloc (.cells #[.string P, .int .i64 m, .slice a ps.length c] 83) := ⟨_, rfl⟩
  rw [← hw1] at hO hg
  obtain ⟨O, hOe⟩ : ∃ O, O = w.heap.size := ⟨_, rfl⟩
  rw [← hOe] at hO
  have HW := Lib.hid hw1
  have HOE := Lib.hid hOe
  have H := Lib.hid (h.keep0 hg)
  have HS3 := Lib.hid s3
  have HG1 := Lib.hid hg
  have HO := Lib.hid hO
  have c0 := blkC hO 0 rfl
  have c1 := blkC hO 1 rfl
  have c2 := blkC hO 2 rfl
  clear h s3 hw1 hOe hO hg
  go_enter Tryd.func106, Tryd.ntmps106
  go_wp2_with (fail)
  rw [← HW.out, ← HOE.out]
  refine (key_any P w1 (by omega)).mono ?_
  rintro e w2 ⟨rfl, rfl⟩
  cases hk : keyB P with
  | false =>
    have HNO : Hid (¬ CoilOk ⟨P, m, ps⟩) := fun hh => by have := (UN.out hh).1; rw [hk] at this; cases this
    go_wp2_with (fail)
    go_ret
    exact coil_no 5 (by decide) HNO.out HG1.out
  | true =>
  have HKY := Lib.hid hk
  clear hk
  go_wp2_with (fail)
  refine (out_any m 0 1000 w1).mono ?_
  rintro e w2 ⟨rfl, rfl⟩
  by_cases hm : m < 0 ∨ 1000 < m
  · have HNO : Hid (¬ CoilOk ⟨P, m, ps⟩) := fun hh => by have := UN.out hh; omega
    have hb : (decide (m < 0) || decide (1000 < m)) = true := by rcases hm with h | h <;> simp [h]
    rw [hb]
    clear hm hb
    go_wp2_with (fail)
    go_ret
    exact coil_no 1 (by decide) HNO.out HG1.out
  have hm0 : 0 ≤ m := by omega
  have hm1 : m ≤ 1000 := by omega
  have hb : (decide (m < 0) || decide (1000 < m)) = false := by simp; omega
  rw [hb]
  clear hm hb
  go_wp2_with (fail)
  go_loopw [22] (fun i wr => ∃ k : Nat, k ≤ ps.length ∧ i = .int .i64 k ∧ (∀ j, j < k → PcOk ps j) ∧ w1.grownBy wr none) (fun i _ => ps.length - (intOf i).toNat)
  case atStart => exact ⟨0, Nat.zero_le _, rfl, fun j hj => absurd hj (Nat.not_lt_zero _), gr_refl _ _⟩
  case round =>
    clear c0 c1 c2
    obtain ⟨k, hk, rfl, hall, hgr⟩ := hrel
    obtain ⟨wo, rfl⟩ : ∃ wo : World, wo = wr := ⟨_, rfl⟩
    have HALL := Lib.hid hall
    have bO := (hgr.block O (lt_of_block HO.out) (by simp)).trans HO.out
    have HGR := Lib.hid hgr
    clear hall
    by_cases hlt : k < ps.length
    · obtain ⟨b, off, rfl, d0, d1⟩ := pc_cells (H.out.keep0 hgr) k hlt
      have hs := pc_mem HS3.out k hlt
      have hprev : 0 < k → wo.cell? ⟨b, off + (k - 1) * 2, none⟩ = some (.string (pcLot ps (k - 1))) := by
        intro h0
        obtain ⟨b', off', e', y0, -⟩ := pc_cells (H.out.keep0 hgr) (k - 1) (by omega)
        cases e'
        exact y0
      have MKP : Hid (keyB (pcLot ps k) = true → 1 ≤ pcMany ps k → pcMany ps k ≤ 1000 → (0 < k → (pcLot ps k).toList ≠ (pcLot ps (k - 1)).toList) → PcOk ps k) := fun a1 a2 a3 a4 => ⟨a1, a2, a3, a4⟩
      have NOP : Hid (¬ (keyB (pcLot ps k) = true ∧ 1 ≤ pcMany ps k ∧ pcMany ps k ≤ 1000 ∧ (0 < k → (pcLot ps k).toList ≠ (pcLot ps (k - 1)).toList)) → ¬ CoilOk ⟨P, m, ps⟩) := fun hn hh => by
        have := (UN.out hh).2.2.2.2.1 k hlt
        exact hn ⟨this.key, this.lo, this.hi, this.ne⟩
      obtain ⟨K, hK⟩ : ∃ K, K = pcLot ps k := ⟨_, rfl⟩
      obtain ⟨x, hx⟩ : ∃ x, x = pcMany ps k := ⟨_, rfl⟩
      obtain ⟨K', hK'⟩ : ∃ K, K = pcLot ps (k - 1) := ⟨_, rfl⟩
      rw [← hK, ← hx] at hs
      rw [← hK] at d0 MKP NOP
      rw [← hx] at d1 MKP NOP
      rw [← hK'] at hprev MKP NOP
      obtain ⟨hsK, hx0, hx1⟩ := hs
      have HPV := Lib.hid hprev
      clear hK hx hK' hprev hgr
      go_wp2_with (fail)
      have hV := heap_alloc_new wo (.cells #[.string K, .int .i64 x] 94)
      have hg2 := gr_alloc (gr_refl wo none) (.cells #[.string K, .int .i64 x] 94)
      obtain ⟨w3, hw3⟩ : ∃ w3, w3 = wo.alloc (.cells #[.string K, .int .i64 x] 94) := ⟨_, rfl⟩
      rw [← hw3] at hV hg2
      rw [← hw3]
      obtain ⟨V, hVe⟩ : ∃ V, V = wo.heap.size := ⟨_, rfl⟩
      rw [← hVe] at hV
      rw [← hVe]
      have bO3 := (hg2.block O (lt_of_block bO) (by simp)).trans bO
      have c0 := blkC bO3 0 rfl
      have c1 := blkC bO3 1 rfl
      have c2 := blkC bO3 2 rfl
      have v0 := blkC hV 0 rfl
      have v1 := blkC hV 1 rfl
      have HPV3 : Hid (0 < k → w3.cell? ⟨b, off + (k - 1) * 2, none⟩ = some (.string K')) := fun h0 => (gr_cell hg2 (lt_of_cell (HPV.out h0))).trans (HPV.out h0)
      have HG3 := Lib.hid (gr_trans HG1.out (gr_trans HGR.out hg2))
      have HG13 := Lib.hid (gr_trans HGR.out hg2)
      clear hw3 hVe hg2 hV bO bO3 d0 d1 HPV
      refine (key_any K w3 (by omega)).mono ?_
      rintro e w4 ⟨rfl, rfl⟩
      cases hk1 : keyB K with
      | false =>
        have HNO : Hid (¬ CoilOk ⟨P, m, ps⟩) := NOP.out (fun hh => by have := hh.1; rw [hk1] at this; cases this)
        go_wp2_with (fail)
        go_ret
        exact coil_no 5 (by decide) HNO.out HG3.out
      | true =>
      have HK1 := Lib.hid hk1
      clear hk1
      go_wp2_with (fail)
      refine (out_any x 1 1000 w3).mono ?_
      rintro e w4 ⟨rfl, rfl⟩
      by_cases hx2 : x < 1 ∨ 1000 < x
      · have HNO : Hid (¬ CoilOk ⟨P, m, ps⟩) := NOP.out (fun hh => by omega)
        have hb : (decide (x < 1) || decide (1000 < x)) = true := by rcases hx2 with h | h <;> simp [h]
        rw [hb]
        clear hx2 hb
        go_wp2_with (fail)
        go_ret
        exact coil_no 1 (by decide) HNO.out HG3.out
      have hx3 : 1 ≤ x := by omega
      have hx4 : x ≤ 1000 := by omega
      have hb : (decide (x < 1) || decide (1000 < x)) = false := by simp; omega
      rw [hb]
      clear hx2 hb
      obtain ⟨bq, hbq⟩ : ∃ bq, bq = (decide (0 < k) && (K.toList == K'.toList)) := ⟨_, rfl⟩
      have HBQ := Lib.hid hbq
      clear hbq
      go_wp2_with (fail)
      go_cut [36] from 37 to 50 (fun s wx => s = .bool bq ∧ ∃ nx, wx = w3.drewN nx)
      case first =>
        by_cases h0 : 0 < k
        · have m1 := HPV3.out h0
          have hkc : (((k - 1 : Nat)) : Int) = (k : Int) - 1 := by omega
          have hint1 : (0 : Int) ≤ (k : Int) - 1 := by omega
          have hint2 : (k : Int) - 1 < (ps.length : Int) := by omega
          have hint3 : (0 : Int) < (k : Int) := by omega
          have htn : ((k : Int) - 1).toNat = k - 1 := by omega
          have hwr : IntKind.i64.wrap ((k : Int) - 1) = (k : Int) - 1 := IntWalk.i64_in _ (by omega)
          have HB2 : Hid (bq = (K.toList == K'.toList)) := by show _ = _; rw [HBQ.out]; simp [h0]
          clear hkc
          go_quiet (fail)
          go_wp2_with (fail)
          go_meet
          exact ⟨by rw [HB2.out], _, rfl⟩
        · obtain rfl : k = 0 := by omega
          have hdf : decide ((0 : Int) < 0) = false := by decide
          have HB2 : Hid (bq = false) := by show _ = _; rw [HBQ.out]; simp
          go_quiet (fail)
          go_wp2_with (fail)
          go_meet
          exact ⟨by rw [HB2.out], _, rfl⟩
      case rest =>
      obtain ⟨rfl, nq, rfl⟩ := hcut
      have HG4 := Lib.hid (gr_drewN HG3.out nq)
      have HG14 := Lib.hid (gr_drewN HG13.out nq)
      cases bq with
      | true =>
        have HNO : Hid (¬ CoilOk ⟨P, m, ps⟩) := NOP.out (fun hh => by
          have h2 := HBQ.out
          simp only [Bool.true_eq, Bool.and_eq_true, decide_eq_true_eq, beq_iff_eq] at h2
          exact hh.2.2.2 h2.1 h2.2)
        go_wp2_with (fail)
        go_ret
        exact coil_no 3 (by decide) HNO.out HG4.out
      | false =>
        have HPK : Hid (PcOk ps k) := MKP.out HK1.out hx3 hx4 (fun h0 e => by
          have h2 := HBQ.out
          simp [h0, e] at h2)
        go_wp2_with (fail)
        go_roundw
        case rel =>
          refine ⟨k + 1, by omega, by go_num, fun j hj => ?_, HG14.out⟩
          by_cases hjk : j = k
          · rw [hjk]; exact HPK.out
          · exact HALL.out j (by omega)
        case measure => simp [intOf]; omega
    · obtain rfl : k = ps.length := by omega
      have c0 := blkC bO 0 rfl
      have c1 := blkC bO 1 rfl
      have c2 := blkC bO 2 rfl
      have x0 := grew_cell c0
      have x1 := grew_cell c1
      have x2 := grew_cell c2
      have UA : Hid (∀ W, wo.grownBy W none → Calls Tryd.prog 107 #[.slice a ps.length c] W fun e w' => e = .returned (.int .i64 (pcSum ps)) ∧ W.grownBy w' none) := fun W g => units_any ps a c W ((H.out.keep0 hgr).keep0 g) (by omega) HS3.out
      obtain ⟨S, hS⟩ : ∃ S, S = pcSum ps := ⟨_, rfl⟩
      rw [← hS] at UA MK UN
      clear hgr bO hS
      go_wp2_with (fail)
      refine wp_region_grew (by kernel_rfl) (by kernel_rfl) ?_
      repeat (go_big_quiet_step (first | (go_at_call 107; exact Calls.grew_of (fun W g => UA.out W g))))
      refine wpQuiet_nil ?_
      rintro wq ⟨n, rfl⟩
      have gq := gr_trans HG1.out (gr_trans HGR.out n.gr)
      clear x0 x1 x2
      by_cases hsum : m < S
      · have HNO : Hid (¬ CoilOk ⟨P, m, ps⟩) := fun hh => by have := (UN.out hh).2.2.2.2.2; omega
        go_wp2_with (fail)
        go_ret
        exact coil_no 12 (by decide) HNO.out gq
      · have HOK : Hid (CoilOk ⟨P, m, ps⟩) := MK.out HKY.out hm0 hm1 s2 HALL.out (by omega)
        go_wp2_with (fail)
        go_ret
        exact ⟨0, rfl, ⟨fun _ => HOK.out, fun _ => rfl⟩, gq⟩
end Go.Proofs.YtdjnomeabadbnaaDoor
