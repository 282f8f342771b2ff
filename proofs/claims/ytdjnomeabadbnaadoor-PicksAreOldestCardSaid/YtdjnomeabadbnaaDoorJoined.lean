/- Pieces of one lot that stand next to each other are joined. -/
import Derived.Test.YtdjnomeabadbnaaDoorUnits
import Derived.Test.YtdjnomeabadbnaaDoorFlatSet
import Derived.Test.YtdjnomeabadbnaaDoorGrew
import Derived.IntWalk
namespace Go.Proofs.YtdjnomeabadbnaaDoor
open Go.RowKit
attribute [local go_sem ↓] Go.wp_at_zero Go.wp_at_succ

/-- The last piece is of this lot. -/
def lastIs (out : List Piece) (k : ByteArray) : Bool := decide (0 < out.length) && (pcLot out (out.length - 1)).toList == k.toList
def joinStep (out : List Piece) (k : ByteArray) (m : Int) : List Piece :=
  if lastIs out k then out.set (out.length - 1) ⟨pcLot out (out.length - 1), pcMany out (out.length - 1) + m⟩ else out ++ [⟨k, m⟩]
def joinTo (l : List Piece) : Nat → List Piece
  | 0 => []
  | k + 1 => joinStep (joinTo l k) (pcLot l k) (pcMany l k)
def joinL (l : List Piece) : List Piece := joinTo l l.length
theorem joinStep_bd {out : List Piece} {k : ByteArray} {m : Int} {n : Nat} {B : Int} (hl : out.length ≤ n) (hb : ∀ i, i < out.length → -B ≤ pcMany out i ∧ pcMany out i ≤ B) (hm : -100000 ≤ m ∧ m ≤ 100000) (hB : 0 ≤ B) :
    (joinStep out k m).length ≤ n + 1 ∧ ∀ i, i < (joinStep out k m).length → -(B + 100000) ≤ pcMany (joinStep out k m) i ∧ pcMany (joinStep out k m) i ≤ B + 100000 := by
  unfold joinStep
  split
  · rename_i h
    unfold lastIs at h
    simp only [Bool.and_eq_true, decide_eq_true_eq] at h
    refine ⟨by simp; omega, fun i hi => ?_⟩
    simp only [List.length_set] at hi
    have h1 := hb i hi
    have h2 := hb (out.length - 1) (by omega)
    by_cases e : i = out.length - 1
    · subst e
      have : pcMany (out.set (out.length - 1) ⟨pcLot out (out.length - 1), pcMany out (out.length - 1) + m⟩) (out.length - 1) = pcMany out (out.length - 1) + m := by
        conv => lhs; unfold pcMany
        rw [getD_eq _ _ _ (by simpa using hi), List.getElem_set_self]
        rfl
      rw [this]; omega
    · have : pcMany (out.set (out.length - 1) ⟨pcLot out (out.length - 1), pcMany out (out.length - 1) + m⟩) i = pcMany out i := by
        unfold pcMany
        rw [getD_eq _ _ _ (by simpa using hi), getD_eq out _ _ hi, List.getElem_set_ne (by omega)]
      rw [this]; omega
  · refine ⟨by simp; omega, fun i hi => ?_⟩
    simp only [List.length_append, List.length_cons, List.length_nil] at hi
    by_cases e : i < out.length
    · have : pcMany (out ++ [⟨k, m⟩]) i = pcMany out i := by
        unfold pcMany
        rw [getD_eq _ _ _ (by simp; omega), getD_eq out _ _ e, List.getElem_append_left e]
      have h1 := hb i e
      rw [this]; omega
    · have : pcMany (out ++ [⟨k, m⟩]) i = m := by
        unfold pcMany
        rw [getD_eq _ _ _ (by simp; omega), List.getElem_append_right (by omega)]
        have : i - out.length = 0 := by omega
        simp [this]
      rw [this]; omega
theorem joinTo_bd (l : List Piece) (h : ∀ x ∈ l, x.lot.size ≤ 1000 ∧ -100000 ≤ x.many ∧ x.many ≤ 100000) (k : Nat) (hk : k ≤ l.length) :
    (joinTo l k).length ≤ k ∧ ∀ i, i < (joinTo l k).length → -(100000 * (k : Int)) ≤ pcMany (joinTo l k) i ∧ pcMany (joinTo l k) i ≤ 100000 * (k : Int) := by
  induction k with
  | zero => exact ⟨Nat.le_refl _, fun i hi => absurd hi (Nat.not_lt_zero _)⟩
  | succ k ih =>
    obtain ⟨h1, h2⟩ := ih (by omega)
    have hm := pc_mem (P := fun x => -100000 ≤ x.many ∧ x.many ≤ 100000) (fun x hx => (h x hx).2) k (by omega)
    simp only at hm
    have := joinStep_bd (k := pcLot l k) h1 h2 hm (by omega)
    refine ⟨this.1, fun i hi => ?_⟩
    have := this.2 i hi
    show _ ≤ pcMany (joinStep _ _ _) i ∧ pcMany (joinStep _ _ _) i ≤ _
    omega
theorem pc_get (l : List Piece) (k : Nat) (hk : k < l.length) : l[k] = ⟨pcLot l k, pcMany l k⟩ := by
  unfold pcLot pcMany
  rw [getD_eq l k _ hk]
set_option maxRecDepth 100000 in
set_option maxHeartbeats 2000000 in
theorem joined_any (ps : List Piece) (a : Option Addr) (c : Nat) (w : World) (h : CellsAt w a (flat encPc ps)) (hl : ps.length ≤ 100000) (hb : ∀ x ∈ ps, x.lot.size ≤ 1000 ∧ -100000 ≤ x.many ∧ x.many ≤ 100000) :
    Calls Tryd.prog 104 #[.slice a ps.length c] w fun e w' => ∃ v, e = .returned v ∧ w'.ownsRow w.heap.size 94 2 v (joinL ps).length (flat encPc (joinL ps)) ∧ w.grownBy w' none := by
  have H := Lib.hid h
  have HB := Lib.hid hb
  clear h hb
  go_enter Tryd.func104, Tryd.ntmps104
  go_wp2_with (fail)
  go_loopw [3, 9] (fun v i wr => ∃ k : Nat, k ≤ ps.length ∧ i = .int .i64 k ∧ wr.ownsRow w.heap.size 94 2 v (joinTo ps k).length (flat encPc (joinTo ps k)) ∧ w.grownBy wr none) (fun _ i _ => ps.length - (intOf i).toNat)
  case atStart => exact ⟨0, Nat.zero_le _, rfl, World.ownsRow_nil _ _ _ _, gr_refl _ _⟩
  case round =>
    obtain ⟨k, hk, rfl, hown, hgr⟩ := hrel
    obtain ⟨wo, rfl⟩ : ∃ wo : World, wo = wr := ⟨_, rfl⟩
    by_cases hlt : k < ps.length
    · obtain ⟨b, off, rfl, d0, d1⟩ := pc_cells (H.out.keep0 hgr) k hlt
      obtain ⟨hl1, hb1⟩ := joinTo_bd ps HB.out k hk
      have hmb := pc_mem (P := fun x => -100000 ≤ x.many ∧ x.many ≤ 100000) (fun x hx => (HB.out x hx).2) k hlt
      simp only at hmb
      have HST : Hid (joinTo ps (k + 1) = joinStep (joinTo ps k) (pcLot ps k) (pcMany ps k)) := rfl
      obtain ⟨K, hK⟩ : ∃ K, K = pcLot ps k := ⟨_, rfl⟩
      obtain ⟨m, hm⟩ : ∃ m, m = pcMany ps k := ⟨_, rfl⟩
      obtain ⟨S, hS⟩ : ∃ S, S = joinTo ps k := ⟨_, rfl⟩
      rw [← hK, ← hm, ← hS] at HST
      rw [← hm] at hmb d1
      rw [← hK] at d0
      rw [← hS] at hl1 hb1 hown
      obtain ⟨va, vc, rfl, -, -, -, -⟩ := own_shape hown
      have HB1 := Lib.hid hb1
      have HOWN := Lib.hid hown
      have HGR := Lib.hid hgr
      have hzo := hgr.size
      clear hK hm hS hb1 hown hgr
      go_wp2_with (fail)
      have hV := heap_alloc_new wo (.cells #[.string K, .int .i64 m] 94)
      have hg2 := gr_alloc (gr_refl wo none) (.cells #[.string K, .int .i64 m] 94)
      obtain ⟨w3, hw3⟩ : ∃ w3, w3 = wo.alloc (.cells #[.string K, .int .i64 m] 94) := ⟨_, rfl⟩
      rw [← hw3] at hV hg2
      rw [← hw3]
      obtain ⟨V, hVe⟩ : ∃ V, V = wo.heap.size := ⟨_, rfl⟩
      rw [← hVe] at hV
      rw [← hVe]
      have HV := Lib.hid hV
      have HO3 := Lib.hid (own_keep0 HOWN.out hg2)
      have HG3 := Lib.hid (gr_trans HGR.out hg2)
      obtain ⟨v0, v1, -, -⟩ := blk2 hV
      have hz3 := HG3.out.size
      clear hw3 hVe hV hg2 HOWN HGR d0 d1
      by_cases hn : 0 < S.length
      · obtain ⟨g, cap, hvv, hgb, hglt, hcap, hcapm⟩ := own_some HO3.out hn
        cases hvv
        obtain ⟨q, hq⟩ : ∃ q, q = S.length - 1 := ⟨_, rfl⟩
        have hqS : q < S.length := by omega
        have hge := pc_get S q hqS
        have r0' := own_cellE encPc_len HO3.out q hqS 0 (by decide) _ rfl rfl
        have r1' := own_cellE encPc_len HO3.out q hqS 1 (by decide) _ rfl rfl
        have hqb := HB1.out q hqS
        rw [hge] at r0' r1'
        have hla : lastIs S K = ((pcLot S q).toList == K.toList) := by
          unfold lastIs; rw [← hq]; simp [hn]
        have hju : Hid (joinStep S K m = if lastIs S K then S.set q ⟨pcLot S q, pcMany S q + m⟩ else S ++ [⟨K, m⟩]) := by show _ = _; unfold joinStep; rw [← hq]
        obtain ⟨K2, hK2⟩ : ∃ x, x = pcLot S q := ⟨_, rfl⟩
        obtain ⟨m2, hm2⟩ : ∃ x, x = pcMany S q := ⟨_, rfl⟩
        rw [← hK2] at hla
        rw [← hK2, ← hm2] at hju r0' r1'
        rw [← hm2] at hqb
        obtain ⟨r0', -, -⟩ := r0'
        obtain ⟨r1', f1, st⟩ := r1'
        have r0 : w3.cell? ⟨g, q * 2, none⟩ = some (.string K2) := r0'
        have r1 : w3.cell? ⟨g, q * 2 + 1, none⟩ = some (.int .i64 m2) := r1'
        have hwr : (S.length : Int) - 1 = (q : Int) := by omega
        have HST := Lib.hid (HST.out.trans hju.out)
        have HF := Lib.hid f1
        have hq0 : (0 : Int) ≤ (q : Int) := by omega
        have hq1 : (q : Int) < (S.length : Int) := by omega
        have hq2 : decide ((0 : Int) ≤ (q : Int)) = true := by simp
        have hwr2 : IntKind.i64.wrap (m2 + m) = m2 + m := IntWalk.i64_in _ (by omega)
        have x0 := grew_cell r0
        have x1 := grew_cell v0
        have ST : Hid (∀ W : World, w3.grownBy W none → (W.setCell ⟨g, q * 2 + 1, none⟩ (.int .i64 (m2 + m))).ownsRow w.heap.size 94 2 (.slice (some ⟨g, 0, none⟩) S.length vc) S.length (flat encPc (S.set q ⟨K2, m2 + m⟩))) := fun W gw =>
          (own_cellE encPc_len (own_keep0 HO3.out gw) q hqS 1 (by decide) _ rfl rfl).2.2 (.int .i64 (m2 + m)) ⟨K2, m2 + m⟩ (by rw [hge, ← hK2, ← hm2]; rfl)
        clear hge hK2 hm2 st f1 hju hq
        rw [hwr]
        cases hb : (K2.toList == K.toList) with
        | true =>
          rw [hla, hb] at HST
          refine wp_region_grew (by kernel_rfl) (by kernel_rfl) ?_
          repeat (go_big_quiet_step (fail))
          refine wpQuiet_nil ?_
          rintro wq ⟨nn, rfl⟩
          have gq := nn.gr
          have y0 := (gr_cell gq (lt_of_cell r1)).trans r1
          have y1 := (gr_cell gq (lt_of_cell v1)).trans v1
          have y2 := (gr_free gq (lt_of_cell r1)).trans HF.out
          have HST2 := Lib.hid (ST.out _ gq)
          have HGQ := Lib.hid (gr_trans HG3.out gq)
          obtain ⟨wn, hwn⟩ : ∃ wn, wn = nn.w := ⟨_, rfl⟩
          rw [← hwn] at y0 y1 y2 HST2 HGQ
          rw [← hwn]
          clear gq hwn x0 x1 r0 r1 v0 v1
          go_wp2_with (fail)
          go_region
          all_goals (go_wp2_with (fail); go_roundw)
          case rel => exact ⟨k + 1, by omega, by go_num, by rw [HST.out]; simpa using own_keep0 HST2.out (gr_drew (gr_refl _ _)), gr_new (gr_drew HGQ.out) hgb _⟩
          case measure => simp [intOf]; omega
        | false =>
          rw [hla, hb] at HST
          refine wp_region_grew (by kernel_rfl) (by kernel_rfl) ?_
          repeat (go_big_quiet_step (fail))
          refine wpQuiet_nil ?_
          rintro wq ⟨nn, rfl⟩
          have gq := nn.gr
          have y0 := (gr_cell gq (lt_of_cell v0)).trans v0
          have y1 := (gr_cell gq (lt_of_cell v1)).trans v1
          have HO5 := Lib.hid (own_keep0 HO3.out gq)
          have HGQ := Lib.hid (gr_trans HG3.out gq)
          obtain ⟨wn, hwn⟩ : ∃ wn, wn = nn.w := ⟨_, rfl⟩
          rw [← hwn] at y0 y1 HO5 HGQ
          rw [← hwn]
          clear gq hwn x0 x1 r0 r1 v0 v1 ST HO3
          have hzn := HGQ.out.size
          generalize hvv : Value.slice (some ⟨g, 0, none⟩) S.length vc = vv at HO5 ⊢
          clear hvv
          go_wp2_with (at_builtin; refine wpList_app1F ePc rfl _ _ rfl w.heap.size _ S.length (flat encPc S) rfl wn #[.string K, .int .i64 m] rfl HO5.out _ rfl rfl rfl rfl (by omega) (by omega) ?_; intro v6 w6 ho6 g6 hlt6 hf6)
          have HO6 := Lib.hid ho6
          have HG6 := Lib.hid (gr_grown HGQ.out g6 (fun q hq => by have := hlt6 q hq; omega))
          clear ho6 g6 hlt6 hf6
          go_roundw
          case rel =>
            refine ⟨k + 1, by omega, by go_num, ?_, HG6.out⟩
            rw [HST.out]
            simp only [Bool.false_eq_true, if_false]
            rw [List.length_append, flat_append, flat_one]
            exact HO6.out
          case measure => simp [intOf]; omega
      · have hS0 : S.length = 0 := by omega
        have hSn : S = [] := List.length_eq_zero_iff.1 hS0
        subst hSn
        have HST2 : Hid (joinTo ps (k + 1) = [⟨K, m⟩]) := HST.out
        have hwr : (0 : Int) - 1 = -1 := by decide
        have hq2 : decide ((0 : Int) ≤ -1) = false := by decide
        have x1 := grew_cell v0
        have hlen0 : (([] : List Piece).length : Int) = 0 := rfl
        have HO3 : Hid (w3.ownsRow w.heap.size 94 2 (.slice va 0 vc) 0 []) := HO3.out
        rw [hlen0, hwr]
        simp only [List.length_nil]
        refine wp_region_grew (by kernel_rfl) (by kernel_rfl) ?_
        repeat (go_big_quiet_step (fail))
        refine wpQuiet_nil ?_
        rintro wq ⟨nn, rfl⟩
        have gq := nn.gr
        have y0 := (gr_cell gq (lt_of_cell v0)).trans v0
        have y1 := (gr_cell gq (lt_of_cell v1)).trans v1
        have HO5 := Lib.hid (own_keep0 HO3.out gq)
        have HGQ := Lib.hid (gr_trans HG3.out gq)
        obtain ⟨wn, hwn⟩ : ∃ wn, wn = nn.w := ⟨_, rfl⟩
        rw [← hwn] at y0 y1 HO5 HGQ
        rw [← hwn]
        clear gq hwn x1 v0 v1 HO3
        have hzn := HGQ.out.size
        generalize hvv : Value.slice va 0 vc = vv at HO5 ⊢
        clear hvv
        go_wp2_with (at_builtin; refine wpList_app1F ePc rfl _ _ rfl w.heap.size _ 0 [] rfl wn #[.string K, .int .i64 m] rfl HO5.out _ rfl rfl rfl rfl (by omega) (by omega) ?_; intro v6 w6 ho6 g6 hlt6 hf6)
        have HO6 := Lib.hid ho6
        have HG6 := Lib.hid (gr_grown HGQ.out g6 (fun q hq => by have := hlt6 q hq; omega))
        clear ho6 g6 hlt6 hf6
        go_roundw
        case rel =>
          refine ⟨k + 1, by omega, by go_num, ?_, HG6.out⟩
          rw [HST2.out, flat_one]
          exact HO6.out
        case measure => simp [intOf]; omega
    · obtain rfl : k = ps.length := by omega
      have HO := Lib.hid hown
      clear hown
      go_wp2_with (fail)
      go_ret
      exact ⟨_, rfl, HO.out, hgr⟩
end Go.Proofs.YtdjnomeabadbnaaDoor
