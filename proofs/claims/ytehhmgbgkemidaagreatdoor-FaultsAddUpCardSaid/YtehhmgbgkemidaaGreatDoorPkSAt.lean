/- Package meter's joined and someOn. -/
import Derived.Test.YtehhmgbgkemidaaGreatDoorPkSAr
import Derived.Test.YtehhmgbgkemidaaGreatDoorPkSAs
import Derived.Test.YtehhmgbgkemidaaGreatDoorPkSAf
import Derived.Test.YtehhmgbgkemidaaGreatDoorPkSAn
import Derived.Deep.DeepCutAuto
import Derived.Test.YtehhmgbgkemidaaGreatDoorPkSAq
import Derived.Test.YtehhmgbgkemidaaGreatDoorPkSAc
import Derived.BigRegion
namespace Go.Proofs.YtehhmgbgkemidaaGreatDoor
open Go.RowKit
attribute [local go_sem ↓] Go.wp_at_zero Go.wp_at_succ

def wCm (x y : Win) : Int := cmpN x.fr y.fr
theorem wCm_neg (x y : Win) : wCm x y < 0 ↔ x.fr < y.fr := by
  unfold wCm cmpN
  split
  · constructor <;> omega
  · split <;> constructor <;> omega
theorem wCm_ok : CmpOk wCm := ⟨fun a b h => by rw [wCm_neg] at *; omega, fun a b c h1 h2 => by rw [wCm_neg] at *; omega⟩
theorem join1_fn : ∀ (args : Array Value) (w : World), (callFunc 122 args).run Tryz.prog w = .ok (.enter 122 args) w := fun _ _ => by kernel_rfl
theorem join1_any (x y : Win) (w : World) : Calls Tryz.prog 122 #[.agg #[.int .i64 x.fr, .int .i64 x.to], .agg #[.int .i64 y.fr, .int .i64 y.to]] w fun e w' => e = .returned (.int .i64 (wCm x y)) ∧ w.grownBy w' none := by
  obtain ⟨x0, x1⟩ := x
  obtain ⟨y0, y1⟩ := y
  obtain ⟨hA, hB⟩ := heap_2 w (.cells #[.int .i64 x0, .int .i64 x1] 39) (.cells #[.int .i64 y0, .int .i64 y1] 39)
  have hg := gr_alloc (gr_alloc (gr_refl w none) (.cells #[.int .i64 x0, .int .i64 x1] 39)) (.cells #[.int .i64 y0, .int .i64 y1] 39)
  obtain ⟨w2, hw2⟩ : ∃ w2, w2 = (w.alloc (.cells #[.int .i64 x0, .int .i64 x1] 39)).alloc (.cells #[.int .i64 y0, .int .i64 y1] 39) := ⟨_, rfl⟩
  rw [← hw2] at hA hB hg
  have p0 : w2.cell? ⟨w.heap.size, 0, none⟩ = some (.int .i64 x0) := blkC hA 0 rfl
  have r0 : w2.cell? ⟨w.heap.size + 1, 0, none⟩ = some (.int .i64 y0) := blkC hB 0 rfl
  have HW := Lib.hid hw2
  have HG := Lib.hid hg
  clear hA hB hw2 hg
  show Calls _ _ _ _ _
  simp only
  go_enter Tryz.func122, Tryz.ntmps122
  go_wp2_with (fail)
  rw [← HW.out]
  go_wp2_with (fail)
  refine (cmpInt_any x0 y0 w2).mono ?_
  rintro e w5 ⟨rfl, rfl⟩
  go_wp2_with (fail)
  go_ret
  exact ⟨rfl, HG.out⟩
theorem joinStep_len (J : List Win) (x : Win) : (joinStep J x).length ≤ J.length + 1 := by
  unfold joinStep
  split
  · rw [List.length_set]; omega
  · simp
theorem join_next (O : List Win) (k : Nat) (h : k < O.length) : (O.take (k + 1)).foldl joinStep [] = joinStep ((O.take k).foldl joinStep []) O[k] := by
  rw [List.take_succ_eq_append_getElem h, List.foldl_append]
  rfl
def JoinPost (N : List Win) (v : Value) (w : World) (e : Ending) (w' : World) : Prop :=
  ∃ (v' : Value) (O : List Win), e = .returned v' ∧ w'.ownsRow w.heap.size 39 2 v' (O.foldl joinStep []).length (flat encWin (O.foldl joinStep [])) ∧ O.Perm N ∧ O.Pairwise (fun x y => x.fr ≤ y.fr) ∧ w.grownBy w' v.ownBlock
theorem srt_pairwise {O : List Win} (h : Srt wCm w0W O O.length) : O.Pairwise (fun x y => x.fr ≤ y.fr) := by
  rw [List.pairwise_iff_getElem]
  intro i j hi hj hij
  have := h i j hij hj
  rw [getD_eq O i w0W hi, getD_eq O j w0W hj, wCm_neg] at this
  omega
set_option maxRecDepth 100000 in
set_option maxHeartbeats 2000000 in
theorem joined_any (N : List Win) (v : Value) (base : Nat) (w : World) (hown : w.ownsRow base 39 2 v N.length (flat encWin N)) (hn : N.length ≤ 12) :
    Calls Tryz.prog 68 #[v] w (JoinPost N v w) := by
  obtain ⟨n, hnn⟩ : ∃ n, n = N.length := ⟨_, rfl⟩
  rw [← hnn] at hown hn
  have SF := Lib.hid (sortFWi_few 122 n wCm v base N w hown hnn.symm hn join1_fn wCm_ok (fun x y W _ _ _ => join1_any x y W))
  obtain ⟨va, vc, rfl, -, -, -, -⟩ := own_shape hown
  have HOWN := Lib.hid hown
  have HNN := Lib.hid hnn
  clear hown hnn
  go_enter Tryz.func68, Tryz.ntmps68
  go_wp2_with (fail)
  refine SF.out.mono ?_
  rintro e w1 ⟨O, rfl, ho, hp, hs, hg⟩
  have hOl : O.length = n := hp.length_eq.trans HNN.out.symm
  have hvl : ∀ q, (Value.slice va n vc).ownBlock = some q → q < w1.heap.size := fun q e => (ho.lt q e).2
  obtain ⟨_, _, e, -, -, hc, -⟩ := own_shape ho
  cases e
  have HC := Lib.hid hc
  have HP := Lib.hid hp
  have HG := Lib.hid hg
  have HS := Lib.hid (srt_pairwise (by rw [hOl]; exact hs))
  have HOL := Lib.hid hOl
  have hzw := hg.size
  clear SF ho hp hs hg hc hOl
  go_wp2_with (fail)
  go_loopw [3, 11] (fun o i wr => ∃ (k : Nat) (J : List Win), k ≤ n ∧ i = .int .i64 k ∧ J = (O.take k).foldl joinStep [] ∧ J.length ≤ k ∧ wr.ownsRow w1.heap.size 39 2 o J.length (flat encWin J) ∧ w1.grownBy wr none) (fun _ i _ => n - (intOf i).toNat)
  case atStart => exact ⟨0, [], Nat.zero_le _, rfl, rfl, Nat.le_refl _, World.ownsRow_nil _ _ _ _, gr_refl _ _⟩
  case round =>
    obtain ⟨k, J, hk, rfl, hJ, hJl, hOw, hgr⟩ := hrel
    obtain ⟨wo, rfl⟩ : ∃ wo : World, wo = wr := ⟨_, rfl⟩
    by_cases hlt : k < n
    · have hkO : k < O.length := by rw [HOL.out]; exact hlt
      obtain ⟨b, off, rfl, d0, d1⟩ := win_cells (HC.out.keep0 hgr) k hkO
      have hnx := join_next O k hkO
      rw [← hJ] at hnx
      obtain ⟨x, hx⟩ : ∃ x, x = O[k] := ⟨_, rfl⟩
      rw [← hx] at d0 d1 hnx
      have hjs := joinStep_len J x
      obtain ⟨x0, x1⟩ := x
      simp only at d0 d1
      have hV := heap_alloc_new wo (.cells #[.int .i64 x0, .int .i64 x1] 39)
      have g2 := gr_alloc (gr_refl wo none) (.cells #[.int .i64 x0, .int .i64 x1] 39)
      obtain ⟨w2, hw2⟩ : ∃ w2, w2 = wo.alloc (.cells #[.int .i64 x0, .int .i64 x1] 39) := ⟨_, rfl⟩
      rw [← hw2] at hV g2
      obtain ⟨V, hVe⟩ : ∃ V, V = wo.heap.size := ⟨_, rfl⟩
      rw [← hVe] at hV
      have hO2 := own_keep0 hOw g2
      have G2 := Lib.hid (gr_trans hgr g2)
      have hz2 := G2.out.size
      have HNX := Lib.hid hnx
      have HV := Lib.hid hV
      have HW2 := Lib.hid hw2
      have HVE := Lib.hid hVe
      obtain ⟨oa, oc, rfl, -, -, -, -⟩ := own_shape hO2
      have hVo : ∀ q, (Value.slice oa J.length oc).ownBlock = some q → q < V := fun q e => by have := (hOw.lt q e).2; omega
      have hJl2 : (joinStep J ⟨x0, x1⟩).length ≤ k + 1 := by omega
      have v0 : w2.cell? ⟨V, 0, none⟩ = some (.int .i64 x0) := blkC hV 0 rfl
      have v1 : w2.cell? ⟨V, 1, none⟩ = some (.int .i64 x1) := blkC hV 1 rfl
      clear hx hJ hnx hV g2 hOw hgr hw2 hjs
      go_upto_region 6 with (fail)
      rw [← HW2.out, ← HVE.out]
      clear d0 d1 hVe HW2
      by_cases hn0 : 0 < J.length
      · obtain ⟨g, gc, hge, hgb, -, -, -⟩ := own_some hO2 hn0
        cases hge
        obtain ⟨i, hi⟩ : ∃ i, i = J.length - 1 := ⟨_, rfl⟩
        have hil : i < J.length := by omega
        obtain ⟨m, hm⟩ : ∃ m, m = J.length := ⟨_, rfl⟩
        have c1 := own_cellE (enc := encWin) (m := 2) (fun _ => rfl) hO2 i hil 1 (by decide) _ rfl rfl
        have HST : Hid (∀ (W : World) (t : Int), W.ownsRow w1.heap.size 39 2 (.slice (some ⟨g, 0, none⟩) m oc) m (flat encWin J) → (W.setCell ⟨g, i * 2 + 1, none⟩ (.int .i64 t)).ownsRow w1.heap.size 39 2 (.slice (some ⟨g, 0, none⟩) m oc) m (flat encWin (J.set i ⟨J[i].fr, t⟩))) := fun W t hW => by
          have h5 := (hW.stored (i * 2 + 1) (.int .i64 t)).1
          rw [flat_set (enc := encWin) (m := 2) (fun _ => rfl) J i hil 1 (by decide) (.int .i64 t) ⟨J[i].fr, t⟩ rfl] at h5
          exact h5
        have hge : J.getD (J.length - 1) w0W = J[i] := by
          rw [← hi, List.getD_eq_getElem?_getD, List.getElem?_eq_getElem hil]; rfl
        have JT : Hid (joinStep J ⟨x0, x1⟩ = if x0 ≤ J[i].to then J.set i ⟨J[i].fr, max J[i].to x1⟩ else J ++ [⟨x0, x1⟩]) := by
          show _ = _
          unfold joinStep
          rw [hge, ← hi]
          by_cases e : x0 ≤ J[i].to
          · rw [if_pos ⟨hn0, e⟩, if_pos e]
          · rw [if_neg (fun h => e h.2), if_neg e]
        obtain ⟨y, hy⟩ : ∃ y, y = J[i] := ⟨_, rfl⟩
        rw [← hy] at c1 HST JT
        rw [← hm] at hO2 hn0 hil
        obtain ⟨y0, y1⟩ := y
        obtain ⟨c1, f1, -⟩ := c1
        replace c1 : w2.cell? ⟨g, i * 2 + 1, none⟩ = some (.int .i64 y1) := c1
        replace f1 : w2.frozen? ⟨g, i * 2 + 1, none⟩ = false := f1
        have hgl := lt_of_cell c1
        have hin : m = i + 1 := by omega
        subst hin
        have HM := Lib.hid hm
        have HO := Lib.hid hO2
        have hq0 : (0 : Int) ≤ (i : Int) := by omega
        have hq1 : (i : Int) < ((i + 1 : Nat) : Int) := by omega
        have hq2 : (i : Int) < (i : Int) + 1 := by omega
        have hwi : IntKind.i64.wrap (((i + 1 : Nat) : Int) - 1) = (i : Int) := by rw [show ((i + 1 : Nat) : Int) - 1 = (i : Int) by omega]; exact IntWalk.i64_in _ (by omega)
        have hd0 : decide ((0 : Int) ≤ (i : Int)) = true := decide_eq_true hq0
        simp only at JT HST
        rw [← hm]
        clear hm hy hi hge hO2
        by_cases hxy : x0 ≤ y1
        · have hde : decide (x0 ≤ y1) = true := decide_eq_true hxy
          rw [if_pos hxy] at JT
          go_wp2_with (fail)
          go_quiet (fail)
          obtain ⟨wn, hwn⟩ : ∃ wn, wn = w2.drewN nq := ⟨_, rfl⟩
          have gq : w2.grownBy wn none := by rw [hwn]; exact gr_drewN (gr_refl _ _) _
          rw [← hwn]
          have HON := Lib.hid (own_keep0 HO.out gq)
          have V0 := (gr_cell gq (lt_of_cell v0)).trans v0
          have V1 := (gr_cell gq (lt_of_cell v1)).trans v1
          have HGN := Lib.hid (gr_trans G2.out gq)
          have hzn := HGN.out.size
          clear hwn
          have C1 := (gr_cell gq (lt_of_cell c1)).trans c1
          have F1 := (gr_free gq hgl (o := i * 2 + 1)).trans f1
          clear gq v0 v1 c1 f1
          go_wp2_with (fail)
          go_region
          go_wp2_with (fail)
          go_roundw
          case rel => exact ⟨k + 1, J.set i ⟨y0, max y1 x1⟩, by omega, by go_num, by rw [HNX.out, JT.out], by rw [List.length_set]; omega, by rw [List.length_set, ← HM.out]; exact own_keep0 (HST.out wn _ HON.out) (gr_drew (gr_refl _ _)), gr_drew (gr_grown HGN.out (gr_set (q := ⟨g, i * 2 + 1, none⟩) (gr_refl wn (some g)) rfl _) (fun q e => by cases e; exact hgb))⟩
          case measure => simp [intOf]; omega
        · have hde : decide (x0 ≤ y1) = false := decide_eq_false hxy
          rw [if_neg hxy] at JT
          go_wp2_with (fail)
          go_quiet (fail)
          obtain ⟨wn, hwn⟩ : ∃ wn, wn = w2.drewN nq := ⟨_, rfl⟩
          have gq : w2.grownBy wn none := by rw [hwn]; exact gr_drewN (gr_refl _ _) _
          rw [← hwn]
          have HON := Lib.hid (own_keep0 HO.out gq)
          have V0 := (gr_cell gq (lt_of_cell v0)).trans v0
          have V1 := (gr_cell gq (lt_of_cell v1)).trans v1
          have HGN := Lib.hid (gr_trans G2.out gq)
          have hzn := HGN.out.size
          clear hwn
          clear gq v0 v1 c1 f1
          obtain ⟨v9, hv9⟩ : ∃ v9, v9 = Value.slice (some ⟨g, 0, none⟩) (i + 1) oc := ⟨_, rfl⟩
          rw [← hv9] at HON
          rw [← hv9]
          clear hv9 HST HO
          go_wp2_with (at_builtin; refine wpList_app1F eWin rfl _ _ rfl w1.heap.size v9 _ _ rfl wn #[.int .i64 x0, .int .i64 x1] rfl HON.out _ rfl rfl rfl rfl (by omega) hzn ?_; intro v7 w7 o7 g7 hl7 _; have O7 := Lib.hid o7; have G7 := Lib.hid g7; clear o7 g7)
          go_roundw
          case rel => exact ⟨k + 1, J ++ [⟨x0, x1⟩], by omega, by go_num, by rw [HNX.out, JT.out], by rw [List.length_append]; simp; omega, by rw [flat_snoc, List.length_append, ← HM.out]; exact O7.out, gr_grown HGN.out G7.out hl7⟩
          case measure => simp [intOf]; omega
      · have hJ0 : J = [] := List.eq_nil_of_length_eq_zero (by omega)
        subst hJ0
        have HO2 := Lib.hid hO2
        simp only [List.length_nil] at HO2 ⊢
        clear hO2
        have JT : Hid (joinStep [] ⟨x0, x1⟩ = [] ++ [⟨x0, x1⟩]) := by show _ = _; unfold joinStep; simp
        go_wp2_with (fail)
        go_quiet (fail)
        obtain ⟨wn, hwn⟩ : ∃ wn, wn = w2.drewN nq := ⟨_, rfl⟩
        have gq : w2.grownBy wn none := by rw [hwn]; exact gr_drewN (gr_refl _ _) _
        rw [← hwn]
        have HON := Lib.hid (own_keep0 HO2.out gq)
        have V0 := (gr_cell gq (lt_of_cell v0)).trans v0
        have V1 := (gr_cell gq (lt_of_cell v1)).trans v1
        have HGN := Lib.hid (gr_trans G2.out gq)
        have hzn := HGN.out.size
        clear hwn
        clear gq v0 v1
        obtain ⟨v9, hv9⟩ : ∃ v9, v9 = Value.slice oa 0 oc := ⟨_, rfl⟩
        rw [← hv9] at HON
        rw [← hv9]
        clear hv9 HO2
        go_wp2_with (at_builtin; refine wpList_app1F eWin rfl _ _ rfl w1.heap.size v9 _ _ rfl wn #[.int .i64 x0, .int .i64 x1] rfl HON.out _ rfl rfl rfl rfl (by omega) hzn ?_; intro v7 w7 o7 g7 hl7 _; have O7 := Lib.hid o7; have G7 := Lib.hid g7; clear o7 g7)
        go_roundw
        case rel => exact ⟨k + 1, [] ++ [⟨x0, x1⟩], by omega, by go_num, by rw [HNX.out, JT.out], by rw [List.length_append]; simp, by rw [flat_snoc, List.length_append]; exact O7.out, gr_grown HGN.out G7.out hl7⟩
        case measure => simp [intOf]; omega
    · obtain rfl : k = n := by omega
      have HOw := Lib.hid hOw
      have HGR := Lib.hid hgr
      have HJ : Hid (J = O.foldl joinStep []) := by show _ = _; rw [hJ, ← HOL.out, List.take_length]
      obtain ⟨oa, oc, rfl, -, -, -, -⟩ := own_shape hOw
      clear hOw hgr hJ
      go_wp2_with (fail)
      go_ret
      exact ⟨_, O, rfl, by rw [← HJ.out]; exact own_base HOw.out hzw, HP.out, HS.out, gr_grown HG.out HGR.out (fun q e => by cases e)⟩
end Go.Proofs.YtehhmgbgkemidaaGreatDoor

/-! What is wrong with codes: the document's answer, and the program's. -/
namespace Go.Proofs.YtehhmgbgkemidaaGreatDoor
open Go.RowKit
attribute [local go_sem ↓] Go.wp_at_zero Go.wp_at_succ

def CdSm (x : Cd) : Prop := x.key.size ≤ 100
def CdAt (N : List Cd) (j : Nat) (hj : j < N.length) : Prop := (0 ≤ N[j].tm ∧ N[j].tm < 5761440) ∧ keyB N[j].key = true ∧ ∀ (_ : 0 < j), ¬ 0 < orI (cmpN (N[j - 1]'(by omega)).tm N[j].tm) (cmpB (N[j - 1]'(by omega)).key N[j].key)
def CdsFull (N : List Cd) : Prop := ∀ j (hj : j < N.length), CdAt N j hj
theorem or_anti (a b : Int) (k l : ByteArray) (h : orI (cmpN a b) (cmpB k l) < 0) : 0 < orI (cmpN b a) (cmpB l k) := by
  have := cmpB_anti k l
  unfold orI cmpN at *
  (repeat' split at h) <;> (repeat' split) <;> omega
theorem or_tm (a b : Int) (k l : ByteArray) (h : ¬ 0 < orI (cmpN a b) (cmpB k l)) : a ≤ b := by
  unfold orI cmpN at h
  (repeat' split at h) <;> omega
theorem CdsFull.ok {N : List Cd} (h : CdsFull N) : CdsOk endM N := by
  have step : ∀ n i j (hi : i < N.length) (hj : j < N.length), j = i + n → N[i].tm ≤ N[j].tm := by
    intro n
    induction n with
    | zero => intro i j hi hj e; subst e; exact Int.le_refl _
    | succ n ih =>
      intro i j hi hj e
      have h1 := ih i (i + n) hi (by omega) rfl
      have h2 := or_tm _ _ _ _ ((h j hj).2.2 (by omega))
      have e2 : j - 1 = i + n := by omega
      simp only [e2] at h2
      omega
  refine ⟨fun c hc => ?_, ?_⟩
  · obtain ⟨j, hj, rfl⟩ := List.getElem_of_mem hc
    exact (h j hj).1
  · rw [List.pairwise_iff_getElem]
    intro i j hi hj hij
    exact step (j - i) i j hi hj (by omega)
set_option maxRecDepth 100000 in
set_option maxHeartbeats 2000000 in
theorem codesFault_any (N : List Cd) (a : Option Addr) (c : Nat) (w : World) (h : CellsAt w a (flat encCd N)) (hsm : ∀ x ∈ N, CdSm x) (hl : N.length ≤ 100) :
    Calls Tryz.prog 8 #[.slice a N.length c] w fun e w' => ∃ r : Int, e = .returned (.int .i64 r) ∧ (r = 0 → CdsFull N) ∧ w.grownBy w' none := by
  have H := Lib.hid h
  have HSM := Lib.hid hsm
  clear h hsm
  go_enter Tryz.func8, Tryz.ntmps8
  go_wp2_with (fail)
  go_loopw [10] (fun i wr => ∃ k : Nat, k ≤ N.length ∧ i = .int .i64 k ∧ (∀ j (hj : j < N.length), j < k → CdAt N j hj) ∧ w.grownBy wr none) (fun i _ => N.length - (intOf i).toNat)
  case atStart => exact ⟨0, Nat.zero_le _, rfl, fun j _ h => absurd h (Nat.not_lt_zero _), gr_refl _ _⟩
  case round =>
    obtain ⟨k, hk, rfl, hok, hgr⟩ := hrel
    obtain ⟨wo, rfl⟩ : ∃ wo : World, wo = wr := ⟨_, rfl⟩
    by_cases hlt : k < N.length
    · obtain ⟨b, off, rfl, d0, d1, -⟩ := cd_cells (H.out.keep0 hgr) k hlt
      have hs1 := HSM.out _ (List.getElem_mem hlt)
      have d2 : wo.cell? ⟨b, off + k * 3 + 2, none⟩ = some (.bool N[k].on) := by
        obtain ⟨_, _, e, _, _, h2⟩ := cd_cells (H.out.keep0 hgr) k hlt
        cases e
        exact h2
      have PV : Hid (∀ (h : 0 < k), wo.cell? ⟨b, off + (k - 1) * 3, none⟩ = some (.int .i64 (N[k - 1]'(by omega)).tm) ∧ wo.cell? ⟨b, off + (k - 1) * 3 + 1, none⟩ = some (.string (N[k - 1]'(by omega)).key)) := fun h => by
        obtain ⟨b', off', e', y0, y1, -⟩ := cd_cells (H.out.keep0 hgr) (k - 1) (by omega)
        cases e'
        exact ⟨y0, y1⟩
      have MK : Hid ((0 ≤ N[k].tm ∧ N[k].tm < 5761440) → keyB N[k].key = true → (∀ (h : 0 < k), ¬ 0 < orI (cmpN (N[k - 1]'(by omega)).tm N[k].tm) (cmpB (N[k - 1]'(by omega)).key N[k].key)) → ∀ j (hj : j < N.length), j < k + 1 → CdAt N j hj) := fun h1 h2 h3 j hj hjk => by
        by_cases e : j = k
        · subst e; exact ⟨h1, h2, h3⟩
        · exact hok j hj (by omega)
      obtain ⟨x, hx⟩ : ∃ x, x = N[k] := ⟨_, rfl⟩
      rw [← hx] at d0 d1 d2 hs1 MK
      obtain ⟨T, K, B⟩ := x
      unfold CdSm at hs1
      simp only at d0 d1 d2 hs1 MK
      have HGR := Lib.hid hgr
      have hV := heap_alloc_new wo (.cells #[.int .i64 T, .string K, .bool B] 99)
      have hg2 := gr_alloc (gr_refl wo none) (.cells #[.int .i64 T, .string K, .bool B] 99)
      obtain ⟨w2, hw2⟩ : ∃ w2, w2 = wo.alloc (.cells #[.int .i64 T, .string K, .bool B] 99) := ⟨_, rfl⟩
      rw [← hw2] at hV hg2
      obtain ⟨V, hVe⟩ : ∃ V, V = wo.heap.size := ⟨_, rfl⟩
      rw [← hVe] at hV
      have HV := Lib.hid hV
      have HG2 := Lib.hid hg2
      have HW2 := Lib.hid hw2
      have HVE := Lib.hid hVe
      clear hx hok hgr hV hg2 hw2 hVe
      go_upto_region 6 with (fail)
      rw [← HW2.out, ← HVE.out]
      have v0 : w2.cell? ⟨V, 0, none⟩ = some (.int .i64 T) := blkC HV.out 0 rfl
      have v1 : w2.cell? ⟨V, 1, none⟩ = some (.string K) := blkC HV.out 1 rfl
      clear d0 d1 d2
      go_wp2_with (fail)
      refine (moment_any T w2).mono ?_
      rintro e w3 ⟨rfl, rfl⟩
      by_cases hT : 0 ≤ T ∧ T < 5761440
      case neg =>
        have hb : (decide (0 ≤ T) && decide (T < 5761440)) = false := by
          cases hh : (decide (0 ≤ T) && decide (T < 5761440)) with
          | false => rfl
          | true => exact absurd (by simpa using hh) hT
        rw [hb]
        clear hT
        go_wp2_with (fail)
        go_ret
        exact ⟨1, rfl, (fun e => by cases e), gr_trans HGR.out HG2.out⟩
      have hb : (decide (0 ≤ T) && decide (T < 5761440)) = true := by simpa using hT
      rw [hb]
      have MK2 := Lib.hid (MK.out hT)
      clear MK hb hT
      go_wp2_with (fail)
      refine (keyOf_any K w2 (by omega)).mono ?_
      rintro e w4 ⟨rfl, g4⟩
      have HV4 := Lib.hid ((g4.block _ (lt_of_block HV.out) (by simp)).trans HV.out)
      have HG4 := Lib.hid (gr_trans HG2.out g4)
      clear v0 v1 g4
      cases hk1 : keyB K with
      | false =>
        go_wp2_with (fail)
        go_ret
        exact ⟨5, rfl, (fun e => by cases e), gr_trans HGR.out HG4.out⟩
      | true =>
        have MK3 := Lib.hid (MK2.out hk1)
        clear hk1 MK2
        have v0 : w4.cell? ⟨V, 0, none⟩ = some (.int .i64 T) := blkC HV4.out 0 rfl
        have v1 : w4.cell? ⟨V, 1, none⟩ = some (.string K) := blkC HV4.out 1 rfl
        go_upto_region 10 with (fail)
        go_cut [25] (fun s wx => ∃ b : Bool, s = .bool b ∧ (b = false → ∀ (h : 0 < k), ¬ 0 < orI (cmpN (N[k - 1]'(by omega)).tm T) (cmpB (N[k - 1]'(by omega)).key K)) ∧ w4.grownBy wx none)
        case first =>
          by_cases hk0 : 0 < k
          · obtain ⟨i, rfl⟩ : ∃ i, k = i + 1 := ⟨k - 1, by omega⟩
            obtain ⟨y0, y1⟩ := PV.out hk0
            simp only [Nat.add_sub_cancel] at y0 y1
            have y0 := (gr_cell HG4.out (lt_of_cell y0)).trans y0
            have y1 := (gr_cell HG4.out (lt_of_cell y1)).trans y1
            obtain ⟨T', hT'⟩ : ∃ x, x = N[i].tm := ⟨_, rfl⟩
            obtain ⟨K', hK'⟩ : ∃ x, x = N[i].key := ⟨_, rfl⟩
            rw [← hT'] at y0
            rw [← hK'] at y1
            have UP : Hid (¬ 0 < orI (cmpN T' T) (cmpB K' K) → ∀ (h : 0 < i + 1), ¬ 0 < orI (cmpN (N[i + 1 - 1]'(by omega)).tm T) (cmpB (N[i + 1 - 1]'(by omega)).key K)) := fun hh _ => by rw [hT', hK'] at hh; exact hh
            have gy0 := grew_cell y0
            have gy1 := grew_cell y1
            have gv0 := grew_cell v0
            have gv1 := grew_cell v1
            have hd : decide ((0 : Int) < (i : Int) + 1) = true := decide_eq_true (by omega)
            have hq0 : (0 : Int) ≤ (i : Int) := by omega
            have hq1 : (i : Int) < (N.length : Int) := by omega
            clear y0 y1 v0 v1 hT' hK' PV
            refine wp_region_grew_tail 21 (by kernel_rfl) (by kernel_rfl) ?_
            simp only [List.take_succ_cons, List.take_zero, List.drop_succ_cons, List.drop_zero]
            repeat (go_big_quiet_step (first
              | (go_at_call 52; exact Calls.grew_of (fun W g => (cmpInt_any _ _ W).mono fun _ _ h => ⟨h.1, by rw [← h.2]; exact gr_refl _ _⟩))
              | (go_at_call 53; exact Calls.grew_of (fun W g => (compare_any _ _ W).mono fun _ _ h => ⟨h.1, by rw [← h.2]; exact gr_refl _ _⟩))))
            refine wpQuiet_nil ?_
            rintro wq ⟨nn, rfl⟩
            have gq := nn.gr
            obtain ⟨wn, hwn⟩ : ∃ wn, wn = nn.w := ⟨_, rfl⟩
            rw [← hwn] at gq
            rw [← hwn]
            obtain ⟨c1, hc1⟩ : ∃ u, u = cmpN T' T := ⟨_, rfl⟩
            obtain ⟨c2, hc2⟩ : ∃ v, v = cmpB K' K := ⟨_, rfl⟩
            rw [← hc1, ← hc2] at UP
            rw [← hc1, ← hc2]
            have gN := gr_alloc (gr_refl wn none) (.cells #[.int .i64 c1, .int .i64 c2] 3)
            have hN := heap_alloc_new wn (.cells #[.int .i64 c1, .int .i64 c2] 3)
            have OR := Lib.hid (orInt_any c1 c2 wn.heap.size 2 _ (blkC hN 0 rfl) (blkC hN 1 rfl))
            have GQ := Lib.hid (gr_trans gq gN)
            obtain ⟨o, ho⟩ : ∃ o, o = orI c1 c2 := ⟨_, rfl⟩
            rw [← ho] at UP OR
            clear gy0 gy1 gv0 gv1 hwn hc1 hc2 hN gq gN ho
            go_wp2_with (fail)
            refine OR.out.mono ?_
            rintro e w5 ⟨rfl, rfl⟩
            by_cases hoo : 0 < o
            · have hd2 : decide (0 < o) = true := decide_eq_true hoo
              clear UP
              go_wp2_with (fail)
              go_meet
              exact ⟨true, rfl, (fun e => by cases e), GQ.out⟩
            · have hd2 : decide (0 < o) = false := decide_eq_false hoo
              have UP2 := Lib.hid (UP.out (by omega))
              clear UP
              go_wp2_with (fail)
              go_meet
              exact ⟨false, rfl, (fun _ => UP2.out), GQ.out⟩
          · have hk00 : k = 0 := by omega
            subst hk00
            have gv0 := grew_cell v0
            have gv1 := grew_cell v1
            clear v0 v1 PV
            refine wp_region_grew_tail 21 (by kernel_rfl) (by kernel_rfl) ?_
            simp only [List.take_succ_cons, List.take_zero, List.drop_succ_cons, List.drop_zero]
            repeat (go_big_quiet_step (fail))
            refine wpQuiet_nil ?_
            rintro wq ⟨nn, rfl⟩
            have gq := nn.gr
            clear gv0 gv1
            go_wp2_with (fail)
            go_meet
            exact ⟨false, rfl, (fun _ h => absurd h (by omega)), gq⟩
        case rest =>
        obtain ⟨b, rfl, hb, g5⟩ := hcut
        obtain ⟨w5, rfl⟩ : ∃ w5 : World, w5 = wc := ⟨_, rfl⟩
        have HG5 := Lib.hid (gr_trans HGR.out (gr_trans HG4.out g5))
        have HBB := Lib.hid hb
        clear v0 v1 g5 HV4 hb
        cases b with
        | true =>
          go_wp2_with (fail)
          go_ret
          exact ⟨7, rfl, (fun e => by cases e), HG5.out⟩
        | false =>
          have MK4 := Lib.hid (MK3.out (fun h => by have := HBB.out rfl h; omega))
          clear MK3 HBB
          go_wp2_with (fail)
          go_roundw
          case rel => exact ⟨k + 1, by omega, by go_num, MK4.out, HG5.out⟩
          case measure => simp [intOf]; omega
    · obtain rfl : k = N.length := by omega
      have HOK : Hid (CdsFull N) := fun j hj => hok j hj hj
      clear hok
      go_wp2_with (fail)
      go_ret
      exact ⟨0, rfl, fun _ => HOK.out, hgr⟩
set_option maxRecDepth 100000 in
set_option maxHeartbeats 2000000 in
theorem checkCodes_ok (N : List Cd) (a : Option Addr) (c : Nat) (w : World) (h : CellsAt w a (flat encCd N)) (hok : CdsFull N) (hsm : ∀ x ∈ N, CdSm x) (hl : N.length ≤ 100) :
    Calls Tryz.prog 59 #[.slice a N.length c] w fun e w' => e = .returned (.int .i64 0) ∧ w.grownBy w' none := by
  have HOK := Lib.hid hok
  clear hok
  have H := Lib.hid h
  have HSM := Lib.hid hsm
  clear h hsm
  go_enter Tryz.func59, Tryz.ntmps59
  go_wp2_with (fail)
  go_loopw [10] (fun i wr => ∃ k : Nat, k ≤ N.length ∧ i = .int .i64 k ∧ w.grownBy wr none) (fun i _ => N.length - (intOf i).toNat)
  case atStart => exact ⟨0, Nat.zero_le _, rfl, gr_refl _ _⟩
  case round =>
    obtain ⟨k, hk, rfl, hgr⟩ := hrel
    obtain ⟨wo, rfl⟩ : ∃ wo : World, wo = wr := ⟨_, rfl⟩
    by_cases hlt : k < N.length
    · obtain ⟨b, off, rfl, d0, d1, -⟩ := cd_cells (H.out.keep0 hgr) k hlt
      have hs1 := HSM.out _ (List.getElem_mem hlt)
      have d2 : wo.cell? ⟨b, off + k * 3 + 2, none⟩ = some (.bool N[k].on) := by
        obtain ⟨_, _, e, _, _, h2⟩ := cd_cells (H.out.keep0 hgr) k hlt
        cases e
        exact h2
      have PV : Hid (∀ (h : 0 < k), wo.cell? ⟨b, off + (k - 1) * 3, none⟩ = some (.int .i64 (N[k - 1]'(by omega)).tm) ∧ wo.cell? ⟨b, off + (k - 1) * 3 + 1, none⟩ = some (.string (N[k - 1]'(by omega)).key)) := fun h => by
        obtain ⟨b', off', e', y0, y1, -⟩ := cd_cells (H.out.keep0 hgr) (k - 1) (by omega)
        cases e'
        exact ⟨y0, y1⟩
      obtain ⟨⟨o1, o2⟩, o3, o4⟩ := HOK.out k hlt
      have OR0 : Hid (∀ (h : 0 < k), ¬ orI (cmpN N[k].tm (N[k - 1]'(by omega)).tm) (cmpB N[k].key (N[k - 1]'(by omega)).key) < 0) := fun h hh => o4 h (or_anti _ _ _ _ hh)
      obtain ⟨x, hx⟩ : ∃ x, x = N[k] := ⟨_, rfl⟩
      rw [← hx] at d0 d1 d2 hs1 o1 o2 o3 OR0
      obtain ⟨T, K, B⟩ := x
      unfold CdSm at hs1
      simp only at d0 d1 d2 hs1 o1 o2 o3 OR0
      have HGR := Lib.hid hgr
      have hV := heap_alloc_new wo (.cells #[.int .i64 T, .string K, .bool B] 99)
      have hg2 := gr_alloc (gr_refl wo none) (.cells #[.int .i64 T, .string K, .bool B] 99)
      obtain ⟨w2, hw2⟩ : ∃ w2, w2 = wo.alloc (.cells #[.int .i64 T, .string K, .bool B] 99) := ⟨_, rfl⟩
      rw [← hw2] at hV hg2
      obtain ⟨V, hVe⟩ : ∃ V, V = wo.heap.size := ⟨_, rfl⟩
      rw [← hVe] at hV
      have HV := Lib.hid hV
      have HG2 := Lib.hid hg2
      have HW2 := Lib.hid hw2
      have HVE := Lib.hid hVe
      clear hx o4 hgr hV hg2 hw2 hVe
      go_upto_region 6 with (fail)
      rw [← HW2.out, ← HVE.out]
      have v0 : w2.cell? ⟨V, 0, none⟩ = some (.int .i64 T) := blkC HV.out 0 rfl
      have v1 : w2.cell? ⟨V, 1, none⟩ = some (.string K) := blkC HV.out 1 rfl
      clear d0 d1 d2
      go_wp2_with (fail)
      refine (momentB_any T w2).mono ?_
      rintro e w3 ⟨rfl, rfl⟩
      have hb : (!decide (T < 0) && !decide (5761439 < T)) = true := by simp; omega
      rw [hb]
      clear hb o1 o2
      go_wp2_with (fail)
      refine (key_any K w2 (by omega)).mono ?_
      rintro e w4 ⟨rfl, rfl⟩
      rw [o3]
      have HV4 := HV
      have HG4 := HG2
      clear v0 v1 o3
      obtain ⟨w4, rfl⟩ : ∃ w4 : World, w4 = w2 := ⟨_, rfl⟩
      have v0 : w4.cell? ⟨V, 0, none⟩ = some (.int .i64 T) := blkC HV4.out 0 rfl
      have v1 : w4.cell? ⟨V, 1, none⟩ = some (.string K) := blkC HV4.out 1 rfl
      go_upto_region 10 with (fail)
      go_cut [25] (fun s wx => s = .bool false ∧ w4.grownBy wx none)
      case first =>
        by_cases hk0 : 0 < k
        · obtain ⟨i, rfl⟩ : ∃ i, k = i + 1 := ⟨k - 1, by omega⟩
          obtain ⟨y0, y1⟩ := PV.out hk0
          simp only [Nat.add_sub_cancel] at y0 y1
          have y0 := (gr_cell HG4.out (lt_of_cell y0)).trans y0
          have y1 := (gr_cell HG4.out (lt_of_cell y1)).trans y1
          obtain ⟨T', hT'⟩ : ∃ x, x = N[i].tm := ⟨_, rfl⟩
          obtain ⟨K', hK'⟩ : ∃ x, x = N[i].key := ⟨_, rfl⟩
          rw [← hT'] at y0
          rw [← hK'] at y1
          have UP : Hid (¬ orI (cmpN T T') (cmpB K K') < 0) := by
            have := OR0.out hk0
            simp only [Nat.add_sub_cancel] at this
            rw [← hT', ← hK'] at this
            exact Int.not_lt.2 (by omega)
          have gy0 := grew_cell y0
          have gy1 := grew_cell y1
          have gv0 := grew_cell v0
          have gv1 := grew_cell v1
          have hd : decide ((0 : Int) < (i : Int) + 1) = true := decide_eq_true (by omega)
          have hq0 : (0 : Int) ≤ (i : Int) := by omega
          have hq1 : (i : Int) < (N.length : Int) := by omega
          clear y0 y1 v0 v1 hT' hK' PV
          refine wp_region_grew_tail 21 (by kernel_rfl) (by kernel_rfl) ?_
          simp only [List.take_succ_cons, List.take_zero, List.drop_succ_cons, List.drop_zero]
          repeat (go_big_quiet_step (first
            | (go_at_call 52; exact Calls.grew_of (fun W g => (cmpInt_any _ _ W).mono fun _ _ h => ⟨h.1, by rw [← h.2]; exact gr_refl _ _⟩))
            | (go_at_call 53; exact Calls.grew_of (fun W g => (compare_any _ _ W).mono fun _ _ h => ⟨h.1, by rw [← h.2]; exact gr_refl _ _⟩))))
          refine wpQuiet_nil ?_
          rintro wq ⟨nn, rfl⟩
          have gq := nn.gr
          obtain ⟨wn, hwn⟩ : ∃ wn, wn = nn.w := ⟨_, rfl⟩
          rw [← hwn] at gq
          rw [← hwn]
          obtain ⟨c1, hc1⟩ : ∃ u, u = cmpN T T' := ⟨_, rfl⟩
          obtain ⟨c2, hc2⟩ : ∃ v, v = cmpB K K' := ⟨_, rfl⟩
          rw [← hc1, ← hc2] at UP
          rw [← hc1, ← hc2]
          have gN := gr_alloc (gr_refl wn none) (.cells #[.int .i64 c1, .int .i64 c2] 3)
          have hN := heap_alloc_new wn (.cells #[.int .i64 c1, .int .i64 c2] 3)
          have OR := Lib.hid (orInt_any c1 c2 wn.heap.size 2 _ (blkC hN 0 rfl) (blkC hN 1 rfl))
          have GQ := Lib.hid (gr_trans gq gN)
          obtain ⟨o, ho⟩ : ∃ o, o = orI c1 c2 := ⟨_, rfl⟩
          rw [← ho] at UP OR
          clear gy0 gy1 gv0 gv1 hwn hc1 hc2 hN gq gN ho
          go_wp2_with (fail)
          refine OR.out.mono ?_
          rintro e w5 ⟨rfl, rfl⟩
          have hd2 : decide (o < 0) = false := decide_eq_false (by have := UP.out; omega)
          go_wp2_with (fail)
          go_meet
          exact ⟨rfl, GQ.out⟩
        · have hk00 : k = 0 := by omega
          subst hk00
          have gv0 := grew_cell v0
          have gv1 := grew_cell v1
          clear v0 v1 PV
          refine wp_region_grew_tail 21 (by kernel_rfl) (by kernel_rfl) ?_
          simp only [List.take_succ_cons, List.take_zero, List.drop_succ_cons, List.drop_zero]
          repeat (go_big_quiet_step (fail))
          refine wpQuiet_nil ?_
          rintro wq ⟨nn, rfl⟩
          have gq := nn.gr
          clear gv0 gv1
          go_wp2_with (fail)
          go_meet
          exact ⟨rfl, gq⟩
      case rest =>
      obtain ⟨rfl, g5⟩ := hcut
      obtain ⟨w5, rfl⟩ : ∃ w5 : World, w5 = wc := ⟨_, rfl⟩
      have HG5 := Lib.hid (gr_trans HGR.out (gr_trans HG4.out g5))
      clear v0 v1 g5 HV4
      go_wp2_with (fail)
      go_roundw
      case rel => exact ⟨k + 1, by omega, by go_num, HG5.out⟩
      case measure => simp [intOf]; omega
    · obtain rfl : k = N.length := by omega

      go_wp2_with (fail)
      go_ret
      exact ⟨rfl, hgr⟩
end Go.Proofs.YtehhmgbgkemidaaGreatDoor

/-! Codes, as the stream makes them. -/
namespace Go.Proofs.YtehhmgbgkemidaaGreatDoor
open Go.RowKit
attribute [local go_sem ↓] Go.wp_at_zero Go.wp_at_succ
variable {lw : Nat}

structure CdW (l : List Int) (p lw q : Nat) (w wr : World) (v : Value) (N : List Cd) : Prop where
  own : wr.ownsRow w.heap.size 99 3 v N.length (flat encCd N)
  str : ∃ j, j ≤ q ∧ StreamAt wr p lw l j
  all : ∀ x ∈ N, CdSm x
  gr : w.grownBy wr (some p)
section
variable {q q1 p j : Nat} {l : List Int} {w wr w1 : World} {v : Value} {N : List Cd}
theorem CdW.le (h : CdW l p lw q w wr v N) (hq : q ≤ q1) : CdW l p lw q1 w wr v N :=
  ⟨h.own, by obtain ⟨j, h1, h2⟩ := h.str; exact ⟨j, by omega, h2⟩, h.all, h.gr⟩
theorem CdW.keep0 (h : CdW l p lw q w wr v N) (g : wr.grownBy w1 none) : CdW l p lw q w w1 v N :=
  ⟨own_keep0 h.own g, by obtain ⟨j, h1, h2⟩ := h.str; exact ⟨j, h1, h2.keep0 g⟩, h.all, gr_trans h.gr (gr_weak g _)⟩
theorem CdW.draw (h : CdW l p lw q w wr v N) (hp : p < w.heap.size) (g : wr.grownBy w1 (some p)) (hs : StreamAt w1 p lw l j) (hj : j ≤ q1) : CdW l p lw q1 w w1 v N :=
  ⟨own_keepS h.own g hp, ⟨j, hj, hs⟩, h.all, gr_trans h.gr g⟩
theorem CdW.set (h : CdW l p lw q w wr v N) (hp : p < w.heap.size) {X o : Nat} (hX : w.heap.size ≤ X) (hv : v.ownBlock ≠ some X) (u : Value) : CdW l p lw q w (wr.setCell ⟨X, o, none⟩ u) v N := by
  have gx := gr_set (q := ⟨X, o, none⟩) (gr_refl wr (some X)) rfl u
  refine ⟨own_keep h.own gx (.inr hv), ?_, h.all, gr_grown h.gr gx (fun b e => by cases e; exact hX)⟩
  obtain ⟨j, h1, h2⟩ := h.str
  exact ⟨j, h1, h2.keep gx (fun b e => by cases e; omega)⟩
theorem CdW.app (h : CdW l p lw q w wr v N) (hp : p < w.heap.size) {v1 : Value} {x : Cd} (hx : CdSm x) (o : w1.ownsRow w.heap.size 99 3 v1 (N.length + 1) (flat encCd N ++ encCd x)) (g : wr.grownBy w1 v.ownBlock) : CdW l p lw q w w1 v1 (N ++ [x]) := by
  refine ⟨by rw [List.length_append, flat_append, flat_one]; exact o, ?_, fun y hy => ?_, gr_grown h.gr g (fun b e => (h.own.lt b e).1)⟩
  · obtain ⟨j, h1, h2⟩ := h.str
    exact ⟨j, h1, h2.keep g (fun b e => by have := (h.own.lt b e).1; omega)⟩
  · rcases List.mem_append.1 hy with hy | hy
    · exact h.all y hy
    · have : y = x := by simpa using hy
      rw [this]; exact hx
end
def CodesPost (l : List Int) (k p lw : Nat) (w : World) (e : Ending) (w' : World) : Prop :=
  ∃ v N, e = .returned v ∧ w'.ownsRow w.heap.size 99 3 v N.length (flat encCd N) ∧ N.length ≤ 10 ∧ (∀ x ∈ N, CdSm x) ∧ (∃ q, q ≤ k + 100 ∧ StreamAt w' p lw l q) ∧ w.grownBy w' (some p)
abbrev cdKeys : List ByteArray := [⟨#[100, 111, 111, 114]⟩, ⟨#[104, 101, 97, 116]⟩, ⟨#[106, 97, 109]⟩]
set_option maxRecDepth 100000 in
set_option maxHeartbeats 4000000 in
theorem codes_any (l : List Int) (k : Nat) (p : Nat) (w : World) (hs : StreamAt w p lw l k) (hk : k < 800000000) :
    Calls Tryz.prog 6 #[.pointer (some ⟨p, 0, none⟩)] w (CodesPost l k p lw w) := by
  have hlt := hs.lt
  go_enter Tryz.func6, Tryz.ntmps6
  go_wp2_with (fail)
  refine (next_any l k 10 p w hs (by omega) (by omega)).mono ?_
  rintro e w2 ⟨rfl, hs2, hg2⟩
  have hnr := nxt_range l k 10 (by omega)
  obtain ⟨n, hn⟩ : ∃ n : Nat, (n : Int) = nxt l k 10 := ⟨(nxt l k 10).toNat, by omega⟩
  rw [← hn] at hnr
  rw [← hn]
  have hn3 : n ≤ 9 := by omega
  have W2 : Hid (CdW l p lw (k + 1) w w2 (.slice none 0 0) []) := ⟨World.ownsRow_nil _ _ _ _, ⟨k + 1, Nat.le_refl _, hs2⟩, (fun x hx => by cases hx), hg2⟩
  clear hn hnr hs hs2 hg2
  go_wp2_with (fail)
  go_loopw [3, 4, 9] (fun v at_ c wr => ∃ (i : Nat) (A : Int) (N : List Cd), i ≤ n ∧ c = .int .i64 i ∧ at_ = .int .i64 A ∧ (0 ≤ A ∧ A ≤ 31 * i) ∧ N.length ≤ i ∧ CdW l p lw (k + 1 + 4 * i) w wr v N) (fun _ _ c _ => n - (intOf c).toNat)
  case atStart => exact ⟨0, 0, [], Nat.zero_le _, rfl, rfl, by omega, Nat.le_refl _, W2.out⟩
  case round =>
    clear W2
    obtain ⟨i, A, N, hi, rfl, rfl, hA, hN, hW⟩ := hrel
    obtain ⟨wo, rfl⟩ : ∃ wo : World, wo = wr := ⟨_, rfl⟩
    by_cases hin : i < n
    · obtain ⟨j, hj, hst⟩ := hW.str
      have HW := Lib.hid hW
      clear hW
      go_wp2_with (fail)
      refine (pick_any l j [0, 0, 5, 30] p wo hst (by omega) (by decide) (by decide)).mono ?_
      rintro e w3 ⟨rfl, hs3, hg3⟩
      have hpk := pickM_mem l j [0, 0, 5, 30] (by decide)
      simp only [List.mem_cons, List.not_mem_nil, or_false] at hpk
      obtain ⟨P, hP⟩ : ∃ P, P = pickM l j [0, 0, 5, 30] := ⟨_, rfl⟩
      rw [← hP] at hpk
      rw [← hP]
      have hPb : 0 ≤ P ∧ P ≤ 30 := by omega
      obtain ⟨T, hT⟩ : ∃ T, T = A + P := ⟨_, rfl⟩
      have hTw : IntKind.i64.wrap (A + P) = T := by rw [hT]; exact IntWalk.i64_in _ (by omega)
      have HW3 := Lib.hid (HW.out.draw (q1 := k + 1 + 4 * i + 1) hlt hg3 hs3 (by omega))
      have hTb : 0 ≤ T ∧ T ≤ 31 * i + 30 := by omega
      clear hP hpk hg3 hst hT HW
      go_wp2_with (fail)
      refine (one_any l (j + 1) cdKeys p w3 hs3 (by omega) (by decide) (by decide)).mono ?_
      rintro e w4 ⟨rfl, hs4, hg4⟩
      have h1 := oneS_mem l (j + 1) cdKeys (by decide)
      obtain ⟨K, hK⟩ : ∃ K, K = oneS l (j + 1) cdKeys := ⟨_, rfl⟩
      rw [← hK] at h1
      rw [← hK]
      have hKs : K.size ≤ 100 := by
        simp only [List.mem_cons, List.not_mem_nil, or_false] at h1
        rcases h1 with rfl | rfl | rfl <;> decide
      have HW4 := Lib.hid (HW3.out.draw (q1 := k + 1 + 4 * i + 2) hlt hg4 hs4 (by omega))
      clear hK h1 hg4 hs3 HW3
      go_wp2_with (fail)
      refine (flip_any l (j + 1 + 1) 3 p w4 hs4 (by omega) (by omega)).mono ?_
      rintro e w5 ⟨rfl, hs5, hg5⟩
      obtain ⟨B, hB⟩ : ∃ B, B = flipM l (j + 1 + 1) 3 := ⟨_, rfl⟩
      rw [← hB]
      have HW5 := Lib.hid (HW4.out.draw (q1 := k + 1 + 4 * i + 3) hlt hg5 hs5 (by omega))
      have g6 := gr_alloc (gr_refl w5 none) (.cells #[.int .i64 T, .string K, .bool (!B)] 99)
      have hX := heap_alloc_new w5 (.cells #[.int .i64 T, .string K, .bool (!B)] 99)
      obtain ⟨w6, hw6⟩ : ∃ w6, w6 = w5.alloc (.cells #[.int .i64 T, .string K, .bool (!B)] 99) := ⟨_, rfl⟩
      rw [← hw6] at g6 hX
      obtain ⟨X, hXe⟩ : ∃ X, X = w5.heap.size := ⟨_, rfl⟩
      rw [← hXe] at hX
      have hXw : w.heap.size ≤ X := by have := HW5.out.gr.size; omega
      have hvX : u3.ownBlock ≠ some X := fun e => by have := (HW5.out.own.lt X e).2; omega
      have HW6 := Lib.hid (HW5.out.keep0 g6)
      have HX := Lib.hid hX
      have HW6E := Lib.hid hw6
      have HXE := Lib.hid hXe
      clear hB hs4 hs5 hg5 HW4 HW5 g6 hw6 hX hXe
      obtain ⟨va, vc, rfl, -, -, -, -⟩ := own_shape HW6.out.own
      go_upto_region 7 with (fail)
      rw [← HW6E.out, ← HXE.out]
      clear HW6E HXE
      have x0 : w6.cell? ⟨X, 0, none⟩ = some (.int .i64 T) := blkC HX.out 0 rfl
      have x1 : w6.cell? ⟨X, 1, none⟩ = some (.string K) := blkC HX.out 1 rfl
      go_upto_region 8 with (fail)
      go_cut [53] (fun s wx => ∃ b : Bool, s = .bool b ∧ CdW l p lw (k + 1 + 4 * i + 4) w wx (.slice va N.length vc) N ∧ wx.heap[X]? = some (.cells #[.int .i64 T, .string K, .bool (!B)] 99 (0, 0)))
      case first =>
        have DONE : Hid (∀ nx, CdW l p lw (k + 1 + 4 * i + 4) w (w6.drewN nx) (.slice va N.length vc) N ∧ (w6.drewN nx).heap[X]? = some (.cells #[.int .i64 T, .string K, .bool (!B)] 99 (0, 0))) := fun nx => ⟨(HW6.out.le (by omega)).keep0 (gr_drewN (gr_refl _ _) _), HX.out⟩
        by_cases hN0 : 0 < N.length
        · obtain ⟨m, hm⟩ : ∃ m, m = N.length - 1 := ⟨_, rfl⟩
          have hml : m < N.length := by omega
          obtain ⟨_, _, e, -, -, hcn, -⟩ := own_shape HW6.out.own
          cases e
          obtain ⟨nb, no, rfl, y0, y1, -⟩ := cd_cells hcn m hml
          have hsz : N[m].key.size ≤ 100 := HW6.out.all _ (List.getElem_mem hml)
          obtain ⟨y, hy⟩ : ∃ y, y = N[m] := ⟨_, rfl⟩
          rw [← hy] at y0 y1 hsz
          obtain ⟨yt, yk, yb⟩ := y
          simp only at y0 y1 hsz
          have hq0 : (0 : Int) ≤ (m : Int) := by omega
          have hq1 : (m : Int) < (N.length : Int) := by omega
          have hwi : IntKind.i64.wrap ((N.length : Int) - 1) = (m : Int) := by rw [show (N.length : Int) - 1 = (m : Int) by omega]; exact IntWalk.i64_in _ (by omega)
          have hd0 : decide (0 < N.length) = true := decide_eq_true hN0
          clear hcn hm hy hml
          by_cases hyt : yt = T
          · have hye : (yt == T) = true := by simpa using hyt
            obtain ⟨lt, hltb⟩ : ∃ lt, (!Op.bytesLess yk.toList K.toList && !(yk.toList == K.toList)) = lt := ⟨_, rfl⟩
            clear hyt
            cases lt with
            | false =>
              go_quiet (fail)
              go_wp2_with (fail)
              go_meet
              exact ⟨false, rfl, DONE.out _⟩
            | true =>
              obtain ⟨j2, hj2, hs6⟩ := HW6.out.str
              have gy0 := grew_cell y0
              have gy1 := grew_cell y1
              have gx1 := grew_cell x1
              clear y0 y1 x0 x1
              refine wp_region_grew_tail 25 (by kernel_rfl) (by kernel_rfl) ?_
              simp only [List.take_succ_cons, List.take_zero, List.drop_succ_cons, List.drop_zero]
              repeat (go_big_quiet_step (fail))
              refine wpQuiet_nil ?_
              rintro wq ⟨nn, rfl⟩
              have gq := nn.gr
              obtain ⟨wn, hwn⟩ : ∃ wn, wn = nn.w := ⟨_, rfl⟩
              rw [← hwn] at gq
              rw [← hwn]
              have hs7 := hs6.keep0 gq
              have HWN := Lib.hid (HW6.out.keep0 gq)
              have HXN := Lib.hid ((gq.block _ (lt_of_block HX.out) (by simp)).trans HX.out)
              clear gy0 gy1 gx1 hwn gq DONE hs6
              go_wp2_with (fail)
              refine (flip_any l j2 30 p wn hs7 (by omega) (by omega)).mono ?_
              rintro e w8 ⟨rfl, hs8, hg8⟩
              have HD := Lib.hid (HWN.out.draw (q1 := k + 1 + 4 * i + 4) hlt hg8 hs8 (by omega))
              have HX8 := Lib.hid ((hg8.block _ (lt_of_block HXN.out) (by simp; omega)).trans HXN.out)
              clear hs7 hs8 hg8 HWN HXN
              go_wp2_with (fail)
              go_meet
              exact ⟨_, rfl, HD.out, HX8.out⟩
          · have hye : (yt == T) = false := by simpa using hyt
            clear hyt
            go_quiet (fail)
            go_wp2_with (fail)
            go_meet
            exact ⟨false, rfl, DONE.out _⟩
        · have hd0 : decide (0 < N.length) = false := decide_eq_false hN0
          go_quiet (fail)
          go_wp2_with (fail)
          go_meet
          exact ⟨false, rfl, DONE.out _⟩
      case rest =>
      obtain ⟨b, rfl, hW7, hX7⟩ := hcut
      obtain ⟨w7, rfl⟩ : ∃ w7 : World, w7 = wc := ⟨_, rfl⟩
      have HW7 := Lib.hid hW7
      have HX7 := Lib.hid hX7
      clear hW7 hX7 HW6 HX x0 x1
      go_upto_if 53 with (fail)
      go_cut [4] (fun s wx => ∃ T' : Int, s = .int .i64 T' ∧ (0 ≤ T' ∧ T' ≤ 31 * i + 31) ∧ CdW l p lw (k + 1 + 4 * i + 4) w wx (.slice va N.length vc) N ∧ wx.heap[X]? = some (.cells #[.int .i64 T', .string K, .bool (!B)] 99 (0, 0)))
      case first =>
        cases b with
        | false =>
          go_wp2_with (fail)
          go_meet
          exact ⟨T, rfl, by omega, HW7.out, HX7.out⟩
        | true =>
          have x0 : w7.cell? ⟨X, 0, none⟩ = some (.int .i64 T) := blkC HX7.out 0 rfl
          have f0 : w7.frozen? ⟨X, 0, none⟩ = false := blkF HX7.out 0
          have hTw : IntKind.i64.wrap (T + 1) = T + 1 := IntWalk.i64_in _ (by omega)
          go_wp2_with (fail)
          go_meet
          exact ⟨T + 1, rfl, by omega, HW7.out.set hlt hXw hvX _, heap_setCell_same w7 X 0 _ _ (.int .i64 (T + 1)) HX7.out⟩
      case rest =>
      obtain ⟨T', rfl, hT', hW8, hX8⟩ := hcut
      obtain ⟨w8, rfl⟩ : ∃ w8 : World, w8 = wc := ⟨_, rfl⟩
      obtain ⟨v9, hv9⟩ : ∃ v9, v9 = Value.slice va N.length vc := ⟨_, rfl⟩
      rw [← hv9] at hW8
      rw [← hv9]
      have x0 : w8.cell? ⟨X, 0, none⟩ = some (.int .i64 T') := blkC hX8 0 rfl
      have x1 : w8.cell? ⟨X, 1, none⟩ = some (.string K) := blkC hX8 1 rfl
      have x2 : w8.cell? ⟨X, 2, none⟩ = some (.bool (!B)) := blkC hX8 2 rfl
      have HW8 := Lib.hid hW8
      have hz8 := hW8.gr.size
      clear hW8 hX8 HW7 HX7 hv9 hTb
      go_wp2_with (at_builtin; refine wpList_app1F eCd rfl _ _ rfl w.heap.size v9 N.length (flat encCd N) rfl w8 #[.int .i64 T', .string K, .bool (!B)] rfl HW8.out.own _ rfl rfl rfl rfl (by omega) hz8 ?_; intro v10 w10 o10 g10 hl10 _; have O10 := Lib.hid o10; have G10 := Lib.hid g10; clear o10 g10)
      go_roundw
      case rel => exact ⟨i + 1, T', N ++ [⟨T', K, !B⟩], by omega, by go_num, rfl, by omega, by rw [List.length_append]; simp; omega, (HW8.out.app hlt (x := ⟨T', K, !B⟩) hKs O10.out G10.out).le (by omega)⟩
      case measure => simp [intOf]; omega
    · obtain ⟨j, hj, hst⟩ := hW.str
      have HW := Lib.hid hW
      clear hW
      go_wp2_with (fail)
      refine (flip_any l j 15 p wo hst (by omega) (by omega)).mono ?_
      rintro e w3 ⟨rfl, hs3, hg3⟩
      have HW3 := Lib.hid (HW.out.draw (q1 := k + 50) hlt hg3 hs3 (by omega))
      obtain ⟨f, hf⟩ : ∃ f, f = flipM l j 15 := ⟨_, rfl⟩
      rw [← hf]
      clear hf hst hg3 HW
      cases f with
      | false =>
        obtain ⟨va, vc, rfl, -, -, -, -⟩ := own_shape HW3.out.own
        go_wp2_with (fail)
        go_ret
        obtain ⟨q, hq, hsq⟩ := HW3.out.str
        exact ⟨_, N, rfl, HW3.out.own, by omega, HW3.out.all, ⟨q, by omega, hsq⟩, HW3.out.gr⟩
      | true =>
        go_wp2_with (fail)
        refine (pick_any l (j + 1) [-1, 5761440, 0, 5761439] p w3 hs3 (by omega) (by decide) (by decide)).mono ?_
        rintro e w4 ⟨rfl, hs4, hg4⟩
        obtain ⟨P, hP⟩ : ∃ P, P = pickM l (j + 1) [-1, 5761440, 0, 5761439] := ⟨_, rfl⟩
        rw [← hP]
        have HW4 := Lib.hid (HW3.out.draw (q1 := k + 60) hlt hg4 hs4 (by omega))
        clear hP hs3 hg4 HW3
        go_wp2_with (fail)
        refine (one_any l (j + 1 + 1) [⟨#[]⟩, ⟨#[90]⟩, ⟨#[100, 111, 111, 114]⟩] p w4 hs4 (by omega) (by decide) (by decide)).mono ?_
        rintro e w5 ⟨rfl, hs5, hg5⟩
        have h1 := oneS_mem l (j + 1 + 1) [⟨#[]⟩, ⟨#[90]⟩, ⟨#[100, 111, 111, 114]⟩] (by decide)
        obtain ⟨K, hK⟩ : ∃ K, K = oneS l (j + 1 + 1) [⟨#[]⟩, ⟨#[90]⟩, ⟨#[100, 111, 111, 114]⟩] := ⟨_, rfl⟩
        rw [← hK] at h1
        rw [← hK]
        have hKs : K.size ≤ 100 := by
          simp only [List.mem_cons, List.not_mem_nil, or_false] at h1
          rcases h1 with rfl | rfl | rfl <;> decide
        have HW5 := Lib.hid (HW4.out.draw (q1 := k + 70) hlt hg5 hs5 (by omega))
        have hz5 := HW5.out.gr.size
        clear hK h1 hs4 hs5 hg5 HW4
        go_wp2_with (at_builtin; refine wpList_app1F eCd rfl _ _ rfl w.heap.size _ N.length (flat encCd N) rfl w5 #[.int .i64 P, .string K, .bool true] rfl HW5.out.own _ rfl rfl rfl rfl (by omega) hz5 ?_; intro v10 w10 o10 g10 hl10 _; have W10 := Lib.hid (HW5.out.app hlt (x := ⟨P, K, true⟩) hKs o10 g10); clear o10 g10)
        go_wp2_with (fail)
        go_ret
        obtain ⟨q, hq, hsq⟩ := W10.out.str
        exact ⟨v10, N ++ [(⟨P, K, true⟩ : Cd)], rfl, W10.out.own, by rw [List.length_append]; simp; omega, W10.out.all, ⟨q, by omega, hsq⟩, W10.out.gr⟩
end Go.Proofs.YtehhmgbgkemidaaGreatDoor

/-! Package slices at ints: stable sorting of many. Only this is said: the row is a permutation. -/
namespace Go.Proofs.YtehhmgbgkemidaaGreatDoor
open Go.RowKit

def swapIJ (O : List Int) (i j : Nat) : List Int := (O.set i (O.getD j 0)).set j (O.getD i 0)
theorem swapIJ_perm (O : List Int) (i j : Nat) (hi : i < O.length) (hj : j < O.length) : (swapIJ O i j).Perm O := by
  unfold swapIJ
  rw [getD_eq O i 0 hi, getD_eq O j 0 hj]
  exact List.set_set_perm hi hj
/-- A row in a world that grew: a permutation of what it was. -/
structure PR (w wr : World) (base g n c : Nat) (L O : List Int) : Prop where
  own : wr.ownsRow base 3 1 (.slice (some ⟨g, 0, none⟩) n c) n (ints O)
  perm : O.Perm L
  gr : w.grownBy wr (some g)
theorem PR.len {w wr : World} {base g n c : Nat} {L O : List Int} (h : PR w wr base g n c L O) : O.length = n := by
  have := h.own.1; simpa [ints] using this
theorem PR.refl {w : World} {base g n c : Nat} {L : List Int} (h : w.ownsRow base 3 1 (.slice (some ⟨g, 0, none⟩) n c) n (ints L)) : PR w w base g n c L L := ⟨h, List.Perm.refl _, gr_refl _ _⟩
theorem PR.cell {w wr : World} {base g n c : Nat} {L O : List Int} (h : PR w wr base g n c L O) (i : Nat) (hi : i < n) : wr.cell? ⟨g, i, none⟩ = some (.int .i64 (O.getD i 0)) ∧ wr.frozen? ⟨g, i, none⟩ = false := by
  have := own_int h.own i hi
  exact ⟨this.1, this.2.1⟩
theorem PR.mem {w wr : World} {base g n c : Nat} {L O : List Int} (h : PR w wr base g n c L O) (i : Nat) (hi : i < n) : O.getD i 0 ∈ L := by
  have hl := h.len
  rw [getD_eq O i 0 (by omega)]
  exact h.perm.mem_iff.1 (List.getElem_mem _)
theorem PR.swap {w wr : World} {base g n c : Nat} {L O : List Int} (h : PR w wr base g n c L O) (i j : Nat) (hi : i < n) (hj : j < n) : PR w ((wr.setCell ⟨g, i, none⟩ (.int .i64 (O.getD j 0))).setCell ⟨g, j, none⟩ (.int .i64 (O.getD i 0))) base g n c L (swapIJ O i j) := by
  have hl := h.len
  exact ⟨(own_int ((own_int h.own i hi).2.2 (O.getD j 0)) j hj).2.2 (O.getD i 0), (swapIJ_perm O i j (by omega) (by omega)).trans h.perm, gr_set (gr_set h.gr rfl _) rfl _⟩
theorem PR.cell2 {w wr : World} {base g n c : Nat} {L O : List Int} (h : PR w wr base g n c L O) (i j : Nat) (hi : i < n) (hj : j < n) (x : Int) : ∃ z, (wr.setCell ⟨g, i, none⟩ (.int .i64 x)).cell? ⟨g, j, none⟩ = some (.int .i64 z) ∧ (wr.setCell ⟨g, i, none⟩ (.int .i64 x)).frozen? ⟨g, j, none⟩ = false := by
  have := own_int ((own_int h.own i hi).2.2 x) j hj
  exact ⟨_, this.1, this.2.1⟩
theorem PR.heap {w wr w2 : World} {base g n c : Nat} {L O : List Int} (h : PR w wr base g n c L O) (e : w2.heap = wr.heap) (hg : w.grownBy w2 (some g)) : PR w w2 base g n c L O := ⟨own_of_heapc3 h.own e, h.perm, hg⟩
theorem PR.grow {w wr w2 : World} {base g n c : Nat} {L O : List Int} (h : PR w wr base g n c L O) (hg : wr.grownBy w2 none) : PR w w2 base g n c L O := ⟨own_keep0 h.own hg, h.perm, gr_trans h.gr (gr_weak hg _)⟩
theorem PR.trans {w w1 w2 : World} {base g n c : Nat} {L O1 O2 : List Int} (h : PR w w1 base g n c L O1) (h2 : PR w1 w2 base g n c O1 O2) : PR w w2 base g n c L O2 := ⟨h2.own, h2.perm.trans h.perm, gr_trans h.gr h2.gr⟩
def PRPost (w : World) (base g n c : Nat) (L : List Int) (e : Ending) (w' : World) : Prop := ∃ O, e = .returned (.tuple #[]) ∧ PR w w' base g n c L O
set_option maxRecDepth 100000 in
set_option maxHeartbeats 2000000 in
theorem swapRange_any (fv : Value) (base g n c a b m : Nat) (L : List Int) (w : World) (hown : w.ownsRow base 3 1 (.slice (some ⟨g, 0, none⟩) n c) n (ints L)) (hn : n ≤ 100000) (ha : a + m ≤ n) (hb : b + m ≤ n) :
    Calls Tryz.prog 268 #[.slice (some ⟨g, 0, none⟩) n c, .int .i64 a, .int .i64 b, .int .i64 m, fv] w (PRPost w base g n c L) := by
  have H0 := Lib.hid (PR.refl hown)
  clear hown
  go_enter Tryz.func268, Tryz.ntmps268
  go_wp2_with (fail)
  go_loopw [10] (fun i wr => ∃ (k : Nat) (O : List Int), k ≤ m ∧ i = .int .i64 k ∧ PR w wr base g n c L O) (fun i _ => m - (intOf i).toNat)
  case atStart => exact ⟨0, L, Nat.zero_le _, rfl, H0.out⟩
  case round =>
    obtain ⟨k, O, hk, rfl, hP⟩ := hrel
    obtain ⟨wo, rfl⟩ : ∃ wo : World, wo = wr := ⟨_, rfl⟩
    by_cases hkm : k < m
    · obtain ⟨a0, fa0⟩ := hP.cell (a + k) (by omega)
      obtain ⟨b0, fb0⟩ := hP.cell (b + k) (by omega)
      have HS := Lib.hid (hP.swap (a + k) (b + k) (by omega) (by omega))
      obtain ⟨z, c0, fc0⟩ := hP.cell2 (a + k) (b + k) (by omega) (by omega) (O.getD (b + k) 0)
      obtain ⟨x, hx⟩ : ∃ x, x = O.getD (a + k) 0 := ⟨_, rfl⟩
      obtain ⟨y, hy⟩ : ∃ y, y = O.getD (b + k) 0 := ⟨_, rfl⟩
      rw [← hx] at a0 HS
      rw [← hy] at b0 HS c0 fc0
      have hq0 : (0 : Int) ≤ (a : Int) + (k : Int) := by omega
      have hq1 : (a : Int) + (k : Int) < (n : Int) := by omega
      have hq2 : (0 : Int) ≤ (b : Int) + (k : Int) := by omega
      have hq3 : (b : Int) + (k : Int) < (n : Int) := by omega
      have hq4 : ((a : Int) + (k : Int)).toNat = a + k := by omega
      have hq5 : ((b : Int) + (k : Int)).toNat = b + k := by omega
      have hw4 : IntKind.i64.wrap ((a : Int) + (k : Int)) = (a : Int) + (k : Int) := IntWalk.i64_in _ (by omega)
      have hw5 : IntKind.i64.wrap ((b : Int) + (k : Int)) = (b : Int) + (k : Int) := IntWalk.i64_in _ (by omega)
      clear hP hx hy
      go_wp2_with (fail)
      go_region
      all_goals (go_wp2_with (fail))
      all_goals go_roundw
      all_goals first | (simp [intOf]; omega; done) | skip
      all_goals
        refine ⟨k + 1, _, by omega, by go_num, HS.out.heap rfl ?_⟩
        first
          | exact gr_drew HS.out.gr
          | exact HS.out.gr
    · have H1 := Lib.hid hP
      clear hP
      go_wp2_with (fail)
      go_end0
      exact ⟨O, rfl, H1.out⟩
set_option maxRecDepth 100000 in
set_option maxHeartbeats 2000000 in
theorem rotate_any (fv : Value) (base g n c a m b : Nat) (L : List Int) (w : World) (hown : w.ownsRow base 3 1 (.slice (some ⟨g, 0, none⟩) n c) n (ints L)) (hn : n ≤ 100000) (ham : a < m) (hmb : m < b) (hb : b ≤ n) :
    Calls Tryz.prog 259 #[.slice (some ⟨g, 0, none⟩) n c, .int .i64 a, .int .i64 m, .int .i64 b, fv] w (PRPost w base g n c L) := by
  have H0 := Lib.hid (PR.refl hown)
  clear hown
  have hma : (m : Int) - (a : Int) = ((m - a : Nat) : Int) := by omega
  have hbm : (b : Int) - (m : Int) = ((b - m : Nat) : Int) := by omega
  go_enter Tryz.func259, Tryz.ntmps259
  go_wp2_with (fail)
  go_loopw [10, 11] (fun i j wr => ∃ (p q : Nat) (O : List Int), 0 < p ∧ 0 < q ∧ p ≤ m ∧ m + q ≤ n ∧ i = .int .i64 p ∧ j = .int .i64 q ∧ PR w wr base g n c L O) (fun i j _ => (intOf i).toNat + (intOf j).toNat)
  case atStart => exact ⟨m - a, b - m, L, by omega, by omega, by omega, by omega, rfl, rfl, H0.out⟩
  case round =>
    obtain ⟨p, q, O, hp0, hq0, hpm, hqn, rfl, rfl, hP⟩ := hrel
    obtain ⟨wo, rfl⟩ : ∃ wo : World, wo = wr := ⟨_, rfl⟩
    have hmp : (m : Int) - (p : Int) = ((m - p : Nat) : Int) := by omega
    have HP := Lib.hid hP
    by_cases hpq : p = q
    · subst hpq
      have SW := Lib.hid (swapRange_any fv base g n c (m - p) m p O wo hP.own hn (by omega) hqn)
      have he : ((p : Int) != (p : Int)) = false := by simp
      clear hP hma hbm
      go_wp2_with (fail)
      refine SW.out.mono ?_
      rintro e w2 ⟨O2, rfl, h2⟩
      have H2 := Lib.hid (HP.out.trans h2)
      clear h2
      go_wp2_with (fail)
      go_end0
      exact ⟨O2, rfl, H2.out⟩
    · have he : ((p : Int) != (q : Int)) = true := by simp; omega
      by_cases hlt : q < p
      · have SW := Lib.hid (swapRange_any fv base g n c (m - p) m q O wo hP.own hn (by omega) hqn)
        have hpq2 : (p : Int) - (q : Int) = ((p - q : Nat) : Int) := by omega
        clear hP hma hbm
        go_wp2_with (fail)
        refine SW.out.mono ?_
        rintro e w2 ⟨O2, rfl, h2⟩
        have H2 := Lib.hid (HP.out.trans h2)
        clear h2
        go_wp2_with (fail)
        go_roundw
        case rel => exact ⟨p - q, q, O2, by omega, hq0, by omega, hqn, rfl, rfl, H2.out⟩
        case measure => simp [intOf]; omega
      · have SW := Lib.hid (swapRange_any fv base g n c (m - p) (m + q - p) p O wo hP.own hn (by omega) (by omega))
        have hpq2 : (q : Int) - (p : Int) = ((q - p : Nat) : Int) := by omega
        have hmq : (m : Int) + (q : Int) - (p : Int) = ((m + q - p : Nat) : Int) := by omega
        clear hP hma hbm
        go_wp2_with (fail)
        refine SW.out.mono ?_
        rintro e w2 ⟨O2, rfl, h2⟩
        have H2 := Lib.hid (HP.out.trans h2)
        clear h2
        go_wp2_with (fail)
        go_roundw
        case rel => exact ⟨p, q - p, O2, hp0, by omega, hpm, by omega, rfl, rfl, H2.out⟩
        case measure => simp [intOf]; omega
end Go.Proofs.YtehhmgbgkemidaaGreatDoor

/-! Package slices at ints: insertion sorting of a part. Only this is said: the row is a permutation. -/
namespace Go.Proofs.YtehhmgbgkemidaaGreatDoor
open Go.RowKit

theorem CmpC3.later {F : FuncId} {q0 q1 q2 : Nat} {cm : Int → Int → Int} {L O : List Int} {r : Option Nat} {w wr : World} (h : CmpC3 F q0 q1 q2 cm L r w) (hp : O.Perm L) (hg : w.grownBy wr r) : CmpC3 F q0 q1 q2 cm O r wr := fun x y w1 hx hy g1 => h x y w1 (hp.mem_iff.1 hx) (hp.mem_iff.1 hy) (gr_trans hg g1)
theorem PR.cmp {F : FuncId} {q0 q1 q2 : Nat} {cm : Int → Int → Int} {w wr : World} {base g n c : Nat} {L O : List Int} (h : PR w wr base g n c L O) (hF : CmpC3 F q0 q1 q2 cm L (some g) w) (i j : Nat) (hi : i < n) (hj : j < n) : ∀ W, wr.grownBy W none → Calls Tryz.prog F #[.int .i64 (O.getD i 0), .int .i64 (O.getD j 0), .pointer (some ⟨q0, 0, none⟩), .pointer (some ⟨q1, 0, none⟩), .pointer (some ⟨q2, 0, none⟩)] W fun e w2 => e = .returned (.int .i64 (cm (O.getD i 0) (O.getD j 0))) ∧ W.grownBy w2 none := fun W hW => hF _ _ W (h.mem i hi) (h.mem j hj) (gr_trans h.gr (gr_weak hW _))
set_option maxRecDepth 100000 in
set_option maxHeartbeats 4000000 in
theorem insertionW_any (F : FuncId) (q0 q1 q2 : Nat) (cm : Int → Int → Int) (base g n c a b : Nat) (L : List Int) (w : World) (hown : w.ownsRow base 3 1 (.slice (some ⟨g, 0, none⟩) n c) n (ints L)) (hn : n ≤ 100000) (hab : a ≤ b) (hb : b ≤ n)
    (hE : ∀ (args : Array Value) (w : World), (callFunc F args).run Tryz.prog w = .ok (.enter F args) w) (hF : CmpC3 F q0 q1 q2 cm L (some g) w) :
    Calls Tryz.prog 238 #[.slice (some ⟨g, 0, none⟩) n c, .int .i64 a, .int .i64 b, .func (.func F) #[] #[.pointer (some ⟨q0, 0, none⟩), .pointer (some ⟨q1, 0, none⟩), .pointer (some ⟨q2, 0, none⟩)]] w (PRPost w base g n c L) := by
  have HF := Lib.hid hF
  have H0 := Lib.hid (PR.refl hown)
  clear hF hown
  go_enter Tryz.func238, Tryz.ntmps238
  go_wp2_with (fail)
  go_loopw [8] (fun i wr => ∃ (k : Nat) (O : List Int), a < k ∧ k ≤ b + 1 ∧ i = .int .i64 k ∧ PR w wr base g n c L O) (fun i _ => b + 1 - (intOf i).toNat)
  case atStart => exact ⟨a + 1, L, by omega, by omega, by go_num, H0.out⟩
  case round =>
    obtain ⟨k, O', hk, hkn1, rfl, hP⟩ := hrel
    obtain ⟨wo, rfl⟩ : ∃ wo : World, wo = wr := ⟨_, rfl⟩
    have HP := Lib.hid hP
    clear hP
    by_cases hkn : k < b
    · go_wp2_with (fail)
      go_loopw [9] (fun i wr => ∃ (j : Nat) (O2 : List Int), j ≤ k ∧ a ≤ j ∧ i = .int .i64 j ∧ PR w wr base g n c L O2) (fun i _ => (intOf i).toNat)
      case atStart => exact ⟨k, O', by omega, by omega, rfl, HP.out⟩
      case round =>
        obtain ⟨j, O2, hj, hja, rfl, hP2⟩ := hrel
        obtain ⟨wi, rfl⟩ : ∃ wi : World, wi = wr := ⟨_, rfl⟩
        by_cases hj0 : a < j
        · obtain ⟨i, hi⟩ : ∃ i, i = j - 1 := ⟨_, rfl⟩
          have hij : i + 1 = j := by omega
          subst hij
          obtain ⟨a0, fa0⟩ := hP2.cell (i + 1) (by omega)
          obtain ⟨b0, fb0⟩ := hP2.cell i (by omega)
          have CC := Lib.hid (hP2.cmp HF.out (i + 1) i (by omega) (by omega))
          obtain ⟨x, hx⟩ : ∃ x, x = O2.getD (i + 1) 0 := ⟨_, rfl⟩
          obtain ⟨y, hy⟩ : ∃ y, y = O2.getD i 0 := ⟨_, rfl⟩
          rw [← hx, ← hy] at CC
          rw [← hx] at a0
          rw [← hy] at b0
          obtain ⟨cv, hcv⟩ : ∃ cv, cv = cm x y := ⟨_, rfl⟩
          rw [← hcv] at CC
          have ga0 := grew_cell a0
          have gb0 := grew_cell b0
          have HP2 := Lib.hid hP2
          have HX := Lib.hid hx
          have HY := Lib.hid hy
          have hi1 : ((i : Int) + 1 - 1) = i := by omega
          have hwi : IntKind.i64.wrap (((i : Int) + 1) - 1) = i := by rw [hi1]; exact IntWalk.i64_in _ (by omega)
          have hq0 : (0 : Int) ≤ (i : Int) := by omega
          have hq1 : (i : Int) < (n : Int) := by omega
          have hq2 : (0 : Int) ≤ (i : Int) + 1 := by omega
          have hq3 : (i : Int) + 1 < (n : Int) := by omega
          have hq4 : ((i : Int) + 1).toNat = i + 1 := by omega
          have hq5 : decide ((a : Int) < (i : Int) + 1) = true := decide_eq_true (by omega)
          clear hP2 hx hy hcv fa0 fb0 hi hi1
          by_cases hc0 : cv < 0
          · have hdc : decide (cv < 0) = true := decide_eq_true hc0
            go_wp2_with (fail)
            refine wp_region_grew (by kernel_rfl) (by kernel_rfl) ?_
            repeat (go_big_quiet_step (first | (exact Calls.grew_of (fun W h => CC.out W h))))
            refine wpQuiet_nil ?_
            rintro wq ⟨nn, rfl⟩
            have HP3 := HP2.out.grow nn.gr
            obtain ⟨wn, hwn⟩ : ∃ wn, wn = nn.w := ⟨_, rfl⟩
            rw [← hwn] at HP3
            rw [← hwn]
            clear hwn ga0 gb0 a0 b0
            obtain ⟨a0, fa0⟩ := HP3.cell (i + 1) (by omega)
            obtain ⟨b0, fb0⟩ := HP3.cell i (by omega)
            have HS := Lib.hid (HP3.swap (i + 1) i (by omega) (by omega))
            obtain ⟨z, c0, fc0⟩ := HP3.cell2 (i + 1) i (by omega) (by omega) (O2.getD i 0)
            rw [← HX.out] at a0 HS
            rw [← HY.out] at b0 HS c0 fc0
            clear hwi hq2 hq3 hq4 hq5 HP3
            go_wp2_with (fail)
            go_region
            all_goals (go_wp2_with (fail))
            all_goals go_roundw
            all_goals first | (simp [intOf]; done) | skip
            all_goals
              refine ⟨i, _, by omega, by omega, by go_num, HS.out.heap rfl ?_⟩
              first
                | exact gr_drew HS.out.gr
                | exact HS.out.gr
          · have hdc : decide (cv < 0) = false := decide_eq_false hc0
            go_wp2_with (fail)
            refine wp_region_grew (by kernel_rfl) (by kernel_rfl) ?_
            repeat (go_big_quiet_step (first | (exact Calls.grew_of (fun W h => CC.out W h))))
            refine wpQuiet_nil ?_
            rintro wq ⟨nn, rfl⟩
            have HP3 := Lib.hid (HP2.out.grow nn.gr)
            clear ga0 gb0 a0 b0
            go_wp2_with (fail)
            go_roundw
            case rel => exact ⟨k + 1, O2, by omega, by omega, by go_num, HP3.out⟩
            case measure => simp [intOf]; omega
        · obtain rfl : j = a := by omega
          have HP2 := Lib.hid hP2
          have hq5 : decide ((j : Int) < (j : Int)) = false := decide_eq_false (by omega)
          clear hP2
          go_wp2_with (fail)
          go_quiet (fail)
          go_wp2_with (fail)
          go_roundw
          case rel => exact ⟨k + 1, O2, by omega, by omega, by go_num, HP2.out.grow (gr_drewN (gr_refl _ _) _)⟩
          case measure => simp [intOf]; omega
    · go_wp2_with (fail)
      go_end0
      exact ⟨O', rfl, HP.out⟩
end Go.Proofs.YtehhmgbgkemidaaGreatDoor

/-! Package slices at ints: merging two parts. Only this is said: the row is a permutation. -/
namespace Go.Proofs.YtehhmgbgkemidaaGreatDoor
open Go.RowKit

theorem PR.step {w w1 w2 : World} {base g n c : Nat} {L O : List Int} (h : PR w w1 base g n c L O) (h2 : PRPost w1 base g n c O (.returned (.tuple #[])) w2) : ∃ O2, PR w w2 base g n c L O2 := by
  obtain ⟨O2, -, h3⟩ := h2
  exact ⟨O2, h.trans h3⟩
set_option maxRecDepth 100000 in
set_option maxHeartbeats 8000000 in
theorem symMerge_any (F : FuncId) (q0 q1 q2 : Nat) (cm : Int → Int → Int) (base g n c : Nat) (hn : n ≤ 100000) (hE : ∀ (args : Array Value) (w : World), (callFunc F args).run Tryz.prog w = .ok (.enter F args) w) :
    ∀ (s a m b : Nat) (L : List Int) (w : World), b - a ≤ s → w.ownsRow base 3 1 (.slice (some ⟨g, 0, none⟩) n c) n (ints L) → a < m → m < b → b ≤ n → CmpC3 F q0 q1 q2 cm L (some g) w →
    Calls Tryz.prog 239 #[.slice (some ⟨g, 0, none⟩) n c, .int .i64 a, .int .i64 m, .int .i64 b, .func (.func F) #[] #[.pointer (some ⟨q0, 0, none⟩), .pointer (some ⟨q1, 0, none⟩), .pointer (some ⟨q2, 0, none⟩)]] w (PRPost w base g n c L) := by
  intro s
  induction s with
  | zero => intro a m b L w hs _ h1 h2; omega
  | succ s ih =>
  intro a m b L w hs hown ham hmb hb hF
  have IH := Lib.hid ih
  have HF := Lib.hid hF
  have H0 := Lib.hid (PR.refl hown)
  clear hF hown ih
  by_cases hm1 : m - a = 1
  · have hma : (m : Int) - (a : Int) = 1 := by omega
    go_enter Tryz.func239, Tryz.ntmps239
    go_wp2_with (fail)
    go_loopw [10, 11] (fun i j wr => ∃ (p q : Nat) (O : List Int), a < p ∧ p ≤ q ∧ q ≤ b ∧ i = .int .i64 p ∧ j = .int .i64 q ∧ PR w wr base g n c L O) (fun i j _ => (intOf j).toNat - (intOf i).toNat)
    case atStart => exact ⟨m, b, L, by omega, by omega, by omega, rfl, rfl, H0.out⟩
    case round =>
      obtain ⟨p, q, O, hap, hpq, hqb, rfl, rfl, hP⟩ := hrel
      obtain ⟨wo, rfl⟩ : ∃ wo : World, wo = wr := ⟨_, rfl⟩
      by_cases hlt : p < q
      · obtain ⟨h, hh⟩ : ∃ h, h = (p + q) / 2 := ⟨_, rfl⟩
        have hh1 : p ≤ h := by omega
        have hh2 : h < q := by omega
        obtain ⟨a0, -⟩ := hP.cell h (by omega)
        obtain ⟨b0, -⟩ := hP.cell a (by omega)
        have CC := Lib.hid (hP.cmp HF.out h a (by omega) (by omega))
        obtain ⟨x, hx⟩ : ∃ x, x = O.getD h 0 := ⟨_, rfl⟩
        obtain ⟨y, hy⟩ : ∃ y, y = O.getD a 0 := ⟨_, rfl⟩
        rw [← hx, ← hy] at CC
        rw [← hx] at a0
        rw [← hy] at b0
        obtain ⟨cv, hcv⟩ : ∃ cv, cv = cm x y := ⟨_, rfl⟩
        rw [← hcv] at CC
        have ga0 := grew_cell a0
        have gb0 := grew_cell b0
        have HP := Lib.hid hP
        have hq1 : (h : Int) < (n : Int) := by omega
        have hq2 : (a : Int) < (n : Int) := by omega
        have hmid : ((p : Int) + (q : Int)) / 2 = (h : Int) := by omega
        clear hP hx hy hcv hh
        by_cases hc0 : cv < 0
        · have hdc : decide (cv < 0) = true := decide_eq_true hc0
          go_upto_region 5 with (fail)
          refine wp_region_grew (by kernel_rfl) (by kernel_rfl) ?_
          repeat (go_big_quiet_step (first | (exact Calls.grew_of (fun W h => CC.out W h))))
          refine wpQuiet_nil ?_
          rintro wq ⟨nn, rfl⟩
          have HP3 := Lib.hid (HP.out.grow nn.gr)
          go_wp2_with (fail)
          go_roundw
          case rel => exact ⟨h + 1, q, O, by omega, by omega, hqb, by go_num, rfl, HP3.out⟩
          case measure => simp [intOf]; omega
        · have hdc : decide (cv < 0) = false := decide_eq_false hc0
          go_upto_region 5 with (fail)
          refine wp_region_grew (by kernel_rfl) (by kernel_rfl) ?_
          repeat (go_big_quiet_step (first | (exact Calls.grew_of (fun W h => CC.out W h))))
          refine wpQuiet_nil ?_
          rintro wq ⟨nn, rfl⟩
          have HP3 := Lib.hid (HP.out.grow nn.gr)
          go_wp2_with (fail)
          go_roundw
          case rel => exact ⟨p, h, O, hap, by omega, by omega, rfl, rfl, HP3.out⟩
          case measure => simp [intOf]; omega
      · obtain rfl : p = q := by omega
        have HP := Lib.hid hP
        have hp1 : (p : Int) - 1 = ((p - 1 : Nat) : Int) := by omega
        clear hP
        go_wp2_with (fail)
        go_loopw [13] (fun k wr => ∃ (t : Nat) (O : List Int), t < p ∧ k = .int .i64 t ∧ PR w wr base g n c L O) (fun k _ => p - (intOf k).toNat)
        case atStart => exact ⟨a, O, by omega, rfl, HP.out⟩
        case round =>
          clear HP
          obtain ⟨t, O2, htp, rfl, hP2⟩ := hrel
          obtain ⟨wi, rfl⟩ : ∃ wi : World, wi = wr := ⟨_, rfl⟩
          by_cases htk : t < p - 1
          · obtain ⟨a0, fa0⟩ := hP2.cell t (by omega)
            obtain ⟨b0, fb0⟩ := hP2.cell (t + 1) (by omega)
            have HS := Lib.hid (hP2.swap t (t + 1) (by omega) (by omega))
            obtain ⟨z, c0, fc0⟩ := hP2.cell2 t (t + 1) (by omega) (by omega) (O2.getD (t + 1) 0)
            obtain ⟨x, hx⟩ : ∃ x, x = O2.getD t 0 := ⟨_, rfl⟩
            obtain ⟨y, hy⟩ : ∃ y, y = O2.getD (t + 1) 0 := ⟨_, rfl⟩
            rw [← hx] at a0 HS
            rw [← hy] at b0 HS c0 fc0
            have hq0 : (t : Int) < (n : Int) := by omega
            have hq3 : (t : Int) + 1 < (n : Int) := by omega
            have hq2 : (0 : Int) ≤ (t : Int) + 1 := by omega
            have hq4 : ((t : Int) + 1).toNat = t + 1 := by omega
            have hw4 : IntKind.i64.wrap ((t : Int) + 1) = (t : Int) + 1 := IntWalk.i64_in _ (by omega)
            clear hP2 hx hy
            go_wp2_with (fail)
            go_region
            all_goals (go_wp2_with (fail))
            all_goals go_roundw
            all_goals first | (simp [intOf]; omega; done) | skip
            all_goals
              refine ⟨t + 1, _, by omega, by go_num, HS.out.heap rfl ?_⟩
              first
                | exact gr_drew HS.out.gr
                | exact HS.out.gr
          · have HP2 := Lib.hid hP2
            clear hP2
            go_wp2_with (fail)
            go_end0
            exact ⟨O2, rfl, HP2.out⟩
  · have hma : ¬ (m : Int) - (a : Int) = 1 := by omega
    have hma2 : ((m : Int) - (a : Int) == 1) = false := beq_eq_false_iff_ne.2 hma
    by_cases hb1 : b - m = 1
    · have hbm : (b : Int) - (m : Int) = 1 := by omega
      go_enter Tryz.func239, Tryz.ntmps239
      go_wp2_with (fail)
      go_loopw [14, 15] (fun i j wr => ∃ (p q : Nat) (O : List Int), a ≤ p ∧ p ≤ q ∧ q ≤ m ∧ i = .int .i64 p ∧ j = .int .i64 q ∧ PR w wr base g n c L O) (fun i j _ => (intOf j).toNat - (intOf i).toNat)
      case atStart => exact ⟨a, m, L, by omega, by omega, by omega, rfl, rfl, H0.out⟩
      case round =>
        obtain ⟨p, q, O, hap, hpq, hqb, rfl, rfl, hP⟩ := hrel
        obtain ⟨wo, rfl⟩ : ∃ wo : World, wo = wr := ⟨_, rfl⟩
        by_cases hlt : p < q
        · obtain ⟨h, hh⟩ : ∃ h, h = (p + q) / 2 := ⟨_, rfl⟩
          have hh1 : p ≤ h := by omega
          have hh2 : h < q := by omega
          obtain ⟨a0, -⟩ := hP.cell m (by omega)
          obtain ⟨b0, -⟩ := hP.cell h (by omega)
          have CC := Lib.hid (hP.cmp HF.out m h (by omega) (by omega))
          obtain ⟨x, hx⟩ : ∃ x, x = O.getD m 0 := ⟨_, rfl⟩
          obtain ⟨y, hy⟩ : ∃ y, y = O.getD h 0 := ⟨_, rfl⟩
          rw [← hx, ← hy] at CC
          rw [← hx] at a0
          rw [← hy] at b0
          obtain ⟨cv, hcv⟩ : ∃ cv, cv = cm x y := ⟨_, rfl⟩
          rw [← hcv] at CC
          have ga0 := grew_cell a0
          have gb0 := grew_cell b0
          have HP := Lib.hid hP
          have hq1 : (h : Int) < (n : Int) := by omega
          have hq2 : (m : Int) < (n : Int) := by omega
          have hmid : ((p : Int) + (q : Int)) / 2 = (h : Int) := by omega
          clear hP hx hy hcv hh
          by_cases hc0 : cv < 0
          · have hdc : decide (cv < 0) = true := decide_eq_true hc0
            go_upto_region 17 with (fail)
            refine wp_region_grew (by kernel_rfl) (by kernel_rfl) ?_
            repeat (go_big_quiet_step (first | (exact Calls.grew_of (fun W h => CC.out W h))))
            refine wpQuiet_nil ?_
            rintro wq ⟨nn, rfl⟩
            have HP3 := Lib.hid (HP.out.grow nn.gr)
            go_wp2_with (fail)
            go_roundw
            case rel => exact ⟨p, h, O, hap, by omega, by omega, rfl, rfl, HP3.out⟩
            case measure => simp [intOf]; omega
          · have hdc : decide (cv < 0) = false := decide_eq_false hc0
            go_upto_region 17 with (fail)
            refine wp_region_grew (by kernel_rfl) (by kernel_rfl) ?_
            repeat (go_big_quiet_step (first | (exact Calls.grew_of (fun W h => CC.out W h))))
            refine wpQuiet_nil ?_
            rintro wq ⟨nn, rfl⟩
            have HP3 := Lib.hid (HP.out.grow nn.gr)
            go_wp2_with (fail)
            go_roundw
            case rel => exact ⟨h + 1, q, O, by omega, by omega, hqb, by go_num, rfl, HP3.out⟩
            case measure => simp [intOf]; omega
        · obtain rfl : p = q := by omega
          have HP := Lib.hid hP
          clear hP
          go_wp2_with (fail)
          go_loopw [17] (fun k wr => ∃ (t : Nat) (O : List Int), p ≤ t ∧ t ≤ m ∧ k = .int .i64 t ∧ PR w wr base g n c L O) (fun k _ => (intOf k).toNat)
          case atStart => exact ⟨m, O, by omega, by omega, rfl, HP.out⟩
          case round =>
            clear HP
            obtain ⟨t', O2, htp, htm, rfl, hP2⟩ := hrel
            obtain ⟨wi, rfl⟩ : ∃ wi : World, wi = wr := ⟨_, rfl⟩
            by_cases htk : p < t'
            · obtain ⟨t, ht⟩ : ∃ t, t = t' - 1 := ⟨_, rfl⟩
              obtain rfl : t' = t + 1 := by omega
              obtain ⟨a0, fa0⟩ := hP2.cell (t + 1) (by omega)
              obtain ⟨b0, fb0⟩ := hP2.cell t (by omega)
              have HS := Lib.hid (hP2.swap (t + 1) t (by omega) (by omega))
              obtain ⟨z, c0, fc0⟩ := hP2.cell2 (t + 1) t (by omega) (by omega) (O2.getD t 0)
              obtain ⟨x, hx⟩ : ∃ x, x = O2.getD (t + 1) 0 := ⟨_, rfl⟩
              obtain ⟨y, hy⟩ : ∃ y, y = O2.getD t 0 := ⟨_, rfl⟩
              rw [← hx] at a0 HS
              rw [← hy] at b0 HS c0 fc0
              have hq0 : (t : Int) < (n : Int) := by omega
              have hq3 : (t : Int) + 1 < (n : Int) := by omega
              have hq2 : (0 : Int) ≤ (t : Int) + 1 := by omega
              have hq4 : ((t : Int) + 1).toNat = t + 1 := by omega
              have hi1 : ((t : Int) + 1 - 1) = t := by omega
              have hwi : IntKind.i64.wrap (((t : Int) + 1) - 1) = t := by rw [hi1]; exact IntWalk.i64_in _ (by omega)
              clear hP2 hx hy ht
              go_wp2_with (fail)
              go_region
              all_goals (go_wp2_with (fail))
              all_goals go_roundw
              all_goals first | (simp [intOf]; done) | skip
              all_goals
                refine ⟨t, _, by omega, by omega, by go_num, HS.out.heap rfl ?_⟩
                first
                  | exact gr_drew HS.out.gr
                  | exact HS.out.gr
            · have HP2 := Lib.hid hP2
              clear hP2
              go_wp2_with (fail)
              go_end0
              exact ⟨O2, rfl, HP2.out⟩
    · have hbm : ¬ (b : Int) - (m : Int) = 1 := by omega
      have hbm2 : ((b : Int) - (m : Int) == 1) = false := beq_eq_false_iff_ne.2 hbm
      obtain ⟨mid, hmide⟩ : ∃ mid, mid = (a + b) / 2 := ⟨_, rfl⟩
      have hmid : ((a : Int) + (b : Int)) / 2 = (mid : Int) := by omega
      have hm3 : a < mid := by omega
      have hm4 : mid < b := by omega
      have hm5 : mid + mid ≤ a + b := by omega
      have hm6 : a + b ≤ mid + mid + 1 := by omega
      clear hmide
      go_enter Tryz.func239, Tryz.ntmps239
      go_upto_if 140 with (fail)
      go_cut [20, 21] (fun s r wx => ∃ S R : Nat, s = .int .i64 S ∧ r = .int .i64 R ∧ wx = w ∧ a ≤ S ∧ S ≤ R ∧ R < n ∧ mid + m ≤ S + b ∧ R ≤ mid + m)
      case first =>
        by_cases hmm : mid < m
        · have hsub : (mid : Int) + (m : Int) - (b : Int) = ((mid + m - b : Nat) : Int) := by omega
          go_wp2_with (fail)
          go_meet
          exact ⟨mid + m - b, mid, rfl, rfl, rfl, by omega, by omega, by omega, by omega, by omega⟩
        · go_wp2_with (fail)
          go_meet
          exact ⟨a, m, rfl, rfl, rfl, by omega, by omega, by omega, by omega, by omega⟩
      case rest =>
      obtain ⟨S, R, rfl, rfl, hwc, hS1, hS2, hS3, hS4, hS5⟩ := hcut
      subst hwc
      obtain ⟨w9, hw9⟩ : ∃ w9, w9 = wc := ⟨_, rfl⟩
      subst hw9
      have hNe : (mid : Int) + (m : Int) - 1 = ((mid + m - 1 : Nat) : Int) := by omega
      go_wp2_with (fail)
      go_loopw [20, 21] (fun i j wr => ∃ (p q : Nat) (O : List Int), S ≤ p ∧ p ≤ q ∧ q ≤ R ∧ i = .int .i64 p ∧ j = .int .i64 q ∧ PR w9 wr base g n c L O) (fun i j _ => (intOf j).toNat - (intOf i).toNat)
      case atStart => exact ⟨S, R, L, by omega, by omega, by omega, rfl, rfl, H0.out⟩
      case round =>
        obtain ⟨p, q, O, hap, hpq, hqb, rfl, rfl, hP⟩ := hrel
        obtain ⟨wo, rfl⟩ : ∃ wo : World, wo = wr := ⟨_, rfl⟩
        by_cases hlt : p < q
        · obtain ⟨h, hh⟩ : ∃ h, h = (p + q) / 2 := ⟨_, rfl⟩
          have hh1 : p ≤ h := by omega
          have hh2 : h < q := by omega
          obtain ⟨u, hu⟩ : ∃ u, u = mid + m - 1 - h := ⟨_, rfl⟩
          have hun : u < n := by omega
          obtain ⟨a0, -⟩ := hP.cell u hun
          obtain ⟨b0, -⟩ := hP.cell h (by omega)
          have CC := Lib.hid (hP.cmp HF.out u h hun (by omega))
          obtain ⟨x, hx⟩ : ∃ x, x = O.getD u 0 := ⟨_, rfl⟩
          obtain ⟨y, hy⟩ : ∃ y, y = O.getD h 0 := ⟨_, rfl⟩
          rw [← hx, ← hy] at CC
          rw [← hx] at a0
          rw [← hy] at b0
          obtain ⟨cv, hcv⟩ : ∃ cv, cv = cm x y := ⟨_, rfl⟩
          rw [← hcv] at CC
          have ga0 := grew_cell a0
          have gb0 := grew_cell b0
          have HP := Lib.hid hP
          have hq1 : (h : Int) < (n : Int) := by omega
          have hq2 : (u : Int) < (n : Int) := by omega
          have hmid2 : ((p : Int) + (q : Int)) / 2 = (h : Int) := by omega
          have hue : ((mid + m - 1 : Nat) : Int) - (h : Int) = (u : Int) := by omega
          have hue2 : (mid : Int) + (m : Int) - 1 - (h : Int) = (u : Int) := by omega
          clear hP hx hy hcv hh hu
          by_cases hc0 : cv < 0
          · have hdc : decide (cv < 0) = true := decide_eq_true hc0
            go_upto_region 35 with (fail)
            refine wp_region_grew (by kernel_rfl) (by kernel_rfl) ?_
            repeat (go_big_quiet_step (first | (exact Calls.grew_of (fun W h => CC.out W h))))
            refine wpQuiet_nil ?_
            rintro wq ⟨nn, rfl⟩
            have HP3 := Lib.hid (HP.out.grow nn.gr)
            go_wp2_with (fail)
            go_roundw
            case rel => exact ⟨p, h, O, hap, by omega, by omega, rfl, rfl, HP3.out⟩
            case measure => simp [intOf]; omega
          · have hdc : decide (cv < 0) = false := decide_eq_false hc0
            go_upto_region 35 with (fail)
            refine wp_region_grew (by kernel_rfl) (by kernel_rfl) ?_
            repeat (go_big_quiet_step (first | (exact Calls.grew_of (fun W h => CC.out W h))))
            refine wpQuiet_nil ?_
            rintro wq ⟨nn, rfl⟩
            have HP3 := Lib.hid (HP.out.grow nn.gr)
            go_wp2_with (fail)
            go_roundw
            case rel => exact ⟨h + 1, q, O, by omega, by omega, hqb, by go_num, rfl, HP3.out⟩
            case measure => simp [intOf]; omega
        · obtain rfl : p = q := by omega
          have HP := Lib.hid hP
          obtain ⟨E, hE2⟩ : ∃ E, E = mid + m - p := ⟨_, rfl⟩
          have hEe : (mid : Int) + (m : Int) - (p : Int) = (E : Int) := by omega
          have hEb : E ≤ b := by omega
          have hpn : p < n := by omega
          have hap2 : a ≤ p := by omega
          clear hP hE2
          go_upto_region 39 with (fail)
          go_cut [185] from 178 to 185 (fun s wx => ∃ t : Bool, s = .bool t ∧ (t = true → p < m ∧ m < E) ∧ wx = wo)
          case first =>
            by_cases hx1 : p < m
            · have hx1d : decide ((p : Int) < (m : Int)) = true := decide_eq_true (by omega)
              by_cases hx2 : m < E
              · have hx2d : decide ((m : Int) < (E : Int)) = true := decide_eq_true (by omega)
                go_wp2_with (fail)
                go_meet
                exact ⟨true, rfl, fun _ => ⟨hx1, hx2⟩, rfl⟩
              · have hx2d : decide ((m : Int) < (E : Int)) = false := decide_eq_false (by omega)
                go_wp2_with (fail)
                go_meet
                exact ⟨false, rfl, fun h => absurd h (by simp), rfl⟩
            · have hx1d : decide ((p : Int) < (m : Int)) = false := decide_eq_false (by omega)
              go_wp2_with (fail)
              go_meet
              exact ⟨false, rfl, fun h => absurd h (by simp), rfl⟩
          case rest =>
          obtain ⟨t1, rfl, ht1, hwe1⟩ := hcut
          subst hwe1
          obtain ⟨v1, hv1⟩ : ∃ v, v = wc := ⟨_, rfl⟩
          subst hv1
          go_upto_if 185 with (fail)
          go_cut [] from 186 to 191 (fun wx => ∃ O2 : List Int, PR w9 wx base g n c L O2)
          case first =>
            cases t1 with
            | false =>
              go_wp2_with (fail)
              go_meet
              exact ⟨O, HP.out⟩
            | true =>
              obtain ⟨hx1, hx2⟩ := ht1 rfl
              have CA := Lib.hid (rotate_any (.func (.func F) #[] #[.pointer (some ⟨q0, 0, none⟩), .pointer (some ⟨q1, 0, none⟩), .pointer (some ⟨q2, 0, none⟩)]) base g n c p m E O v1 HP.out.own hn hx1 hx2 (by omega))
              go_wp2_with (fail)
              refine CA.out.mono ?_
              rintro e wz ⟨O3, rfl, h3⟩
              have H3 := Lib.hid (HP.out.trans h3)
              clear h3
              go_wp2_with (fail)
              go_meet
              exact ⟨O3, H3.out⟩
          case rest =>
          obtain ⟨O1, hO1⟩ := hcut
          have HP1 := Lib.hid hO1
          clear hO1 ht1
          obtain ⟨w1, hw1⟩ : ∃ w1, w1 = wc := ⟨_, rfl⟩
          subst hw1
          go_upto_region 41 with (fail)
          go_cut [199] from 192 to 199 (fun s wx => ∃ t : Bool, s = .bool t ∧ (t = true → a < p ∧ p < mid) ∧ wx = w1)
          case first =>
            by_cases hx1 : a < p
            · have hx1d : decide ((a : Int) < (p : Int)) = true := decide_eq_true (by omega)
              by_cases hx2 : p < mid
              · have hx2d : decide ((p : Int) < (mid : Int)) = true := decide_eq_true (by omega)
                go_wp2_with (fail)
                go_meet
                exact ⟨true, rfl, fun _ => ⟨hx1, hx2⟩, rfl⟩
              · have hx2d : decide ((p : Int) < (mid : Int)) = false := decide_eq_false (by omega)
                go_wp2_with (fail)
                go_meet
                exact ⟨false, rfl, fun h => absurd h (by simp), rfl⟩
            · have hx1d : decide ((a : Int) < (p : Int)) = false := decide_eq_false (by omega)
              go_wp2_with (fail)
              go_meet
              exact ⟨false, rfl, fun h => absurd h (by simp), rfl⟩
          case rest =>
          obtain ⟨t2, rfl, ht2, hwe2⟩ := hcut
          subst hwe2
          obtain ⟨v2, hv2⟩ : ∃ v, v = wc := ⟨_, rfl⟩
          subst hv2
          go_upto_if 199 with (fail)
          go_cut [] from 200 to 205 (fun wx => ∃ O2 : List Int, PR w9 wx base g n c L O2)
          case first =>
            cases t2 with
            | false =>
              go_wp2_with (fail)
              go_meet
              exact ⟨O1, HP1.out⟩
            | true =>
              obtain ⟨hx1, hx2⟩ := ht2 rfl
              have CA := Lib.hid (IH.out a p mid O1 v2 (by omega) HP1.out.own hx1 hx2 (by omega) (HF.out.later HP1.out.perm HP1.out.gr))
              go_wp2_with (fail)
              refine CA.out.mono ?_
              rintro e wz ⟨O3, rfl, h3⟩
              have H3 := Lib.hid (HP1.out.trans h3)
              clear h3
              go_wp2_with (fail)
              go_meet
              exact ⟨O3, H3.out⟩
          case rest =>
          obtain ⟨O2, hO2⟩ := hcut
          have HP2 := Lib.hid hO2
          clear hO2 ht2
          obtain ⟨w2, hw2⟩ : ∃ w2, w2 = wc := ⟨_, rfl⟩
          subst hw2
          go_upto_region 43 with (fail)
          go_cut [213] from 206 to 213 (fun s wx => ∃ t : Bool, s = .bool t ∧ (t = true → mid < E ∧ E < b) ∧ wx = w2)
          case first =>
            by_cases hx1 : mid < E
            · have hx1d : decide ((mid : Int) < (E : Int)) = true := decide_eq_true (by omega)
              by_cases hx2 : E < b
              · have hx2d : decide ((E : Int) < (b : Int)) = true := decide_eq_true (by omega)
                go_wp2_with (fail)
                go_meet
                exact ⟨true, rfl, fun _ => ⟨hx1, hx2⟩, rfl⟩
              · have hx2d : decide ((E : Int) < (b : Int)) = false := decide_eq_false (by omega)
                go_wp2_with (fail)
                go_meet
                exact ⟨false, rfl, fun h => absurd h (by simp), rfl⟩
            · have hx1d : decide ((mid : Int) < (E : Int)) = false := decide_eq_false (by omega)
              go_wp2_with (fail)
              go_meet
              exact ⟨false, rfl, fun h => absurd h (by simp), rfl⟩
          case rest =>
          obtain ⟨t3, rfl, ht3, hwe3⟩ := hcut
          subst hwe3
          obtain ⟨v3, hv3⟩ : ∃ v, v = wc := ⟨_, rfl⟩
          subst hv3
          cases t3 with
          | false =>
            go_wp2_with (fail)
            go_end0
            exact ⟨O2, rfl, HP2.out⟩
          | true =>
            obtain ⟨hx1, hx2⟩ := ht3 rfl
            have CA := Lib.hid (IH.out mid E b O2 v3 (by omega) HP2.out.own hx1 hx2 (by omega) (HF.out.later HP2.out.perm HP2.out.gr))
            go_wp2_with (fail)
            refine CA.out.mono ?_
            rintro e wz ⟨O3, rfl, h3⟩
            have H3 := Lib.hid (HP2.out.trans h3)
            clear h3
            go_wp2_with (fail)
            go_end0
            exact ⟨O3, rfl, H3.out⟩
end Go.Proofs.YtehhmgbgkemidaaGreatDoor
