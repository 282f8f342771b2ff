/- Package meter's lit: when a code is on. -/
import Derived.Test.YtehhmgbgkemidaaGreatDoorPkSAd
import Derived.Test.YtehhmgbgkemidaaGreatDoorPkSAe
import Derived.Deep.DrawnRows
import Derived.WalkLawsBesides
import Derived.BigRegion
namespace Go.Proofs.YtehhmgbgkemidaaGreatDoor
open Go.RowKit
attribute [local go_sem ↓] Go.wp_at_zero Go.wp_at_succ

def encCd (x : Cd) : List Value := [.int .i64 x.tm, .string x.key, .bool x.on]
theorem encCd_len (x : Cd) : (encCd x).length = 3 := rfl
theorem eCd : ElemT Tryz.prog 26 99 (.agg #[.int .i64 0, .string ⟨#[]⟩, .bool false]) 3 32 := ⟨by kernel_rfl, by kernel_rfl, by decide, by decide, by decide⟩
/-- What lit's closure writes: the row that is made, and from when on. -/
structure PutAt (w0 : World) (base a b : Nat) (w : World) (v : Value) (O : List Win) (f : Int) : Prop where
  out : w.heap[a]? = some (.cells #[v] 107 (0, 0))
  fr : w.heap[b]? = some (.cells #[.int .i64 f] 3 (0, 0))
  own : w.ownsRow base 39 2 v O.length (flat encWin O)
  gr : w0.grownBy w none
  bz : base ≤ w.heap.size
theorem PutAt.keep0 {w0 w w1 : World} {base a b : Nat} {v : Value} {O : List Win} {f : Int} (h : PutAt w0 base a b w v O f) (g : w.grownBy w1 none) : PutAt w0 base a b w1 v O f :=
  ⟨(g.block _ (lt_of_block h.out) (by simp)).trans h.out, (g.block _ (lt_of_block h.fr) (by simp)).trans h.fr, own_keep0 h.own g, gr_trans h.gr g, by have := h.bz; have := g.size; omega⟩
theorem PutAt.setF {w0 w : World} {base a b : Nat} {v : Value} {O : List Win} {f : Int} (h : PutAt w0 base a b w v O f) (h1 : w0.heap.size ≤ b) (hb : b < base) (hne : a ≠ b) (t : Int) : PutAt w0 base a b (w.setCell ⟨b, 0, none⟩ (.int .i64 t)).drew v O t := by
  have gx := gr_set (q := ⟨b, 0, none⟩) (gr_refl w (some b)) rfl (.int .i64 t)
  have hk := heap_setCell_same w b 0 _ _ (.int .i64 t) h.fr
  have h5 : PutAt w0 base a b (w.setCell ⟨b, 0, none⟩ (.int .i64 t)) v O t :=
    ⟨(gx.block a (lt_of_block h.out) (by simpa using hne)).trans h.out, hk, own_keep h.own gx (.inr (fun e => by have := (h.own.lt b e).1; omega)), gr_grown h.gr gx (fun q e => by cases e; exact h1), by have := h.bz; have := gx.size; omega⟩
  exact h5.keep0 (gr_drew (gr_refl _ none))
set_option maxRecDepth 100000 in
set_option maxHeartbeats 2000000 in
theorem put_any (O : List Win) (v : Value) (f t : Int) (a b base : Nat) (w0 w : World) (h : PutAt w0 base a b w v O f) (h0 : w0.heap.size ≤ a) (ha : a < base) (hb : b < base) (hne : a ≠ b) (hl : O.length ≤ 1000) :
    Calls Tryz.prog 120 #[.int .i64 t, .pointer (some ⟨a, 0, none⟩), .pointer (some ⟨b, 0, none⟩)] w fun e w' => ∃ v', e = .returned (.tuple #[]) ∧ PutAt w0 base a b w' v' (putW O f t) f ∧ ∀ X, X < w.heap.size → X ≠ a → v.ownBlock ≠ some X → w'.heap[X]? = w.heap[X]? := by
  have H := Lib.hid h
  obtain ⟨hA, hB, ho, hg, hbz⟩ := h
  have a0 := blkC hA 0 rfl
  have b0 := blkC hB 0 rfl
  have hzb := lt_of_block hB
  have hza := lt_of_block hA
  obtain ⟨va, vc, rfl, -, -, -, -⟩ := own_shape ho
  replace a0 : w.cell? ⟨a, 0, none⟩ = some (.slice va O.length vc) := a0
  replace b0 : w.cell? ⟨b, 0, none⟩ = some (.int .i64 f) := b0
  clear hA hB hg
  go_enter Tryz.func120, Tryz.ntmps120
  by_cases htf : t = f
  · subst htf
    have hp : Hid (putW O t t = O) := by show _ = _; unfold putW; rw [if_pos rfl]
    clear ho
    go_wp2_with (fail)
    go_end0
    exact ⟨_, rfl, by rw [hp.out]; exact H.out, fun _ _ _ _ => rfl⟩
  · have hfe : (t == f) = false := by simpa using htf
    by_cases hn : 0 < O.length
    · obtain ⟨g, gc, hge, hgb, -, -, -⟩ := own_some ho hn
      cases hge
      obtain ⟨i, hi⟩ : ∃ i, i = O.length - 1 := ⟨_, rfl⟩
      have hil : i < O.length := by omega
      obtain ⟨n, hnn⟩ : ∃ n, n = O.length := ⟨_, rfl⟩
      have c1 := own_cellE (enc := encWin) (m := 2) (fun _ => rfl) ho i hil 1 (by decide) _ rfl rfl
      have HST : Hid (∀ W : World, W.ownsRow base 39 2 (.slice (some ⟨g, 0, none⟩) n vc) n (flat encWin O) → (W.setCell ⟨g, i * 2 + 1, none⟩ (.int .i64 t)).ownsRow base 39 2 (.slice (some ⟨g, 0, none⟩) n vc) n (flat encWin (O.set i ⟨O[i].fr, t⟩))) := fun W hW => by
        have h5 := (hW.stored (i * 2 + 1) (.int .i64 t)).1
        rw [flat_set (enc := encWin) (m := 2) (fun _ => rfl) O i hil 1 (by decide) (.int .i64 t) ⟨O[i].fr, t⟩ rfl] at h5
        exact h5
      have hge : O.getD (O.length - 1) w0W = O[i] := by
        rw [← hi, List.getD_eq_getElem?_getD, List.getElem?_eq_getElem hil]; rfl
      have PT : Hid (putW O f t = if O[i].to = f then O.set i ⟨O[i].fr, t⟩ else O ++ [⟨f, t⟩]) := by
        show _ = _
        unfold putW
        rw [if_neg htf, hge, ← hi]
        by_cases e : O[i].to = f
        · rw [if_pos ⟨hn, e⟩, if_pos e]
        · rw [if_neg (fun h => e h.2), if_neg e]
      obtain ⟨x, hx⟩ : ∃ x, x = O[i] := ⟨_, rfl⟩
      rw [← hx] at c1 HST PT
      rw [← hnn] at ho hn hil
      obtain ⟨xf, xt⟩ := x
      obtain ⟨c1, f1, -⟩ := c1
      have c1 : w.cell? ⟨g, i * 2 + 1, none⟩ = some (.int .i64 xt) := c1
      have f1 : w.frozen? ⟨g, i * 2 + 1, none⟩ = false := f1
      have hgl := lt_of_cell c1
      have hin : n = i + 1 := by omega
      subst hin
      have HNN := Lib.hid hnn
      have HO := Lib.hid ho
      replace a0 : w.cell? ⟨a, 0, none⟩ = some (.slice (some ⟨g, 0, none⟩) (i + 1) vc) := by
        rw [HNN.out]
        exact a0
      have hq0 : (0 : Int) ≤ (i : Int) := by omega
      have hq1 : (i : Int) < ((i + 1 : Nat) : Int) := by omega
      have hq2 : (i : Int) < (i : Int) + 1 := by omega
      have hwi : IntKind.i64.wrap (((i + 1 : Nat) : Int) - 1) = (i : Int) := by rw [show ((i + 1 : Nat) : Int) - 1 = (i : Int) by omega]; exact IntWalk.i64_in _ (by omega)
      have hd0 : decide ((0 : Int) ≤ (i : Int)) = true := decide_eq_true hq0
      simp only at PT HST
      clear hnn hx hi hge ho
      by_cases hxt : xt = f
      · have hxe : (xt == f) = true := by simpa using hxt
        rw [if_pos hxt] at PT
        go_wp2_with (fail)
        go_quiet (fail)
        obtain ⟨wn, hwn⟩ : ∃ wn, wn = w.drewN nq := ⟨_, rfl⟩
        have gq : w.grownBy wn none := by rw [hwn]; exact gr_drewN (gr_refl _ _) _
        rw [← hwn]
        have A0 := (gr_cell gq (lt_of_cell a0)).trans a0
        have C1 := (gr_cell gq (lt_of_cell c1)).trans c1
        have F1 := (gr_free gq hgl (o := i * 2 + 1)).trans f1
        have HK := Lib.hid (H.out.keep0 gq)
        have HGQ := Lib.hid gq
        have HOQ := Lib.hid (own_keep0 HO.out gq)
        clear hwn gq a0 c1 f1 b0
        go_wp2_with (fail)
        go_end0
        have gx := gr_set (q := ⟨g, i * 2 + 1, none⟩) (gr_refl wn (some g)) rfl (.int .i64 t)
        refine ⟨.slice (some ⟨g, 0, none⟩) (i + 1) vc, rfl, ?_, fun X hX _ h2 => (gx.block X (Nat.lt_of_lt_of_le hX HGQ.out.size) (fun e => h2 (by rw [e]; rfl))).trans (HGQ.out.block X hX (by simp))⟩
        rw [PT.out]
        refine ⟨(gx.block a (lt_of_block HK.out.out) (by simp; omega)).trans ?_, (gx.block b (lt_of_block HK.out.fr) (by simp; omega)).trans HK.out.fr, ?_, gr_grown HK.out.gr gx (fun q e => by cases e; omega), by have := HK.out.bz; have := gx.size; omega⟩
        · have e := HK.out.out
          rw [← HNN.out] at e
          exact e
        · rw [List.length_set, ← HNN.out]
          exact HST.out wn HOQ.out
      · have hxe : (xt == f) = false := by simpa using hxt
        rw [if_neg hxt] at PT
        go_wp2_with (fail)
        go_quiet (fail)
        obtain ⟨wn, hwn⟩ : ∃ wn, wn = w.drewN nq := ⟨_, rfl⟩
        have gq : w.grownBy wn none := by rw [hwn]; exact gr_drewN (gr_refl _ _) _
        rw [← hwn]
        obtain ⟨v9, hv9⟩ : ∃ v9, v9 = Value.slice (some ⟨g, 0, none⟩) (i + 1) vc := ⟨_, rfl⟩
        have A0 := (gr_cell gq (lt_of_cell a0)).trans a0
        have B0 := (gr_cell gq (lt_of_cell b0)).trans b0
        have HK := H.out.keep0 gq
        rw [← HNN.out] at HK
        rw [← hv9] at HK A0
        have hA9 := HK.out
        have F0 := blkF hA9 0
        have HK := Lib.hid HK
        have HV9 := Lib.hid hv9
        have HGQ := Lib.hid gq
        clear hwn gq a0 b0 c1 f1 hv9
        have hz9 := HK.out.bz
        have hown9 := HK.out.own
        have hlt9 : ∀ q, v9.ownBlock = some q → base ≤ q := fun q e => (hown9.lt q e).1
        have HA9 := Lib.hid hA9
        have HOW9 := Lib.hid hown9
        clear hA9 hown9
        go_wp2_with (at_builtin; refine wpList_app1F eWin rfl _ _ rfl base v9 _ _ rfl wn #[.int .i64 f, .int .i64 t] rfl HOW9.out _ rfl rfl rfl rfl (by omega) hz9 ?_; intro v7 w7 o7 g7 hl7 _; obtain ⟨ga, ca, rfl, hga, -, -, -⟩ := own_some o7 (by omega); have A7 := (g7.block a (lt_of_block HA9.out) (fun e => by have := hlt9 a e.symm; omega)).trans HA9.out; have a7 := blkC A7 0 rfl; have f7 := blkF A7 0; have B7 := Lib.hid ((g7.block b (lt_of_block HK.out.fr) (fun e => by have := hlt9 b e.symm; omega)).trans HK.out.fr); have K7 := Lib.hid (heap_setCell_same w7 a 0 _ _ (.slice (some ⟨ga, 0, none⟩) (O.length + 1) ca) A7); have O7 := Lib.hid o7; have G7 := Lib.hid g7; clear A7 o7 g7)
        go_end0
        have gx := gr_set (q := ⟨a, 0, none⟩) (gr_refl w7 (some a)) rfl (.slice (some ⟨ga, 0, none⟩) (O.length + 1) ca)
        refine ⟨rfl, ⟨.slice (some ⟨ga, 0, none⟩) (O.length + 1) ca, ?_⟩, fun X hX h1 h2 => ((gx.block X (by have := HGQ.out.size; have := G7.out.size; omega) (by simpa using h1)).trans (G7.out.block X (by have := HGQ.out.size; omega) (fun e => h2 (by have e2 := congrArg Value.ownBlock HV9.out; rw [← e] at e2; exact e2.symm)))).trans (HGQ.out.block X hX (by simp))⟩
        rw [PT.out]
        refine ⟨K7.out, (gx.block b (lt_of_block B7.out) (by simp; omega)).trans B7.out, ?_, gr_grown (gr_grown HK.out.gr G7.out (fun q e => by have := hl7 q e; omega)) gx (fun q e => by cases e; omega), by have := HK.out.bz; have := G7.out.size; have := gx.size; omega⟩
        rw [flat_snoc, List.length_append]
        exact own_keep O7.out gx (.inr (by simp [Value.ownBlock]; omega))
    · have hO : O = [] := List.eq_nil_of_length_eq_zero (by omega)
      subst hO
      replace a0 : w.cell? ⟨a, 0, none⟩ = some (.slice va 0 vc) := a0
      have PT : Hid (putW [] f t = [] ++ [⟨f, t⟩]) := by
        show _ = _
        unfold putW
        rw [if_neg htf, if_neg (fun h => hn h.1)]
      clear ho
      go_wp2_with (fail)
      go_quiet (fail)
      obtain ⟨wn, hwn⟩ : ∃ wn, wn = w.drewN nq := ⟨_, rfl⟩
      have gq : w.grownBy wn none := by rw [hwn]; exact gr_drewN (gr_refl _ _) _
      rw [← hwn]
      obtain ⟨v9, hv9⟩ : ∃ v9, v9 = Value.slice va 0 vc := ⟨_, rfl⟩
      have A0 := (gr_cell gq (lt_of_cell a0)).trans a0
      have B0 := (gr_cell gq (lt_of_cell b0)).trans b0
      have HK := H.out.keep0 gq
      simp only [List.length_nil] at HK
      rw [← hv9] at HK A0
      have hA9 := HK.out
      have F0 := blkF hA9 0
      have HK := Lib.hid HK
      have HV9 := Lib.hid hv9
      have HGQ := Lib.hid gq
      clear hwn gq a0 b0  hv9
      have hz9 := HK.out.bz
      have hown9 := HK.out.own
      have hlt9 : ∀ q, v9.ownBlock = some q → base ≤ q := fun q e => (hown9.lt q e).1
      have HA9 := Lib.hid hA9
      have HOW9 := Lib.hid hown9
      clear hA9 hown9
      go_wp2_with (at_builtin; refine wpList_app1F eWin rfl _ _ rfl base v9 _ _ rfl wn #[.int .i64 f, .int .i64 t] rfl HOW9.out _ rfl rfl rfl rfl (by omega) hz9 ?_; intro v7 w7 o7 g7 hl7 _; obtain ⟨ga, ca, rfl, hga, -, -, -⟩ := own_some o7 (by omega); have A7 := (g7.block a (lt_of_block HA9.out) (fun e => by have := hlt9 a e.symm; omega)).trans HA9.out; have a7 := blkC A7 0 rfl; have f7 := blkF A7 0; have B7 := Lib.hid ((g7.block b (lt_of_block HK.out.fr) (fun e => by have := hlt9 b e.symm; omega)).trans HK.out.fr); have K7 := Lib.hid (heap_setCell_same w7 a 0 _ _ (.slice (some ⟨ga, 0, none⟩) 1 ca) A7); have O7 := Lib.hid o7; have G7 := Lib.hid g7; clear A7 o7 g7)
      go_end0
      have gx := gr_set (q := ⟨a, 0, none⟩) (gr_refl w7 (some a)) rfl (.slice (some ⟨ga, 0, none⟩) 1 ca)
      refine ⟨rfl, ⟨.slice (some ⟨ga, 0, none⟩) 1 ca, ?_⟩, fun X hX h1 h2 => ((gx.block X (by have := HGQ.out.size; have := G7.out.size; omega) (by simpa using h1)).trans (G7.out.block X (by have := HGQ.out.size; omega) (fun e => h2 (by have e2 := congrArg Value.ownBlock HV9.out; rw [← e] at e2; exact e2.symm)))).trans (HGQ.out.block X hX (by simp))⟩
      rw [PT.out]
      refine ⟨K7.out, (gx.block b (lt_of_block B7.out) (by simp; omega)).trans B7.out, ?_, gr_grown (gr_grown HK.out.gr G7.out (fun q e => by have := hl7 q e; omega)) gx (fun q e => by cases e; omega), by have := HK.out.bz; have := G7.out.size; have := gx.size; omega⟩
      rw [flat_snoc, List.length_append]
      exact own_keep O7.out gx (.inr (by simp [Value.ownBlock]; omega))
def LitPost (N : List Win) (w : World) (e : Ending) (w' : World) : Prop := WinPost N w e w'
theorem cd_cells {w : World} {a : Option Addr} {L : List Cd} (h : CellsAt w a (flat encCd L)) (k : Nat) (hk : k < L.length) : ∃ b off, a = some ⟨b, off, none⟩ ∧ w.cell? ⟨b, off + k * 3, none⟩ = some (.int .i64 L[k].tm) ∧ w.cell? ⟨b, off + k * 3 + 1, none⟩ = some (.string L[k].key) ∧ w.cell? ⟨b, off + k * 3 + 2, none⟩ = some (.bool L[k].on) := by
  obtain ⟨b, off, e, hcs⟩ := flat_cells (enc := encCd) (m := 3) (fun _ => rfl) (by decide) h (by omega)
  exact ⟨b, off, e, hcs k hk 0 _ rfl, hcs k hk 1 _ rfl, hcs k hk 2 _ rfl⟩
theorem lit_next (K : ByteArray) (l : List Cd) (k : Nat) (hk : k < l.length) : (l.take (k + 1)).foldl (litStep K) ⟨[], false, 0⟩ = litStep K ((l.take k).foldl (litStep K) ⟨[], false, 0⟩) l[k] := by
  rw [List.take_succ_eq_append_getElem hk, List.foldl_append]
  rfl
theorem litStep_out (K : ByteArray) (s : LitS) (c : Cd) : (litStep K s c).out.length ≤ s.out.length + 1 := by
  unfold litStep
  split
  · omega
  · simp only
    split
    · unfold putW
      split
      · omega
      · split
        · rw [List.length_set]; omega
        · rw [List.length_append]; exact Nat.le_refl _
    · omega
set_option maxRecDepth 100000 in
set_option maxHeartbeats 2000000 in
theorem lit_any (l : List Cd) (K : ByteArray) (a : Option Addr) (c : Nat) (w : World) (h : CellsAt w a (flat encCd l)) (hl : l.length ≤ 100) :
    Calls Tryz.prog 67 #[.slice a l.length c, .string K] w (WinPost (litM endM K l) w) := by
  have H := Lib.hid h
  clear h
  have hz2 : ((w.alloc (.cells #[.slice none 0 0] 107)).alloc (.cells #[.int .i64 0] 3)).heap.size = w.heap.size + 2 := by simp
  have P0 : Hid (PutAt w (w.heap.size + 2) w.heap.size (w.heap.size + 1) ((w.alloc (.cells #[.slice none 0 0] 107)).alloc (.cells #[.int .i64 0] 3)) (.slice none 0 0) [] 0) := by
    obtain ⟨hA, hB⟩ := heap_2 w (.cells #[.slice none 0 0] 107) (.cells #[.int .i64 0] 3)
    exact ⟨hA, hB, World.ownsRow_nil _ _ _ _, gr_alloc (gr_alloc (gr_refl w none) _) _, by rw [hz2]; exact Nat.le_refl _⟩
  clear hz2
  go_enter Tryz.func67, Tryz.ntmps67
  go_wp2_with (fail)
  go_loopw [6, 14] (fun on i wr => ∃ (k : Nat) (s : LitS) (v : Value), k ≤ l.length ∧ i = .int .i64 k ∧ on = .bool s.on ∧ s = (l.take k).foldl (litStep K) ⟨[], false, 0⟩ ∧ s.out.length ≤ k ∧ PutAt w (w.heap.size + 2) w.heap.size (w.heap.size + 1) wr v s.out s.fr) (fun _ i _ => l.length - (intOf i).toNat)
  case atStart => exact ⟨0, ⟨[], false, 0⟩, _, Nat.zero_le _, rfl, rfl, rfl, Nat.le_refl _, P0.out⟩
  case round =>
    clear P0
    obtain ⟨k, s, v, hk, rfl, rfl, hs, hsl, hP⟩ := hrel
    obtain ⟨wo, rfl⟩ : ∃ wo : World, wo = wr := ⟨_, rfl⟩
    by_cases hlt : k < l.length
    · obtain ⟨b, off, rfl, d0, d1, d2⟩ := cd_cells (H.out.keep0 hP.gr) k hlt
      have hnx := lit_next K l k hlt
      rw [← hs] at hnx
      obtain ⟨x, hx⟩ : ∃ x, x = l[k] := ⟨_, rfl⟩
      rw [← hx] at d0 d1 d2 hnx
      have HNX := Lib.hid hnx
      have hso := litStep_out K s x
      obtain ⟨xt, xk, xo⟩ := x
      obtain ⟨so, sb, sf⟩ := s
      simp only at d0 d1 d2 hsl hP hso
      have HP := Lib.hid hP
      have hV := heap_alloc_new wo (.cells #[.int .i64 xt, .string xk, .bool xo] 99)
      have g2 := gr_alloc (gr_refl wo none) (.cells #[.int .i64 xt, .string xk, .bool xo] 99)
      obtain ⟨w2, hw2⟩ : ∃ w2, w2 = wo.alloc (.cells #[.int .i64 xt, .string xk, .bool xo] 99) := ⟨_, rfl⟩
      rw [← hw2] at hV g2
      obtain ⟨V, hVe⟩ : ∃ V, V = wo.heap.size := ⟨_, rfl⟩
      rw [← hVe] at hV
      have HP2 := Lib.hid (hP.keep0 g2)
      have hvV : v.ownBlock ≠ some V := fun e => by have := (hP.own.lt V e).2; omega
      have hbzo := hP.bz
      have HV := Lib.hid hV
      have HW2 := Lib.hid hw2
      have HVE := Lib.hid hVe
      have HS := Lib.hid hs
      have HG2 := Lib.hid g2
      clear hx hs hP hnx hV g2 hw2
      go_upto_region 7 with (fail)
      rw [← HW2.out, ← HVE.out]
      have v0 : w2.cell? ⟨V, 0, none⟩ = some (.int .i64 xt) := blkC HV.out 0 rfl
      have v1 : w2.cell? ⟨V, 1, none⟩ = some (.string xk) := blkC HV.out 1 rfl
      have v2 : w2.cell? ⟨V, 2, none⟩ = some (.bool xo) := blkC HV.out 2 rfl
      have hVb : w.heap.size + 2 ≤ V := by omega
      clear d0 d1 d2 hVe
      cases hq : (xk.toList == K.toList) with
      | false =>
        have hq2 : (xk.toList != K.toList) = true := by simp only [bne, hq]; rfl
        have LE : Hid (litStep K ⟨so, sb, sf⟩ ⟨xt, xk, xo⟩ = ⟨so, sb, sf⟩) := by show _ = _; unfold litStep; rw [if_pos (.inl hq)]
        go_wp2_with (fail)
        go_roundw
        case rel => exact ⟨k + 1, ⟨so, sb, sf⟩, v, by omega, by go_num, rfl, by rw [HNX.out, LE.out], by simp only; omega, HP2.out⟩
        case measure => simp [intOf]; omega
      | true =>
        have hq2 : (xk.toList != K.toList) = false := by simp only [bne, hq]; rfl
        by_cases hxs : xo = sb
        · have LE : Hid (litStep K ⟨so, sb, sf⟩ ⟨xt, xk, xo⟩ = ⟨so, sb, sf⟩) := by show _ = _; unfold litStep; rw [if_pos (.inr hxs)]
          have hxe : (xo == sb) = true := by simpa using hxs
          clear hxs
          go_wp2_with (fail)
          go_roundw
          case rel => exact ⟨k + 1, ⟨so, sb, sf⟩, v, by omega, by go_num, rfl, by rw [HNX.out, LE.out], by simp only; omega, HP2.out⟩
          case measure => simp [intOf]; omega
        · have LE : Hid (litStep K ⟨so, sb, sf⟩ ⟨xt, xk, xo⟩ = ⟨if sb then putW so sf xt else so, xo, xt⟩) := by
            show _ = _
            unfold litStep
            rw [if_neg (fun h => h.elim (fun h => by simp only at h; rw [hq] at h; cases h) hxs)]
          have hxe : (xo == sb) = false := by simpa using hxs
          clear hxs
          cases sb with
          | false =>
            have e0 : w2.cell? ⟨w.heap.size + 1, 0, none⟩ = some (.int .i64 sf) := blkC HP2.out.fr 0 rfl
            have f0 : w2.frozen? ⟨w.heap.size + 1, 0, none⟩ = false := blkF HP2.out.fr 0
            go_wp2_with (fail)
            go_region
            go_wp2_with (fail)
            go_roundw
            case rel => exact ⟨k + 1, ⟨so, xo, xt⟩, v, by omega, by go_num, rfl, by rw [HNX.out, LE.out]; rfl, by have := hso; rw [LE.out] at this; simp only at this ⊢; first | omega | (simp at this; omega), HP2.out.setF (by omega) (by omega) (by omega) xt⟩
            case measure => simp [intOf]; omega
          | true =>
            go_wp2_with (fail)
            refine (put_any so v sf xt w.heap.size (w.heap.size + 1) (w.heap.size + 2) w w2 HP2.out (by omega) (by omega) (by omega) (by omega) (by omega)).mono ?_
            rintro e w3 ⟨v3, rfl, hP3, hF3⟩
            have hV3 := (hF3 V (lt_of_block HV.out) (by omega) hvV).trans HV.out
            have HP3 := Lib.hid hP3
            have v0 : w3.cell? ⟨V, 0, none⟩ = some (.int .i64 xt) := blkC hV3 0 rfl
            have v2 : w3.cell? ⟨V, 2, none⟩ = some (.bool xo) := blkC hV3 2 rfl
            have e0 : w3.cell? ⟨w.heap.size + 1, 0, none⟩ = some (.int .i64 sf) := blkC HP3.out.fr 0 rfl
            have f0 : w3.frozen? ⟨w.heap.size + 1, 0, none⟩ = false := blkF HP3.out.fr 0
            clear hP3 hF3 hV3 v1
            go_wp2_with (fail)
            go_region
            go_wp2_with (fail)
            go_roundw
            case rel => exact ⟨k + 1, ⟨putW so sf xt, xo, xt⟩, v3, by omega, by go_num, rfl, by rw [HNX.out, LE.out]; rfl, by have := hso; rw [LE.out] at this; simp only at this ⊢; first | omega | (simp at this; omega), HP3.out.setF (by omega) (by omega) (by omega) xt⟩
            case measure => simp [intOf]; omega
    · obtain rfl : k = l.length := by omega
      rw [List.take_length] at hs
      have HS := Lib.hid hs
      have HP := Lib.hid hP
      clear hs hP
      obtain ⟨so, sb, sf⟩ := s
      simp only at hsl HP
      cases sb with
      | false =>
        have c0 : wo.cell? ⟨w.heap.size, 0, none⟩ = some v := blkC HP.out.out 0 rfl
        go_wp2_with (fail)
        go_ret
        have e : litM endM K l = so := by unfold litM litEnd; rw [← HS.out]; rfl
        rw [e]
        exact ⟨_, rfl, own_base HP.out.own (by omega), HP.out.gr⟩
      | true =>
        go_wp2_with (fail)
        refine (put_any so v sf 5761440 w.heap.size (w.heap.size + 1) (w.heap.size + 2) w wo HP.out (by omega) (by omega) (by omega) (by omega) (by omega)).mono ?_
        rintro e w3 ⟨v3, rfl, hP3, -⟩
        have HP3 := Lib.hid hP3
        have c0 : w3.cell? ⟨w.heap.size, 0, none⟩ = some v3 := blkC HP3.out.out 0 rfl
        clear hP3
        go_wp2_with (fail)
        go_ret
        have e : litM endM K l = putW so sf 5761440 := by unfold litM litEnd; rw [← HS.out]; rfl
        rw [e]
        exact ⟨_, rfl, own_base HP3.out.own (by omega), HP3.out.gr⟩
end Go.Proofs.YtehhmgbgkemidaaGreatDoor
