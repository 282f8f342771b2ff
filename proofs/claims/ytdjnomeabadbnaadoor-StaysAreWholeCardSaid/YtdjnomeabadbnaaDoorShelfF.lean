/- Package shelf: the layout on a day; a range over slices.Backward. -/
import Derived.RangeFuncNested
import Derived.RangeFuncBound
import Derived.RangeFuncCalls
import Derived.RangeFuncLeaves
import Derived.RangeFuncBox
import Derived.Shelf.Abstract
import Derived.Shelf.RegionOpen
import Derived.OwnWalkIn
import Derived.TacticsInMore
import Derived.LoopNIn
import Derived.LoopIn
import Derived.Test.YtdjnomeabadbnaaDoorShelfE
namespace Go.Proofs.YtdjnomeabadbnaaDoor
open Go.RowKit Go.Shelf
attribute [local go_sem] Oper.semAt_some

/-- A version, as its cells say it. -/
structure VV where
  day : Int
  la : Option Addr
  n : Nat
  lc : Nat
def upto {α : Type} (f : Nat → α) (k : Nat) : List α := (List.range k).map f
theorem upto_succ {α : Type} (f : Nat → α) (k : Nat) : upto f (k + 1) = upto f k ++ [f k] := by simp [upto, List.range_succ]
theorem upto_length {α : Type} (f : Nat → α) (k : Nat) : (upto f k).length = k := by simp [upto]
/-- What slices.Backward hands out in its round j: the place and the version. -/
def bwd (vs : List VV) (j : Nat) : Nat × VV := (vs.length - 1 - j, vs.getD (vs.length - 1 - j) ⟨0, none, 0, 0⟩)
def encB (x : Nat × VV) : Array Value := #[.int .i64 (x.1 : Int), .agg #[.int .i64 x.2.day, .slice x.2.la x.2.n x.2.lc]]

/-- The cells of versions, for reading: below block n₀. -/
def VVsAt (n₀ : Nat) (W : World) (a : Option Addr) (vs : List VV) : Prop :=
  ∀ j, j < vs.length → ∃ b off, a = some ⟨b, off, none⟩ ∧ b < n₀ ∧ W.cell? ⟨b, off + j * 2, none⟩ = some (.int .i64 (vs.getD j ⟨0, none, 0, 0⟩).day) ∧ W.cell? ⟨b, off + j * 2 + 1, none⟩ = some (.slice (vs.getD j ⟨0, none, 0, 0⟩).la (vs.getD j ⟨0, none, 0, 0⟩).n (vs.getD j ⟨0, none, 0, 0⟩).lc)
theorem VVsAt.below {n₀ : Nat} {A B : World} (h : Below n₀ A B) {a : Option Addr} {vs : List VV} (g : VVsAt n₀ A a vs) : VVsAt n₀ B a vs := by
  intro j hj
  obtain ⟨b, off, e, hb, h0, h1⟩ := g j hj
  exact ⟨b, off, e, hb, (h.cell (p := ⟨b, off + j * 2, none⟩) hb).trans h0, (h.cell (p := ⟨b, off + j * 2 + 1, none⟩) hb).trans h1⟩
set_option maxRecDepth 100000 in
set_option maxHeartbeats 2000000 in
theorem bwd1_in {α : Type} (f : Nat → α) (encs : α → Array Value) (F : Fence) (n : Nat) (h7 : F.fn 144) (hro : F.round = none) (hn : 1 ≤ n) (l Bs n₀ cap : Nat) (a : Option Addr) (vs : List VV) (hf : ∀ j, j < vs.length → encs (f j) = encB (bwd vs j)) (hl : vs.length ≤ 100000) (J Jx : List α → World → Prop)
    (hY : ∀ pre x W, J pre W → pre.length < vs.length → YieldAt F (n - 1) Tryd.prog l (encs x) W fun e W' =>
      (e = .returned (.bool true) ∧ J (pre ++ [x]) W' ∧ Below n₀ W W') ∨ (e = .returned (.bool false) ∧ Jx (pre ++ [x]) W'))
    (W : World) (hBs : W.cell? ⟨Bs, 0, none⟩ = some (.slice a vs.length cap)) (hBn : Bs < n₀) (hc : VVsAt n₀ W a vs) (h0 : J [] W) :
    CallsIn F n Tryd.prog 144 #[.func (.yield l) #[] #[], .pointer (some ⟨Bs, 0, none⟩)] W fun e W' => (∃ v, e = .returned v) ∧
      ((∃ ys, ys = upto f vs.length ∧ J ys W') ∨ (∃ pre, (∃ k, k ≤ vs.length ∧ pre = upto f k) ∧ Jx pre W')) := by
  refine callsIn_of_wp Tryd.func144 rfl h7 ?_ hro
  simp only [Tryd.ntmps144, List.size_toArray, List.length_cons, List.length_nil, Nat.reduceAdd, Nat.reduceSub, Array.replicate_succ, Array.replicate_zero, List.push_toArray, List.append_toArray, List.nil_append, List.cons_append]
  gi_wp2
  gi_loopw [3] (fun i wr => ∃ k : Nat, k ≤ vs.length ∧ i = .int .i64 ((vs.length : Int) - 1 - k) ∧ J (upto f k) wr ∧ Below n₀ W wr)
    (fun i _ => (intOf i + 1).toNat)
  case atStart => exact ⟨0, Nat.zero_le _, by simp, h0, Below.refl _ _⟩
  case round =>
    obtain ⟨k, hk, rfl, hJs, hnx⟩ := hrel
    by_cases hlt : k < vs.length
    · obtain ⟨m, hm⟩ : ∃ m : Nat, m = vs.length - 1 - k := ⟨_, rfl⟩
      have hmi : ((vs.length : Int) - 1 - k) = (m : Int) := by omega
      obtain ⟨b, off, rfl, hb, q0, q1⟩ := hc m (by omega)
      have hbw : encs (f k) = encB (m, vs.getD m ⟨0, none, 0, 0⟩) := by rw [hf k hlt]; unfold bwd; rw [← hm]
      obtain ⟨v, hv⟩ : ∃ v, v = vs.getD m ⟨0, none, 0, 0⟩ := ⟨_, rfl⟩
      rw [← hv] at q0 q1 hbw
      have d0 := (hnx.cell (p := ⟨b, off + m * 2, none⟩) hb).trans q0
      have d1 := (hnx.cell (p := ⟨b, off + m * 2 + 1, none⟩) hb).trans q1
      have dS := (hnx.cell (p := ⟨Bs, 0, none⟩) hBn).trans hBs
      obtain ⟨fn, tmps, assign, body, hy, hR⟩ := hY _ (f k) wr hJs (by rw [upto_length]; exact hlt)
      have HUP := Lib.hid (upto_succ f k)
      have hml : m < vs.length := by omega
      have HM := Lib.hid hm
      have HMI := Lib.hid hmi
      rw [hmi]
      have HNX := Lib.hid hnx
      rw [hbw] at hy
      unfold encB at hy
      dsimp only at hy
      clear hv hbw q0 q1 hc hm hmi hnx hJs hBs hY hf
      gi_wp2
      refine hR.mono ?_
      rintro e W3 (⟨rfl, hJ3, hk3⟩ | ⟨rfl, hJx3⟩)
      · gi_wp2
        go_roundw
        case rel =>
          refine ⟨k + 1, by omega, ?_, by rw [HUP.out]; exact hJ3, HNX.out.trans hk3⟩
          have := HMI.out
          have e : (m : Int) - 1 = (vs.length : Int) - 1 - ((k + 1 : Nat) : Int) := by omega
          rw [e]
        case measure => simp [intOf]
      · gi_wp2
        refine bodyPost_ret (results_none rfl _ _ _) rfl ?_
        exact ⟨⟨_, rfl⟩, .inr ⟨_, ⟨k + 1, by omega, HUP.out.symm⟩, hJx3⟩⟩
    · obtain rfl : k = vs.length := by omega
      have hmi : ((vs.length : Int) - 1 - (vs.length : Nat)) = -1 := by omega
      rw [hmi]
      gi_wp2
      go_end0
      exact ⟨⟨_, rfl⟩, .inl ⟨_, rfl, hJs⟩⟩
set_option maxHeartbeats 1000000 in
theorem bwd_any (a : Option Addr) (len cap : Nat) (w : World) :
    Calls Tryd.prog 92 #[.slice a len cap] w fun e w' => e = .returned (.func (.func 144) #[] #[.pointer (some ⟨w.heap.size, 0, none⟩)]) ∧ w' = w.alloc (.cells #[.slice a len cap] 53) := by
  go_enter Tryd.func92, Tryd.ntmps92
  go_wp2_with (fail)
  go_ret
  exact ⟨rfl, rfl⟩
theorem bwd_stops {α : Type} (f : Nat → α) (encs : α → Array Value) (F : Fence) (n : Nat) (h7 : F.fn 144) (hro : F.round = none) (hn : 1 ≤ n) (Bs n₀ cap : Nat) (a : Option Addr) (vs : List VV) (hf : ∀ j, j < vs.length → encs (f j) = encB (bwd vs j)) (hl : vs.length ≤ 100000) (w : World)
    (hBn : Bs < n₀) (hBs : Bs < w.heap.size) (hn₀ : n₀ ≤ w.heap.size) (hc : w.cell? ⟨Bs, 0, none⟩ = some (.slice a vs.length cap)) (hI : VVsAt n₀ w a vs) :
    SeqStopsK F n Tryd.prog 144 #[.pointer (some ⟨Bs, 0, none⟩)] encs (Below n₀) (fun ys => ys = upto f vs.length) (fun pre => ∃ k, k ≤ vs.length ∧ pre = upto f k) vs.length w := fun l J Jx W hW _ _ hY h0 => by
  have hc' := (hW.cell (p := ⟨Bs, 0, none⟩) hBs).trans hc
  exact bwd1_in f encs F n h7 hro hn l Bs n₀ cap a vs hf hl J Jx hY W hc' hBn (hI.below (hW.mono hn₀)) h0
theorem vvs_of {base : Nat} {w : World} {a : Option Addr} {vs : List Ver} (h : NestAt (VerC base) w 2 a vs) :
    ∃ vvs : List VV, vvs.length = vs.length ∧ VVsAt w.heap.size w a vvs ∧ ∀ j, j < vs.length → (vvs.getD j ⟨0, none, 0, 0⟩).day = vDay vs j ∧ (vvs.getD j ⟨0, none, 0, 0⟩).n = (vLay vs j).length ∧ CellsAt w (vvs.getD j ⟨0, none, 0, 0⟩).la (strs (vLay vs j)) ∧ ((vvs.getD j ⟨0, none, 0, 0⟩).la = none → (vLay vs j).length = 0 ∧ (vvs.getD j ⟨0, none, 0, 0⟩).lc = 0) := by
  obtain ⟨g, hg⟩ := Classical.axiomOfChoice (r := fun (j : Nat) (v : VV) => j < vs.length → (∃ b off, a = some ⟨b, off, none⟩ ∧ b < w.heap.size ∧ w.cell? ⟨b, off + j * 2, none⟩ = some (.int .i64 v.day) ∧ w.cell? ⟨b, off + j * 2 + 1, none⟩ = some (.slice v.la v.n v.lc)) ∧ v.day = vDay vs j ∧ v.n = (vLay vs j).length ∧ CellsAt w v.la (strs (vLay vs j)) ∧ (v.la = none → (vLay vs j).length = 0 ∧ v.lc = 0)) (fun j => by
    by_cases hj : j < vs.length
    · obtain ⟨b, off, la, lc, rfl, h0, h1, h2, h3⟩ := vers_cells h j hj
      exact ⟨⟨vDay vs j, la, (vLay vs j).length, lc⟩, fun _ => ⟨⟨b, off, rfl, lt_of_cell h0, h0, h1⟩, rfl, rfl, h2, h3⟩⟩
    · exact ⟨⟨0, none, 0, 0⟩, fun h => absurd h hj⟩)
  have hl : ((List.range vs.length).map g).length = vs.length := by simp
  have hget : ∀ j, j < vs.length → ((List.range vs.length).map g).getD j ⟨0, none, 0, 0⟩ = g j := by
    intro j hj
    rw [List.getD_eq_getElem?_getD, List.getElem?_eq_getElem (by rw [hl]; exact hj)]
    simp
  refine ⟨(List.range vs.length).map g, hl, ?_, ?_⟩
  · intro j hj
    rw [hl] at hj
    rw [hget j hj]
    exact (hg j hj).1
  · intro j hj
    rw [hget j hj]
    exact (hg j hj).2
/-- The last of the first k versions that begins no later than a day. -/
def lastLe (vs : List Ver) (D : Int) : Nat → Option Nat
  | 0 => none
  | k + 1 => if vDay vs k ≤ D then some k else lastLe vs D k
def AtRes (vs : List Ver) (D r : Int) (L : List ByteArray) : Prop :=
  match lastLe vs D vs.length with
  | none => r = 8
  | some k => r = 0 ∧ L = vLay vs k
def AtPost (vs : List Ver) (D : Int) (w : World) (e : Ending) (w' : World) : Prop :=
  ∃ v n L r, e = .returned (.tuple #[v, .int .i64 r]) ∧ n ≤ 100000 ∧ w'.ownsRow w.heap.size 9 1 v n (strs L) ∧ (r = 0 → VersOk vs) ∧ (VersOk vs → 0 ≤ D → D ≤ 4000 → AtRes vs D r L) ∧ Below w.heap.size w w'
theorem lastLe_none (vs : List Ver) (D : Int) (n : Nat) (h : ∀ i, i < n → D < vDay vs i) : lastLe vs D n = none := by
  induction n with
  | zero => rfl
  | succ n ih =>
    have := h n (by omega)
    simp only [lastLe]
    rw [if_neg (by omega)]
    exact ih (fun i hi => h i (by omega))
theorem lastLe_some (vs : List Ver) (D : Int) (n m : Nat) (hm : m < n) (h : ∀ i, m < i → i < n → D < vDay vs i) (hd : vDay vs m ≤ D) : lastLe vs D n = some m := by
  induction n with
  | zero => omega
  | succ n ih =>
    simp only [lastLe]
    by_cases hmn : m = n
    · subst hmn; rw [if_pos hd]
    · have := h n (by omega) (by omega)
      rw [if_neg (by omega)]
      exact ih (by omega) (fun i h1 h2 => h i h1 (by omega))
theorem own_ok_row {X Y : World} {row : Option Nat} (hrow : ∀ r, row = some r → ∃ o : Obj, X.heap[r]? = some o ∧ o.isCells = false) {B : Nat} {cs : Array Value} {t : Nat} (h : X.heap[B]? = some (.cells cs t (0, 0))) (hg : X.grownBy Y row) : Y.heap[B]? = some (.cells cs t (0, 0)) := by
  refine (hg.block B (lt_of_block h) (fun e => ?_)).trans h
  obtain ⟨o, ho, hc⟩ := hrow B e.symm
  rw [h] at ho
  cases ho
  cases hc
def vvAt (vvs : List VV) (i : Nat) : VV := vvs.getD i ⟨0, none, 0, 0⟩
set_option maxRecDepth 100000 in
set_option maxHeartbeats 4000000 in
theorem at_in (n : Nat) (hn : 3 ≤ n) (base : Nat) (vs : List Ver) (a : Option Addr) (c : Nat) (D : Int) (w : World) (h : NestAt (VerC base) w 2 a vs) (hl : vs.length ≤ 100000) (hsz : ∀ v ∈ vs, v.lay.length ≤ 100000 ∧ ∀ s ∈ v.lay, s.size ≤ 100000) :
    CallsIn Fence.wide n Tryd.prog 26 #[.slice a vs.length c, .int .i64 D] w (AtPost vs D w) := by
  have h1 : 1 ≤ n := by omega
  obtain ⟨q1, q2, q3⟩ := heap_3 w (.cells #[.int .i64 D] 3) (.cells #[.slice none 0 0] 59) (.cells #[.int .i64 0] 31)
  have hg1 := gr_alloc (gr_alloc (gr_alloc (gr_refl w none) (.cells #[.int .i64 D] 3)) (.cells #[.slice none 0 0] 59)) (.cells #[.int .i64 0] 31)
  obtain ⟨w1, hw1⟩ : ∃ w1, w1 = ((w.alloc (.cells #[.int .i64 D] 3)).alloc (.cells #[.slice none 0 0] 59)).alloc (.cells #[.int .i64 0] 31) := ⟨_, rfl⟩
  have hz1 : w1.heap.size = w.heap.size + 3 := by rw [hw1]; simp
  rw [← hw1] at q1 q2 q3 hg1
  have hN := h.keep0 hg1 (fun x c hx => VerC.keep0 hg1 x c hx)
  have CV := Lib.hid (checkVersions_any base vs a c w1 hN hl hsz)
  have hsz' : ∀ i, (vLay vs i).length ≤ 100000 := by
    intro i
    unfold vLay
    by_cases hi : i < vs.length
    · rw [getD_eq vs i _ hi]; exact (hsz _ (List.getElem_mem hi)).1
    · rw [List.getD_eq_getElem?_getD, List.getElem?_eq_none (by omega)]; exact Nat.zero_le _
  have HW1 := Lib.hid hw1
  have HN := Lib.hid hN
  have Q1 := Lib.hid q1; have Q2 := Lib.hid q2; have Q3 := Lib.hid q3
  have HG1 := Lib.hid hg1
  clear h hsz hw1 hN q1 q2 q3 hg1
  refine callsIn_of_wp_marks Tryd.func26 rfl trivial ?_ rfl
  simp only [Tryd.ntmps26, List.size_toArray, List.length_cons, List.length_nil, Nat.reduceAdd, Nat.reduceSub, Array.replicate_succ, Array.replicate_zero, List.push_toArray, List.append_toArray, List.nil_append, List.cons_append]
  gi_wp2_with (fail)
  rw [← HW1.out]
  refine ⟨trivial, (callsIn_wide.2 CV.out).mono ?_⟩
  rintro e w2 ⟨r, rfl, hr, hg2⟩
  have g2 := gr_trans HG1.out hg2
  have P1 := (hg2.block _ (lt_of_block Q1.out) (by simp)).trans Q1.out
  have P2 := (hg2.block _ (lt_of_block Q2.out) (by simp)).trans Q2.out
  have P3 := (hg2.block _ (lt_of_block Q3.out) (by simp)).trans Q3.out
  obtain ⟨B, hB⟩ : ∃ B, B = w.heap.size := ⟨_, rfl⟩
  rw [← hB] at P1 P2 P3 hz1
  have hz2 := hg2.size
  have HR := Lib.hid hr
  have HN2 := Lib.hid (HN.out.keep0 hg2 (fun x c hx => VerC.keep0 hg2 x c hx))
  rw [← hB]
  clear HW1 HN Q1 Q2 Q3 HG1 hr CV hg2
  have c1 := blkC P1 0 rfl
  have c2 := blkC P2 0 rfl
  have c3 := blkC P3 0 rfl
  have f2 := blkF P2 0
  have f3 := blkF P3 0
  have HP1 := Lib.hid P1; have HP2 := Lib.hid P2; have HP3 := Lib.hid P3
  have HB := Lib.hid hB
  have HG2 : Hid (Below B w w2) := by show Below B w w2; rw [hB]; exact gr_below g2
  clear P1 P2 P3 hB g2
  by_cases hr0 : r = 0
  · subst hr0
    have HVOK : Hid (VersOk vs) := HR.out.1 rfl
    clear HR
    gi_wp2_with (fail)
    refine ⟨trivial, (callsIn_wide.2 (day_any D w2)).mono ?_⟩
    rintro e w3 ⟨rfl, rfl⟩
    by_cases hday : D < 0 ∨ 4000 < D
    · have hb : (!(decide (D < 0) || decide (4000 < D))) = false := by
        rcases hday with h | h <;> simp [h]
      rw [hb]
      have HD := Lib.hid hday
      clear hday hb
      gi_wp2_with (fail)
      have h2 := heap_setCell_same w2 (B + 1) 0 _ 59 (.slice none 0 0) HP2.out
      have h3 := heap_setCell_same (w2.setCell ⟨B + 1, 0, none⟩ (.slice none 0 0)) (B + 1 + 1) 0 _ 31 (.int .i64 1) ((Below.heap_setCell _ _ _ _ (by simp)).trans HP3.out)
      have h2' := (Below.heap_setCell (w2.setCell ⟨B + 1, 0, none⟩ (.slice none 0 0)) ⟨B + 1 + 1, 0, none⟩ (.int .i64 1) (B + 1) (by simp)).trans h2
      refine ⟨_, by simp [results, Tryd.f26, go_sem, blkC h2' 0 rfl, blkC h3 0 rfl]; rfl, ?_⟩
      refine ⟨_, 0, [], _, rfl, by omega, World.ownsRow_nil _ _ _ _, fun e => absurd e (by decide), fun _ a b => by rcases HD.out with h | h <;> omega, ?_⟩
      rw [← HB.out]
      exact ((HG2.out.setCell (p := ⟨B + 1, 0, none⟩) (by simp) _).setCell (p := ⟨B + 1 + 1, 0, none⟩) (by simp; omega) _)
    · have hb : (!(decide (D < 0) || decide (4000 < D))) = true := by
        simp; omega
      rw [hb]
      have hd0 : 0 ≤ D := by omega
      have hd4 : D ≤ 4000 := by omega
      clear hday hb
      gi_wp2_with (fail)
      refine ⟨trivial, (callsIn_wide.2 (bwd_any a vs.length c w2)).mono ?_⟩
      rintro e w3 ⟨rfl, hw3⟩
      obtain ⟨vvs, hvl, hva, hvv⟩ := vvs_of HN2.out
      have hS := heap_alloc_new w2 (.cells #[.slice a vs.length c] 53)
      have gS := gr_alloc (gr_refl w2 none) (.cells #[.slice a vs.length c] 53)
      rw [← hw3] at hS gS
      have hzS : w3.heap.size = w2.heap.size + 1 := by rw [hw3]; simp
      clear hw3
      have hva3 : VVsAt w3.heap.size w3 a vvs := by
        intro j hj
        obtain ⟨b, off, e, hb, h0, h1⟩ := hva j hj
        exact ⟨b, off, e, by omega, (gr_cell gS hb).trans h0, (gr_cell gS hb).trans h1⟩
      have hvv3 : ∀ j, (vvAt vvs j).day = vDay vs j ∧ (vvAt vvs j).n = (vLay vs j).length ∧ CellsAt w3 (vvAt vvs j).la (strs (vLay vs j)) ∧ ((vvAt vvs j).la = none → (vLay vs j).length = 0 ∧ (vvAt vvs j).lc = 0) := by
        intro j
        by_cases hj : j < vs.length
        · obtain ⟨a1, a2, a3, a4⟩ := hvv j hj
          exact ⟨a1, a2, a3.keep0 gS, a4⟩
        · have e1 : vvs.getD j ⟨0, none, 0, 0⟩ = ⟨0, none, 0, 0⟩ := by rw [List.getD_eq_getElem?_getD, List.getElem?_eq_none (by omega)]; rfl
          have e2 : vs.getD j ⟨0, []⟩ = ⟨0, []⟩ := by rw [List.getD_eq_getElem?_getD, List.getElem?_eq_none (by omega)]; rfl
          unfold vDay vLay vvAt
          rw [e1, e2]
          exact ⟨rfl, rfl, CellsAt.nil _ _, fun _ => ⟨rfl, rfl⟩⟩
      have S1 := (gS.block _ (lt_of_block HP1.out) (by simp)).trans HP1.out
      have S2 := (gS.block _ (lt_of_block HP2.out) (by simp)).trans HP2.out
      have S3 := (gS.block _ (lt_of_block HP3.out) (by simp)).trans HP3.out
      have HG3 : Hid (Below B w w3) := HG2.out.grown gS (by omega) (fun k e => by cases e)
      obtain ⟨Bs, hBs⟩ : ∃ Bs, Bs = w2.heap.size := ⟨_, rfl⟩
      rw [← hBs] at hS
      rw [← hBs]
      have hn1 : 1 ≤ n - 1 := by omega
      have hBw : B ≤ w.heap.size := by rw [HB.out]; exact Nat.le_refl _
      have hBl : Bs < w3.heap.size := by omega
      have hB3 : B + 3 ≤ w3.heap.size := by omega
      clear hva hvv
      have hvn : (vvs.length : Nat) = vs.length := hvl
      have BS := Lib.hid (bwd_stops (fun j => vvs.length - 1 - j) (fun (i : Nat) => #[.int .i64 (i : Int), .agg #[.int .i64 (vvAt vvs i).day, .slice (vvAt vvs i).la (vvAt vvs i).n (vvAt vvs i).lc]]) Fence.wide (n - 1) trivial rfl hn1 Bs w3.heap.size c a vvs (fun j _ => rfl) (by omega) w3 hBl hBl (Nat.le_refl _) (by rw [hvl]; exact blkC hS 0 rfl) hva3)
      have HVL := Lib.hid hvl
      have HVV := Lib.hid hvv3
      clear hBs hzS hvl hvn hvv3 hz1 hz2 hva3 gS hS
      gi_wp2_with (fail)
      refine wpIn_rangeFunc_ownH rfl h1 (gf := 144) (lb := #[.pointer (some ⟨Bs, 0, none⟩)]) rfl trivial (enters_of Tryd.func144 (by kernel_rfl) rfl)
        BS.out belowK_t (belowK_b (Nat.le_refl _)) (Below.refl _ _) (fun _ => rfl)
        (fun pre W => (∀ i ∈ pre, D < vDay vs i) ∧ Below w3.heap.size w3 W)
        (fun q pre W => (q = .ret ∧ ∃ ini last, pre = ini ++ [last] ∧ (∀ i ∈ ini, D < vDay vs i) ∧ vDay vs last ≤ D ∧ W.heap[B + 1 + 1]? = some (.cells #[.int .i64 0] 31 (0, 0)) ∧ ∃ v, W.heap[B + 1]? = some (.cells #[v] 59 (0, 0)) ∧ W.ownsRow B 9 1 v (vLay vs last).length (strs (vLay vs last))) ∧ Below B w W)
        (OwnFrom.and (ownFrom_pure _ _) (ownFrom_below (Nat.le_refl _) (Nat.le_refl _)))
        (fun q => OwnFrom.and (Own.from (fun s X Y row hs hg hr => by
          obtain ⟨hq, ini, last, e1, e2, e3, e4, v, e5, e6⟩ := hs
          refine ⟨hq, ini, last, e1, e2, e3, own_ok_row hr e4 hg, v, own_ok_row hr e5 hg, ?_⟩
          refine e6.kept hg ?_
          rcases e6.2 with ⟨rfl, _⟩ | ⟨g, cap, cur, rfl, _, hgb, _⟩
          · exact .inl rfl
          · refine .inr fun e' => ?_
            obtain ⟨o, ho, hc⟩ := hr g (by simpa [Value.ownBlock] using e'.symm)
            rw [hgb] at ho
            cases ho
            cases hc) _) (ownFrom_below hBw (by omega)))
        ⟨by simp, Below.refl _ _⟩
        (fun i a' W => ∃ Bx, w3.heap.size ≤ Bx ∧ W.heap[Bx]? = some (.cells #[.int .i64 (vvAt vvs i).day, .slice (vvAt vvs i).la (vvAt vvs i).n (vvAt vvs i).lc] 151 (0, 0)) ∧ a' = { tmps := #[.slice a vs.length c, .int .i64 D, undef, .pointer (some ⟨B, 0, none⟩), .pointer (some ⟨B + 1, 0, none⟩), .pointer (some ⟨B + 1 + 1, 0, none⟩), .int .i64 0, undef, .pointer (some ⟨Bx, 0, none⟩), .slice a vs.length c, .int .i64 0, .int .i64 0, .bool false, undef, .int .i64 D, .bool true, .bool false, .slice a vs.length c, .func (.func 144) #[] #[.pointer (some ⟨Bs, 0, none⟩)], .int .i64 (i : Int), .agg #[.int .i64 (vvAt vvs i).day, .slice (vvAt vvs i).la (vvAt vvs i).n (vvAt vvs i).lc], undef, undef, undef, undef, undef, undef, undef], defers := [] })
        (fun i a' _ X Y row hs hg hr => by
          obtain ⟨Bx, e1, e2, e3⟩ := hs
          exact ⟨Bx, e1, own_ok_row (fun r e => (hr r e).2) e2 hg, e3⟩)
        ?assign ?body ?done ?stop
      case assign =>
        rintro l pre x W K ⟨hp, hB⟩ hK
        have hp' := Lib.hid hp
        clear hp
        gi_wp2
        exact hK _ _ ((KeepsOthers.alloc _ _).from _) ((Below.refl _ W).alloc hB.size _) ⟨hp'.out, hB.alloc hB.size _⟩ ⟨W.heap.size, hB.size, heap_alloc_new W _, rfl⟩
      case body =>
        rintro l pre x a' W hlw ⟨rec, hrec⟩ ⟨hp, hB⟩ ⟨Bx, hBx, bX, rfl⟩ hlt
        have hp' := Lib.hid hp
        obtain ⟨vd, vn, vcl, vnil⟩ := HVV.out x
        obtain ⟨v, hv⟩ : ∃ v, v = vvAt vvs x := ⟨_, rfl⟩
        rw [← hv] at vd vn vcl vnil bX
        rw [← hv]
        obtain ⟨d, la, m, lc⟩ := v
        simp only at vd vn vcl vnil bX
        subst vd vn
        have T1 := (hB.block B (by omega)).trans S1
        have T2 := (hB.block (B + 1) (by omega)).trans S2
        have T3 := (hB.block (B + 2) (by omega)).trans S3
        have t1 := blkC T1 0 rfl
        have t2 := blkC T2 0 rfl
        have t3 := blkC T3 0 rfl
        have x0 := blkC bX 0 rfl
        have x1 := blkC bX 1 rfl
        have g2 := blkF T2 0
        have g3 := blkF T3 0
        have CL := Lib.hid (vcl.keep0 (gr_of_below hB))
        have HT2 := Lib.hid T2
        have HT3 := Lib.hid T3
        have HNIL := Lib.hid vnil
        have hBW := hB.size
        have HBB := Lib.hid hB
        have hn2 : 1 ≤ n - 1 - 1 := by omega
        have hx5 : (vLay vs x).length ≤ 137438953472 := by have := hsz' x; omega
        clear hp hv vcl vnil T1 T2 T3 bX hB hrec
        by_cases hd : vDay vs x ≤ D
        · have HDD := Lib.hid hd
          gi_wp2
          refine ⟨trivial, (CallsIn.inRound l (callsIn_wide.2 (cloneStr_any la (vLay vs x).length lc (strs (vLay vs x)) W (by simp [strs]) CL.out HNIL.out (strs_one _) hx5))).mono ?_⟩
          rintro e W2 ⟨v, rfl, ho, gW⟩
          obtain ⟨va, vc, rfl, _, _, _, _⟩ := own_shape ho
          have HO := Lib.hid ho
          have U2 := (gW.block _ (lt_of_block HT2.out) (by simp)).trans HT2.out
          have U3 := (gW.block _ (lt_of_block HT3.out) (by simp)).trans HT3.out
          have u2 := blkC U2 0 rfl
          have u3 := blkC U3 0 rfl
          have ff2 := blkF U2 0
          have ff3 := blkF U3 0
          have hzW := gW.size
          have HU2 := Lib.hid U2
          have HU3 := Lib.hid U3
          clear ho U2 U3 t1 t2 t3 x0 x1 g2 g3
          gi_wp2
          have V2 := heap_setCell_same W2 (B + 1) 0 _ 59 (.slice va (vLay vs x).length vc) HU2.out
          have V2' := (Below.heap_setCell (W2.setCell ⟨B + 1, 0, none⟩ (.slice va (vLay vs x).length vc)) ⟨B + 1 + 1, 0, none⟩ (.int .i64 0) (B + 1) (by simp)).trans V2
          have V3 := heap_setCell_same (W2.setCell ⟨B + 1, 0, none⟩ (.slice va (vLay vs x).length vc)) (B + 1 + 1) 0 _ 31 (.int .i64 0) ((Below.heap_setCell _ _ _ _ (by simp)).trans HU3.out)
          have W1o := own_keepS HO.out (gr_set (q := ⟨B + 1, 0, none⟩) (gr_refl W2 (some (B + 1))) rfl (.slice va (vLay vs x).length vc)) (by omega)
          have W2o := own_keepS W1o (gr_set (q := ⟨B + 1 + 1, 0, none⟩) (gr_refl _ (some (B + 1 + 1))) rfl (.int .i64 0)) (by omega)
          refine ⟨(((KeepsOthers.of_grownBy gW (fun j o e => by cases e)).trans (KeepsOthers.setCell _ _ _)).trans (KeepsOthers.setCell _ _ _)).from _, ⟨rfl, pre, x, rfl, hp'.out, HDD.out, V3, _, V2', own_base W2o (by omega)⟩, ?_⟩
          exact ((((HG3.out.trans (HBB.out.mono (by omega))).grown gW (by omega) (fun k e => by cases e)).setCell (p := ⟨B + 1, 0, none⟩) (by simp) _).setCell (p := ⟨B + 1 + 1, 0, none⟩) (by simp; omega) _)
        · gi_wp2
          refine ⟨KeepsFrom.refl _ _, Below.refl _ _, ⟨fun i hi => ?_, HBB.out⟩⟩
          rcases List.mem_append.1 hi with h | h
          · exact hp'.out i h
          · simp at h; subst h; omega
      case done =>
        rintro Dd ys W hDd hys ⟨hp, hB⟩ hK
        have HYS := Lib.hid hys
        have HP := Lib.hid hp
        have T2 := (hB.block (B + 1) (by omega)).trans S2
        have T3 := (hB.block (B + 2) (by omega)).trans S3
        have t2 := blkC T2 0 rfl
        have t3 := blkC T3 0 rfl
        have g2 := blkF T2 0
        have g3 := blkF T3 0
        have HT2 := Lib.hid T2
        have HT3 := Lib.hid T3
        have HBB := Lib.hid hB
        have hBW := hB.size
        have HK := Lib.hid hK
        clear hys hp T2 T3 hB hK
        gi_wp2
        have V2 := heap_setCell_same W (B + 1) 0 _ 59 (.slice none 0 0) HT2.out
        have V2' := (Below.heap_setCell (W.setCell ⟨B + 1, 0, none⟩ (.slice none 0 0)) ⟨B + 1 + 1, 0, none⟩ (.int .i64 8) (B + 1) (by simp)).trans V2
        have V3 := heap_setCell_same (W.setCell ⟨B + 1, 0, none⟩ (.slice none 0 0)) (B + 1 + 1) 0 _ 31 (.int .i64 8) ((Below.heap_setCell _ _ _ _ (by simp)).trans HT3.out)
        have hK' := ((KeepsOthers.setCell W ⟨B + 1, 0, none⟩ (.slice none 0 0)).trans (KeepsOthers.setCell _ ⟨B + 1 + 1, 0, none⟩ (.int .i64 8))).same Dd _ HK.out rfl
        refine ⟨by simp, .inl ⟨_, _, rfl, run_takeDeferred hK', ?_⟩⟩
        have c2 := cell_kept (blkC V2' 0 rfl) (grownBy_putObj' _ Dd (.deferred none)) (fun r e => by cases e; exact ⟨_, hK', rfl⟩)
        have c3 := cell_kept (blkC V3 0 rfl) (grownBy_putObj' _ Dd (.deferred none)) (fun r e => by cases e; exact ⟨_, hK', rfl⟩)
        refine ⟨_, by simp [results, Tryd.f26, go_sem, c2, c3]; rfl, ?_⟩
        refine ⟨_, 0, [], _, rfl, by omega, World.ownsRow_nil _ _ _ _, fun e => absurd e (by decide), fun _ _ _ => ?_, ?_⟩
        · unfold AtRes
          rw [lastLe_none vs D vs.length (fun i hi => HP.out i (by
            rw [HYS.out]
            simp only [upto, List.mem_map, List.mem_range]
            exact ⟨vvs.length - 1 - i, by have := HVL.out; omega, by have := HVL.out; omega⟩))]
        · rw [← HB.out]
          have hb1 : Below B w W := HG3.out.trans (HBB.out.mono (by omega))
          have hb2 := ((hb1.setCell (p := ⟨B + 1, 0, none⟩) (by simp) (.slice none 0 0)).setCell (p := ⟨B + 1 + 1, 0, none⟩) (by simp; omega) (.int .i64 8))
          exact hb2.grown (grownBy_putObj' _ Dd (.deferred none)) (by simp; omega) (fun k e => by cases e; omega)
      case stop =>
        rintro Dd q pre W hDd ⟨k, hk, hpre⟩ ⟨⟨rfl, ini, last, e1, e2, e3, V3, v, V2, ho⟩, hB⟩ hK
        have HE := Lib.hid hpre
        have HE1 := Lib.hid e1
        have HE2 := Lib.hid e2
        clear hpre e1 e2
        gi_wp2
        refine ⟨by simp, .inl ⟨_, _, rfl, run_takeDeferred hK, ?_⟩⟩
        have c2 := cell_kept (blkC V2 0 rfl) (grownBy_putObj' _ Dd (.deferred none)) (fun r e => by cases e; exact ⟨_, hK, rfl⟩)
        have c3 := cell_kept (blkC V3 0 rfl) (grownBy_putObj' _ Dd (.deferred none)) (fun r e => by cases e; exact ⟨_, hK, rfl⟩)
        refine ⟨_, by simp [results, Tryd.f26, go_sem, c2, c3]; rfl, ?_⟩
        obtain ⟨k', rfl⟩ : ∃ k', k = k' + 1 := by
          cases k with
          | zero => have h1 := HE.out; have h2 := HE1.out; rw [h1] at h2; simp [upto] at h2
          | succ k' => exact ⟨k', rfl⟩
        have hek : upto (fun j => vvs.length - 1 - j) k' ++ [vvs.length - 1 - k'] = ini ++ [last] := by rw [← HE1.out, HE.out, upto_succ]
        obtain ⟨hini, hlast⟩ := List.append_inj' hek rfl
        have hlast' : vvs.length - 1 - k' = last := by simpa using hlast
        have hvl := HVL.out
        have hln := hsz' last
        refine ⟨_, _, _, _, rfl, ?_, by rw [← HB.out]; exact ownsRow_putObj ho _ hK rfl, fun _ => HVOK.out, fun _ _ _ => ?_, ?_⟩
        · exact hln
        · unfold AtRes
          rw [lastLe_some vs D vs.length last (by omega) (fun i h1 h2 => HE2.out i (by
            rw [← hini]
            simp only [upto, List.mem_map, List.mem_range]
            exact ⟨vvs.length - 1 - i, by omega, by omega⟩)) e3]
          exact ⟨rfl, rfl⟩
        · rw [← HB.out]
          exact hB.grown (grownBy_putObj' _ Dd (.deferred none)) (by have := hB.size; omega) (fun k e => by cases e; omega)
  · have e1 : (r != 0) = true := by simpa using hr0
    have e2 : (r == 0) = false := by simpa using hr0
    have HR0 := Lib.hid hr0
    clear hr0
    gi_wp2_with (fail)
    have h2 := heap_setCell_same w2 (B + 1) 0 _ 59 (.slice none 0 0) HP2.out
    have h3 := heap_setCell_same (w2.setCell ⟨B + 1, 0, none⟩ (.slice none 0 0)) (B + 1 + 1) 0 _ 31 (.int .i64 r) ((Below.heap_setCell _ _ _ _ (by simp)).trans HP3.out)
    have h2' := (Below.heap_setCell (w2.setCell ⟨B + 1, 0, none⟩ (.slice none 0 0)) ⟨B + 1 + 1, 0, none⟩ (.int .i64 r) (B + 1) (by simp)).trans h2
    refine ⟨_, by simp [results, Tryd.f26, go_sem, blkC h2' 0 rfl, blkC h3 0 rfl]; rfl, ?_⟩
    refine ⟨_, 0, [], _, rfl, by omega, World.ownsRow_nil _ _ _ _, fun e => absurd e HR0.out, fun h _ _ => absurd (HR.out.2 h) HR0.out, ?_⟩
    rw [← HB.out]
    exact ((HG2.out.setCell (p := ⟨B + 1, 0, none⟩) (by simp) _).setCell (p := ⟨B + 1 + 1, 0, none⟩) (by simp; omega) _)
theorem at_any (base : Nat) (vs : List Ver) (a : Option Addr) (c : Nat) (D : Int) (w : World) (h : NestAt (VerC base) w 2 a vs) (hl : vs.length ≤ 100000) (hsz : ∀ v ∈ vs, v.lay.length ≤ 100000 ∧ ∀ s ∈ v.lay, s.size ≤ 100000) :
    Calls Tryd.prog 26 #[.slice a vs.length c, .int .i64 D] w (AtPost vs D w) := callsIn_wide.1 (at_in 3 (Nat.le_refl _) base vs a c D w h hl hsz)
end Go.Proofs.YtdjnomeabadbnaaDoor
