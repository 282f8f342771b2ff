/- slices.Chunk at rows of strings whose length is a multiple: a range over it. -/
import Derived.Test.YthikknnadmebgaaGreatDoorPkSAt
import Derived.Test.YthikknnadmebgaaGreatDoorPkSBn
import Derived.Sort.CutIn
namespace Go.Proofs.YthikknnadmebgaaGreatDoor
open Go.RowKit Go.Shelf
attribute [local go_sem] Oper.semAt_some

theorem BldFr.trans {b : Nat} {A B C : World} (h : BldFr b A B) (k : BldFr b B C) : BldFr b A C := fun q cs t hq hb ht => k q cs t (h q cs t hq hb ht) hb ht
theorem BldFr.refl (b : Nat) (A : World) : BldFr b A A := fun _ _ _ hq _ _ => hq
theorem BldFr.gr {b : Nat} {A B : World} (g : A.grownBy B none) : BldFr b A B := fun q cs t hq _ _ => (g.block q (lt_of_block hq) (by simp)).trans hq
theorem bldFr_put {n0 b : Nat} (W : World) (l : Nat) (o o' : Obj) (_ : n0 ≤ l) (h : W.heap[l]? = some o) (hc : o.isCells = false) (_ : o.isWalk = false) : BldFr b W (W.putObj l o') := fun q cs t hq _ _ => by
  have hne : q ≠ l := fun e => by subst e; rw [h] at hq; cases hq; cases hc
  exact ((grownBy_putObj' W l o').block q (lt_of_block hq) (by simpa using hne)).trans hq
/-- What slices.Chunk hands out in its round j. -/
def encCh (ab off C : Nat) (j : Nat) : Array Value := #[.slice (some ⟨ab, off + j * C, none⟩) C C]
set_option maxRecDepth 100000 in
set_option maxHeartbeats 2000000 in
theorem chunk1_in {α : Type} (f : Nat → α) (encs : α → Array Value) (F : Fence) (n : Nat) (h7 : F.fn 119) (hro : F.round = none) (hn : 1 ≤ n) (l Bs Bn b cap R C ab off : Nat) (hC : 1 ≤ C) (hl : R * C ≤ 100000) (hcap : R * C ≤ cap) (hf : ∀ j, j < R → encs (f j) = encCh ab off C j) (J Jx : List α → World → Prop)
    (hJ : ∀ s W W', J s W → W.grownBy W' none → J s W')
    (hY : ∀ pre x W, J pre W → pre.length < R → YieldAt F (n - 1) Tryz.prog l (encs x) W fun e W' =>
      (e = .returned (.bool true) ∧ J (pre ++ [x]) W' ∧ BldFr b W W') ∨ (e = .returned (.bool false) ∧ Jx (pre ++ [x]) W'))
    (W : World) (hBs : W.heap[Bs]? = some (.cells #[.slice (some ⟨ab, off, none⟩) (R * C) cap] 57 (0, 0))) (hBn : W.heap[Bn]? = some (.cells #[.int .i64 C] 3 (0, 0))) (hb1 : Bs ≠ b) (hb2 : Bn ≠ b) (h0 : J [] W) :
    CallsIn F n Tryz.prog 119 #[.func (.yield l) #[] #[], .pointer (some ⟨Bs, 0, none⟩), .pointer (some ⟨Bn, 0, none⟩)] W fun e W' => (∃ v, e = .returned v) ∧
      ((∃ ys, ys = upto f R ∧ J ys W') ∨ (∃ pre, (∃ k, k ≤ R ∧ pre = upto f k) ∧ Jx pre W')) := by
  obtain ⟨N, hN⟩ : ∃ N, N = R * C := ⟨_, rfl⟩
  rw [← hN] at hBs hl hcap
  have HS := Lib.hid hBs
  have HN := Lib.hid hBn
  have HJ := Lib.hid hJ
  have HY := Lib.hid hY
  have HF := Lib.hid hf
  have HNE := Lib.hid hN
  have H0 := Lib.hid h0
  clear hBs hBn hJ hY hN h0 hf
  refine callsIn_of_wp Tryz.func119 rfl h7 ?_ hro
  simp only [Tryz.ntmps119, List.size_toArray, List.length_cons, List.length_nil, Nat.reduceAdd, Nat.reduceSub, Array.replicate_succ, Array.replicate_zero, List.push_toArray, List.append_toArray, List.nil_append, List.cons_append]
  gi_wp2
  gi_loopw [4] (fun i wr => ∃ k P : Nat, k ≤ R ∧ P = k * C ∧ i = .int .i64 (P : Int) ∧ J (upto f k) wr ∧ BldFr b W wr) (fun i _ => N - (intOf i).toNat)
  case atStart => exact ⟨0, 0, Nat.zero_le _, (Nat.zero_mul C).symm, by go_num, H0.out, BldFr.refl _ _⟩
  case round =>
    clear H0
    obtain ⟨k, P, hk, hP, rfl, hJs, hfr⟩ := hrel
    obtain ⟨wo, rfl⟩ : ∃ wo : World, wo = wr := ⟨_, rfl⟩
    have hS := hfr Bs _ _ HS.out hb1 (by decide)
    have hB := hfr Bn _ _ HN.out hb2 (by decide)
    have s0 : wo.cell? ⟨Bs, 0, none⟩ = some (.slice (some ⟨ab, off, none⟩) N cap) := blkC hS 0 rfl
    have n0 : wo.cell? ⟨Bn, 0, none⟩ = some (.int .i64 C) := blkC hB 0 rfl
    by_cases hlt : k < R
    · have hPC : P + C ≤ N := by
        rw [HNE.out, hP]
        have h1 : (k + 1) * C ≤ R * C := Nat.mul_le_mul_right C hlt
        rw [Nat.succ_mul] at h1
        exact h1
      have dl : decide ((P : Int) < (N : Int)) = true := decide_eq_true (by omega)
      have hPN : P < N := by omega
      have HP := Lib.hid hP
      have HJS := Lib.hid hJs
      have HFR := Lib.hid hfr
      have HB := Lib.hid hB
      clear hP hJs hfr hS hB
      have hmin : min (C : Int) ((N - P : Nat) : Int) = (C : Int) := by omega
      have hcp : ¬ cap = P := by omega
      have h1 : P ≤ N := by omega
      have h2 : P + C ≤ cap := by omega
      obtain ⟨fn, tmps, assign, body, hy, hR⟩ := HY.out _ (f k) wo.drew (HJ.out _ _ _ HJS.out (gr_drew (gr_refl wo none))) (by rw [upto_length]; exact hlt)
      have HUP := Lib.hid (upto_succ f k)
      rw [HF.out k hlt] at hy
      unfold encCh at hy
      rw [← HP.out] at hy
      have s1 : wo.drew.cell? ⟨Bs, 0, none⟩ = some (.slice (some ⟨ab, off, none⟩) N cap) := s0
      have HR := Lib.hid hR
      clear hR
      have hwp : IntKind.i64.wrap ((P : Int) + (C : Int)) = (P : Int) + (C : Int) := IntWalk.i64_in _ (by omega)
      gi_wp2
      gi_cut [5] from 6 (fun s wx => s = .int .i64 (C : Int) ∧ wx = wo.drew)
      case first =>
        gi_region
        all_goals (try gi_wp2)
        all_goals go_meet
        all_goals exact ⟨rfl, rfl⟩
      case rest =>
      obtain ⟨rfl, rfl⟩ := hcut
      gi_wp2
      refine HR.out.mono ?_
      rintro e W3 (⟨rfl, hJ3, hk3⟩ | ⟨rfl, hJx3⟩)
      · have n3 : W3.cell? ⟨Bn, 0, none⟩ = some (.int .i64 C) := blkC (hk3 Bn _ _ (show wo.drew.heap[Bn]? = _ from HB.out) hb2 (by decide)) 0 rfl
        clear n0 s0 s1
        have hwq : IntKind.i64.wrap ((P : Int) + (C : Int)) = (P : Int) + (C : Int) := hwp
        gi_wp2
        go_roundw
        case rel => exact ⟨k + 1, P + C, by omega, by rw [HP.out, Nat.succ_mul], by go_num, by rw [HUP.out]; exact hJ3, HFR.out.trans ((BldFr.gr (gr_drew (gr_refl wo none))).trans hk3)⟩
        case measure => simp [intOf]; omega
      · gi_wp2
        refine bodyPost_ret (results_none rfl _ _ _) rfl ?_
        exact ⟨⟨_, rfl⟩, .inr ⟨_, ⟨k + 1, by omega, HUP.out.symm⟩, hJx3⟩⟩
    · obtain rfl : k = R := by omega
      have dl : decide ((P : Int) < (N : Int)) = false := decide_eq_false (by rw [hP, HNE.out]; omega)
      have hPN : ¬ P < N := by rw [hP, HNE.out]; omega
      have HP := Lib.hid hP
      clear hP
      gi_wp2
      go_end0
      exact ⟨⟨_, rfl⟩, .inl ⟨_, rfl, hJs⟩⟩
set_option maxHeartbeats 1000000 in
theorem chunk_any (a : Option Addr) (len cap C : Nat) (hC : 1 ≤ C) (w : World) :
    Calls Tryz.prog 81 #[.slice a len cap, .int .i64 C] w fun e w' => e = .returned (.func (.func 119) #[] #[.pointer (some ⟨w.heap.size, 0, none⟩), .pointer (some ⟨w.heap.size + 1, 0, none⟩)]) ∧ w' = (w.alloc (.cells #[.slice a len cap] 57)).alloc (.cells #[.int .i64 C] 3) := by
  have dl : decide ((C : Int) < 1) = false := decide_eq_false (by omega)
  have dl2 : ¬ C < 1 := by omega
  go_enter Tryz.func81, Tryz.ntmps81
  go_wp2_with (fail)
  go_ret
  exact ⟨rfl, rfl⟩
theorem chunk_stops {α : Type} (f : Nat → α) (encs : α → Array Value) (F : Fence) (n : Nat) (h7 : F.fn 119) (hro : F.round = none) (hn : 1 ≤ n) (Bs Bn b cap R C ab off : Nat) (hC : 1 ≤ C) (hl : R * C ≤ 100000) (hcap : R * C ≤ cap) (hf : ∀ j, j < R → encs (f j) = encCh ab off C j) (w : World)
    (hBs : w.heap[Bs]? = some (.cells #[.slice (some ⟨ab, off, none⟩) (R * C) cap] 57 (0, 0))) (hBn : w.heap[Bn]? = some (.cells #[.int .i64 C] 3 (0, 0))) (hb1 : Bs ≠ b) (hb2 : Bn ≠ b) :
    SeqStopsK F n Tryz.prog 119 #[.pointer (some ⟨Bs, 0, none⟩), .pointer (some ⟨Bn, 0, none⟩)] encs (BldFr b) (fun ys => ys = upto f R) (fun pre => ∃ k, k ≤ R ∧ pre = upto f k) R w := fun l J Jx W hW hJ _ hY h0 => by
  exact chunk1_in f encs F n h7 hro hn l Bs Bn b cap R C ab off hC hl hcap hf J Jx (fun s X Y hs g => hJ s X Y none hs g (fun r e => by cases e)) hY W ((hW.block Bs (lt_of_block hBs)).trans hBs) ((hW.block Bn (lt_of_block hBn)).trans hBn) hb1 hb2 h0
end Go.Proofs.YthikknnadmebgaaGreatDoor

/-! A strings.Builder in the body of a range over a function. -/
namespace Go.Proofs.YthikknnadmebgaaGreatDoor
open Go.RowKit

theorem ownF_keepR {w w1 : World} {row : Option Nat} {base e size n : Nat} {v : Value} {xs : List Value} (h : w.ownsRowF base e size v n xs) (g : w.grownBy w1 row) (hrow : ∀ r, row = some r → ∃ o : Obj, w.heap[r]? = some o ∧ o.isCells = false) : w1.ownsRowF base e size v n xs := by
  refine ⟨h.1, ?_⟩
  rcases h.2 with h2 | ⟨b, cap, cur, fz, hv, hb, hg, r⟩
  · exact .inl h2
  · refine .inr ⟨b, cap, cur, fz, hv, hb, (g.block b (lt_heapB hg) (fun e => ?_)).trans hg, r⟩
    obtain ⟨o, ho, hc⟩ := hrow b e.symm
    rw [hg] at ho
    cases ho
    cases hc
theorem Bld.keepR {w0 w w1 : World} {b : Nat} {l : List UInt8} {row : Option Nat} (h : Bld w0 b l w) (g : w.grownBy w1 row) (hrow : ∀ r, row = some r → w0.heap.size ≤ r ∧ ∃ o : Obj, w.heap[r]? = some o ∧ o.isCells = false) : Bld w0 b l w1 := by
  have key : ∀ p, Lib.BuilderAtF 104 5 w0.heap.size b p (Lib.byteCells l) w → Lib.BuilderAtF 104 5 w0.heap.size b p (Lib.byteCells l) w1 := by
    rintro p ⟨hB, v, hb, ho, hn⟩
    refine ⟨hB, v, (g.block b (lt_heapB hb) (fun e => ?_)).trans hb, ownF_keepR ho g (fun r e => (hrow r e).2), hn⟩
    obtain ⟨_, o, hoo, hc⟩ := hrow b e.symm
    rw [hb] at hoo
    cases hoo
    cases hc
  refine ⟨h.is.elim (fun x => .inl (key _ x)) (fun x => .inr (key _ x)), ⟨g.os.trans h.gr.os, g.tape.trans h.gr.tape, g.output.trans h.gr.output, Nat.le_trans h.gr.size g.size, fun k hk _ => ?_⟩⟩
  refine (g.block k (Nat.lt_of_lt_of_le hk h.gr.size) (fun e => ?_)).trans (h.gr.block k hk (by simp))
  have := (hrow k e.symm).1
  omega
theorem bld_own {β : Type} (w0 : World) (b B : Nat) (f : β → List UInt8) (hB : w0.heap.size ≤ B) : OwnFrom B (fun s W => Bld w0 b (f s) W) := fun _ _ _ _ hs hg hr => hs.keepR hg (fun r e => ⟨Nat.le_trans hB (hr r e).1, (hr r e).2⟩)
theorem bldFr_own {β : Type} (W0 : World) (b B : Nat) : OwnFrom B (fun (_ : β) W => BldFr b W0 W) := fun _ _ _ _ hs hg hr q cs t hq hb ht => by
  have h1 := hs q cs t hq hb ht
  refine (hg.block q (lt_of_block h1) (fun e => ?_)).trans h1
  obtain ⟨_, o, ho, hc⟩ := hr q e.symm
  rw [h1] at ho
  cases ho
  cases hc
theorem Bld.cells {w0 w : World} {b : Nat} {l : List UInt8} (h : Bld w0 b l w) : ∃ cs t fz, w.heap[b]? = some (.cells cs t fz) := by
  rcases h.is with ⟨_, v, hb, _⟩ | ⟨_, v, hb, _⟩
  · exact ⟨_, _, _, hb⟩
  · exact ⟨_, _, _, hb⟩
theorem others_keep {w0 w w' : World} {b B : Nat} {l : List UInt8} (h : Bld w0 b l w) (h2 : Below B w w') (h3 : Lib.OthersKept 5 (some b) w w') : KeepsOthers w w' :=
  ⟨h2.size, fun q o hq ho => h3 q o hq (fun e => by
    obtain ⟨cs, t, fz, hb⟩ := h.cells
    have e' : q = b := by simpa using e
    rw [e', hb] at hq
    cases hq
    cases ho) (fun c fz e => by rw [e] at ho; cases ho)⟩
theorem bldWriteK_any {w0 w : World} {b : Nat} {l : List UInt8} (h : Bld w0 b l w) (s : ByteArray) (hl : l.length + s.size ≤ 1000000) :
    Calls Tryz.prog 51 #[.pointer (some ⟨b, 0, none⟩), .string s] w fun e w' => e = .returned (.tuple #[.int .i64 s.size, .nilIface]) ∧ Bld w0 b (l ++ s.data.toList) w' ∧ BldFr b w w' ∧ KeepsOthers w w' := by
  refine (Any.Builder_WriteString_k lays166 bldX166 w0.heap.size b (Lib.byteCells l) s w h.is (by rw [Lib.byteCells_length]; omega) h.gr.size).mono ?_
  rintro e w' ⟨rfl, h1, h2, h3⟩
  refine ⟨rfl, ⟨.inr ?_, gr_belowT h.gr h2⟩, fun q cs t hq hb ht => h3 q _ hq (by simpa using hb) (fun c fz e => by cases e; exact ht rfl), others_keep h h2 h3⟩
  rw [Lib.byteCells_append, ← Lib.strCells_eq]
  exact h1
theorem bldStringK_any {w0 w : World} {b : Nat} {l : List UInt8} (h : Bld w0 b l w) :
    Calls Tryz.prog 53 #[.pointer (some ⟨b, 0, none⟩)] w fun e w' => e = .returned (.string ⟨l.toArray⟩) ∧ w0.grownBy w' none ∧ KeepsOthers w w' := by
  cases l with
  | nil =>
    refine (Any.Builder_String_empty_k lays169 bldX169 w0.heap.size b w h.is h.gr.size).mono ?_
    rintro e w' ⟨rfl, _, h1, h2⟩
    exact ⟨rfl, gr_belowT h.gr h1, others_keep h h1 h2⟩
  | cons x r =>
    refine (Any.Builder_String_k lays169 bldX169 w0.heap.size b (x :: r) w h.is (by simp)).mono ?_
    rintro e w' ⟨rfl, _, h1, h2⟩
    exact ⟨rfl, gr_belowT h.gr h1, others_keep h h1 h2⟩
end Go.Proofs.YthikknnadmebgaaGreatDoor
