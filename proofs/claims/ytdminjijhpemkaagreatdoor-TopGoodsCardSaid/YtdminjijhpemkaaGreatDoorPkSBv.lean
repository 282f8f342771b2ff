/- A strings.Builder in the body of a range over a function. -/
import Derived.Test.YtdminjijhpemkaaGreatDoorPkSBu
import Derived.Test.YtdminjijhpemkaaGreatDoorPkSAc
import Derived.RangeFuncNested
import Derived.RangeFuncBound
import Derived.RangeFuncCalls
import Derived.RangeFuncLeaves
import Derived.RangeFuncBox
import Derived.Shelf.Abstract
import Derived.Shelf.RegionOpen
import Derived.OwnWalkIn
import Derived.TacticsInMore
import Derived.LoopNIn
import Derived.LoopIn
namespace Go.Proofs.YtdminjijhpemkaaGreatDoor
open Go.RowKit

theorem BldFr.trans {b : Nat} {A B C : World} (h : BldFr b A B) (k : BldFr b B C) : BldFr b A C := fun q cs t hq hb ht => k q cs t (h q cs t hq hb ht) hb ht
theorem BldFr.refl (b : Nat) (A : World) : BldFr b A A := fun _ _ _ hq _ _ => hq
theorem BldFr.gr {b : Nat} {A B : World} (g : A.grownBy B none) : BldFr b A B := fun q cs t hq _ _ => (g.block q (lt_of_block hq) (by simp)).trans hq
theorem bldFr_put {n0 b : Nat} (W : World) (l : Nat) (o o' : Obj) (_ : n0 ≤ l) (h : W.heap[l]? = some o) (hc : o.isCells = false) (_ : o.isWalk = false) : BldFr b W (W.putObj l o') := fun q cs t hq _ _ => by
  have hne : q ≠ l := fun e => by subst e; rw [h] at hq; cases hq; cases hc
  exact ((grownBy_putObj' W l o').block q (lt_of_block hq) (by simpa using hne)).trans hq
theorem ownF_keepR {w w1 : World} {row : Option Nat} {base e size n : Nat} {v : Value} {xs : List Value} (h : w.ownsRowF base e size v n xs) (g : w.grownBy w1 row) (hrow : ∀ r, row = some r → ∃ o : Obj, w.heap[r]? = some o ∧ o.isCells = false) : w1.ownsRowF base e size v n xs := by
  refine ⟨h.1, ?_⟩
  rcases h.2 with h2 | ⟨b, cap, cur, fz, hv, hb, hg, r⟩
  · exact .inl h2
  · refine .inr ⟨b, cap, cur, fz, hv, hb, (g.block b (lt_heapB hg) (fun e => ?_)).trans hg, r⟩
    obtain ⟨o, ho, hc⟩ := hrow b e.symm
    rw [hg] at ho
    cases ho
    cases hc
theorem Bld.keepR {w0 w w1 : World} {b : Nat} {l : List UInt8} {row : Option Nat} (h : Bld w0 b l w) (g : w.grownBy w1 row) (hrow : ∀ r, row = some r → w0.heap.size ≤ r ∧ ∃ o : Obj, w.heap[r]? = some o ∧ o.isCells = false) : Bld w0 b l w1 := by
  have key : ∀ p, Lib.BuilderAtF 173 5 w0.heap.size b p (Lib.byteCells l) w → Lib.BuilderAtF 173 5 w0.heap.size b p (Lib.byteCells l) w1 := by
    rintro p ⟨hB, v, hb, ho, hn⟩
    refine ⟨hB, v, (g.block b (lt_heapB hb) (fun e => ?_)).trans hb, ownF_keepR ho g (fun r e => (hrow r e).2), hn⟩
    obtain ⟨_, o, hoo, hc⟩ := hrow b e.symm
    rw [hb] at hoo
    cases hoo
    cases hc
  refine ⟨h.is.elim (fun x => .inl (key _ x)) (fun x => .inr (key _ x)), ⟨g.os.trans h.gr.os, g.tape.trans h.gr.tape, g.output.trans h.gr.output, Nat.le_trans h.gr.size g.size, fun k hk _ => ?_⟩⟩
  refine (g.block k (Nat.lt_of_lt_of_le hk h.gr.size) (fun e => ?_)).trans (h.gr.block k hk (by simp))
  have := (hrow k e.symm).1
  omega
theorem bld_own {β : Type} (w0 : World) (b B : Nat) (f : β → List UInt8) (hB : w0.heap.size ≤ B) : OwnFrom B (fun s W => Bld w0 b (f s) W) := fun _ _ _ _ hs hg hr => hs.keepR hg (fun r e => ⟨Nat.le_trans hB (hr r e).1, (hr r e).2⟩)
theorem bldFr_own {β : Type} (W0 : World) (b B : Nat) : OwnFrom B (fun (_ : β) W => BldFr b W0 W) := fun _ _ _ _ hs hg hr q cs t hq hb ht => by
  have h1 := hs q cs t hq hb ht
  refine (hg.block q (lt_of_block h1) (fun e => ?_)).trans h1
  obtain ⟨_, o, ho, hc⟩ := hr q e.symm
  rw [h1] at ho
  cases ho
  cases hc
theorem Bld.cells {w0 w : World} {b : Nat} {l : List UInt8} (h : Bld w0 b l w) : ∃ cs t fz, w.heap[b]? = some (.cells cs t fz) := by
  rcases h.is with ⟨_, v, hb, _⟩ | ⟨_, v, hb, _⟩
  · exact ⟨_, _, _, hb⟩
  · exact ⟨_, _, _, hb⟩
theorem others_keep {w0 w w' : World} {b B : Nat} {l : List UInt8} (h : Bld w0 b l w) (h2 : Below B w w') (h3 : Lib.OthersKept 5 (some b) w w') : KeepsOthers w w' :=
  ⟨h2.size, fun q o hq ho => h3 q o hq (fun e => by
    obtain ⟨cs, t, fz, hb⟩ := h.cells
    have e' : q = b := by simpa using e
    rw [e', hb] at hq
    cases hq
    cases ho) (fun c fz e => by rw [e] at ho; cases ho)⟩
theorem bldWriteK_any {w0 w : World} {b : Nat} {l : List UInt8} (h : Bld w0 b l w) (s : ByteArray) (hl : l.length + s.size ≤ 1000000) :
    Calls Tryz.prog 86 #[.pointer (some ⟨b, 0, none⟩), .string s] w fun e w' => e = .returned (.tuple #[.int .i64 s.size, .nilIface]) ∧ Bld w0 b (l ++ s.data.toList) w' ∧ BldFr b w w' ∧ KeepsOthers w w' := by
  refine (Any.Builder_WriteString_k lays166 bldX166 w0.heap.size b (Lib.byteCells l) s w h.is (by rw [Lib.byteCells_length]; omega) h.gr.size).mono ?_
  rintro e w' ⟨rfl, h1, h2, h3⟩
  refine ⟨rfl, ⟨.inr ?_, gr_belowT h.gr h2⟩, fun q cs t hq hb ht => h3 q _ hq (by simpa using hb) (fun c fz e => by cases e; exact ht rfl), others_keep h h2 h3⟩
  rw [Lib.byteCells_append, ← Lib.strCells_eq]
  exact h1
theorem bldStringK_any {w0 w : World} {b : Nat} {l : List UInt8} (h : Bld w0 b l w) :
    Calls Tryz.prog 87 #[.pointer (some ⟨b, 0, none⟩)] w fun e w' => e = .returned (.string ⟨l.toArray⟩) ∧ w0.grownBy w' none ∧ KeepsOthers w w' := by
  cases l with
  | nil =>
    refine (Any.Builder_String_empty_k lays169 bldX169 w0.heap.size b w h.is h.gr.size).mono ?_
    rintro e w' ⟨rfl, _, h1, h2⟩
    exact ⟨rfl, gr_belowT h.gr h1, others_keep h h1 h2⟩
  | cons x r =>
    refine (Any.Builder_String_k lays169 bldX169 w0.heap.size b (x :: r) w h.is (by simp)).mono ?_
    rintro e w' ⟨rfl, _, h1, h2⟩
    exact ⟨rfl, gr_belowT h.gr h1, others_keep h h1 h2⟩
end Go.Proofs.YtdminjijhpemkaaGreatDoor
