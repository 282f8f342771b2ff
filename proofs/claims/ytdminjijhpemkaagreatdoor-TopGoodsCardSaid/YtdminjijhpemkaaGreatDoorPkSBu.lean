/- A strings.Builder that a call makes, written and read. -/
import Derived.Test.YtdminjijhpemkaaGreatDoorPkSBr
import Derived.Test.YtdminjijhpemkaaGreatDoorPkSAa
import Derived.Shelf.Strings.BuilderK
namespace Go.Proofs.YtdminjijhpemkaaGreatDoor
open Go.RowKit

theorem gr_belowT {w w1 w2 : World} (g : w.grownBy w1 none) (h : Below w.heap.size w1 w2) : w.grownBy w2 none :=
  ⟨h.os.trans g.os, h.tape.trans g.tape, h.output.trans g.output, Nat.le_trans g.size h.size, fun k hk _ => (h.block k hk).trans (g.block k hk (by simp))⟩
theorem lt_heapB {w : World} {b : Nat} {o : Obj} (h : w.heap[b]? = some o) : b < w.heap.size := by
  rcases Nat.lt_or_ge b w.heap.size with h' | h'
  · exact h'
  · rw [Array.getElem?_eq_none h'] at h; cases h
structure Bld (w0 : World) (b : Nat) (l : List UInt8) (w : World) : Prop where
  is : Lib.IsBuilderF 173 5 w0.heap.size b (Lib.byteCells l) w
  gr : w0.grownBy w none
theorem ownF_keep0 {w w1 : World} {base e size n : Nat} {v : Value} {xs : List Value} (h : w.ownsRowF base e size v n xs) (g : w.grownBy w1 none) : w1.ownsRowF base e size v n xs := by
  refine ⟨h.1, ?_⟩
  rcases h.2 with h2 | ⟨b, cap, cur, fz, hv, hb, hg, r⟩
  · exact .inl h2
  · exact .inr ⟨b, cap, cur, fz, hv, hb, (g.block b (lt_heapB hg) (by simp)).trans hg, r⟩
theorem Bld.keep0 {w0 w w1 : World} {b : Nat} {l : List UInt8} (h : Bld w0 b l w) (g : w.grownBy w1 none) : Bld w0 b l w1 := by
  have key : ∀ p, Lib.BuilderAtF 173 5 w0.heap.size b p (Lib.byteCells l) w → Lib.BuilderAtF 173 5 w0.heap.size b p (Lib.byteCells l) w1 := by
    rintro p ⟨hB, v, hb, ho, hn⟩
    exact ⟨hB, v, (g.block b (lt_heapB hb) (by simp)).trans hb, ownF_keep0 ho g, hn⟩
  exact ⟨h.is.elim (fun x => .inl (key _ x)) (fun x => .inr (key _ x)), gr_trans h.gr g⟩
theorem Bld.made (w : World) : Bld w w.heap.size [] (w.alloc (.cells #[.pointer none, .slice none 0 0] 173)) :=
  ⟨.inl ⟨Nat.le_refl _, .slice none 0 0, heap_alloc_new w _, World.ownsRowF_of (World.ownsRow_nil _ _ _ _), by simp [Value.ownBlock]⟩, gr_alloc (gr_refl w none) _⟩
/-- What a builder's call leaves. -/
def BldFr (b : Nat) (w w' : World) : Prop := ∀ q cs t, w.heap[q]? = some (.cells cs t (0, 0)) → q ≠ b → t ≠ 5 → w'.heap[q]? = some (.cells cs t (0, 0))
theorem bldWrite_any {w0 w : World} {b : Nat} {l : List UInt8} (h : Bld w0 b l w) (s : ByteArray) (hl : l.length + s.size ≤ 1000000) :
    Calls Tryz.prog 86 #[.pointer (some ⟨b, 0, none⟩), .string s] w fun e w' => e = .returned (.tuple #[.int .i64 s.size, .nilIface]) ∧ Bld w0 b (l ++ s.data.toList) w' ∧ BldFr b w w' := by
  refine (Any.Builder_WriteString_k lays166 bldX166 w0.heap.size b (Lib.byteCells l) s w h.is (by rw [Lib.byteCells_length]; omega) h.gr.size).mono ?_
  rintro e w' ⟨rfl, h1, h2, h3⟩
  refine ⟨rfl, ⟨.inr ?_, gr_belowT h.gr h2⟩, fun q cs t hq hb ht => h3 q _ hq (by simpa using hb) (fun c fz e => by cases e; exact ht rfl)⟩
  rw [Lib.byteCells_append, ← Lib.strCells_eq]
  exact h1
theorem bldString_any {w0 w : World} {b : Nat} {l : List UInt8} (h : Bld w0 b l w) :
    Calls Tryz.prog 87 #[.pointer (some ⟨b, 0, none⟩)] w fun e w' => e = .returned (.string ⟨l.toArray⟩) ∧ w0.grownBy w' none := by
  cases l with
  | nil =>
    refine (Any.Builder_String_empty_k lays169 bldX169 w0.heap.size b w h.is h.gr.size).mono ?_
    rintro e w' ⟨rfl, h1⟩
    exact ⟨rfl, gr_belowT h.gr (by first | exact h1.2.1 | exact h1.1 | exact h1)⟩
  | cons x r =>
    refine (Any.Builder_String_k lays169 bldX169 w0.heap.size b (x :: r) w h.is (by simp)).mono ?_
    rintro e w' ⟨rfl, h1⟩
    exact ⟨rfl, gr_belowT h.gr (by first | exact h1.2.1 | exact h1.1 | exact h1)⟩
end Go.Proofs.YtdminjijhpemkaaGreatDoor
