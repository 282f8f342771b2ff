/- make of a slice of ints, as a law for a walk; an int stored into a slice that the call owns. -/
import Derived.Test.YtjhdngfliakidaaDoorPkCAa
import Derived.Test.YtjhdngfliakidaaDoorChecked
namespace Go.Proofs.YtjhdngfliakidaaDoor
open Go.RowKit

theorem eInt : ElemT Tryd.prog 22 3 (.int .i64 0) 1 8 := ⟨by kernel_rfl, by kernel_rfl, by decide, by decide, by decide⟩
theorem wpList_mk {P : Program} (w : World) {ops : Array Oper} {rest : List Oper} {o : Oper} {a : Act} {Q : Exit → Act → World → Prop} {t e : Nat} (E : ElemT P t e (.int .i64 0) 1 8)
    (hg : o.guard = none) (l c : Operand) (hop : o.op = Op.makeSlice t l c) (base : Nat) (L : Int) (n : Nat) (hl : a.eval l = .int .i64 L) (hc : a.eval c = .int .i64 L) (hL : L = (n : Int)) (hn : n ≤ 1000000000) (b4 : base ≤ w.heap.size)
    (hK : ∀ w', w'.ownsRow base e 1 (.slice (some ⟨w.heap.size, 0, none⟩) n n) n (ints (List.replicate n 0)) → w.grownBy w' none → wpList P ops Q rest (a.put o.dst (.slice (some ⟨w.heap.size, 0, none⟩) n n)) w') :
    wpList P ops Q (o :: rest) a w := by
  obtain ⟨i, hi, hz, hz1, hz2⟩ := info_parts E.info
  refine wpList_make_full w hg l c t hop base e i (.int .i64 0) 1 E.und hi hz hz1 .i64 .i64 L L n hl hc hL hL (by rw [hz2]; omega) (by unfold maxLen; omega) b4 (fun w' h1 h2 => hK w' ?_ h2)
  have e1 : (madeCells (Value.int .i64 0).cells (n * 1)).toList = ints (List.replicate n 0) := by
    rw [Nat.mul_one, show (Value.int .i64 0).cells = #[.int .i64 0] from rfl, toList_madeCells_one]
    simp [ints]
  rw [e1] at h1
  exact h1

theorem ints_set (l : List Int) (k : Nat) (x : Int) : (ints l).set k (.int .i64 x) = ints (l.set k x) := by simp [ints, List.map_set]
theorem ints_at (l : List Int) (j : Nat) (h : j < l.length) : (ints l)[j]? = some (.int .i64 (l.getD j 0)) := by
  simp [ints, List.getD_eq_getElem?_getD, List.getElem?_eq_getElem h]
/-- The cell of an owned slice of ints, that it may be written, and what is owned behind a store into it. -/
theorem own_int {w : World} {base e n cap g : Nat} {l : List Int} (h : w.ownsRow base e 1 (.slice (some ⟨g, 0, none⟩) n cap) n (ints l)) (k : Nat) (hk : k < n) :
    w.cell? ⟨g, k, none⟩ = some (.int .i64 (l.getD k 0)) ∧ w.frozen? ⟨g, k, none⟩ = false ∧ ∀ x, (w.setCell ⟨g, k, none⟩ (.int .i64 x)).ownsRow base e 1 (.slice (some ⟨g, 0, none⟩) n cap) n (ints (l.set k x)) := by
  have hl : l.length = n := by have := h.1; simpa [ints] using this
  refine ⟨by rw [h.cellAt k (by omega)]; exact ints_at l k (by omega), h.frozenAt k, fun x => ?_⟩
  rw [← ints_set]
  exact (h.stored k _).1
theorem own_len {w : World} {base e n : Nat} {v : Value} {l : List Int} (h : w.ownsRow base e 1 v n (ints l)) : l.length = n := by
  have := h.1
  simpa [ints] using this
theorem own_nil {w : World} {base e size n cap : Nat} {a : Option Addr} {xs : List Value} (h : w.ownsRow base e size (.slice a n cap) n xs) : a = none → n = 0 ∧ cap = 0 := by
  intro ha
  subst ha
  rcases h.2 with ⟨h2, h3⟩ | ⟨g, c, cur, h2, _⟩
  · cases h2; exact ⟨rfl, rfl⟩
  · cases h2
/-- The cells of an owned row stay behind a step that writes a block below it. -/
theorem own_cells {w w1 : World} {base e size n cap p : Nat} {a : Option Addr} {xs : List Value} (h : w.ownsRow base e size (.slice a n cap) n xs) (g : w.grownBy w1 (some p)) (hp : p < base) : CellsAt w1 a xs := by
  obtain ⟨_, _, he, _, _, hc, _⟩ := own_shape (own_keepS h g hp)
  cases he
  exact hc

/-! Rows of one cell an element that a call owns: of bools. -/

theorem wpList_mkZ {P : Program} (w : World) {ops : Array Oper} {rest : List Oper} {o : Oper} {a : Act} {Q : Exit → Act → World → Prop} {t e bytes : Nat} {z : Value} (E : ElemT P t e z 1 bytes) (hz0 : z.cells = #[z]) (hby : bytes ≤ 64)
    (hg : o.guard = none) (l c : Operand) (hop : o.op = Op.makeSlice t l c) (base : Nat) (L : Int) (n : Nat) (hl : a.eval l = .int .i64 L) (hc : a.eval c = .int .i64 L) (hL : L = (n : Int)) (hn : n ≤ 1000000000) (b4 : base ≤ w.heap.size)
    (hK : ∀ w', w'.ownsRow base e 1 (.slice (some ⟨w.heap.size, 0, none⟩) n n) n (List.replicate n z) → w.grownBy w' none → wpList P ops Q rest (a.put o.dst (.slice (some ⟨w.heap.size, 0, none⟩) n n)) w') :
    wpList P ops Q (o :: rest) a w := by
  obtain ⟨i, hi, hz, hz1, hz2⟩ := info_parts E.info
  have hle : i.bytes * n ≤ 64 * 1000000000 := Nat.mul_le_mul (by omega) hn
  refine wpList_make_full w hg l c t hop base e i z 1 E.und hi hz hz1 .i64 .i64 L L n hl hc hL hL (by omega) (by unfold maxLen; omega) b4 (fun w' h1 h2 => hK w' ?_ h2)
  have e1 : (madeCells z.cells (n * 1)).toList = List.replicate n z := by
    rw [Nat.mul_one, hz0, toList_madeCells_one]
  rw [e1] at h1
  exact h1
def bools (l : List Bool) : List Value := l.map Value.bool
theorem bools_at (l : List Bool) (j : Nat) (h : j < l.length) : (bools l)[j]? = some (.bool (l.getD j false)) := by
  simp [bools, List.getD_eq_getElem?_getD, List.getElem?_eq_getElem h]
theorem bools_set (l : List Bool) (k : Nat) (x : Bool) : (bools l).set k (.bool x) = bools (l.set k x) := by simp [bools, List.map_set]
theorem own_bool {w : World} {base e n cap g : Nat} {l : List Bool} (h : w.ownsRow base e 1 (.slice (some ⟨g, 0, none⟩) n cap) n (bools l)) (k : Nat) (hk : k < n) :
    w.cell? ⟨g, k, none⟩ = some (.bool (l.getD k false)) ∧ w.frozen? ⟨g, k, none⟩ = false ∧ ∀ x, (w.setCell ⟨g, k, none⟩ (.bool x)).ownsRow base e 1 (.slice (some ⟨g, 0, none⟩) n cap) n (bools (l.set k x)) := by
  have hl : l.length = n := by have := h.1; simpa [bools] using this
  refine ⟨by rw [h.cellAt k (by omega)]; exact bools_at l k (by omega), h.frozenAt k, fun x => ?_⟩
  rw [← bools_set]
  exact (h.stored k _).1
theorem bools_rep (n : Nat) : List.replicate n (Value.bool false) = bools (List.replicate n false) := by simp [bools]
end Go.Proofs.YtjhdngfliakidaaDoor

/-! Strings and rows of ints as elements. -/
namespace Go.Proofs.YtjhdngfliakidaaDoor
open Go.RowKit

theorem eStr : ElemT Tryd.prog 84 9 (.string { data := #[] }) 1 16 := ⟨by kernel_rfl, by kernel_rfl, by decide, by decide, by decide⟩
end Go.Proofs.YtjhdngfliakidaaDoor

/-! Package slices at elements string: with a function value. Written by mkfind.py. -/
namespace Go.Proofs.YtjhdngfliakidaaDoor
open Go.RowKit

end Go.Proofs.YtjhdngfliakidaaDoor

/-! Package slices at elements string: with a function value. Written by mkfind.py. -/
namespace Go.Proofs.YtjhdngfliakidaaDoor
open Go.RowKit

end Go.Proofs.YtjhdngfliakidaaDoor

/-! slices.Clone at []int. Written by mkclone.py. -/
namespace Go.Proofs.YtjhdngfliakidaaDoor
open Go.RowKit

end Go.Proofs.YtjhdngfliakidaaDoor

/-! slices.Clone at []string. Written by mkclone.py. -/
namespace Go.Proofs.YtjhdngfliakidaaDoor
open Go.RowKit

end Go.Proofs.YtjhdngfliakidaaDoor
