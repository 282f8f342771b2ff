/- More small lemmas on worlds and slices: of no program. -/
import Derived.Test.YtbgfflbddflokaaKit
namespace Go.Proofs.Ytbgfflbddflokaa
open Go.RowKit

theorem CellsAt.new2 (w : World) (o : Obj) (c : Array Value) (t : TypeId) : CellsAt ((w.alloc o).alloc (.cells c t)) (some ⟨w.heap.size + 1, 0, none⟩) c.toList := by
  have h := CellsAt.new (w.alloc o) c t
  simpa using h
theorem CellsAt.new3 (w : World) (o o2 : Obj) (c : Array Value) (t : TypeId) : CellsAt (((w.alloc o).alloc o2).alloc (.cells c t)) (some ⟨w.heap.size + 2, 0, none⟩) c.toList := by
  have h := CellsAt.new ((w.alloc o).alloc o2) c t
  simpa using h
/-- A list of ints that is gathered one by one. -/
theorem ints_take_next (l : List Int) (k : Nat) (x : Int) (h : k < l.length) (hx : l.getD k 0 = x) : ints (l.take k) ++ [.int .i64 x] = ints (l.take (k + 1)) := by
  rw [List.take_succ_eq_append_getElem h]
  rw [List.getD_eq_getElem?_getD, List.getElem?_eq_getElem h] at hx
  simp only [Option.getD_some] at hx
  subst hx
  unfold ints
  rw [List.map_append]
  rfl
theorem one_int (x : Int) : ∀ u ∈ [Value.int .i64 x], u.oneCell' = true := by
  intro u hu
  simp only [List.mem_cons, List.not_mem_nil, or_false] at hu
  subst hu
  rfl

/-- append of one element, which was laid right ahead of it in a block of its own. -/
theorem wpList_app1 {P : Program} {w : World} {ops : Array Oper} {rest : List Oper} {o : Oper} {a : Act} {Q : Exit → Act → World → Prop} {t e size bytes : Nat} {z : Value} (E : ElemT P t e z size bytes) (hgd : o.guard = none) (s x : Operand)
    (ho : o.op = .call { callee := .builtin .append, args := #[s, x], argTypes := #[t, t] })
    (base : Nat) (v : Value) (n : Nat) (xs : List Value) (hs : a.eval s = v) (W : World) (c : Array Value) (hw : w = W.alloc (.cells c e)) (hown : W.ownsRow base e size v n xs)
    (g : Nat) (hx : a.eval x = .slice (some ⟨g, 0, none⟩) 1 1) (hg : g = W.heap.size) (hl : c.size = size) (h1 : c.toList.all (fun u => u.oneCell') = true)
    (hb : n + 1 ≤ 137438953472) (hbase : base ≤ W.heap.size)
    (h : ∀ v' w', w'.ownsRow base e size v' (n + 1) (xs ++ c.toList) → W.grownBy w' v.ownBlock → (∀ q, v.ownBlock = some q → base ≤ q) → wpList P ops Q rest (a.put o.dst v') w') : wpList P ops Q (o :: rest) a w := by
  subst hw hg
  refine wpList_app E hgd s x ho base v n xs hs (hown.alloc _) (some ⟨W.heap.size, 0, none⟩) 1 1 c.toList hx (by simpa using hl) (CellsAt.new _ _ _) (fun h => by cases h) (fun u hu => List.all_eq_true.1 h1 u hu) hb (by simp; omega) (fun v' w' h2 h3 => h v' w' h2 ?_ (fun q hq => (hown.lt q hq).1))
  exact gr_trans (gr_alloc (gr_refl _ _) _) h3
end Go.Proofs.Ytbgfflbddflokaa
