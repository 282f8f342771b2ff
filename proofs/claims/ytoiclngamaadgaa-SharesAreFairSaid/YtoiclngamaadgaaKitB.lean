/- More small lemmas on worlds and slices: of no program. -/
import Derived.Test.YtoiclngamaadgaaKit
namespace Go.Proofs.Ytoiclngamaadgaa
open Go.RowKit

theorem CellsAt.new2 (w : World) (o : Obj) (c : Array Value) (t : TypeId) : CellsAt ((w.alloc o).alloc (.cells c t)) (some ⟨w.heap.size + 1, 0, none⟩) c.toList := by
  have h := CellsAt.new (w.alloc o) c t
  simpa using h
theorem CellsAt.new3 (w : World) (o o2 : Obj) (c : Array Value) (t : TypeId) : CellsAt (((w.alloc o).alloc o2).alloc (.cells c t)) (some ⟨w.heap.size + 2, 0, none⟩) c.toList := by
  have h := CellsAt.new ((w.alloc o).alloc o2) c t
  simpa using h
/-- A list of ints that is gathered one by one. -/
theorem ints_take_next (l : List Int) (k : Nat) (x : Int) (h : k < l.length) (hx : l.getD k 0 = x) : ints (l.take k) ++ [.int .i64 x] = ints (l.take (k + 1)) := by
  rw [List.take_succ_eq_append_getElem h]
  rw [List.getD_eq_getElem?_getD, List.getElem?_eq_getElem h] at hx
  simp only [Option.getD_some] at hx
  subst hx
  unfold ints
  rw [List.map_append]
  rfl
theorem one_int (x : Int) : ∀ u ∈ [Value.int .i64 x], u.oneCell' = true := by
  intro u hu
  simp only [List.mem_cons, List.not_mem_nil, or_false] at hu
  subst hu
  rfl

/-- append of one element, which was laid right ahead of it in a block of its own. -/
theorem wpList_app1 {P : Program} {w : World} {ops : Array Oper} {rest : List Oper} {o : Oper} {a : Act} {Q : Exit → Act → World → Prop} {t e size bytes : Nat} {z : Value} (E : ElemT P t e z size bytes) (hgd : o.guard = none) (s x : Operand)
    (ho : o.op = .call { callee := .builtin .append, args := #[s, x], argTypes := #[t, t] })
    (base : Nat) (v : Value) (n : Nat) (xs : List Value) (hs : a.eval s = v) (W : World) (c : Array Value) (hw : w = W.alloc (.cells c e)) (hown : W.ownsRow base e size v n xs)
    (g : Nat) (hx : a.eval x = .slice (some ⟨g, 0, none⟩) 1 1) (hg : g = W.heap.size) (hl : c.size = size) (h1 : c.toList.all (fun u => u.oneCell') = true)
    (hb : n + 1 ≤ 137438953472) (hbase : base ≤ W.heap.size)
    (h : ∀ v' w', w'.ownsRow base e size v' (n + 1) (xs ++ c.toList) → W.grownBy w' v.ownBlock → (∀ q, v.ownBlock = some q → base ≤ q) → wpList P ops Q rest (a.put o.dst v') w') : wpList P ops Q (o :: rest) a w := by
  subst hw hg
  refine wpList_app E hgd s x ho base v n xs hs (hown.alloc _) (some ⟨W.heap.size, 0, none⟩) 1 1 c.toList hx (by simpa using hl) (CellsAt.new _ _ _) (fun h => by cases h) (fun u hu => List.all_eq_true.1 h1 u hu) hb (by simp; omega) (fun v' w' h2 h3 => h v' w' h2 ?_ (fun q hq => (hown.lt q hq).1))
  exact gr_trans (gr_alloc (gr_refl _ _) _) h3

/-! The place of the first element that has a property. No program in sight. -/

def findA {α : Type} (P : α → Bool) (xs : List α) : Int := if xs.findIdx P < xs.length then (xs.findIdx P : Nat) else -1
theorem findA_at {α : Type} {P : α → Bool} {xs : List α} {k : Nat} (hk : k < xs.length) (hp : P xs[k] = true) (hno : ∀ j (hj : j < k), P (xs[j]'(by omega)) = false) : findA P xs = k := by
  have : xs.findIdx P = k := by
    rw [List.findIdx_eq hk]
    exact ⟨hp, fun j hj => hno j hj⟩
  unfold findA
  rw [this, if_pos hk]
theorem findA_none {α : Type} {P : α → Bool} {xs : List α} (hno : ∀ j (hj : j < xs.length), P xs[j] = false) : findA P xs = -1 := by
  have : ¬ xs.findIdx P < xs.length := by
    rw [List.findIdx_lt_length]
    rintro ⟨y, hy, hpy⟩
    obtain ⟨j, hj, rfl⟩ := List.getElem_of_mem hy
    rw [hno j hj] at hpy
    cases hpy
  unfold findA
  rw [if_neg this]
theorem any_findA {α : Type} (P : α → Bool) (xs : List α) : xs.any P = decide (0 ≤ findA P xs) := by
  unfold findA
  by_cases h : xs.findIdx P < xs.length
  · rw [if_pos h, List.any_eq_true.2 (List.findIdx_lt_length.1 h)]; simp
  · rw [if_neg h]
    have : xs.any P = false := by
      rw [List.any_eq_false]
      intro x hx hp
      exact h (List.findIdx_lt_length.2 ⟨x, hx, hp⟩)
    rw [this]; rfl

/-! Results of which one lies in a variable, the other in a slot: of no program. -/

theorem results_cell_slot {P : Program} {fn : Func} {p q : Tmp} {ty : TypeId} (h : fn.results = #[.cell p ty, .tmp q]) (tmps : Array Value) (w : World) (g : Nat) (t : TypeId) (cs : Array Value) (fr : Nat × Nat) (d : TypeDesc) (v : Value)
    (hp : tmps.getD p undef = .pointer (some ⟨g, 0, none⟩)) (hq : tmps.getD q undef = v) (hg : w.heap[g]? = some (.cells cs t fr))
    (hu : P.underlying ty = some d) (hd : (match d with | .struct _ | .array _ _ => true | _ => false) = true) (hi : (P.info? ty).map (·.size) = some cs.size) :
    (results fn tmps).run P w = .ok (.tuple #[.agg cs, v]) w := by
  have hp' : tmps[p]?.getD undef = .pointer (some ⟨g, 0, none⟩) := by simpa using hp
  have hq' : tmps[q]?.getD undef = v := by simpa using hq
  simp [results, h, hp', hq', asAddr, run_loadVar_row w g t ty cs fr d hg hu hd hi]
theorem set3R_heap {w : World} {g t : Nat} {a b c : Value} (h : w.heap[g]? = some (.cells #[a, b, c] t (0, 0))) (x y z : Value) : (((w.setCell ⟨g, 0, none⟩ x).setCell ⟨g, 1, none⟩ y).setCell ⟨g, 2, none⟩ z).heap[g]? = some (.cells #[x, y, z] t (0, 0)) := by
  have h1 := heap_setCell_same w g 0 _ t x h
  have h2 := heap_setCell_same _ g 1 _ t y h1
  exact heap_setCell_same _ g 2 _ t z h2
theorem set3R_gr (w : World) (g : Nat) (x y z : Value) : w.grownBy (((w.setCell ⟨g, 0, none⟩ x).setCell ⟨g, 1, none⟩ y).setCell ⟨g, 2, none⟩ z) (some g) :=
  gr_set (q := ⟨g, 2, none⟩) (gr_set (q := ⟨g, 1, none⟩) (gr_set (q := ⟨g, 0, none⟩) (gr_refl w (some g)) rfl _) rfl _) rfl _
end Go.Proofs.Ytoiclngamaadgaa
