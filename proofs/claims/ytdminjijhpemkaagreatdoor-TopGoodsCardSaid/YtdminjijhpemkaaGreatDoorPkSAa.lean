/- Small lemmas on worlds and on slices: of no program. -/
import Derived.WalkKit
import Derived.WalkSpells
import Derived.RowKit3
import Derived.OneCell
import Derived.Lib.Hide
import Derived.BigQuiet
import Derived.Deep.QuietTactic
import Derived.Outline
import Derived.Laws.OwnMore
import Derived.WalkSmall
import Derived.Laws.AppendOwnNone
namespace Go.Proofs.YtdminjijhpemkaaGreatDoor
open Go.RowKit

theorem ret_int {k : IntKind} {a b : Int} (h : a = b) : Ending.returned (.int k a) = .returned (.int k b) := by rw [h]
theorem ret_bool {a b : Bool} (h : a = b) : Ending.returned (.bool a) = .returned (.bool b) := by rw [h]

theorem set_drewN (w : World) (n : Nat) (a : Addr) (v : Value) : (w.drewN n).setCell a v = (w.setCell a v).drewN n := rfl
theorem alloc_drewN (w : World) (n : Nat) (o : Obj) : (w.drewN n).alloc o = (w.alloc o).drewN n := rfl

/-! ### A world that has grown: 'grownBy' -/
section
variable {a w w1 w2 : World} {r : Option Nat}
theorem gr_refl (w : World) (r : Option Nat) : w.grownBy w r := ⟨rfl, rfl, rfl, Nat.le_refl _, fun _ _ _ => rfl⟩
theorem gr_trans (h : a.grownBy w r) (g : w.grownBy w1 r) : a.grownBy w1 r :=
  ⟨g.os.trans h.os, g.tape.trans h.tape, g.output.trans h.output, Nat.le_trans h.size g.size,
    fun k hk hr => (g.block k (Nat.lt_of_lt_of_le hk h.size) hr).trans (h.block k hk hr)⟩
theorem gr_weak (h : w.grownBy w1 none) (r : Option Nat) : w.grownBy w1 r := ⟨h.os, h.tape, h.output, h.size, fun k hk _ => h.block k hk (by simp)⟩
theorem gr_drewN (h : a.grownBy w r) (n : Nat) : a.grownBy (w.drewN n) r := ⟨h.os, h.tape, h.output, h.size, h.block⟩
theorem gr_drew (h : a.grownBy w r) : a.grownBy w.drew r := ⟨h.os, h.tape, h.output, h.size, h.block⟩
theorem gr_alloc (h : a.grownBy w r) (o : Obj) : a.grownBy (w.alloc o) r :=
  ⟨h.os, h.tape, h.output, Nat.le_trans h.size (by simp), fun k hk hr => (Below.heap_alloc _ _ _ (Nat.lt_of_lt_of_le hk h.size)).trans (h.block k hk hr)⟩
theorem gr_set (h : a.grownBy w r) {q : Addr} (hq : r = some q.block) (v : Value) : a.grownBy (w.setCell q v) r :=
  ⟨h.os, h.tape, h.output, Nat.le_trans h.size (by simp [World.setCell]), fun k hk hr => (Below.heap_setCell _ _ _ _ (fun e => hr (by rw [hq, e]))).trans (h.block k hk hr)⟩
theorem gr_new (h : a.grownBy w r) {q : Addr} (hq : a.heap.size ≤ q.block) (v : Value) : a.grownBy (w.setCell q v) r :=
  ⟨h.os, h.tape, h.output, Nat.le_trans h.size (by simp [World.setCell]), fun k hk hr => (Below.heap_setCell _ _ _ _ (fun e => by omega)).trans (h.block k hk hr)⟩
/-- A step that may write a block which the first world did not have. -/
theorem gr_grown (h : a.grownBy w r) {r' : Option Nat} (g : w.grownBy w1 r') (hr' : ∀ k, r' = some k → a.heap.size ≤ k) : a.grownBy w1 r :=
  ⟨g.os.trans h.os, g.tape.trans h.tape, g.output.trans h.output, Nat.le_trans h.size g.size,
    fun k hk hr => (g.block k (Nat.lt_of_lt_of_le hk h.size) (fun e => by have := hr' k e.symm; omega)).trans (h.block k hk hr)⟩
theorem gr_below (h : w.grownBy w1 none) : Below w.heap.size w w1 := ⟨h.os, h.tape, h.output, h.size, fun k hk => h.block k hk (by simp)⟩
theorem gr_cell (h : w.grownBy w1 none) {b o : Nat} (hb : b < w.heap.size) : w1.cell? ⟨b, o, none⟩ = w.cell? ⟨b, o, none⟩ := World.cell?_of_block (w := w) (h.block b hb (by simp))
end

theorem gr_free {w w1 : World} (h : w.grownBy w1 none) {b o : Nat} (hb : b < w.heap.size) : w1.frozen? ⟨b, o, none⟩ = w.frozen? ⟨b, o, none⟩ := World.frozen?_of_block (w := w) (h.block b hb (by simp))
/-- The block that was made right ahead of a call: its cells behind the call, and behind a further one. -/
theorem made_cell {w w1 : World} {c : Array Value} {t : TypeId} (h1 : (w.alloc (.cells c t)).grownBy w1 none) (j : Nat) {v : Value} (hv : c[j]? = some v) : w1.cell? ⟨w.heap.size, j, none⟩ = some v := by
  rw [gr_cell h1 (by simp), World.cell?_alloc_at _ _ _ _ rfl, hv]
theorem made_free {w w1 : World} {c : Array Value} {t : TypeId} (h1 : (w.alloc (.cells c t)).grownBy w1 none) (j : Nat) : w1.frozen? ⟨w.heap.size, j, none⟩ = false := by
  rw [gr_free h1 (by simp)]
  exact World.frozen?_alloc_at _ _ _ _ rfl
theorem made_lt {w w1 : World} {o : Obj} {r : Option Nat} (h1 : (w.alloc o).grownBy w1 r) : w.heap.size < w1.heap.size := by
  have := h1.size
  simp at this
  omega
theorem held_cell {w w1 : World} {o : Obj} (h1 : (w.alloc o).grownBy w1 none) {b j : Nat} {v : Value} (hv : w.cell? ⟨b, j, none⟩ = some v) : w1.cell? ⟨b, j, none⟩ = some v := by
  have hlt : b < w.heap.size := World.block_lt_of_cell? w ⟨b, j, none⟩ hv
  rw [gr_cell h1 (by simp; omega), World.cell?_alloc_past _ _ _ hlt, hv]

/-! ### What a slice reads -/
/-- The cells of a slice: the first ones from its address on. -/
def CellsAt (w : World) (a : Option Addr) (xs : List Value) : Prop :=
  ∀ j x, xs[j]? = some x → ∃ b off, a = some ⟨b, off, none⟩ ∧ w.cell? ⟨b, off + j, none⟩ = some x

theorem CellsAt.nil (w : World) (a : Option Addr) : CellsAt w a [] := fun j x h => by simp at h
theorem lt_of_cell {w : World} {b o : Nat} {v : Value} (h : w.cell? ⟨b, o, none⟩ = some v) : b < w.heap.size := World.block_lt_of_cell? w ⟨b, o, none⟩ h
theorem CellsAt.keep {w w1 : World} {a : Option Addr} {xs : List Value} {r : Option Nat} (h : CellsAt w a xs) (g : w.grownBy w1 r) (hr : ∀ b off, a = some ⟨b, off, none⟩ → some b ≠ r) : CellsAt w1 a xs := by
  intro j x hx
  obtain ⟨b, off, ha, hc⟩ := h j x hx
  exact ⟨b, off, ha, g.cell hc (hr b off ha)⟩
theorem CellsAt.keep0 {w w1 : World} {a : Option Addr} {xs : List Value} (h : CellsAt w a xs) (g : w.grownBy w1 none) : CellsAt w1 a xs := h.keep g (fun _ _ _ => by simp)
theorem CellsAt.drop {w : World} {b off : Nat} {xs : List Value} (h : CellsAt w (some ⟨b, off, none⟩) xs) (n : Nat) : CellsAt w (some ⟨b, off + n, none⟩) (xs.drop n) := by
  intro j x hx
  rw [List.getElem?_drop] at hx
  obtain ⟨b', off', he, hc⟩ := h _ _ hx
  simp at he
  obtain ⟨rfl, rfl⟩ := he
  exact ⟨_, _, rfl, by rw [Nat.add_assoc]; exact hc⟩
theorem CellsAt.take {w : World} {a : Option Addr} {xs : List Value} (h : CellsAt w a xs) (n : Nat) : CellsAt w a (xs.take n) := by
  intro j x hx
  rw [List.getElem?_take] at hx
  split at hx
  · exact h _ _ hx
  · cases hx

/-- An owned row, as a slice that is read. -/
theorem own_shape {w : World} {base e size n : Nat} {v : Value} {xs : List Value} (h : w.ownsRow base e size v n xs) :
    ∃ a cap, v = .slice a n cap ∧ n ≤ cap ∧ cap ≤ maxLen ∧ CellsAt w a xs ∧ (∀ b off, a = some ⟨b, off, none⟩ → base ≤ b ∧ b < w.heap.size ∧ v.ownBlock = some b) := by
  rcases h.2 with ⟨rfl, rfl⟩ | ⟨g, cap, cur, rfl, hb, hg, hn, hcap, hs, ht⟩
  · have hx : xs = [] := List.eq_nil_of_length_eq_zero (by simpa using h.1)
    subst hx
    exact ⟨none, 0, rfl, Nat.le_refl _, Nat.zero_le _, CellsAt.nil _ _, fun b off e => by cases e⟩
  · refine ⟨some ⟨g, 0, none⟩, cap, rfl, hn, hcap, ?_, ?_⟩
    · intro j x hx
      refine ⟨g, 0, rfl, ?_⟩
      have h1 := h.cells (g := g) (by simp [Value.ownBlock]) j x hx
      have hadd : (⟨g, 0, none⟩ : Addr).add j = ⟨g, j, none⟩ := by unfold Addr.add; split <;> simp_all
      rw [hadd] at h1
      simpa using h1
    · intro b off e
      cases e
      exact ⟨hb, (Array.getElem?_eq_some_iff.1 hg).1, rfl⟩
theorem own_keep {w w1 : World} {base e size n : Nat} {v : Value} {xs : List Value} {r : Option Nat} (h : w.ownsRow base e size v n xs) (g : w.grownBy w1 r) (hr : v.ownBlock = none ∨ v.ownBlock ≠ r) : w1.ownsRow base e size v n xs := h.kept g hr
theorem own_keep0 {w w1 : World} {base e size n : Nat} {v : Value} {xs : List Value} (h : w.ownsRow base e size v n xs) (g : w.grownBy w1 none) : w1.ownsRow base e size v n xs := by
  refine h.kept (row := none) g ?_
  cases v.ownBlock <;> simp
/-- What is owned from 'base' on stays owned while a block below is written. -/
theorem own_keepS {w w1 : World} {base e size n p : Nat} {v : Value} {xs : List Value} (h : w.ownsRow base e size v n xs) (g : w.grownBy w1 (some p)) (hp : p < base) : w1.ownsRow base e size v n xs := by
  refine h.kept g (Or.inr ?_)
  intro e
  have := (h.lt p e).1
  omega
theorem own_base {w : World} {base base' e size n : Nat} {v : Value} {xs : List Value} (h : w.ownsRow base e size v n xs) (hb : base' ≤ base) : w.ownsRow base' e size v n xs := by
  refine ⟨h.1, ?_⟩
  rcases h.2 with h2 | ⟨g, cap, cur, hv, hg, r⟩
  · exact .inl h2
  · exact .inr ⟨g, cap, cur, hv, by omega, r⟩
theorem own_some {w : World} {base e size n : Nat} {v : Value} {xs : List Value} (h : w.ownsRow base e size v n xs) (hn : 0 < n) :
    ∃ g cap, v = .slice (some ⟨g, 0, none⟩) n cap ∧ base ≤ g ∧ g < w.heap.size ∧ n ≤ cap ∧ cap ≤ maxLen := by
  rcases h.2 with ⟨_, h0⟩ | ⟨g, cap, cur, rfl, hb, hg, hn, hcap, hs, ht⟩
  · omega
  · exact ⟨g, cap, rfl, hb, (Array.getElem?_eq_some_iff.1 hg).1, hn, hcap⟩
theorem CellsAt.new (w : World) (c : Array Value) (t : TypeId) : CellsAt (w.alloc (.cells c t)) (some ⟨w.heap.size, 0, none⟩) c.toList := by
  intro j x hx
  refine ⟨w.heap.size, 0, rfl, ?_⟩
  rw [World.cell?_alloc_at _ _ _ _ rfl]
  simpa using hx
theorem CellsAt.alloc {w : World} {a : Option Addr} {xs : List Value} (h : CellsAt w a xs) (o : Obj) : CellsAt (w.alloc o) a xs := h.keep0 (gr_alloc (gr_refl _ _) _)
theorem CellsAt.of_eq {w : World} {a : Option Addr} {xs ys : List Value} (h : CellsAt w a xs) (e : xs = ys) : CellsAt w a ys := e ▸ h

/-- An element type, as append and make ask for it. -/
structure ElemT (P : Program) (t e : TypeId) (z : Value) (size bytes : Nat) : Prop where
  und : P.underlying t = some (.slice e)
  info : (P.info? e).map (fun i => (i.zero, i.size, i.bytes)) = some (some z, size, bytes)
  zc : z.cells.size = size
  pos : 0 < size
  le : bytes ≤ 1024

/-- append onto a slice that the call owns: whatever is appended. -/
theorem wpList_app {P : Program} {w : World} {ops : Array Oper} {rest : List Oper} {o : Oper} {a : Act} {Q : Exit → Act → World → Prop} {t e size bytes : Nat} {z : Value} (E : ElemT P t e z size bytes) (hgd : o.guard = none) (s x : Operand)
    (ho : o.op = .call { callee := .builtin .append, args := #[s, x], argTypes := #[t, t] })
    (base : Nat) (v : Value) (n : Nat) (xs : List Value) (hs : a.eval s = v) (hown : w.ownsRow base e size v n xs)
    (ao : Option Addr) (m c : Nat) (news : List Value) (hx : a.eval x = .slice ao m c) (hl : news.length = m * size) (hc : CellsAt w ao news) (hnil : ao = none → c = 0) (h1 : ∀ u ∈ news, u.oneCell' = true)
    (hb : n + m ≤ 137438953472) (hbase : base ≤ w.heap.size)
    (h : ∀ v' w', w'.ownsRow base e size v' (n + m) (xs ++ news) → w.grownBy w' v.ownBlock → wpList P ops Q rest (a.put o.dst v') w') : wpList P ops Q (o :: rest) a w := by
  obtain ⟨i, hi, hz, hz1, hz2⟩ := info_parts E.info
  have hpos := E.pos
  cases ao with
  | none =>
    have hc0 := hnil rfl
    have hnews : news = [] := by
      cases news with
      | nil => rfl
      | cons u r => obtain ⟨_, _, h, _⟩ := hc 0 u rfl; cases h
    subst hnews
    have hm : m = 0 := by
      rcases Nat.mul_eq_zero.1 (show m * size = 0 from hl.symm) with h | h <;> omega
    subst hm hc0
    refine wpList_append_own_none hgd s x t ho base e i size E.und hi v n xs hs hown hx ?_
    have := h v w (by simpa using hown) (gr_refl _ _)
    exact this
  | some ad =>
    have hcc : ∀ j u, news[j]? = some u → w.cell? (ad.add j) = some u := by
      intro j u hj
      obtain ⟨b, off, he, hcell⟩ := hc j u hj
      cases he
      rw [Addr.add_lit]
      exact hcell
    refine wpList_append_own w hgd s x t ho base e i z size bytes E.und hi hz hz1 hz2 E.zc hpos v n xs hs hown ad m c news hx hl hcc h1 ?_ ?_ hbase (fun v' w' h2 h3 _ => h v' w' h2 h3)
    · unfold maxLen; omega
    · have := Nat.mul_le_mul hb E.le
      omega

/-! ### A slice of ints that came in -/
def ints (l : List Int) : List Value := l.map (Value.int .i64)
/-- What a walk is told of a slice of integers that came in (as the frame of a law's proof says it). -/
def IsRow (k : IntKind) (w : World) (a : Option Addr) (len cap : Nat) (zs : List Int) : Prop :=
  (a = none ∧ len = 0 ∧ cap = 0 ∧ zs = []) ∨
  ∃ x, a = some x ∧ len ≤ cap ∧ cap ≤ maxLen ∧ zs.length = cap ∧ (∀ i, i < zs.length → w.cell? (x.add i) = some (.int k (zs.getD i 0))) ∧ ∀ n ∈ zs, (Lit.int k n).wf = true
theorem row_cells {w : World} {a : Option Addr} {len cap : Nat} {zs : List Int} (h : IsRow .i64 w a len cap zs) : ∃ l : List Int, l.length = len ∧ len ≤ 9223372036854775807 ∧ CellsAt w a (ints l) := by
  rcases h with ⟨rfl, rfl, rfl, rfl⟩ | ⟨x, rfl, h1, h2, h3, h4, _⟩
  · exact ⟨[], rfl, by decide, CellsAt.nil _ _⟩
  · unfold maxLen at h2
    refine ⟨zs.take len, by simp; omega, by omega, ?_⟩
    intro j u hj
    have hjn : j < len ∧ j < zs.length := by
      have := (List.getElem?_eq_some_iff.1 hj).1
      simp [ints] at this
      omega
    have hc := h4 j hjn.2
    have e : (ints (zs.take len))[j]? = some (Value.int .i64 (zs.getD j 0)) := by simp [ints, List.getD, hjn.1, List.getElem?_eq_getElem hjn.2]
    rw [e] at hj
    cases hj
    have hc0 := h4 0 (by omega)
    cases hx : x.spot with
    | none =>
      obtain ⟨b, off, sp⟩ := x
      subst hx
      rw [Addr.add_lit] at hc
      exact ⟨b, off, rfl, hc⟩
    | some s =>
      exfalso
      have : x.add 0 = x := rfl
      rw [this] at hc0
      unfold World.cell? at hc0
      split at hc0
      · simp [hx] at hc0
      · cases hc0
end Go.Proofs.YtdminjijhpemkaaGreatDoor

/-! More small lemmas on worlds and slices: of no program. -/
namespace Go.Proofs.YtdminjijhpemkaaGreatDoor
open Go.RowKit

theorem CellsAt.new2 (w : World) (o : Obj) (c : Array Value) (t : TypeId) : CellsAt ((w.alloc o).alloc (.cells c t)) (some ⟨w.heap.size + 1, 0, none⟩) c.toList := by
  have h := CellsAt.new (w.alloc o) c t
  simpa using h
theorem CellsAt.new3 (w : World) (o o2 : Obj) (c : Array Value) (t : TypeId) : CellsAt (((w.alloc o).alloc o2).alloc (.cells c t)) (some ⟨w.heap.size + 2, 0, none⟩) c.toList := by
  have h := CellsAt.new ((w.alloc o).alloc o2) c t
  simpa using h
/-- A list of ints that is gathered one by one. -/
theorem ints_take_next (l : List Int) (k : Nat) (x : Int) (h : k < l.length) (hx : l.getD k 0 = x) : ints (l.take k) ++ [.int .i64 x] = ints (l.take (k + 1)) := by
  rw [List.take_succ_eq_append_getElem h]
  rw [List.getD_eq_getElem?_getD, List.getElem?_eq_getElem h] at hx
  simp only [Option.getD_some] at hx
  subst hx
  unfold ints
  rw [List.map_append]
  rfl
theorem one_int (x : Int) : ∀ u ∈ [Value.int .i64 x], u.oneCell' = true := by
  intro u hu
  simp only [List.mem_cons, List.not_mem_nil, or_false] at hu
  subst hu
  rfl

/-- append of one element, which was laid right ahead of it in a block of its own. -/
theorem wpList_app1 {P : Program} {w : World} {ops : Array Oper} {rest : List Oper} {o : Oper} {a : Act} {Q : Exit → Act → World → Prop} {t e size bytes : Nat} {z : Value} (E : ElemT P t e z size bytes) (hgd : o.guard = none) (s x : Operand)
    (ho : o.op = .call { callee := .builtin .append, args := #[s, x], argTypes := #[t, t] })
    (base : Nat) (v : Value) (n : Nat) (xs : List Value) (hs : a.eval s = v) (W : World) (c : Array Value) (hw : w = W.alloc (.cells c e)) (hown : W.ownsRow base e size v n xs)
    (g : Nat) (hx : a.eval x = .slice (some ⟨g, 0, none⟩) 1 1) (hg : g = W.heap.size) (hl : c.size = size) (h1 : c.toList.all (fun u => u.oneCell') = true)
    (hb : n + 1 ≤ 137438953472) (hbase : base ≤ W.heap.size)
    (h : ∀ v' w', w'.ownsRow base e size v' (n + 1) (xs ++ c.toList) → W.grownBy w' v.ownBlock → (∀ q, v.ownBlock = some q → base ≤ q) → wpList P ops Q rest (a.put o.dst v') w') : wpList P ops Q (o :: rest) a w := by
  subst hw hg
  refine wpList_app E hgd s x ho base v n xs hs (hown.alloc _) (some ⟨W.heap.size, 0, none⟩) 1 1 c.toList hx (by simpa using hl) (CellsAt.new _ _ _) (fun h => by cases h) (fun u hu => List.all_eq_true.1 h1 u hu) hb (by simp; omega) (fun v' w' h2 h3 => h v' w' h2 ?_ (fun q hq => (hown.lt q hq).1))
  exact gr_trans (gr_alloc (gr_refl _ _) _) h3

/-! The place of the first element that has a property. No program in sight. -/

def findA {α : Type} (P : α → Bool) (xs : List α) : Int := if xs.findIdx P < xs.length then (xs.findIdx P : Nat) else -1
theorem findA_at {α : Type} {P : α → Bool} {xs : List α} {k : Nat} (hk : k < xs.length) (hp : P xs[k] = true) (hno : ∀ j (hj : j < k), P (xs[j]'(by omega)) = false) : findA P xs = k := by
  have : xs.findIdx P = k := by
    rw [List.findIdx_eq hk]
    exact ⟨hp, fun j hj => hno j hj⟩
  unfold findA
  rw [this, if_pos hk]
theorem findA_none {α : Type} {P : α → Bool} {xs : List α} (hno : ∀ j (hj : j < xs.length), P xs[j] = false) : findA P xs = -1 := by
  have : ¬ xs.findIdx P < xs.length := by
    rw [List.findIdx_lt_length]
    rintro ⟨y, hy, hpy⟩
    obtain ⟨j, hj, rfl⟩ := List.getElem_of_mem hy
    rw [hno j hj] at hpy
    cases hpy
  unfold findA
  rw [if_neg this]
theorem any_findA {α : Type} (P : α → Bool) (xs : List α) : xs.any P = decide (0 ≤ findA P xs) := by
  unfold findA
  by_cases h : xs.findIdx P < xs.length
  · rw [if_pos h, List.any_eq_true.2 (List.findIdx_lt_length.1 h)]; simp
  · rw [if_neg h]
    have : xs.any P = false := by
      rw [List.any_eq_false]
      intro x hx hp
      exact h (List.findIdx_lt_length.2 ⟨x, hx, hp⟩)
    rw [this]; rfl

/-! Results of which one lies in a variable, the other in a slot: of no program. -/

theorem results_cell_slot {P : Program} {fn : Func} {p q : Tmp} {ty : TypeId} (h : fn.results = #[.cell p ty, .tmp q]) (tmps : Array Value) (w : World) (g : Nat) (t : TypeId) (cs : Array Value) (fr : Nat × Nat) (d : TypeDesc) (v : Value)
    (hp : tmps.getD p undef = .pointer (some ⟨g, 0, none⟩)) (hq : tmps.getD q undef = v) (hg : w.heap[g]? = some (.cells cs t fr))
    (hu : P.underlying ty = some d) (hd : (match d with | .struct _ | .array _ _ => true | _ => false) = true) (hi : (P.info? ty).map (·.size) = some cs.size) :
    (results fn tmps).run P w = .ok (.tuple #[.agg cs, v]) w := by
  have hp' : tmps[p]?.getD undef = .pointer (some ⟨g, 0, none⟩) := by simpa using hp
  have hq' : tmps[q]?.getD undef = v := by simpa using hq
  simp [results, h, hp', hq', asAddr, run_loadVar_row w g t ty cs fr d hg hu hd hi]
theorem set3R_heap {w : World} {g t : Nat} {a b c : Value} (h : w.heap[g]? = some (.cells #[a, b, c] t (0, 0))) (x y z : Value) : (((w.setCell ⟨g, 0, none⟩ x).setCell ⟨g, 1, none⟩ y).setCell ⟨g, 2, none⟩ z).heap[g]? = some (.cells #[x, y, z] t (0, 0)) := by
  have h1 := heap_setCell_same w g 0 _ t x h
  have h2 := heap_setCell_same _ g 1 _ t y h1
  exact heap_setCell_same _ g 2 _ t z h2
theorem set3R_gr (w : World) (g : Nat) (x y z : Value) : w.grownBy (((w.setCell ⟨g, 0, none⟩ x).setCell ⟨g, 1, none⟩ y).setCell ⟨g, 2, none⟩ z) (some g) :=
  gr_set (q := ⟨g, 2, none⟩) (gr_set (q := ⟨g, 1, none⟩) (gr_set (q := ⟨g, 0, none⟩) (gr_refl w (some g)) rfl _) rfl _) rfl _
end Go.Proofs.YtdminjijhpemkaaGreatDoor

/-! Slices of structs: what they read, of whatever struct. -/
namespace Go.Proofs.YtdminjijhpemkaaGreatDoor
open Go.RowKit

def flat {α : Type} (enc : α → List Value) (l : List α) : List Value := l.flatMap enc
section
variable {α : Type} {enc : α → List Value} {m : Nat}
theorem flat_length (hm : ∀ a, (enc a).length = m) (l : List α) : (flat enc l).length = l.length * m := by
  induction l with
  | nil => simp [flat]
  | cons a l ih =>
    simp only [flat, List.flatMap_cons, List.length_append, List.length_cons] at *
    rw [ih, hm, Nat.add_mul]; omega
theorem flat_append (l k : List α) : flat enc (l ++ k) = flat enc l ++ flat enc k := by simp [flat]
theorem flat_one (a : α) : flat enc [a] = enc a := by simp [flat]
theorem flat_get (hm : ∀ a, (enc a).length = m) (l : List α) (i : Nat) (h : i < l.length) (j : Nat) (hj : j < m) : (flat enc l)[i * m + j]? = (enc l[i])[j]? := by
  induction l generalizing i with
  | nil => simp at h
  | cons a l ih =>
    have ha := hm a
    cases i with
    | zero =>
      simp only [flat, List.flatMap_cons, Nat.zero_mul, Nat.zero_add, List.getElem_cons_zero]
      rw [List.getElem?_append_left (by omega)]
    | succ i =>
      have h1 := ih i (by simpa using h)
      simp only [flat, List.flatMap_cons, List.getElem_cons_succ] at *
      rw [List.getElem?_append_right (by rw [ha, Nat.add_mul]; omega), ha, ← h1]
      congr 1
      rw [Nat.add_mul]; omega
theorem flat_ones (h1 : ∀ a, (enc a).all (fun u => u.oneCell') = true) (l : List α) : ∀ u ∈ flat enc l, u.oneCell' = true := by
  intro u hu
  simp only [flat, List.mem_flatMap] at hu
  obtain ⟨s, _, hs⟩ := hu
  exact List.all_eq_true.1 (h1 s) u hs
/-- The cells of a slice of structs: from one element that is there, of all. -/
theorem flat_cells (hm : ∀ a, (enc a).length = m) (h0 : 0 < m) {w : World} {a : Option Addr} {l : List α} (hc : CellsAt w a (flat enc l)) (h : 0 < l.length) :
    ∃ b off, a = some ⟨b, off, none⟩ ∧ ∀ (i : Nat) (hi : i < l.length) (j : Nat) (v : Value), (enc l[i])[j]? = some v → w.cell? ⟨b, off + i * m + j, none⟩ = some v := by
  have hlen := flat_length hm l
  have hpos : 0 < (flat enc l).length := by rw [hlen]; exact Nat.mul_pos h h0
  obtain ⟨b, off, rfl, _⟩ := hc 0 _ (List.getElem?_eq_getElem hpos)
  refine ⟨b, off, rfl, fun i hi j v hv => ?_⟩
  have hj : j < m := by
    have := (List.getElem?_eq_some_iff.1 hv).1
    rw [hm] at this
    exact this
  obtain ⟨b1, o1, e1, c1⟩ := hc (i * m + j) v (by rw [flat_get hm l i hi j hj]; exact hv)
  cases e1
  rw [Nat.add_assoc]
  exact c1
theorem flat_set (hm : ∀ a, (enc a).length = m) (l : List α) (i : Nat) (h : i < l.length) (j : Nat) (hj : j < m) (v : Value) (x : α) (hx : (enc l[i]).set j v = enc x) : (flat enc l).set (i * m + j) v = flat enc (l.set i x) := by
  induction l generalizing i with
  | nil => simp at h
  | cons a l ih =>
    have ha := hm a
    cases i with
    | zero =>
      simp only [flat, List.flatMap_cons, Nat.zero_mul, Nat.zero_add, List.set_cons_zero, List.getElem_cons_zero] at *
      rw [List.set_append_left _ _ (by omega), hx]
    | succ i =>
      have h1 := ih i (by simpa using h) (by simpa using hx)
      simp only [flat, List.flatMap_cons, List.set_cons_succ] at *
      rw [List.set_append_right _ _ (by rw [ha, Nat.add_mul]; omega), ha, ← h1]
      congr 2
      rw [Nat.add_mul]; omega
end
theorem take_next {α : Type} (l : List α) (k : Nat) (h : k < l.length) : l.take (k + 1) = l.take k ++ [l[k]] := List.take_succ_eq_append_getElem h
theorem getD_eq {α : Type} (l : List α) (k : Nat) (d : α) (h : k < l.length) : l.getD k d = l[k] := by
  rw [List.getD_eq_getElem?_getD, List.getElem?_eq_getElem h]; rfl
end Go.Proofs.YtdminjijhpemkaaGreatDoor

/-! Sorting by insertion: what a swap does, what stands at the end. No program in sight. -/
namespace Go.Proofs.YtdminjijhpemkaaGreatDoor
open Go.RowKit

structure CmpOk {α : Type} (cm : α → α → Int) : Prop where
  asym : ∀ a b, cm a b < 0 → ¬ cm b a < 0
  trans : ∀ a b c, ¬ cm b a < 0 → ¬ cm c b < 0 → ¬ cm c a < 0
def SrtBut {α : Type} (cm : α → α → Int) (d : α) (O : List α) (k j : Nat) : Prop := ∀ p q, p < q → q ≤ k → q ≠ j → ¬ cm (O.getD q d) (O.getD p d) < 0
def Srt {α : Type} (cm : α → α → Int) (d : α) (O : List α) (k : Nat) : Prop := ∀ p q, p < q → q < k → ¬ cm (O.getD q d) (O.getD p d) < 0
section
variable {α : Type} {cm : α → α → Int} {d : α} {O : List α}
theorem srt_one : Srt cm d O 1 := fun p q h1 h2 => by omega
theorem srt_start {k : Nat} (h : Srt cm d O k) : SrtBut cm d O k k := fun p q h1 h2 h3 => h p q h1 (by omega)
theorem srt_zero {k : Nat} (h : SrtBut cm d O k 0) : Srt cm d O (k + 1) := fun p q h1 h2 => h p q h1 (by omega) (by omega)
theorem srt_stop {k i : Nat} (hc : CmpOk cm) (h : SrtBut cm d O k (i + 1)) (hn : ¬ cm (O.getD (i + 1) d) (O.getD i d) < 0) : Srt cm d O (k + 1) := by
  intro p q h1 h2
  by_cases e : q = i + 1
  · subst e
    by_cases e2 : p = i
    · subst e2; exact hn
    · by_cases hik : i ≤ k
      · exact hc.trans _ _ _ (h p i (by omega) hik (by omega)) hn
      · omega
  · exact h p q h1 (by omega) e
def swapAt (d : α) (O : List α) (i : Nat) : List α := (O.set (i + 1) (O.getD i d)).set i (O.getD (i + 1) d)
theorem swapAt_len (i : Nat) : (swapAt d O i).length = O.length := by simp [swapAt]
theorem swapAt_get (i : Nat) (hi : i + 1 < O.length) (p : Nat) : (swapAt d O i).getD p d = if p = i then O.getD (i + 1) d else if p = i + 1 then O.getD i d else O.getD p d := by
  unfold swapAt
  rw [List.getD_eq_getElem?_getD]
  by_cases e : p = i
  · subst e
    rw [if_pos rfl, List.getElem?_set_self (by simp; omega)]
    rfl
  · rw [if_neg e, List.getElem?_set_ne (fun e' => e e'.symm)]
    by_cases e2 : p = i + 1
    · subst e2
      rw [if_pos rfl, List.getElem?_set_self (by omega)]
      rfl
    · rw [if_neg e2, List.getElem?_set_ne (fun e' => e2 e'.symm), ← List.getD_eq_getElem?_getD]
theorem srt_swap {k i : Nat} (hc : CmpOk cm) (hi : i + 1 < O.length) (hk : i + 1 ≤ k) (h : SrtBut cm d O k (i + 1)) (hn : cm (O.getD (i + 1) d) (O.getD i d) < 0) : SrtBut cm d (swapAt d O i) k i := by
  intro p q h1 h2 h3
  rw [swapAt_get i hi, swapAt_get i hi]
  rw [if_neg h3]
  by_cases e : q = i + 1
  · subst e
    rw [if_pos rfl]
    by_cases e2 : p = i
    · subst e2
      rw [if_pos rfl]
      exact hc.asym _ _ hn
    · rw [if_neg e2, if_neg (by omega)]
      exact h p i (by omega) (by omega) (by omega)
  · rw [if_neg e]
    by_cases e2 : p = i
    · subst e2
      rw [if_pos rfl]
      exact h (p + 1) q (by omega) h2 e
    · rw [if_neg e2]
      by_cases e3 : p = i + 1
      · subst e3
        rw [if_pos rfl]
        exact h i q (by omega) h2 e
      · rw [if_neg e3]
        exact h p q h1 h2 e
theorem swapAt_perm (i : Nat) (hi : i + 1 < O.length) : (swapAt d O i).Perm O := by
  induction O generalizing i with
  | nil => simp at hi
  | cons a O ih =>
    cases i with
    | zero =>
      cases O with
      | nil => simp at hi
      | cons b O => simpa [swapAt] using List.Perm.swap a b O
    | succ i =>
      have := ih i (by simpa using hi)
      simpa [swapAt] using this
end
theorem flat_set2 {α : Type} {enc : α → List Value} (hm : ∀ a, (enc a).length = 2) (l : List α) (i : Nat) (h : i < l.length) (v0 v1 : Value) (x : α) (hx : enc x = [v0, v1]) : ((flat enc l).set (i * 2) v0).set (i * 2 + 1) v1 = flat enc (l.set i x) := by
  induction l generalizing i with
  | nil => simp at h
  | cons a l ih =>
    have ha := hm a
    cases i with
    | zero =>
      obtain ⟨u0, u1, e⟩ : ∃ u0 u1, enc a = [u0, u1] := by
        match h' : enc a, ha with
        | [u0, u1], _ => exact ⟨u0, u1, rfl⟩
      simp [flat, e, hx]
    | succ i =>
      have h1 := ih i (by simpa using h)
      simp only [flat, List.flatMap_cons, List.set_cons_succ] at *
      rw [List.set_append_right _ _ (by rw [ha, Nat.add_mul]; omega), List.set_append_right _ _ (by rw [ha, Nat.add_mul]; omega), ha, ← h1]
      congr 2
      · congr 1; rw [Nat.add_mul]; omega
      · rw [Nat.add_mul]; omega
end Go.Proofs.YtdminjijhpemkaaGreatDoor

/-! A cell of a row of structs is written. Of no program. -/
namespace Go.Proofs.YtdminjijhpemkaaGreatDoor
open Go.RowKit

/-- A cell of an element of an owned row: what it holds, that it may be written, and the row behind that. -/
theorem own_cellE {α : Type} {enc : α → List Value} {m : Nat} (hm : ∀ a, (enc a).length = m) {w : World} {base e n cap g : Nat} {l : List α} (h : w.ownsRow base e m (.slice (some ⟨g, 0, none⟩) n cap) n (flat enc l)) (k : Nat) (hk : k < l.length) (j : Nat) (hj : j < m) (v : Value) (hv : (enc l[k])[j]? = some v) (hn : l.length = n) :
    w.cell? ⟨g, k * m + j, none⟩ = some v ∧ w.frozen? ⟨g, k * m + j, none⟩ = false ∧ ∀ u x, (enc l[k]).set j u = enc x → (w.setCell ⟨g, k * m + j, none⟩ u).ownsRow base e m (.slice (some ⟨g, 0, none⟩) n cap) n (flat enc (l.set k x)) := by
  have hlt : k * m + j < n * m := by
    have : (k + 1) * m ≤ n * m := Nat.mul_le_mul_right m (by omega)
    rw [Nat.add_mul] at this
    omega
  refine ⟨by rw [h.cellAt (k * m + j) hlt, flat_get hm _ k hk j hj]; exact hv, h.frozenAt _, fun u x hx => ?_⟩
  rw [← flat_set hm l k hk j hj u x hx]
  exact (h.stored _ _).1
end Go.Proofs.YtdminjijhpemkaaGreatDoor

/-! A region that draws its order, whose own operations only read and whose calls may make memory: one walk in the text's order. Of no program. -/
namespace Go.Proofs.YtdminjijhpemkaaGreatDoor
open Go.RowKit

/-- The worlds that have grown out of one. -/
def Grew (w0 : World) : Type := { w : World // w0.grownBy w none }
def Grew.w {w0 : World} (n : Grew w0) : World := n.1
theorem Grew.gr {w0 : World} (n : Grew w0) : w0.grownBy n.w none := n.2
instance Grew.some (w0 : World) : Nonempty (Grew w0) := ⟨⟨w0, gr_refl w0 none⟩⟩
theorem grew_cell {w0 : World} {b o : Nat} {v : Value} (h : w0.cell? ⟨b, o, none⟩ = some v) : ∀ n : Grew w0, n.w.cell? ⟨b, o, none⟩ = some v := fun n => (gr_cell n.gr (lt_of_cell h)).trans h
theorem wp_region_grew {P : Program} {id : Nat} {Q : Exit → Act → World → Prop} {a : Act} {w : World} {l : List Oper} (hm : P.follows .mixedOrders = true) (hB : Region.lexB .any l.toArray = true)
    (h : wpQuiet P l.toArray (fun w' => ∃ n : Grew w, w' = n.w) (fun a' => ∀ w', (∃ n : Grew w, w' = n.w) → Q .normal a' w') l a) : (Code.region id l.toArray true).wp P Q a w :=
  wp_region_quiet (C := fun w' => ∃ n : Grew w, w' = n.w) hm hB ⟨⟨w.drew, gr_drew (gr_refl w none)⟩, rfl⟩ (by simpa using h)
theorem Calls.grew_of {P : Program} {f : FuncId} {args : Array Value} {w0 : World} {n : Grew w0} {v : Value} (h : ∀ W, w0.grownBy W none → Calls P f args W fun e w' => e = .returned v ∧ W.grownBy w' none) :
    Calls P f args n.w fun e w'' => e = .returned v ∧ ∃ m : Grew w0, w'' = m.w :=
  (h n.w n.gr).mono fun _ w' hh => ⟨hh.1, ⟨⟨w', gr_trans n.gr hh.2⟩, rfl⟩⟩
end Go.Proofs.YtdminjijhpemkaaGreatDoor

/-! Rounding of a quotient to the nearest number; commissions by tiers: no program in sight. -/
namespace Go.Proofs.YtdminjijhpemkaaGreatDoor
open Go.RowKit

def evenM (num den : Int) : Int := if den < 2 * (num - num / den * den) ∨ (2 * (num - num / den * den) = den ∧ ¬ num / den % 2 = 0) then num / den + 1 else num / den
theorem evenM_mono {num num' den : Int} (h : num ≤ num') (hd : 0 < den) : evenM num den ≤ evenM num' den := by
  have hq := Int.ediv_le_ediv hd h
  unfold evenM
  by_cases e : num / den = num' / den
  · rw [← e]
    generalize num / den * den = p
    generalize num / den = q
    split <;> split <;> omega
  · generalize num / den * den = p
    generalize num' / den * den = p'
    generalize num / den = q at *
    generalize num' / den = q' at *
    split <;> split <;> omega
theorem evenM_exact (g d : Int) (hd : 0 < d) : evenM (g * d) d = g := by
  have e : g * d / d = g := Int.mul_ediv_cancel g (by omega)
  unfold evenM
  rw [e, if_neg]
  omega
structure Tier where
  from_ : Int
  rate : Int
def tierTo (l : List Tier) (sales : Int) (i : Nat) : Int := if h : i + 1 < l.length then min sales l[i + 1].from_ else sales
def tierTerm (l : List Tier) (sales : Int) (i : Nat) : Int := if h : i < l.length then max 0 (tierTo l sales i - l[i].from_) * l[i].rate else 0
def tierSum (l : List Tier) (sales : Int) : Nat → Int
  | 0 => 0
  | k + 1 => tierSum l sales k + tierTerm l sales k
structure TiersOk (l : List Tier) : Prop where
  pos : 0 < l.length
  len : l.length ≤ 20
  zero : ∀ (h : 0 < l.length), l[0].from_ = 0
  lo : ∀ i (h : i < l.length), 0 ≤ l[i].from_ ∧ l[i].from_ ≤ 1000000000
  up : ∀ i (h : i < l.length) (h0 : 0 < i), (l[i - 1]'(by omega)).from_ < l[i].from_
  rate : ∀ i (h : i < l.length), 0 ≤ l[i].rate ∧ l[i].rate ≤ 10000
theorem tierTerm_mono {l : List Tier} (hr : ∀ i (h : i < l.length), 0 ≤ l[i].rate ∧ l[i].rate ≤ 10000) {s s' : Int} (h : s ≤ s') (i : Nat) : tierTerm l s i ≤ tierTerm l s' i := by
  unfold tierTerm
  split
  · rename_i hi
    have hto : tierTo l s i ≤ tierTo l s' i := by
      unfold tierTo
      split
      · omega
      · exact h
    exact Int.mul_le_mul_of_nonneg_right (by omega) (hr i hi).1
  · exact Int.le_refl _
theorem tierSum_mono {l : List Tier} (hr : ∀ i (h : i < l.length), 0 ≤ l[i].rate ∧ l[i].rate ≤ 10000) {s s' : Int} (h : s ≤ s') (k : Nat) : tierSum l s k ≤ tierSum l s' k := by
  induction k with
  | zero => exact Int.le_refl _
  | succ k ih =>
    have := tierTerm_mono hr h k
    simp only [tierSum]
    omega
theorem tierTerm_bd {l : List Tier} (hl : ∀ i (h : i < l.length), 0 ≤ l[i].from_ ∧ l[i].from_ ≤ 1000000000) (hr : ∀ i (h : i < l.length), 0 ≤ l[i].rate ∧ l[i].rate ≤ 10000) {s : Int} (h0 : 0 ≤ s) (h1 : s ≤ 1000000000) (i : Nat) : 0 ≤ tierTerm l s i ∧ tierTerm l s i ≤ 10000000000000 := by
  unfold tierTerm
  split
  · rename_i hi
    have hto : tierTo l s i ≤ 1000000000 := by
      unfold tierTo
      split
      · omega
      · exact h1
    have a := hl i hi
    have b := hr i hi
    generalize hx : max 0 (tierTo l s i - l[i].from_) = x
    have x0 : 0 ≤ x := by omega
    have x1 : x ≤ 1000000000 := by omega
    refine ⟨Int.mul_nonneg x0 b.1, ?_⟩
    exact Int.mul_le_mul x1 b.2 b.1 (by omega)
  · omega
theorem tierSum_bd {l : List Tier} (hl : ∀ i (h : i < l.length), 0 ≤ l[i].from_ ∧ l[i].from_ ≤ 1000000000) (hr : ∀ i (h : i < l.length), 0 ≤ l[i].rate ∧ l[i].rate ≤ 10000) {s : Int} (h0 : 0 ≤ s) (h1 : s ≤ 1000000000) (k : Nat) : 0 ≤ tierSum l s k ∧ tierSum l s k ≤ 10000000000000 * k := by
  induction k with
  | zero => simp [tierSum]
  | succ k ih =>
    have := tierTerm_bd hl hr h0 h1 k
    simp only [tierSum]
    omega
end Go.Proofs.YtdminjijhpemkaaGreatDoor

/-! What a function says that looks for a fault. -/
namespace Go.Proofs.YtdminjijhpemkaaGreatDoor
open Go.RowKit

/-- What a function says that looks for a fault: 0 just if all is right. -/
def FaultPost (ok : Prop) (w : World) (e : Ending) (w' : World) : Prop := ∃ r : Int, e = .returned (.int .i64 r) ∧ (r = 0 ↔ ok) ∧ w.grownBy w' none
theorem fault_bad {ok : Prop} {w w' : World} (r : Int) (hr : r ≠ 0) (h : ¬ ok) (g : w.grownBy w' none) : FaultPost ok w (.returned (.int .i64 r)) w' := ⟨r, rfl, ⟨fun e => absurd e hr, fun o => absurd o h⟩, g⟩
theorem fault_good {ok : Prop} {w w' : World} (h : ok) (g : w.grownBy w' none) : FaultPost ok w (.returned (.int .i64 0)) w' := ⟨0, rfl, ⟨fun _ => h, fun _ => rfl⟩, g⟩

end Go.Proofs.YtdminjijhpemkaaGreatDoor
