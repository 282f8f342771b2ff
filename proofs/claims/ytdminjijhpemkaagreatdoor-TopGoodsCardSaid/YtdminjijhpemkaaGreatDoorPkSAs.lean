/- Maps from strings to ints that the call itself makes: what they hold, as a function. -/
import Derived.Test.YtdminjijhpemkaaGreatDoorPkSAa
import Derived.Test.YtdminjijhpemkaaGreatDoorChecked
import Derived.Maps.RangeWalk
import Derived.Maps.OwnOps
import Derived.Maps.Ext
import Derived.Carry
namespace Go.Proofs.YtdminjijhpemkaaGreatDoor
open Go.RowKit
open Go.Maps (Keyed)

abbrev MD := DataW Unit
def skey (s : ByteArray) : Lit := .string s.data.toList
theorem keyedS : Keyed Tryz.prog 9 := Maps.string_keyed Tryz.underlying9
theorem keyOfS (s : ByteArray) (h : s.size ≤ 1000000) : keyOf Tryz.prog 9 (.string s) = some (skey s) := Go.WideMaps.keyOf_string_mk Tryz.underlying9 (by unfold maxLen; omega)
theorem isKeyS (s : ByteArray) (h : s.size ≤ 1000000) : WideAt.IsKeyLit (skey s) := keyedS.key (keyOfS s h)
theorem skey_inj {a b : ByteArray} (h : skey a = skey b) : a = b := by
  unfold skey at h
  injection h with h
  cases a; cases b
  simp at h
  rw [h]
theorem wf64 (y : Int) (h1 : -1000000000000 ≤ y) (h2 : y ≤ 1000000000000) : (Lit.int .i64 y).wf = true := by
  have a : IntKind.i64.min ≤ -1000000000000 := by decide
  have b : 1000000000000 ≤ IntKind.i64.max := by decide
  simp only [Lit.wf, Bool.and_eq_true, decide_eq_true_eq]
  omega
/-- What a map holds: at each key a number, or nothing. -/
structure ViewOf (D : MD) (f : ByteArray → Option Int) : Prop where
  map : Maps.IsMap D
  has : ∀ s : ByteArray, Maps.has D (skey s) = (f s).isSome
  val : ∀ (s : ByteArray) (x : Int), f s = some x → ∀ z, D.atKey (skey s) z = .lit (.int .i64 x)
  only : ∀ kl, Maps.has D kl = true → ∃ s : ByteArray, kl = skey s
def MapIs (w : World) (b n : Nat) (f : ByteArray → Option Int) : Prop := ∃ D : MD, w.ownsMap Tryz.prog 9 (plainElem Tryz.prog 3) b n D ∧ ViewOf D f
theorem ViewOf.empty : ViewOf (.map []) (fun _ => none) := ⟨⟨[], rfl⟩, fun _ => rfl, (fun _ _ h => by cases h), (fun _ h => by cases h)⟩
theorem ViewOf.put {D : MD} {f : ByteArray → Option Int} (h : ViewOf D f) (s : ByteArray) (hs : s.size ≤ 1000000) (x : Int) : ViewOf (D.put (skey s) (.lit (.int .i64 x))) (fun t => if t = s then some x else f t) := by
  refine ⟨h.map.put _ _, fun t => ?_, fun t y hy z => ?_, fun kl hk => ?_⟩
  · by_cases e : t = s
    · subst e
      rw [if_pos rfl, Maps.has_put_same h.map (isKeyS t hs)]
      rfl
    · rw [if_neg e, Maps.has_put_other (fun e' => e (skey_inj e'))]
      exact h.has t
  · by_cases e : t = s
    · subst e
      rw [if_pos rfl] at hy
      cases hy
      exact Maps.atKey_put_same h.map (isKeyS t hs) _ _
    · rw [if_neg e] at hy
      rw [Maps.atKey_put_other (fun e' => e (skey_inj e'))]
      exact h.val t y hy z
  · by_cases e : kl = skey s
    · exact ⟨s, e⟩
    · rw [Maps.has_put_other e] at hk
      exact h.only kl hk
theorem ViewOf.get {D : MD} {f : ByteArray → Option Int} (h : ViewOf D f) (s : ByteArray) {c : Int} (hc : D.atKey (skey s) (.lit (.int .i64 0)) = .lit (.int .i64 c)) : c = (f s).getD 0 := by
  cases hf : f s with
  | none =>
    have := h.has s
    rw [hf] at this
    rw [Maps.atKey_of_not_has this] at hc
    injection hc with hc
    injection hc with _ hc
    exact hc.symm
  | some x =>
    rw [h.val s x hf] at hc
    injection hc with hc
    injection hc with _ hc
    exact hc.symm
theorem ViewOf.of {D : MD} {f : ByteArray → Option Int} (h : ViewOf D f) (s : ByteArray) {c : Int} (hc : ∀ z, D.atKey (skey s) z = .lit (.int .i64 c)) : f s = some c := by
  have hh : Maps.has D (skey s) = true := Maps.has_true_of_atKey hc
  rw [h.has s] at hh
  obtain ⟨x, hx⟩ := Option.isSome_iff_exists.1 hh
  have h2 := h.val s x hx (.lit (.int .i64 0))
  rw [hc] at h2
  injection h2 with h2
  injection h2 with _ h2
  rw [hx, h2]
/-- Two maps that hold the same are as large as each other. -/
theorem ViewOf.size_eq {D E : MD} {f : ByteArray → Option Int} (h : ViewOf D f) (g : ViewOf E f) (cD : Maps.Canon D) (cE : Maps.Canon E) : D = E := by
  refine Maps.ext cD cE (fun k => ?_) (fun k z hk => ?_)
  · cases h1 : Maps.has D k with
    | true =>
      obtain ⟨s, rfl⟩ := h.only k h1
      rw [h.has s] at h1
      rw [g.has s, h1]
    | false =>
      cases h2 : Maps.has E k with
      | false => rfl
      | true =>
        obtain ⟨s, rfl⟩ := g.only k h2
        rw [g.has s] at h2
        rw [h.has s, h2] at h1
        cases h1
  · obtain ⟨s, rfl⟩ := h.only k hk
    rw [h.has s] at hk
    obtain ⟨x, hx⟩ := Option.isSome_iff_exists.1 hk
    rw [h.val s x hx, g.val s x hx]
theorem MapIs.made (w : World) : MapIs (w.alloc (.map #[] 0)) w.heap.size 0 (fun _ => none) := ⟨_, World.ownsMap_made _ _ _ _, ViewOf.empty⟩
theorem MapIs.keep {w w1 : World} {b n : Nat} {f : ByteArray → Option Int} {r : Option Nat} (h : MapIs w b n f) (g : w.grownBy w1 r) (hr : some b ≠ r) : MapIs w1 b n f := by
  obtain ⟨D, h1, h2⟩ := h
  exact ⟨D, h1.kept g hr, h2⟩
theorem MapIs.keep0 {w w1 : World} {b n : Nat} {f : ByteArray → Option Int} (h : MapIs w b n f) (g : w.grownBy w1 none) : MapIs w1 b n f := h.keep g (by simp)
theorem MapIs.lt {w : World} {b n : Nat} {f : ByteArray → Option Int} (h : MapIs w b n f) : b < w.heap.size := by
  obtain ⟨D, h1, _⟩ := h
  exact h1.lt
theorem MapIs.ext {w : World} {b n : Nat} {f g : ByteArray → Option Int} (h : MapIs w b n f) (e : ∀ s, f s = g s) : MapIs w b n g := by
  have : f = g := funext e
  rw [← this]; exact h
/-- How many keys such a map has. -/
def SizeOf (f : ByteArray → Option Int) (k : Nat) : Prop := ∃ D : MD, Maps.Canon D ∧ ViewOf D f ∧ Maps.size D = k
theorem SizeOf.one {f : ByteArray → Option Int} {k k' : Nat} (h : SizeOf f k) (g : SizeOf f k') : k = k' := by
  obtain ⟨D, h1, h2, rfl⟩ := h
  obtain ⟨E, g1, g2, rfl⟩ := g
  rw [h2.size_eq g2 h1 g1]
def RangeIs (w : World) (b r n : Nat) (f : ByteArray → Option Int) (left : Lit → Bool) (cnt : Nat) : Prop := ∃ D : MD, w.ranges Tryz.prog 9 (plainElem Tryz.prog 3) b r n D left cnt ∧ ViewOf D f
theorem MapIs.run_get {w : World} {b n : Nat} {f : ByteArray → Option Int} (h : MapIs w b n f) (s : ByteArray) (hs : s.size ≤ 1000000) : (Instr.lookup 37 (.map (some b)) (.string s) false).run Tryz.prog w = .ok (.int .i64 ((f s).getD 0)) w := by
  obtain ⟨D, h1, h2⟩ := h
  obtain ⟨c, hrun, hat, _⟩ := h1.lookup_int keyedS Tryz.underlying37 Tryz.underlying3 (by kernel_rfl) (keyOfS s hs)
  rw [hrun, h2.get s hat]
theorem MapIs.run_put {w : World} {b n : Nat} {f : ByteArray → Option Int} (h : MapIs w b n f) (hn : n ≤ 1000000) (s : ByteArray) (hs : s.size ≤ 1000000) (y : Int) (hy : -1000000000000 ≤ y ∧ y ≤ 1000000000000) : ∃ w', (Instr.mapUpdate 37 (.map (some b)) (.string s) (.int .i64 y)).run Tryz.prog w = .ok () w' ∧ MapIs w' b (n + 1) (fun t => if t = s then some y else f t) ∧ w.grownBy w' (some b) := by
  obtain ⟨D, h1, h2⟩ := h
  obtain ⟨w', hrun, hown, hg⟩ := h1.update keyedS Tryz.underlying37 (by unfold maxLen; omega) (keyOfS s hs) (plainElem_int Tryz.underlying3 (wf64 y hy.1 hy.2))
  exact ⟨w', hrun, ⟨_, hown, h2.put s hs y⟩, hg⟩
section
variable {w : World} {ops : Array Oper} {rest : List Oper} {o : Oper} {a : Act} {Q : Exit → Act → World → Prop}
theorem wpList_getSI (hg : o.guard = none) (m x : Operand) (hop : o.op = Op.lookup 37 m x false) (b n : Nat) (f : ByteArray → Option Int) (hm : a.eval m = .map (some b)) (h : MapIs w b n f) (s : ByteArray) (hx : a.eval x = .string s) (hs : s.size ≤ 1000000)
    (hK : wpList Tryz.prog ops Q rest (a.put o.dst (.int .i64 ((f s).getD 0))) w) : wpList Tryz.prog ops Q (o :: rest) a w := by
  obtain ⟨D, h1, h2⟩ := h
  refine wpList_lookup_own_int _ hg _ _ 37 hop 9 3 .i64 keyedS Tryz.underlying37 Tryz.underlying3 (by kernel_rfl) b n D hm h1 _ (skey s) hx (keyOfS s hs) ?_
  intro c hc _
  rw [h2.get s hc]
  exact hK
theorem wpList_putSI (hg : o.guard = none) (m x v : Operand) (hop : o.op = Op.mapUpdate 37 m x v) (b n : Nat) (f : ByteArray → Option Int) (hm : a.eval m = .map (some b)) (h : MapIs w b n f) (hn : n ≤ 1000000) (s : ByteArray) (hx : a.eval x = .string s) (hs : s.size ≤ 1000000) (y : Int) (hv : a.eval v = .int .i64 y) (hy : -1000000000000 ≤ y ∧ y ≤ 1000000000000)
    (hK : ∀ w', MapIs w' b (n + 1) (fun t => if t = s then some y else f t) → w.grownBy w' (some b) → wpList Tryz.prog ops Q rest (a.put o.dst undef) w') : wpList Tryz.prog ops Q (o :: rest) a w := by
  obtain ⟨D, h1, h2⟩ := h
  refine wpList_mapUpdate_own _ hg _ _ _ 37 hop 9 3 keyedS Tryz.underlying37 _ b n D hm h1 (by unfold maxLen; omega) _ _ (skey s) hx hv (keyOfS s hs) (.lit (.int .i64 y)) [] (plainElem_int Tryz.underlying3 (wf64 y hy.1 hy.2)) ?_
  intro w1 hown hg1
  exact hK w1 ⟨_, hown, h2.put s hs y⟩ hg1
theorem wpList_lenSI (hg : o.guard = none) (m : Operand) (hop : o.op = Op.call { callee := Callee.builtin Builtin.len, args := #[m], argTypes := #[37] }) (b n : Nat) (f : ByteArray → Option Int) (hm : a.eval m = .map (some b)) (h : MapIs w b n f)
    (hK : ∀ k : Nat, SizeOf f k → wpList Tryz.prog ops Q rest (a.put o.dst (.int .i64 k)) w) : wpList Tryz.prog ops Q (o :: rest) a w := by
  obtain ⟨D, h1, h2⟩ := h
  exact wpList_len_own _ hg _ 37 hop 9 3 Tryz.underlying37 _ b n D hm h1 (hK _ ⟨D, h1.canon keyedS, h2, rfl⟩)
/-- A range over such a map: which keys are still to come. -/
theorem wpList_rangeSI (hg : o.guard = none) (m : Operand) (hop : o.op = Op.range 37 m) (b n : Nat) (f : ByteArray → Option Int) (hm : a.eval m = .map (some b)) (h : MapIs w b n f)
    (hK : ∀ w' left cnt, RangeIs w' b w.heap.size n f left cnt → (∀ s, left (skey s) = (f s).isSome) → w.grownBy w' none → w'.heap.size = w.heap.size + 1 → wpList Tryz.prog ops Q rest (a.put o.dst (.pointer (some ⟨w.heap.size, 0, none⟩))) w') : wpList Tryz.prog ops Q (o :: rest) a w := by
  obtain ⟨D, h1, h2⟩ := h
  refine wpList_range_own _ hg _ 37 hop 9 3 keyedS Tryz.underlying37 _ b n D hm h1 ?_
  intro w' hr hg1 hs1
  exact hK w' _ _ ⟨D, hr, h2⟩ h2.has hg1 hs1
theorem wpList_nextSI (hg : o.guard = none) (it : Operand) (hop : o.op = Op.next it false) (b r n : Nat) (f : ByteArray → Option Int) (left : Lit → Bool) (cnt : Nat) (hit : a.eval it = .pointer (some ⟨r, 0, none⟩)) (h : RangeIs w b r n f left cnt)
    (hDone : (∀ kl, left kl = false) → wpList Tryz.prog ops Q rest (a.put o.dst (.tuple #[.bool false])) w)
    (hMore : ∀ (s : ByteArray) (x : Int) (w' : World) (cnt' : Nat), f s = some x → left (skey s) = true → RangeIs w' b r n f (fun z => left z && !z.sameKey (skey s)) cnt' → cnt' < cnt → w.grownBy w' (some r) → w'.heap.size = w.heap.size →
      (Instr.entry (.pointer (some ⟨r, 0, none⟩))).run Tryz.prog w' = .ok (.tuple #[.string s, .int .i64 x]) w' → wpList Tryz.prog ops Q rest (a.put o.dst (.tuple #[.bool true, .string s, .int .i64 x])) w') : wpList Tryz.prog ops Q (o :: rest) a w := by
  obtain ⟨D, h1, h2⟩ := h
  refine wpList_next_ranges _ hg _ hop 9 keyedS (plainElem Tryz.prog 3) Value.string (Value.int .i64)
    (fun key kl hkey => by obtain ⟨s, rfl, _⟩ := Go.WideMaps.string_of_keyOf Tryz.underlying9 hkey; exact ⟨s, rfl⟩)
    (fun v y hv => by obtain ⟨c, rfl, _⟩ := plainElem_int_inv Tryz.underlying3 hv; exact ⟨c, rfl⟩) b r n D left cnt hit h1 (fun _ hl => hDone hl) ?_
  intro s c kl y w' cnt' hkey hlk hv hat hrg hlt hgr hsz hen
  obtain ⟨s', e, rfl, _⟩ := Go.WideMaps.string_of_keyOf Tryz.underlying9 hkey
  cases e
  obtain ⟨c', e, rfl, _⟩ := plainElem_int_inv Tryz.underlying3 hv
  cases e
  exact hMore s c w' cnt' (h2.of s hat) hlk ⟨D, hrg, h2⟩ hlt hgr hsz hen
end
theorem RangeIs.keep {w w1 : World} {b r n : Nat} {f : ByteArray → Option Int} {left : Lit → Bool} {cnt : Nat} {row : Option Nat} (h : RangeIs w b r n f left cnt) (g : w.grownBy w1 row) (hb : some b ≠ row) (hr : some r ≠ row) : RangeIs w1 b r n f left cnt := by
  obtain ⟨D, h1, h2⟩ := h
  exact ⟨D, h1.kept g hb hr, h2⟩
theorem RangeIs.keep0 {w w1 : World} {b r n : Nat} {f : ByteArray → Option Int} {left : Lit → Bool} {cnt : Nat} (h : RangeIs w b r n f left cnt) (g : w.grownBy w1 none) : RangeIs w1 b r n f left cnt := h.keep g (by simp) (by simp)
theorem RangeIs.left {w : World} {b r n : Nat} {f : ByteArray → Option Int} {left : Lit → Bool} {cnt : Nat} (h : RangeIs w b r n f left cnt) : w.rangeLeft b r = cnt := by
  obtain ⟨D, h1, _⟩ := h
  exact h1.left_eq
theorem RangeIs.map {w : World} {b r n : Nat} {f : ByteArray → Option Int} {left : Lit → Bool} {cnt : Nat} (h : RangeIs w b r n f left cnt) : MapIs w b n f := by
  obtain ⟨D, h1, h2⟩ := h
  exact ⟨D, h1.owns, h2⟩
theorem RangeIs.ne {w : World} {b r n : Nat} {f : ByteArray → Option Int} {left : Lit → Bool} {cnt : Nat} (h : RangeIs w b r n f left cnt) : r ≠ b := by
  obtain ⟨D, h1, _⟩ := h
  exact h1.ne
theorem RangeIs.lt {w : World} {b r n : Nat} {f : ByteArray → Option Int} {left : Lit → Bool} {cnt : Nat} (h : RangeIs w b r n f left cnt) : r < w.heap.size := by
  obtain ⟨D, h1, _⟩ := h
  exact h1.lt
theorem RangeIs.iter {w : World} {b r n : Nat} {f : ByteArray → Option Int} {left : Lit → Bool} {cnt : Nat} (h : RangeIs w b r n f left cnt) : ∃ m a sn c, w.heap[r]? = some (.mapIter m a sn c) := by
  obtain ⟨D, ⟨es, clock, since, seen, c0, _, _, _, _, h5, _⟩, _⟩ := h
  exact ⟨_, _, _, _, h5⟩
theorem RangeIs.le {w : World} {b r n : Nat} {f : ByteArray → Option Int} {left : Lit → Bool} {cnt : Nat} (h : RangeIs w b r n f left cnt) : cnt ≤ n := by
  obtain ⟨D, ⟨es, clock, since, seen, c0, _, _, h3, _, _, _, h7, _⟩, _⟩ := h
  rw [← h7]
  refine Nat.le_trans ?_ h3
  unfold leftOf
  exact Array.size_filter_le
end Go.Proofs.YtdminjijhpemkaaGreatDoor
