/- Maps from strings to strings that the call itself makes: what they hold, as a function. -/
import Derived.Test.YtdminjijhpemkaaGreatDoorPkSAs
import Derived.Maps.OwnSet
import Derived.Maps.StringElems
namespace Go.Proofs.YtdminjijhpemkaaGreatDoor
open Go.RowKit
open Go.Maps (Keyed)

/-- What a map holds: at each key a string, or nothing. -/
structure ViewSS (D : MD) (f : ByteArray → Option ByteArray) : Prop where
  map : Maps.IsMap D
  has : ∀ s : ByteArray, Maps.has D (skey s) = (f s).isSome
  val : ∀ (s : ByteArray) (x : ByteArray), f s = some x → ∀ z, D.atKey (skey s) z = .lit (skey x)
def MapSS (w : World) (b n : Nat) (f : ByteArray → Option ByteArray) : Prop := ∃ D : MD, w.ownsMap Tryz.prog 9 (plainElem Tryz.prog 9) b n D ∧ ViewSS D f
theorem ViewSS.empty : ViewSS (.map []) (fun _ => none) := ⟨⟨[], rfl⟩, fun _ => rfl, (fun _ _ h => by cases h)⟩
theorem ViewSS.put {D : MD} {f : ByteArray → Option ByteArray} (h : ViewSS D f) (s : ByteArray) (hs : s.size ≤ 1000000) (x : ByteArray) : ViewSS (D.put (skey s) (.lit (skey x))) (fun t => if t = s then some x else f t) := by
  refine ⟨h.map.put _ _, fun t => ?_, fun t y hy z => ?_⟩
  · by_cases e : t = s
    · subst e
      rw [if_pos rfl, Maps.has_put_same h.map (isKeyS t hs)]
      rfl
    · rw [if_neg e, Maps.has_put_other (fun e' => e (skey_inj e'))]
      exact h.has t
  · by_cases e : t = s
    · subst e
      rw [if_pos rfl] at hy
      cases hy
      exact Maps.atKey_put_same h.map (isKeyS t hs) _ _
    · rw [if_neg e] at hy
      rw [Maps.atKey_put_other (fun e' => e (skey_inj e'))]
      exact h.val t y hy z
theorem ViewSS.get {D : MD} {f : ByteArray → Option ByteArray} (h : ViewSS D f) (s z c : ByteArray) (hc : D.atKey (skey s) (.lit (skey z)) = .lit (skey c)) : c = (f s).getD z := by
  cases hf : f s with
  | none =>
    have h1 := h.has s
    rw [hf] at h1
    rw [Maps.atKey_of_not_has h1] at hc
    injection hc with hc
    exact (skey_inj hc).symm
  | some x =>
    rw [h.val s x hf] at hc
    injection hc with hc
    exact (skey_inj hc).symm
theorem MapSS.made (w : World) : MapSS (w.alloc (.map #[] 0)) w.heap.size 0 (fun _ => none) := ⟨_, World.ownsMap_made _ _ _ _, ViewSS.empty⟩
theorem MapSS.keep {w w1 : World} {b n : Nat} {f : ByteArray → Option ByteArray} {r : Option Nat} (h : MapSS w b n f) (g : w.grownBy w1 r) (hr : some b ≠ r) : MapSS w1 b n f := by
  obtain ⟨D, h1, h2⟩ := h
  exact ⟨D, h1.kept g hr, h2⟩
theorem MapSS.keep0 {w w1 : World} {b n : Nat} {f : ByteArray → Option ByteArray} (h : MapSS w b n f) (g : w.grownBy w1 none) : MapSS w1 b n f := h.keep g (by simp)
section
variable {w : World} {ops : Array Oper} {rest : List Oper} {o : Oper} {a : Act} {Q : Exit → Act → World → Prop}
/-- 'm[k] = v', and an entry of a literal. -/
theorem wpList_putSS (hg : o.guard = none) (m x v : Operand) (hop : o.op = Op.mapUpdate 225 m x v) (b n : Nat) (f : ByteArray → Option ByteArray) (hm : a.eval m = .map (some b)) (h : MapSS w b n f) (hn : n ≤ 1000000) (s : ByteArray) (hx : a.eval x = .string s) (hs : s.size ≤ 1000000) (y : ByteArray) (hv : a.eval v = .string y) (hy : y.size ≤ 1000000)
    (hK : ∀ w', MapSS w' b (n + 1) (fun t => if t = s then some y else f t) → w.grownBy w' (some b) → wpList Tryz.prog ops Q rest (a.put o.dst undef) w') : wpList Tryz.prog ops Q (o :: rest) a w := by
  obtain ⟨D, h1, h2⟩ := h
  refine wpList_mapUpdate_own _ hg _ _ _ 225 hop 9 9 keyedS Tryz.underlying225 _ b n D hm h1 (by unfold maxLen; omega) _ _ (skey s) hx hv (keyOfS s hs) (.lit (skey y)) [] (plainElem_string Tryz.underlying9 (by unfold maxLen; omega)) ?_
  intro w1 hown hg1
  exact hK w1 ⟨_, hown, h2.put s hs y⟩ hg1
/-- An entry of a literal. -/
theorem wpList_insSS (hg : o.guard = none) (m x v : Operand) (hop : o.op = Op.insert 225 m x v) (b n : Nat) (f : ByteArray → Option ByteArray) (hm : a.eval m = .map (some b)) (h : MapSS w b n f) (hn : n ≤ 1000000) (s : ByteArray) (hx : a.eval x = .string s) (hs : s.size ≤ 1000000) (y : ByteArray) (hv : a.eval v = .string y) (hy : y.size ≤ 1000000)
    (hK : ∀ w', MapSS w' b (n + 1) (fun t => if t = s then some y else f t) → w.grownBy w' (some b) → wpList Tryz.prog ops Q rest (a.put o.dst undef) w') : wpList Tryz.prog ops Q (o :: rest) a w := by
  obtain ⟨D, h1, h2⟩ := h
  refine wpList_plain hg fun K' hK' => ?_
  obtain ⟨w', hrun, r1, r2⟩ := h1.update keyedS Tryz.underlying225 (by unfold maxLen; omega) (keyOfS s hs) (d := .lit (skey y)) (ps := []) (plainElem_string Tryz.underlying9 (by unfold maxLen; omega))
  unfold Oper.wp
  simp [execOp, hop, hm, hx, hv, hrun, Result.andThen]
  exact hK' _ _ (hK w' ⟨_, r1, h2.put s hs y⟩ r2)
/-- 'v, ok := m[k]'. -/
theorem wpList_lookSS (hg : o.guard = none) (m x : Operand) (hop : o.op = Op.lookup 225 m x true) (b n : Nat) (f : ByteArray → Option ByteArray) (hm : a.eval m = .map (some b)) (h : MapSS w b n f) (s : ByteArray) (hx : a.eval x = .string s) (hs : s.size ≤ 1000000)
    (hK : wpList Tryz.prog ops Q rest (a.put o.dst (.tuple #[.string ((f s).getD ⟨#[]⟩), .bool (f s).isSome])) w) : wpList Tryz.prog ops Q (o :: rest) a w := by
  obtain ⟨D, h1, h2⟩ := h
  refine wpList_lookup_own_ok w hg m x 225 hop 9 9 keyedS Tryz.underlying225 (plainElem Tryz.prog 9) (z := .string ⟨#[]⟩) (by kernel_rfl) (.lit (skey ⟨#[]⟩)) [] (plainElem_string Tryz.underlying9 (by decide)) b n D hm h1 (.string s) (skey s) hx (keyOfS s hs) ?_
  intro v ps hv
  obtain ⟨c, rfl, hc, _⟩ := plainElem_string_inv Tryz.underlying9 hv
  have hd : D.atKey (skey s) (.lit (skey ⟨#[]⟩)) = .lit (skey c) := congrArg Prod.fst hc
  have hcs := h2.get s ⟨#[]⟩ c hd
  rw [h2.has s, hcs]
  exact hK
end
end Go.Proofs.YtdminjijhpemkaaGreatDoor
