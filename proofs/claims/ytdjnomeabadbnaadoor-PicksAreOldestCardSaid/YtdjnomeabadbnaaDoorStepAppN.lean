/- append of a whole slice at a step of a region that draws its order: of no program. -/
import Derived.Test.YtdjnomeabadbnaaDoorStepApp
namespace Go.Proofs.YtdjnomeabadbnaaDoor
open Go.RowKit

theorem oper_appN {P : Program} {w : World} {o : Oper} {a : Act} {K : Act → World → Prop} {Q : Exit → Act → World → Prop} {t e size bytes : Nat} {z : Value} (Et : ElemT P t e z size bytes) (s x : Operand)
    (ho : o.op = .call { callee := .builtin .append, args := #[s, x], argTypes := #[t, t] })
    (base : Nat) (v : Value) (n : Nat) (xs : List Value) (hs : a.eval s = v) (hown : w.ownsRow base e size v n xs)
    (ao : Option Addr) (m c : Nat) (news : List Value) (hx : a.eval x = .slice ao m c) (hl : news.length = m * size) (hc : CellsAt w ao news) (hnil : ao = none → c = 0) (h1 : ∀ u ∈ news, u.oneCell' = true)
    (hb : n + m ≤ 137438953472) (hbase : base ≤ w.heap.size)
    (h : ∀ v' w', w'.ownsRow base e size v' (n + m) (xs ++ news) → w.grownBy w' v.ownBlock → (∀ q, v.ownBlock = some q → base ≤ q) → (∀ k, v'.ownBlock = some k → v.ownBlock = some k ∨ w.heap.size ≤ k) → K (a.put o.dst v') w') :
    Oper.wp P o a w K Q := by
  obtain ⟨i, hi, hz, hz1, hz2⟩ := info_parts Et.info
  have hle := Nat.mul_le_mul hb Et.le
  cases ao with
  | none =>
    have hc0 := hnil rfl
    have hnews : news = [] := by
      cases news with
      | nil => rfl
      | cons u r => obtain ⟨_, _, h, _⟩ := hc 0 u rfl; cases h
    subst hnews
    have hpos := Et.pos
    have hm : m = 0 := by
      rcases Nat.mul_eq_zero.1 (show m * size = 0 from hl.symm) with h | h <;> omega
    subst hm hc0
    have hr := run_append_owned_none (P := P) (w := w) base t o.type e i size Et.und hi v n xs hown
    unfold Oper.wp execOp
    simp only [ho, resolve, invoke, builtin, Sem.run_bind, Sem.run_pure, Result.andThen_ok, List.map_toArray, List.map_cons, List.map_nil, hs, hx, hr]
    exact h v w (by simpa using hown) (gr_refl _ _) (fun q hq => (hown.lt q hq).1) (fun k hk => .inl hk)
  | some ad =>
    have hcc : ∀ j u, news[j]? = some u → w.cell? (ad.add j) = some u := by
      intro j u hj
      obtain ⟨b, off, he, hcell⟩ := hc j u hj
      cases he
      rw [Addr.add_lit]
      exact hcell
    obtain ⟨v', w', hr, h2, h3, h4⟩ := run_app_fresh (P := P) w base t o.type e i z size bytes Et.und hi hz hz1 hz2 Et.zc Et.pos v n xs hown ad m c news hl hcc h1 (by unfold maxLen; omega) (by omega) hbase
    unfold Oper.wp execOp
    simp only [ho, resolve, invoke, builtin, Sem.run_bind, Sem.run_pure, Result.andThen_ok, List.map_toArray, List.map_cons, List.map_nil, hs, hx, hr]
    exact h v' w' h2 h3 (fun q hq => (hown.lt q hq).1) h4
theorem step_appN {P : Program} {w : World} {ops : Array Oper} {o : Oper} {a : Act} {K : Act → World → Prop} {Q : Exit → Act → World → Prop} {E : Prop} {t e size bytes : Nat} {z : Value} (Et : ElemT P t e z size bytes) (hgd : o.guard = none) (s x : Operand)
    (ho : o.op = .call { callee := .builtin .append, args := #[s, x], argTypes := #[t, t] })
    (base : Nat) (v : Value) (n : Nat) (xs : List Value) (hs : a.eval s = v) (hown : w.ownsRow base e size v n xs)
    (ao : Option Addr) (m c : Nat) (news : List Value) (hx : a.eval x = .slice ao m c) (hl : news.length = m * size) (hc : CellsAt w ao news) (hnil : ao = none → c = 0) (h1 : ∀ u ∈ news, u.oneCell' = true)
    (hb : n + m ≤ 137438953472) (hbase : base ≤ w.heap.size)
    (h : ∀ v' w', w'.ownsRow base e size v' (n + m) (xs ++ news) → w.grownBy w' v.ownBlock → (∀ q, v.ownBlock = some q → base ≤ q) → (∀ k, v'.ownBlock = some k → v.ownBlock = some k ∨ w.heap.size ≤ k) → K (a.put o.dst v') w') :
    if Region.wanted o (yielded ops a.tmps) = true then Oper.wp P o a w K Q else E := by
  have hwd : Region.wanted o (yielded ops a.tmps) = true := by simp [Region.wanted, hgd]
  rw [if_pos hwd]
  exact oper_appN Et s x ho base v n xs hs hown ao m c news hx hl hc hnil h1 hb hbase h
/-- A block of another type, while an own row is written: made right ahead, or held. -/
theorem made_own {w w1 : World} {base e size n : Nat} {v : Value} {xs : List Value} {c : Array Value} {t : TypeId} (h : w.ownsRow base e size v n xs) (g : (w.alloc (.cells c t)).grownBy w1 v.ownBlock) (he : e ≠ t) : w1.heap[w.heap.size]? = some (.cells c t (0, 0)) := by
  have hn := heap_alloc_new w (.cells c t)
  exact (g.block _ (lt_of_block hn) (fun e2 => own_ne (own_keep0 h (gr_alloc (gr_refl _ _) _)) hn he e2.symm)).trans hn
theorem held_own {w w1 : World} {base e size n q : Nat} {v : Value} {xs : List Value} {c : Array Value} {t : TypeId} (h : w.ownsRow base e size v n xs) (hq : w.heap[q]? = some (.cells c t (0, 0))) (g : w.grownBy w1 v.ownBlock) (he : e ≠ t) : w1.heap[q]? = some (.cells c t (0, 0)) :=
  (g.block _ (lt_of_block hq) (fun e2 => own_ne h hq he e2.symm)).trans hq
end Go.Proofs.YtdjnomeabadbnaaDoor
