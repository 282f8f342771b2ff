/- append of one element, as an operation of a region that draws its order: of no program. -/
import Derived.Test.YtdjnomeabadbnaaDoorStepApp
namespace Go.Proofs.YtdjnomeabadbnaaDoor
open Go.RowKit

theorem oper_app {P : Program} {w : World} {o : Oper} {a : Act} {K : Act → World → Prop} {Q : Exit → Act → World → Prop} {t e size bytes : Nat} {z : Value} (Et : ElemT P t e z size bytes) (s x : Operand)
    (ho : o.op = .call { callee := .builtin .append, args := #[s, x], argTypes := #[t, t] })
    (base : Nat) (v : Value) (n : Nat) (xs : List Value) (hs : a.eval s = v) (c : Array Value) (g : Nat) (hx : a.eval x = .slice (some ⟨g, 0, none⟩) 1 1) (hg : w.heap[g]? = some (.cells c e (0, 0)))
    (hown : w.ownsRow base e size v n xs) (hl : c.size = size) (h1 : c.toList.all (fun u => u.oneCell') = true) (hb : n + 1 ≤ 137438953472) (hbase : base ≤ w.heap.size)
    (h : ∀ v' w', w'.ownsRow base e size v' (n + 1) (xs ++ c.toList) → w.grownBy w' v.ownBlock → K (a.put o.dst v') w') : Oper.wp P o a w K Q := by
  obtain ⟨i, hi, hz, hz1, hz2⟩ := info_parts Et.info
  have hle := Nat.mul_le_mul hb Et.le
  obtain ⟨v', w', hr, h2, h3, h4⟩ := run_app_cells (P := P) w base t o.type e i z size bytes Et.und hi hz hz1 hz2 Et.zc Et.pos v n xs hown ⟨g, 0, none⟩ 1 1 c.toList (by simpa using hl)
    (by
      intro j u hj
      rw [Addr.add_lit]
      exact blkC hg (0 + j) (by simpa using hj)) (fun u hu => List.all_eq_true.1 h1 u hu) (by unfold maxLen; omega) (by omega) hbase
  unfold Oper.wp execOp
  simp only [ho, resolve, invoke, builtin, Sem.run_bind, Sem.run_pure, Result.andThen_ok, List.map_toArray, List.map_cons, List.map_nil, hs, hx, hr]
  exact h _ w' h2 h3
end Go.Proofs.YtdjnomeabadbnaaDoor
