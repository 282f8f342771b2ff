/- append of one element at a step of a region that draws its order: of no program. -/
import Derived.Test.YtbgfflbddflokaaKitB
import Derived.ArgAppend
import Derived.Deep.AppendLies
import Derived.Deep.RegionLaw
namespace Go.Proofs.Ytbgfflbddflokaa
open Go.RowKit

/-- append onto an owned row: what it holds already stays, and so does all else. -/
theorem run_app_cells {P : Program} (w : World) (base : Nat) (t ty e : TypeId) (i : TypeInfo) (z : Value) (size bytes : Nat) (ht : P.underlying t = some (.slice e)) (hi : P.info? e = some i) (hz : i.zero = some z)
    (hsize : i.size = size) (hby : i.bytes = bytes) (hzs : z.cells.size = size) (hsz : 0 < size)
    (v : Value) (n : Nat) (xs : List Value) (hown : w.ownsRow base e size v n xs)
    (a : Addr) (m c : Nat) (news : List Value) (hl : news.length = m * size) (hnews : ∀ j u, news[j]? = some u → w.cell? (a.add j) = some u) (h1 : ∀ u ∈ news, u.oneCell' = true)
    (h63 : n + m ≤ maxLen) (hbytes : (n + m) * bytes ≤ 140737488355328) (hbase : base ≤ w.heap.size) :
    ∃ v' w', (Builtin.append_ #[t, t] ty #[v, .slice (some a) m c]).run P w = .ok v' w' ∧ w'.ownsRow base e size v' (n + m) (xs ++ news) ∧ w.grownBy w' v.ownBlock ∧
      ∀ b o u, w.cell? ⟨b, o, none⟩ = some u → (v.ownBlock = some b → o < n * size) → w'.cell? ⟨b, o, none⟩ = some u := by
  obtain ⟨v', w', hr, h2, h3, _⟩ := run_append_own (P := P) w base t ty e i z size bytes ht hi hz hsize hby hzs hsz v n xs hown a m c news hl hnews h1 h63 hbytes hbase
  refine ⟨v', w', hr, h2, h3, ?_⟩
  intro b o u hu hlt
  by_cases hb : v.ownBlock = some b
  · have hon := hlt hb
    rcases hown.2 with ⟨rfl, _⟩ | ⟨g, cap, cur, rfl, hbg, hg, hn, hcap, hcs, htk⟩
    · simp [Value.ownBlock] at hb
    · simp [Value.ownBlock] at hb
      subst hb
      by_cases hroom : n + m ≤ cap
      · subst hsize
        have hmul := Nat.mul_le_mul_right i.size hroom
        rw [Nat.add_mul, ← hl] at hmul
        have hr2 := run_append_room_cells (P := P) w t ty e i ht hi g 0 n cap a m c news hl hnews h1 hroom
          (fun j hj => by
            have hlt : 0 + n * i.size + j < cur.size := by omega
            simp only [World.cell?, hg]
            rw [Array.getElem?_eq_getElem hlt]
            rfl)
          (fun j hj => by simp [World.frozen?, hg])
        rw [hr] at hr2
        cases hr2
        rw [World.cell?_setCells_out g news _ w ⟨g, o, none⟩ (fun _ _ => .inl (by simp; omega))]
        exact hu
      · have holds : ∀ j x, xs[j]? = some x → w.cell? ((⟨g, 0, none⟩ : Addr).add j) = some x := by
          intro j x hj
          have := hown.cells (g := g) (by simp [Value.ownBlock]) j x hj
          exact this
        obtain ⟨v2, w2, hr2, _, hg2⟩ := run_append_arg_grows (P := P) w t ty e i z size bytes ht hi hz hsize hby hzs hsz ⟨g, 0, none⟩ n cap xs hown.1 holds a m c news hl hnews (by omega) h63 hbytes
        rw [hr] at hr2
        cases hr2
        exact (gr_cell hg2 (lt_of_cell hu)).trans hu
  · exact h3.cell hu (fun e => hb e.symm)

theorem step_app1 {P : Program} {w : World} {ops : Array Oper} {o : Oper} {a : Act} {K : Act → World → Prop} {Q : Exit → Act → World → Prop} {E : Prop} {t e size bytes : Nat} {z : Value} (Et : ElemT P t e z size bytes) (hgd : o.guard = none) (s x : Operand)
    (ho : o.op = .call { callee := .builtin .append, args := #[s, x], argTypes := #[t, t] })
    (base : Nat) (v : Value) (n : Nat) (xs : List Value) (hs : a.eval s = v) (W : World) (c : Array Value) (hw : w = W.alloc (.cells c e)) (hown : W.ownsRow base e size v n xs)
    (g : Nat) (hx : a.eval x = .slice (some ⟨g, 0, none⟩) 1 1) (hg : g = W.heap.size) (hl : c.size = size) (h1 : c.toList.all (fun u => u.oneCell') = true)
    (hb : n + 1 ≤ 137438953472) (hbase : base ≤ W.heap.size)
    (h : ∀ v' w', w'.ownsRow base e size v' (n + 1) (xs ++ c.toList) → W.grownBy w' v.ownBlock → (∀ q, v.ownBlock = some q → base ≤ q) →
      (∀ b o u, W.cell? ⟨b, o, none⟩ = some u → (v.ownBlock = some b → o < n * size) → w'.cell? ⟨b, o, none⟩ = some u) → K (a.put o.dst v') w') :
    if Region.wanted o (yielded ops a.tmps) = true then Oper.wp P o a w K Q else E := by
  subst hw hg
  obtain ⟨i, hi, hz, hz1, hz2⟩ := info_parts Et.info
  have hle := Nat.mul_le_mul hb Et.le
  have hwd : Region.wanted o (yielded ops a.tmps) = true := by simp [Region.wanted, hgd]
  rw [if_pos hwd]
  obtain ⟨v', w', hr, h2, h3, h4⟩ := run_app_cells (P := P) (W.alloc (.cells c e)) base t o.type e i z size bytes Et.und hi hz hz1 hz2 Et.zc Et.pos v n xs (hown.alloc _) ⟨W.heap.size, 0, none⟩ 1 1 c.toList (by simpa using hl)
    (by
      intro j u hj
      obtain ⟨b, off, he, hc⟩ := CellsAt.new W c e j u hj
      cases he
      rw [Addr.add_lit]
      exact hc) (fun u hu => List.all_eq_true.1 h1 u hu) (by unfold maxLen; omega) (by omega) (by simp; omega)
  unfold Oper.wp execOp
  simp only [ho, resolve, invoke, builtin, Sem.run_bind, Sem.run_pure, Result.andThen_ok, List.map_toArray, List.map_cons, List.map_nil, hs, hx, hr]
  exact h _ w' h2 (gr_trans (gr_alloc (gr_refl _ _) _) h3) (fun q hq => (hown.lt q hq).1) (fun b o u hu hlt => h4 b o u ((gr_cell (gr_alloc (gr_refl W none) _) (lt_of_cell hu)).trans hu) hlt)
end Go.Proofs.Ytbgfflbddflokaa
