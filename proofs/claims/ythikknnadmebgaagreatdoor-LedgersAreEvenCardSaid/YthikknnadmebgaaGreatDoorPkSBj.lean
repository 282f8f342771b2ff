/- The built-in clear of the end of a row that the call owns. -/
import Derived.Test.YthikknnadmebgaaGreatDoorPkSAb
import Derived.Lib.SliceRun
namespace Go.Proofs.YthikknnadmebgaaGreatDoor
open Go.RowKit

theorem setCells_rowC {g e : Nat} (vs : List Value) : ∀ (o : Nat) (w : World) (cur : Array Value), w.heap[g]? = some (.cells cur e (0, 0)) → o + vs.length ≤ cur.size →
    ∃ cur', (w.setCells g o vs).heap[g]? = some (.cells cur' e (0, 0)) ∧ cur'.size = cur.size ∧ cur'.toList.take o = cur.toList.take o := by
  induction vs with
  | nil => intro o w cur h _; exact ⟨cur, h, rfl, rfl⟩
  | cons v vs ih =>
    intro o w cur h hl
    simp only [List.length_cons] at hl
    have h1 := heap_setCell_same w g o _ _ v h
    obtain ⟨cur', h2, h3, h4⟩ := ih (o + 1) _ _ h1 (by simp; omega)
    refine ⟨cur', h2, by rw [h3]; simp, ?_⟩
    have e := congrArg (List.take o) h4
    rw [List.take_take, List.take_take, Nat.min_eq_left (by omega)] at e
    rw [e, Array.toList_setIfInBounds, List.take_set_of_le (Nat.le_refl _)]
theorem gr_setCellsC {g : Nat} (vs : List Value) : ∀ (o : Nat) (w : World), w.grownBy (w.setCells g o vs) (some g) := by
  induction vs with
  | nil => intro o w; exact gr_refl _ _
  | cons v vs ih => intro o w; exact gr_trans (gr_set (q := ⟨g, o, none⟩) (gr_refl w (some g)) rfl v) (ih _ _)
theorem zero_runC {P : Program} {e : TypeId} {i : TypeInfo} {z : Value} (hi : P.info? e = some i) (hz : i.zero = some z) : ∀ w : World, (zeroValue e).run P w = .ok z w := by
  intro w
  simp [zeroValue, run_typeInfo w hi, hz]
theorem wpList_clear {P : Program} {w : World} {ops : Array Oper} {rest : List Oper} {o : Oper} {a : Act} {Q : Exit → Act → World → Prop} {t e size bytes : Nat} {z : Value} (E : ElemT P t e z size bytes) (hgd : o.guard = none) (x : Operand)
    (ho : o.op = .call { callee := .builtin .clear, args := #[x], argTypes := #[t] }) (base g n cap i : Nat) (xs : List Value) (hown : w.ownsRow base e size (.slice (some ⟨g, 0, none⟩) n cap) n xs) (hi : i < n) (c0 : Nat)
    (hx : a.eval x = .slice (some ⟨g, i * size, none⟩) (n - i) c0) (h1 : ∀ v ∈ z.cells, v.oneCell' = true)
    (hK : ∀ w', w'.ownsRow base e size (.slice (some ⟨g, 0, none⟩) i cap) i (xs.take (i * size)) → w.grownBy w' (some g) → wpList P ops Q rest (a.put o.dst (.tuple #[])) w') : wpList P ops Q (o :: rest) a w := by
  obtain ⟨inf, hinf, hz, hz1, hz2⟩ := info_parts E.info
  have hv := zero_runC (P := P) hinf hz
  obtain ⟨m, hm⟩ : ∃ m, n - i = m + 1 := ⟨n - i - 1, by omega⟩
  obtain ⟨vs, hvs⟩ : ∃ vs, vs = (Builtin.zeroCells z.cells (n - i)).toList := ⟨_, rfl⟩
  have hlen : vs.length = (n - i) * size := by
    rw [hvs, ← E.zc]; simp [Builtin.zeroCells]
  have hadd : i * size + (n - i) * size = n * size := by rw [← Nat.add_mul]; congr 1; omega
  have hone : ∀ v ∈ vs, v.oneCell' = true := by
    intro v hvm
    rw [hvs] at hvm
    simp only [Builtin.zeroCells, Array.toList_map, List.mem_map] at hvm
    obtain ⟨j, _, rfl⟩ := hvm
    have hp := E.pos
    rw [← E.zc] at hp
    rw [getElem!_pos z.cells (j % z.cells.size) (Nat.mod_lt _ hp)]
    exact h1 _ (Array.getElem_mem _)
  obtain ⟨cur, hg, hb, hn, hcap, hsz, htk⟩ : ∃ cur, w.heap[g]? = some (.cells cur e (0, 0)) ∧ base ≤ g ∧ n ≤ cap ∧ cap ≤ maxLen ∧ cur.size = cap * size ∧ cur.toList.take (n * size) = xs := by
    rcases hown.2 with ⟨h2, _⟩ | ⟨g', cap', cur, h2, h3, h4, h5, h6, h7, h8⟩
    · cases h2
    · cases h2
      exact ⟨cur, h4, h3, h5, h6, h7, h8⟩
  have hcs : n * size ≤ cap * size := Nat.mul_le_mul_right size hn
  have hst := run_storeCells_cells (P := P) g (i * size) vs 0 w (fun j hj => by
    have hlt : i * size + 0 + j < cur.size := by omega
    simp [World.cell?, hg]; omega) (fun j _ => blkF hg _) hone
  simp only [Nat.add_zero] at hst
  have hrun : (Builtin.clear_ #[t] o.type #[.slice (some ⟨g, i * size, none⟩) (n - i) c0]).run P w = .ok (.tuple #[]) (w.setCells g (i * size) vs) := by
    rw [hm] at hvs ⊢
    simp [Builtin.clear_, run_underlying E.und, hv, ← hvs, hst]
  obtain ⟨cur', c1, c2, c3⟩ := setCells_rowC vs (i * size) w cur hg (by omega)
  have hle : i * size ≤ n * size := Nat.mul_le_mul_right size (by omega)
  refine wpList_plain hgd fun _ hK' => ?_
  unfold Oper.wp execOp
  simp only [ho, resolve, invoke, builtin, Sem.run_bind, Sem.run_pure, Result.andThen_ok, List.map_toArray, List.map_cons, List.map_nil, hx, hrun]
  refine hK' _ _ (hK _ ⟨?_, .inr ⟨g, cap, cur', rfl, hb, c1, by omega, hcap, by rw [c2, hsz], ?_⟩⟩ (gr_setCellsC vs _ w))
  · have := hown.1
    rw [List.length_take]; omega
  · rw [c3, ← htk, List.take_take, Nat.min_eq_left hle]
end Go.Proofs.YthikknnadmebgaaGreatDoor
