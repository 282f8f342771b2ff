/- append of one element at a step of a region that draws its order: of no program. -/
import Derived.Test.YtdminjijhpemkaaGreatDoorPkSAa
import Derived.ArgAppend
import Derived.Deep.AppendLies
import Derived.Deep.RegionLaw
namespace Go.Proofs.YtdminjijhpemkaaGreatDoor
open Go.RowKit

/-- append onto an owned row: what it holds already stays, and so does all else. -/
theorem run_app_cells {P : Program} (w : World) (base : Nat) (t ty e : TypeId) (i : TypeInfo) (z : Value) (size bytes : Nat) (ht : P.underlying t = some (.slice e)) (hi : P.info? e = some i) (hz : i.zero = some z)
    (hsize : i.size = size) (hby : i.bytes = bytes) (hzs : z.cells.size = size) (hsz : 0 < size)
    (v : Value) (n : Nat) (xs : List Value) (hown : w.ownsRow base e size v n xs)
    (a : Addr) (m c : Nat) (news : List Value) (hl : news.length = m * size) (hnews : ∀ j u, news[j]? = some u → w.cell? (a.add j) = some u) (h1 : ∀ u ∈ news, u.oneCell' = true)
    (h63 : n + m ≤ maxLen) (hbytes : (n + m) * bytes ≤ 140737488355328) (hbase : base ≤ w.heap.size) :
    ∃ v' w', (Builtin.append_ #[t, t] ty #[v, .slice (some a) m c]).run P w = .ok v' w' ∧ w'.ownsRow base e size v' (n + m) (xs ++ news) ∧ w.grownBy w' v.ownBlock ∧
      ∀ b o u, w.cell? ⟨b, o, none⟩ = some u → (v.ownBlock = some b → o < n * size) → w'.cell? ⟨b, o, none⟩ = some u := by
  obtain ⟨v', w', hr, h2, h3, _⟩ := run_append_own (P := P) w base t ty e i z size bytes ht hi hz hsize hby hzs hsz v n xs hown a m c news hl hnews h1 h63 hbytes hbase
  refine ⟨v', w', hr, h2, h3, ?_⟩
  intro b o u hu hlt
  by_cases hb : v.ownBlock = some b
  · have hon := hlt hb
    rcases hown.2 with ⟨rfl, _⟩ | ⟨g, cap, cur, rfl, hbg, hg, hn, hcap, hcs, htk⟩
    · simp [Value.ownBlock] at hb
    · simp [Value.ownBlock] at hb
      subst hb
      by_cases hroom : n + m ≤ cap
      · subst hsize
        have hmul := Nat.mul_le_mul_right i.size hroom
        rw [Nat.add_mul, ← hl] at hmul
        have hr2 := run_append_room_cells (P := P) w t ty e i ht hi g 0 n cap a m c news hl hnews h1 hroom
          (fun j hj => by
            have hlt : 0 + n * i.size + j < cur.size := by omega
            simp only [World.cell?, hg]
            rw [Array.getElem?_eq_getElem hlt]
            rfl)
          (fun j hj => by simp [World.frozen?, hg])
        rw [hr] at hr2
        cases hr2
        rw [World.cell?_setCells_out g news _ w ⟨g, o, none⟩ (fun _ _ => .inl (by simp; omega))]
        exact hu
      · have holds : ∀ j x, xs[j]? = some x → w.cell? ((⟨g, 0, none⟩ : Addr).add j) = some x := by
          intro j x hj
          have := hown.cells (g := g) (by simp [Value.ownBlock]) j x hj
          exact this
        obtain ⟨v2, w2, hr2, _, hg2⟩ := run_append_arg_grows (P := P) w t ty e i z size bytes ht hi hz hsize hby hzs hsz ⟨g, 0, none⟩ n cap xs hown.1 holds a m c news hl hnews (by omega) h63 hbytes
        rw [hr] at hr2
        cases hr2
        exact (gr_cell hg2 (lt_of_cell hu)).trans hu
  · exact h3.cell hu (fun e => hb e.symm)

theorem step_app1 {P : Program} {w : World} {ops : Array Oper} {o : Oper} {a : Act} {K : Act → World → Prop} {Q : Exit → Act → World → Prop} {E : Prop} {t e size bytes : Nat} {z : Value} (Et : ElemT P t e z size bytes) (hgd : o.guard = none) (s x : Operand)
    (ho : o.op = .call { callee := .builtin .append, args := #[s, x], argTypes := #[t, t] })
    (base : Nat) (v : Value) (n : Nat) (xs : List Value) (hs : a.eval s = v) (W : World) (c : Array Value) (hw : w = W.alloc (.cells c e)) (hown : W.ownsRow base e size v n xs)
    (g : Nat) (hx : a.eval x = .slice (some ⟨g, 0, none⟩) 1 1) (hg : g = W.heap.size) (hl : c.size = size) (h1 : c.toList.all (fun u => u.oneCell') = true)
    (hb : n + 1 ≤ 137438953472) (hbase : base ≤ W.heap.size)
    (h : ∀ v' w', w'.ownsRow base e size v' (n + 1) (xs ++ c.toList) → W.grownBy w' v.ownBlock → (∀ q, v.ownBlock = some q → base ≤ q) →
      (∀ b o u, W.cell? ⟨b, o, none⟩ = some u → (v.ownBlock = some b → o < n * size) → w'.cell? ⟨b, o, none⟩ = some u) → K (a.put o.dst v') w') :
    if Region.wanted o (yielded ops a.tmps) = true then Oper.wp P o a w K Q else E := by
  subst hw hg
  obtain ⟨i, hi, hz, hz1, hz2⟩ := info_parts Et.info
  have hle := Nat.mul_le_mul hb Et.le
  have hwd : Region.wanted o (yielded ops a.tmps) = true := by simp [Region.wanted, hgd]
  rw [if_pos hwd]
  obtain ⟨v', w', hr, h2, h3, h4⟩ := run_app_cells (P := P) (W.alloc (.cells c e)) base t o.type e i z size bytes Et.und hi hz hz1 hz2 Et.zc Et.pos v n xs (hown.alloc _) ⟨W.heap.size, 0, none⟩ 1 1 c.toList (by simpa using hl)
    (by
      intro j u hj
      obtain ⟨b, off, he, hc⟩ := CellsAt.new W c e j u hj
      cases he
      rw [Addr.add_lit]
      exact hc) (fun u hu => List.all_eq_true.1 h1 u hu) (by unfold maxLen; omega) (by omega) (by simp; omega)
  unfold Oper.wp execOp
  simp only [ho, resolve, invoke, builtin, Sem.run_bind, Sem.run_pure, Result.andThen_ok, List.map_toArray, List.map_cons, List.map_nil, hs, hx, hr]
  exact h _ w' h2 (gr_trans (gr_alloc (gr_refl _ _) _) h3) (fun q hq => (hown.lt q hq).1) (fun b o u hu hlt => h4 b o u ((gr_cell (gr_alloc (gr_refl W none) _) (lt_of_cell hu)).trans hu) hlt)

/-! Blocks of two cells; append, and where its result lies: of no program. -/

theorem und_struct {P : Program} {t : TypeId} (h : (P.underlying t).map (fun d => match d with | .struct _ => true | _ => false) = some true) : ∃ fs, P.underlying t = some (.struct fs) := by
  cases hd : P.underlying t with
  | none => rw [hd] at h; cases h
  | some d =>
    rw [hd] at h
    cases d with
    | struct fs => exact ⟨fs, rfl⟩
    | _ => simp at h
theorem blk2 {w : World} {g t : Nat} {a b : Value} (h : w.heap[g]? = some (.cells #[a, b] t (0, 0))) : w.cell? ⟨g, 0, none⟩ = some a ∧ w.cell? ⟨g, 1, none⟩ = some b ∧ w.frozen? ⟨g, 0, none⟩ = false ∧ w.frozen? ⟨g, 1, none⟩ = false := by
  simp [World.cell?, World.frozen?, h]
theorem set2_heap {w : World} {g t : Nat} {a b : Value} (h : w.heap[g]? = some (.cells #[a, b] t (0, 0))) (x y : Value) : ((w.setCell ⟨g, 0, none⟩ x).setCell ⟨g, 1, none⟩ y).heap[g]? = some (.cells #[x, y] t (0, 0)) := by
  have h1 := heap_setCell_same w g 0 _ t x h
  exact heap_setCell_same _ g 1 _ t y h1
theorem set2_gr (w : World) (g : Nat) (x y : Value) : w.grownBy ((w.setCell ⟨g, 0, none⟩ x).setCell ⟨g, 1, none⟩ y) (some g) :=
  gr_set (q := ⟨g, 1, none⟩) (gr_set (q := ⟨g, 0, none⟩) (gr_refl w (some g)) rfl _) rfl _
/-- An owned row lies in another block than one of another type. -/
theorem own_ne {w : World} {base e size n g : Nat} {v : Value} {xs : List Value} {cs : Array Value} {t : Nat} (h : w.ownsRow base e size v n xs) (hg : w.heap[g]? = some (.cells cs t (0, 0))) (hne : e ≠ t) : v.ownBlock ≠ some g := by
  rcases h.2 with ⟨rfl, _⟩ | ⟨g', cap, cur, rfl, _, hh, _⟩
  · simp [Value.ownBlock]
  · intro he
    have : g' = g := by simpa [Value.ownBlock] using he
    subst this
    rw [hg] at hh
    injection hh with hh
    injection hh with _ ht
    exact hne ht.symm
/-- append onto an owned row: its result lies where the row lay, or in a new block. -/
theorem run_app_fresh {P : Program} (w : World) (base : Nat) (t ty e : TypeId) (i : TypeInfo) (z : Value) (size bytes : Nat) (ht : P.underlying t = some (.slice e)) (hi : P.info? e = some i) (hz : i.zero = some z)
    (hsize : i.size = size) (hby : i.bytes = bytes) (hzs : z.cells.size = size) (hsz : 0 < size)
    (v : Value) (n : Nat) (xs : List Value) (hown : w.ownsRow base e size v n xs)
    (a : Addr) (m c : Nat) (news : List Value) (hl : news.length = m * size) (hnews : ∀ j u, news[j]? = some u → w.cell? (a.add j) = some u) (h1 : ∀ u ∈ news, u.oneCell' = true)
    (h63 : n + m ≤ maxLen) (hbytes : (n + m) * bytes ≤ 140737488355328) (hbase : base ≤ w.heap.size) :
    ∃ v' w', (Builtin.append_ #[t, t] ty #[v, .slice (some a) m c]).run P w = .ok v' w' ∧ w'.ownsRow base e size v' (n + m) (xs ++ news) ∧ w.grownBy w' v.ownBlock ∧
      ∀ k, v'.ownBlock = some k → v.ownBlock = some k ∨ w.heap.size ≤ k := by
  obtain ⟨v', w', hr, h2, h3, _⟩ := run_append_own (P := P) w base t ty e i z size bytes ht hi hz hsize hby hzs hsz v n xs hown a m c news hl hnews h1 h63 hbytes hbase
  refine ⟨v', w', hr, h2, h3, ?_⟩
  rcases hown.2 with ⟨rfl, rfl⟩ | ⟨g, cap, cur, rfl, hbg, hg, hn, hcap, hcs, htk⟩
  · have hx : xs = [] := List.eq_nil_of_length_eq_zero (by simpa using hown.1)
    subst hx
    obtain ⟨v2, w2, hr2, h4, _, _⟩ := run_append_own (P := P) w w.heap.size t ty e i z size bytes ht hi hz hsize hby hzs hsz (.slice none 0 0) 0 [] (World.ownsRow_nil _ _ _ _) a m c news hl hnews h1 h63 hbytes (Nat.le_refl _)
    rw [hr] at hr2
    cases hr2
    exact fun k hk => .inr (h4.lt k hk).1
  · by_cases hroom : n + m ≤ cap
    · subst hsize
      have hmul := Nat.mul_le_mul_right i.size hroom
      rw [Nat.add_mul, ← hl] at hmul
      have hr2 := run_append_room_cells (P := P) w t ty e i ht hi g 0 n cap a m c news hl hnews h1 hroom
        (fun j hj => by
          have hlt : 0 + n * i.size + j < cur.size := by omega
          simp only [World.cell?, hg]
          rw [Array.getElem?_eq_getElem hlt]
          rfl)
        (fun j hj => by simp [World.frozen?, hg])
      rw [hr] at hr2
      cases hr2
      exact fun k hk => .inl hk
    · have holds : ∀ j x, xs[j]? = some x → w.cell? ((⟨g, 0, none⟩ : Addr).add j) = some x := by
        intro j x hj
        exact hown.cells (g := g) (by simp [Value.ownBlock]) j x hj
      obtain ⟨v2, w2, hr2, h4, _⟩ := run_append_arg_grows (P := P) w t ty e i z size bytes ht hi hz hsize hby hzs hsz ⟨g, 0, none⟩ n cap xs hown.1 holds a m c news hl hnews (by omega) h63 hbytes
      rw [hr] at hr2
      cases hr2
      exact fun k hk => .inr (h4.lt k hk).1
/-- append of one element, which was laid right ahead of it in a block of its own. -/
theorem wpList_app1F {P : Program} {w : World} {ops : Array Oper} {rest : List Oper} {o : Oper} {a : Act} {Q : Exit → Act → World → Prop} {t e size bytes : Nat} {z : Value} (E : ElemT P t e z size bytes) (hgd : o.guard = none) (s x : Operand)
    (ho : o.op = .call { callee := .builtin .append, args := #[s, x], argTypes := #[t, t] })
    (base : Nat) (v : Value) (n : Nat) (xs : List Value) (hs : a.eval s = v) (W : World) (c : Array Value) (hw : w = W.alloc (.cells c e)) (hown : W.ownsRow base e size v n xs)
    (g : Nat) (hx : a.eval x = .slice (some ⟨g, 0, none⟩) 1 1) (hg : g = W.heap.size) (hl : c.size = size) (h1 : c.toList.all (fun u => u.oneCell') = true)
    (hb : n + 1 ≤ 137438953472) (hbase : base ≤ W.heap.size)
    (h : ∀ v' w', w'.ownsRow base e size v' (n + 1) (xs ++ c.toList) → W.grownBy w' v.ownBlock → (∀ q, v.ownBlock = some q → base ≤ q) → (∀ k, v'.ownBlock = some k → v.ownBlock = some k ∨ W.heap.size ≤ k) → wpList P ops Q rest (a.put o.dst v') w') : wpList P ops Q (o :: rest) a w := by
  subst hw hg
  obtain ⟨i, hi, hz, hz1, hz2⟩ := info_parts E.info
  have hle := Nat.mul_le_mul hb E.le
  obtain ⟨v', w', hr, h2, h3, h4⟩ := run_app_fresh (P := P) (W.alloc (.cells c e)) base t o.type e i z size bytes E.und hi hz hz1 hz2 E.zc E.pos v n xs (hown.alloc _) ⟨W.heap.size, 0, none⟩ 1 1 c.toList (by simpa using hl)
    (by
      intro j u hj
      obtain ⟨b, off, he, hc⟩ := CellsAt.new W c e j u hj
      cases he
      rw [Addr.add_lit]
      exact hc) (fun u hu => List.all_eq_true.1 h1 u hu) (by unfold maxLen; omega) (by omega) (by simp; omega)
  refine wpList_plain hgd fun _ hK => ?_
  unfold Oper.wp execOp
  simp only [ho, resolve, invoke, builtin, Sem.run_bind, Sem.run_pure, Result.andThen_ok, List.map_toArray, List.map_cons, List.map_nil, hs, hx, hr]
  refine hK _ _ (h v' w' h2 (gr_trans (gr_alloc (gr_refl _ _) _) h3) (fun q hq => (hown.lt q hq).1) (fun k hk => ?_))
  rcases h4 k hk with h5 | h5
  · exact .inl h5
  · exact .inr (Nat.le_trans (by simp) h5)
/-- The first elements of an owned row. -/
theorem own_take {w : World} {base e size n cap g : Nat} {xs : List Value} (h : w.ownsRow base e size (.slice (some ⟨g, 0, none⟩) n cap) n xs) (m : Nat) (hm : m ≤ n) : w.ownsRow base e size (.slice (some ⟨g, 0, none⟩) m cap) m (xs.take (m * size)) := by
  have hle := Nat.mul_le_mul_right size hm
  have hl := h.1
  rcases h.2 with ⟨h2, _⟩ | ⟨g', cap', cur, h2, h3, h4, h5, h6, h7, h8⟩
  · cases h2
  · cases h2
    refine ⟨by rw [List.length_take]; omega, .inr ⟨g, cap, cur, rfl, h3, h4, by omega, h6, h7, ?_⟩⟩
    rw [← h8, List.take_take, Nat.min_eq_left hle]
/-- The cells of a block that is known whole. -/
theorem blkC {w : World} {g t : Nat} {cs : Array Value} (h : w.heap[g]? = some (.cells cs t (0, 0))) (j : Nat) {v : Value} (hv : cs[j]? = some v) : w.cell? ⟨g, j, none⟩ = some v := by
  simp [World.cell?, h, hv]
theorem blkF {w : World} {g t : Nat} {cs : Array Value} (h : w.heap[g]? = some (.cells cs t (0, 0))) (j : Nat) : w.frozen? ⟨g, j, none⟩ = false := by
  simp [World.frozen?, h]

/-- An owned row does not lie in a block that was made later. -/
theorem own_fresh {w : World} {base e size n q : Nat} {v : Value} {xs : List Value} (h : w.ownsRow base e size v n xs) (hq : q = w.heap.size) : v.ownBlock ≠ some q := by
  intro e
  have := (h.lt q e).2
  omega

theorem set4_heap {w : World} {g t : Nat} {a b c d : Value} (h : w.heap[g]? = some (.cells #[a, b, c, d] t (0, 0))) (x y z u : Value) : ((((w.setCell ⟨g, 0, none⟩ x).setCell ⟨g, 1, none⟩ y).setCell ⟨g, 2, none⟩ z).setCell ⟨g, 3, none⟩ u).heap[g]? = some (.cells #[x, y, z, u] t (0, 0)) := by
  have h1 := heap_setCell_same w g 0 _ t x h
  have h2 := heap_setCell_same _ g 1 _ t y h1
  have h3 := heap_setCell_same _ g 2 _ t z h2
  exact heap_setCell_same _ g 3 _ t u h3
theorem set4_gr (w : World) (g : Nat) (x y z u : Value) : w.grownBy ((((w.setCell ⟨g, 0, none⟩ x).setCell ⟨g, 1, none⟩ y).setCell ⟨g, 2, none⟩ z).setCell ⟨g, 3, none⟩ u) (some g) :=
  gr_set (q := ⟨g, 3, none⟩) (gr_set (q := ⟨g, 2, none⟩) (gr_set (q := ⟨g, 1, none⟩) (gr_set (q := ⟨g, 0, none⟩) (gr_refl w (some g)) rfl _) rfl _) rfl _) rfl _
theorem blk4 {w : World} {g t : Nat} {a b c d : Value} (h : w.heap[g]? = some (.cells #[a, b, c, d] t (0, 0))) : w.cell? ⟨g, 0, none⟩ = some a ∧ w.cell? ⟨g, 1, none⟩ = some b ∧ w.cell? ⟨g, 2, none⟩ = some c ∧ w.cell? ⟨g, 3, none⟩ = some d :=
  ⟨blkC h 0 rfl, blkC h 1 rfl, blkC h 2 rfl, blkC h 3 rfl⟩
theorem heap_3 (w : World) (o1 o2 o3 : Obj) : (((w.alloc o1).alloc o2).alloc o3).heap[w.heap.size]? = some o1 ∧ (((w.alloc o1).alloc o2).alloc o3).heap[w.heap.size + 1]? = some o2 ∧ (((w.alloc o1).alloc o2).alloc o3).heap[w.heap.size + 2]? = some o3 := by
  have h1 := heap_alloc_new w o1
  have h2 := heap_alloc_new (w.alloc o1) o2
  have h3 := heap_alloc_new ((w.alloc o1).alloc o2) o3
  have e2 : (w.alloc o1).heap.size = w.heap.size + 1 := by simp
  have e3 : ((w.alloc o1).alloc o2).heap.size = w.heap.size + 2 := by simp
  rw [e2] at h2
  rw [e3] at h3
  refine ⟨?_, ?_, h3⟩
  · rw [heap_alloc_old (h := by simp; omega), heap_alloc_old (h := by simp)]; exact h1
  · rw [heap_alloc_old (h := by simp)]; exact h2

theorem own_freshLe {w : World} {base e size n q : Nat} {v : Value} {xs : List Value} (h : w.ownsRow base e size v n xs) (hq : w.heap.size ≤ q) : v.ownBlock ≠ some q := by
  intro e
  have := (h.lt q e).2
  omega
/-- Rows of different elements lie apart. -/
theorem own_own_ne {w : World} {base base' e e' size size' n n' : Nat} {v u : Value} {xs ys : List Value} (h : w.ownsRow base e size v n xs) (g : w.ownsRow base' e' size' u n' ys) (hne : e ≠ e') (q : Nat) (hv : v.ownBlock = some q) : u.ownBlock ≠ some q := by
  rcases h.2 with ⟨rfl, _⟩ | ⟨b, cap, cur, rfl, _, hh, _⟩
  · simp [Value.ownBlock] at hv
  · have hb : b = q := by simpa [Value.ownBlock] using hv
    subst hb
    exact own_ne g hh (fun e => hne e.symm)
theorem own_keepU {w w1 : World} {base base' e e' size size' n n' : Nat} {v u : Value} {xs ys : List Value} (h : w.ownsRow base e size v n xs) (k : w.ownsRow base' e' size' u n' ys) (hne : e ≠ e') (g : w.grownBy w1 u.ownBlock) : w1.ownsRow base e size v n xs := by
  refine own_keep h g ?_
  cases hv : v.ownBlock with
  | none => exact .inl rfl
  | some q => exact .inr (fun e => own_own_ne h k hne q hv e.symm)
theorem heap_2 (w : World) (o1 o2 : Obj) : ((w.alloc o1).alloc o2).heap[w.heap.size]? = some o1 ∧ ((w.alloc o1).alloc o2).heap[w.heap.size + 1]? = some o2 := by
  refine ⟨by rw [heap_alloc_old (h := by simp)]; exact heap_alloc_new w o1, ?_⟩
  have := heap_alloc_new (w.alloc o1) o2
  simpa using this
end Go.Proofs.YtdminjijhpemkaaGreatDoor

/-! A slice in memory of the call's own, from some place of a block on: it may be read and written. Of no program. -/
namespace Go.Proofs.YtdminjijhpemkaaGreatDoor
open Go.RowKit

/-- A slice of n elements: nil, or in a block from lo on and before hi; what it reads; nothing of it is frozen. -/
def RowAt (w : World) (lo hi : Nat) (v : Value) (n : Nat) (xs : List Value) : Prop :=
  (v = .slice none 0 0 ∧ n = 0 ∧ xs = []) ∨ ∃ b off cap, v = .slice (some ⟨b, off, none⟩) n cap ∧ n ≤ cap ∧ cap ≤ maxLen ∧ lo ≤ b ∧ b < hi ∧ b < w.heap.size ∧ (∀ j x, xs[j]? = some x → w.cell? ⟨b, off + j, none⟩ = some x) ∧ ∀ j, w.frozen? ⟨b, off + j, none⟩ = false
theorem RowAt.shape {w : World} {lo hi n : Nat} {v : Value} {xs : List Value} (h : RowAt w lo hi v n xs) :
    ∃ a cap, v = .slice a n cap ∧ n ≤ cap ∧ cap ≤ maxLen ∧ (a = none → n = 0 ∧ cap = 0) ∧ CellsAt w a xs ∧ (∀ b off, a = some ⟨b, off, none⟩ → lo ≤ b ∧ b < hi) := by
  rcases h with ⟨rfl, rfl, rfl⟩ | ⟨b, off, cap, rfl, h1, h2, h3, h4, h5, h6, h7⟩
  · exact ⟨none, 0, rfl, Nat.le_refl _, Nat.zero_le _, fun _ => ⟨rfl, rfl⟩, CellsAt.nil _ _, fun b off e => by cases e⟩
  · exact ⟨some ⟨b, off, none⟩, cap, rfl, h1, h2, (fun e => by cases e), fun j x hx => ⟨b, off, rfl, h6 j x hx⟩, (fun b' off' e => by cases e; exact ⟨h3, h4⟩)⟩
theorem RowAt.keep {w w1 : World} {lo hi n : Nat} {v : Value} {xs : List Value} {r : Option Nat} (h : RowAt w lo hi v n xs) (g : w.grownBy w1 r) (hr : ∀ q, r = some q → q < lo ∨ hi ≤ q) : RowAt w1 lo hi v n xs := by
  rcases h with h | ⟨b, off, cap, rfl, h1, h2, h3, h4, h5, h6, h7⟩
  · exact .inl h
  · have hb := g.block b h5 (fun e => by have := hr b e.symm; omega)
    refine .inr ⟨b, off, cap, rfl, h1, h2, h3, h4, Nat.lt_of_lt_of_le h5 g.size, fun j x hx => ?_, fun j => ?_⟩
    · exact (World.cell?_of_block (w := w) hb).trans (h6 j x hx)
    · exact (World.frozen?_of_block (w := w) hb).trans (h7 j)
theorem RowAt.keep0 {w w1 : World} {lo hi n : Nat} {v : Value} {xs : List Value} (h : RowAt w lo hi v n xs) (g : w.grownBy w1 none) : RowAt w1 lo hi v n xs := h.keep g (fun q e => by cases e)
theorem RowAt.wide {w : World} {lo hi lo' hi' n : Nat} {v : Value} {xs : List Value} (h : RowAt w lo hi v n xs) (h1 : lo' ≤ lo) (h2 : hi ≤ hi') : RowAt w lo' hi' v n xs := by
  rcases h with h | ⟨b, off, cap, rfl, a1, a2, a3, a4, r⟩
  · exact .inl h
  · exact .inr ⟨b, off, cap, rfl, a1, a2, by omega, by omega, r⟩
theorem own_row {w : World} {base e size n : Nat} {v : Value} {xs : List Value} (h : w.ownsRow base e size v n xs) : RowAt w base w.heap.size v n xs := by
  rcases h.2 with ⟨rfl, rfl⟩ | ⟨g, cap, cur, rfl, hb, hg, hn, hcap, hs, ht⟩
  · exact .inl ⟨rfl, rfl, List.eq_nil_of_length_eq_zero (by simpa using h.1)⟩
  · refine .inr ⟨g, 0, cap, rfl, hn, hcap, hb, lt_of_block hg, lt_of_block hg, fun j x hx => ?_, fun j => ?_⟩
    · have h1 := h.cells (g := g) (by simp [Value.ownBlock]) j x hx
      rw [Addr.add_lit] at h1
      exact h1
    · exact blkF hg _
/-- A row that has something: where it lies. -/
theorem RowAt.some {w : World} {lo hi n : Nat} {v : Value} {xs : List Value} (h : RowAt w lo hi v n xs) (hn : 0 < n) :
    ∃ b off cap, v = .slice (some ⟨b, off, none⟩) n cap ∧ n ≤ cap ∧ cap ≤ maxLen ∧ lo ≤ b ∧ b < hi ∧ b < w.heap.size ∧ (∀ j x, xs[j]? = some x → w.cell? ⟨b, off + j, none⟩ = some x) ∧ ∀ j, w.frozen? ⟨b, off + j, none⟩ = false := by
  rcases h with ⟨_, h0, _⟩ | h
  · omega
  · exact h
/-- A cell of it is written. -/
theorem RowAt.set {w : World} {lo hi n b off cap : Nat} {xs : List Value} (h : RowAt w lo hi (.slice (.some ⟨b, off, none⟩) n cap) n xs) (j : Nat) (hj : j < xs.length) (u : Value) : RowAt (w.setCell ⟨b, off + j, none⟩ u) lo hi (.slice (.some ⟨b, off, none⟩) n cap) n (xs.set j u) := by
  rcases h with ⟨h, _⟩ | ⟨b', off', cap', e, h1, h2, h3, h4, h5, h6, h7⟩
  · cases h
  · cases e
    refine .inr ⟨b, off, cap, rfl, h1, h2, h3, h4, by simp [World.setCell]; exact h5, fun i x hx => ?_, fun i => ?_⟩
    · by_cases e : i = j
      · subst e
        rw [List.getElem?_set_self hj] at hx
        cases hx
        exact World.cell?_setCell_same _ _ _ (h6 i _ (List.getElem?_eq_getElem hj))
      · rw [List.getElem?_set_ne (fun e' => e e'.symm)] at hx
        rw [World.cell?_setCell_other _ _ _ _ (by intro e'; injection e'; omega)]
        exact h6 i x hx
    · rw [World.frozen?_setCell]; exact h7 i
/-- The first element is taken off. -/
theorem RowAt.tail {w : World} {lo hi n b off cap size : Nat} {x xs : List Value} (h : RowAt w lo hi (.slice (.some ⟨b, off, none⟩) (n + 1) cap) (n + 1) (x ++ xs)) (hs : x.length = size) (v : Value) (hv : v = if cap = 1 then .slice (.some ⟨b, off, none⟩) n (cap - 1) else .slice (.some ⟨b, off + size, none⟩) n (cap - 1)) (hx : n = 0 → xs = []) : RowAt w lo hi v n xs := by
  rcases h with ⟨h, _⟩ | ⟨b', off', cap', e, h1, h2, h3, h4, h5, h6, h7⟩
  · cases h
  · cases e
    split at hv
    · obtain rfl : n = 0 := by omega
      rw [hx rfl, hv]
      exact .inr ⟨b, off, cap - 1, rfl, by omega, by omega, h3, h4, h5, fun j u hj => by simp at hj, h7⟩
    · rw [hv]
      refine .inr ⟨b, off + size, cap - 1, rfl, by omega, by omega, h3, h4, h5, fun j u hj => ?_, fun j => ?_⟩
      · rw [Nat.add_assoc]
        exact h6 (size + j) u (by rw [List.getElem?_append_right (by omega)]; simpa [hs] using hj)
      · rw [Nat.add_assoc]; exact h7 (size + j)
end Go.Proofs.YtdminjijhpemkaaGreatDoor

/-! append of a whole slice at a step of a region that draws its order: of no program. -/
namespace Go.Proofs.YtdminjijhpemkaaGreatDoor
open Go.RowKit

theorem oper_appN {P : Program} {w : World} {o : Oper} {a : Act} {K : Act → World → Prop} {Q : Exit → Act → World → Prop} {t e size bytes : Nat} {z : Value} (Et : ElemT P t e z size bytes) (s x : Operand)
    (ho : o.op = .call { callee := .builtin .append, args := #[s, x], argTypes := #[t, t] })
    (base : Nat) (v : Value) (n : Nat) (xs : List Value) (hs : a.eval s = v) (hown : w.ownsRow base e size v n xs)
    (ao : Option Addr) (m c : Nat) (news : List Value) (hx : a.eval x = .slice ao m c) (hl : news.length = m * size) (hc : CellsAt w ao news) (hnil : ao = none → c = 0) (h1 : ∀ u ∈ news, u.oneCell' = true)
    (hb : n + m ≤ 137438953472) (hbase : base ≤ w.heap.size)
    (h : ∀ v' w', w'.ownsRow base e size v' (n + m) (xs ++ news) → w.grownBy w' v.ownBlock → (∀ q, v.ownBlock = some q → base ≤ q) → (∀ k, v'.ownBlock = some k → v.ownBlock = some k ∨ w.heap.size ≤ k) → K (a.put o.dst v') w') :
    Oper.wp P o a w K Q := by
  obtain ⟨i, hi, hz, hz1, hz2⟩ := info_parts Et.info
  have hle := Nat.mul_le_mul hb Et.le
  cases ao with
  | none =>
    have hc0 := hnil rfl
    have hnews : news = [] := by
      cases news with
      | nil => rfl
      | cons u r => obtain ⟨_, _, h, _⟩ := hc 0 u rfl; cases h
    subst hnews
    have hpos := Et.pos
    have hm : m = 0 := by
      rcases Nat.mul_eq_zero.1 (show m * size = 0 from hl.symm) with h | h <;> omega
    subst hm hc0
    have hr := run_append_owned_none (P := P) (w := w) base t o.type e i size Et.und hi v n xs hown
    unfold Oper.wp execOp
    simp only [ho, resolve, invoke, builtin, Sem.run_bind, Sem.run_pure, Result.andThen_ok, List.map_toArray, List.map_cons, List.map_nil, hs, hx, hr]
    exact h v w (by simpa using hown) (gr_refl _ _) (fun q hq => (hown.lt q hq).1) (fun k hk => .inl hk)
  | some ad =>
    have hcc : ∀ j u, news[j]? = some u → w.cell? (ad.add j) = some u := by
      intro j u hj
      obtain ⟨b, off, he, hcell⟩ := hc j u hj
      cases he
      rw [Addr.add_lit]
      exact hcell
    obtain ⟨v', w', hr, h2, h3, h4⟩ := run_app_fresh (P := P) w base t o.type e i z size bytes Et.und hi hz hz1 hz2 Et.zc Et.pos v n xs hown ad m c news hl hcc h1 (by unfold maxLen; omega) (by omega) hbase
    unfold Oper.wp execOp
    simp only [ho, resolve, invoke, builtin, Sem.run_bind, Sem.run_pure, Result.andThen_ok, List.map_toArray, List.map_cons, List.map_nil, hs, hx, hr]
    exact h v' w' h2 h3 (fun q hq => (hown.lt q hq).1) h4
theorem step_appN {P : Program} {w : World} {ops : Array Oper} {o : Oper} {a : Act} {K : Act → World → Prop} {Q : Exit → Act → World → Prop} {E : Prop} {t e size bytes : Nat} {z : Value} (Et : ElemT P t e z size bytes) (hgd : o.guard = none) (s x : Operand)
    (ho : o.op = .call { callee := .builtin .append, args := #[s, x], argTypes := #[t, t] })
    (base : Nat) (v : Value) (n : Nat) (xs : List Value) (hs : a.eval s = v) (hown : w.ownsRow base e size v n xs)
    (ao : Option Addr) (m c : Nat) (news : List Value) (hx : a.eval x = .slice ao m c) (hl : news.length = m * size) (hc : CellsAt w ao news) (hnil : ao = none → c = 0) (h1 : ∀ u ∈ news, u.oneCell' = true)
    (hb : n + m ≤ 137438953472) (hbase : base ≤ w.heap.size)
    (h : ∀ v' w', w'.ownsRow base e size v' (n + m) (xs ++ news) → w.grownBy w' v.ownBlock → (∀ q, v.ownBlock = some q → base ≤ q) → (∀ k, v'.ownBlock = some k → v.ownBlock = some k ∨ w.heap.size ≤ k) → K (a.put o.dst v') w') :
    if Region.wanted o (yielded ops a.tmps) = true then Oper.wp P o a w K Q else E := by
  have hwd : Region.wanted o (yielded ops a.tmps) = true := by simp [Region.wanted, hgd]
  rw [if_pos hwd]
  exact oper_appN Et s x ho base v n xs hs hown ao m c news hx hl hc hnil h1 hb hbase h
/-- A block of another type, while an own row is written: made right ahead, or held. -/
theorem made_own {w w1 : World} {base e size n : Nat} {v : Value} {xs : List Value} {c : Array Value} {t : TypeId} (h : w.ownsRow base e size v n xs) (g : (w.alloc (.cells c t)).grownBy w1 v.ownBlock) (he : e ≠ t) : w1.heap[w.heap.size]? = some (.cells c t (0, 0)) := by
  have hn := heap_alloc_new w (.cells c t)
  exact (g.block _ (lt_of_block hn) (fun e2 => own_ne (own_keep0 h (gr_alloc (gr_refl _ _) _)) hn he e2.symm)).trans hn
theorem held_own {w w1 : World} {base e size n q : Nat} {v : Value} {xs : List Value} {c : Array Value} {t : TypeId} (h : w.ownsRow base e size v n xs) (hq : w.heap[q]? = some (.cells c t (0, 0))) (g : w.grownBy w1 v.ownBlock) (he : e ≠ t) : w1.heap[q]? = some (.cells c t (0, 0)) :=
  (g.block _ (lt_of_block hq) (fun e2 => own_ne h hq he e2.symm)).trans hq
end Go.Proofs.YtdminjijhpemkaaGreatDoor
