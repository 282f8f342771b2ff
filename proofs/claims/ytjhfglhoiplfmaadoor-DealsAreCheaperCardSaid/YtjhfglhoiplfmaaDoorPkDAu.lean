/- The built-in copy between rows of elements of several cells, and what slices.Insert leaves of a row: of no function of the program. -/
import Derived.Test.YtjhfglhoiplfmaaDoorPkDAb
import Derived.Laws.CopyRow
import Derived.Laws.Tables
namespace Go.Proofs.YtjhfglhoiplfmaaDoor
open Go.RowKit

theorem run_copy_rowK {P : Program} (w : World) (dT sT ty elem : TypeId) (m g o dLen dCap : Nat) (a : Addr) (sLen sCap : Nat) (cur : Array Value) (t : TypeId) (cs : List Value)
    (hu : P.underlying dT = some (.slice elem)) (hs : (P.info? elem).map (·.size) = some m)
    (hg : w.heap[g]? = some (.cells cur t (0, 0))) (hn : cs.length = Nat.min sLen dLen * m)
    (hsrc : ∀ j v, cs[j]? = some v → w.cell? (a.add j) = some v) (hfit : o + cs.length ≤ cur.size) (h1 : ∀ v ∈ cs, v.oneCell' = true) :
    (Builtin.copy_ #[dT, sT] ty #[.slice (some ⟨g, o, none⟩) dLen dCap, .slice (some a) sLen sCap]).run P w =
      .ok (goInt (Nat.min sLen dLen)) (w.setRow g (cur.toList.take o ++ cs ++ cur.toList.drop (o + cs.length)).toArray) := by
  have hl := run_loadCells_list (P := P) w a cs hsrc
  have hst := run_storeCells_at P g o t cs 0 cur w hg (by simpa using hfit) h1
  cases hq : P.info? elem with
  | none => simp [hq] at hs
  | some i =>
    have hi : i.size = m := by simpa [hq] using hs
    simp [Builtin.copy_, run_underlying hu, Builtin.lenOf, Builtin.firstCells, sizeOf, typeInfo, hq, hi, ← hn, hl, hst]
/-- append of one element that lies anywhere; with where the result lies. -/
theorem wpList_app1L {P : Program} {w : World} {ops : Array Oper} {rest : List Oper} {o : Oper} {a : Act} {Q : Exit → Act → World → Prop} {t e size bytes : Nat} {z : Value} (E : ElemT P t e z size bytes) (hgd : o.guard = none) (s x : Operand)
    (ho : o.op = .call { callee := .builtin .append, args := #[s, x], argTypes := #[t, t] })
    (base : Nat) (v : Value) (n : Nat) (xs : List Value) (hs : a.eval s = v) (hown : w.ownsRow base e size v n xs)
    (g m c : Nat) (news : List Value) (hx : a.eval x = .slice (some ⟨g, 0, none⟩) m c) (hl : news.length = m * size) (hc : CellsAt w (some ⟨g, 0, none⟩) news) (h1 : ∀ u ∈ news, u.oneCell' = true)
    (hb : n + m ≤ 137438953472) (hbase : base ≤ w.heap.size)
    (h : ∀ v' w', w'.ownsRow base e size v' (n + m) (xs ++ news) → w.grownBy w' v.ownBlock → (∀ k, v'.ownBlock = some k → v.ownBlock = some k ∨ w.heap.size ≤ k) → wpList P ops Q rest (a.put o.dst v') w') : wpList P ops Q (o :: rest) a w := by
  obtain ⟨i, hi, hz, hz1, hz2⟩ := info_parts E.info
  have hle := Nat.mul_le_mul hb E.le
  obtain ⟨v', w', hr, h2, h3, h4⟩ := run_app_fresh (P := P) w base t o.type e i z size bytes E.und hi hz hz1 hz2 E.zc E.pos v n xs hown ⟨g, 0, none⟩ m c news hl
    (by
      intro j u hj
      obtain ⟨b, off, he, hc⟩ := hc j u hj
      cases he
      rw [Addr.add_lit]
      exact hc) h1 (by unfold maxLen; omega) (by omega) hbase
  refine wpList_plain hgd fun _ hK => ?_
  unfold Oper.wp execOp
  simp only [ho, resolve, invoke, builtin, Sem.run_bind, Sem.run_pure, Result.andThen_ok, List.map_toArray, List.map_cons, List.map_nil, hs, hx, hr]
  exact hK _ _ (h v' w' h2 h3 h4)
theorem setRow_gr (w : World) (g : Nat) (cs : Array Value) : w.grownBy (w.setRow g cs) (some g) :=
  ⟨rfl, rfl, rfl, by simp, fun k _ hk => setRow_other w g k cs (fun e => hk (by rw [e]))⟩
/-- An element put into a row, in place. -/
theorem own_ins {w2 : World} {base e m g n cap i : Nat} {xs news : List Value} {cur : Array Value} (hg : w2.heap[g]? = some (.cells cur e (0, 0))) (hb : base ≤ g) (hn : n + 1 ≤ cap) (hc : cap ≤ maxLen) (hx : xs.length = n * m) (hnl : news.length = m) (hi : i ≤ n)
    (hs : cur.size = cap * m) (ht : cur.toList.take ((n + 1) * m) = xs.take (i * m) ++ news ++ xs.drop (i * m)) :
    w2.ownsRow base e m (.slice (some ⟨g, 0, none⟩) (n + 1) cap) (n + 1) (xs.take (i * m) ++ news ++ xs.drop (i * m)) := by
  refine ⟨?_, .inr ⟨g, cap, cur, rfl, hb, hg, hn, hc, hs, ht⟩⟩
  have : i * m ≤ n * m := Nat.mul_le_mul_right _ hi
  rw [List.length_append, List.length_append, List.length_take, List.length_drop, hx, hnl, Nat.add_mul]
  omega
/-- The two copies of an insertion, on lists. -/
theorem ins_lists {m n i cap : Nat} {C xs news : List Value} (hC : C.length = cap * m) (hroom : n + 1 ≤ cap) (hi : i ≤ n) (hx : xs.length = n * m) (hnl : news.length = m) (htk : C.take (n * m) = xs) :
    let D := C.take ((i + 1) * m) ++ xs.drop (i * m) ++ C.drop ((i + 1) * m + (xs.drop (i * m)).length)
    let E := D.take (i * m) ++ news ++ D.drop (i * m + news.length)
    D.length = cap * m ∧ E.length = cap * m ∧ E.take ((n + 1) * m) = xs.take (i * m) ++ news ++ xs.drop (i * m) := by
  intro D E
  have h1 : i * m ≤ n * m := Nat.mul_le_mul_right _ hi
  have h2 : (n + 1) * m ≤ cap * m := Nat.mul_le_mul_right _ hroom
  have h3 : (i + 1) * m = i * m + m := by rw [Nat.add_mul, Nat.one_mul]
  have h4 : (n + 1) * m = n * m + m := by rw [Nat.add_mul, Nat.one_mul]
  have hdl : (xs.drop (i * m)).length = n * m - i * m := by rw [List.length_drop, hx]
  have hD : D.length = cap * m := by
    simp only [D, List.length_append, List.length_take, List.length_drop]
    omega
  have hDi : D.take (i * m) = xs.take (i * m) := by
    have e : D.take (i * m) = C.take (i * m) := by
      simp only [D]
      rw [List.append_assoc, List.take_append_of_le_length (by rw [List.length_take]; omega), List.take_take]
      congr 1; omega
    rw [e, ← htk, List.take_take]
    congr 1; omega
  have hDd : D.drop (i * m + news.length) = xs.drop (i * m) ++ C.drop ((i + 1) * m + (xs.drop (i * m)).length) := by
    simp only [D]
    rw [List.append_assoc]
    exact List.drop_left' (by rw [List.length_take]; omega)
  have hE : E = xs.take (i * m) ++ news ++ (xs.drop (i * m) ++ C.drop ((i + 1) * m + (xs.drop (i * m)).length)) := by
    simp only [E]
    rw [hDi, hDd]
  refine ⟨hD, ?_, ?_⟩
  · simp only [E, List.length_append, List.length_take, List.length_drop]
    omega
  · rw [hE, ← List.append_assoc]
    exact List.take_left' (by simp only [List.length_append, List.length_take, List.length_drop]; omega)
/-- The same into a new row. -/
theorem ins_lists2 {m n i : Nat} {R xs news : List Value} (hR : (n + 1) * m ≤ R.length) (hi : i ≤ n) (hx : xs.length = n * m) (hnl : news.length = m) (hRt : R.take (i * m) = xs.take (i * m)) :
    let D := R.take (i * m) ++ news ++ R.drop (i * m + news.length)
    let E := D.take ((i + 1) * m) ++ xs.drop (i * m) ++ D.drop ((i + 1) * m + (xs.drop (i * m)).length)
    D.length = R.length ∧ E.length = R.length ∧ E.take ((n + 1) * m) = xs.take (i * m) ++ news ++ xs.drop (i * m) := by
  intro D E
  have h1 : i * m ≤ n * m := Nat.mul_le_mul_right _ hi
  have h3 : (i + 1) * m = i * m + m := by rw [Nat.add_mul, Nat.one_mul]
  have h4 : (n + 1) * m = n * m + m := by rw [Nat.add_mul, Nat.one_mul]
  have hdl : (xs.drop (i * m)).length = n * m - i * m := by rw [List.length_drop, hx]
  have hD : D.length = R.length := by
    simp only [D, List.length_append, List.length_take, List.length_drop]
    omega
  have hDi : D.take ((i + 1) * m) = xs.take (i * m) ++ news := by
    simp only [D]
    rw [hRt]
    exact List.take_left' (by simp only [List.length_append, List.length_take]; omega)
  refine ⟨hD, ?_, ?_⟩
  · simp only [E, List.length_append, List.length_take, List.length_drop]
    omega
  · simp only [E]
    rw [hDi]
    exact List.take_left' (by simp only [List.length_append, List.length_take, List.length_drop]; omega)
end Go.Proofs.YtjhfglhoiplfmaaDoor
