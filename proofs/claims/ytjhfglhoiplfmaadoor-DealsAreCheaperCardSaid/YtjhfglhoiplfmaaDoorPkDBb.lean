/- Tables: as the stream makes them. -/
import Derived.Test.YtjhfglhoiplfmaaDoorPkDAd
import Derived.Test.YtjhfglhoiplfmaaDoorPkDAy
import Derived.Deep.RegionHeld3
namespace Go.Proofs.YtjhfglhoiplfmaaDoor
open Go.RowKit
variable {lw : Nat}

/-- A row of a table behind m of its numbers, what is left of 100, and the stream's place. -/
def rowTo (l : List Int) (k i : Nat) : Nat → List Int × Int × Nat
  | 0 => ([], 100, k)
  | m + 1 =>
    let p := rowTo l k i m
    if m = i then (p.1 ++ [0], p.2.1, p.2.2)
    else (p.1 ++ [min (pickM l p.2.2 [0, 10, 33, 50]) p.2.1], p.2.1 - min (pickM l p.2.2 [0, 10, 33, 50]) p.2.1, p.2.2 + 1)
def tblTo (l : List Int) (k n : Nat) : Nat → List (List Int) × Nat
  | 0 => ([], k)
  | i + 1 =>
    let p := tblTo l k n i
    let q := rowTo l p.2 i n
    (p.1 ++ [q.1], q.2.2)
theorem rowTo_len (l : List Int) (k i m : Nat) : (rowTo l k i m).1.length = m := by
  induction m with
  | zero => rfl
  | succ m ih => simp only [rowTo]; split <;> simp [ih]
theorem rowTo_k (l : List Int) (k i m : Nat) : (rowTo l k i m).2.2 ≤ k + m := by
  induction m with
  | zero => exact Nat.le_refl _
  | succ m ih => simp only [rowTo]; split <;> simp <;> omega
theorem rowTo_left (l : List Int) (k i m : Nat) : 0 ≤ (rowTo l k i m).2.1 ∧ (rowTo l k i m).2.1 ≤ 100 := by
  induction m with
  | zero => simp [rowTo]
  | succ m ih =>
    simp only [rowTo]
    have hm := pickM_mem l (rowTo l k i m).2.2 [0, 10, 33, 50] (by decide)
    have hb : 0 ≤ pickM l (rowTo l k i m).2.2 [0, 10, 33, 50] := by simp only [List.mem_cons, List.not_mem_nil, or_false] at hm; omega
    split
    · exact ih
    · simp only; omega
theorem tblTo_len (l : List Int) (k n i : Nat) : (tblTo l k n i).1.length = i := by
  induction i with
  | zero => rfl
  | succ i ih => simp [tblTo, ih]
theorem tblTo_k (l : List Int) (k n i : Nat) : (tblTo l k n i).2 ≤ k + n * i := by
  induction i with
  | zero => exact Nat.le_refl _
  | succ i ih => have := rowTo_k l (tblTo l k n i).2 i n; simp only [tblTo]; rw [Nat.mul_succ]; omega
theorem tblTo_rows (l : List Int) (k n i j : Nat) (h : j < i) : ((tblTo l k n i).1.getD j []).length = n := by
  induction i with
  | zero => omega
  | succ i ih =>
    simp only [tblTo]
    by_cases e : j < i
    · have := ih e
      rw [List.getD_eq_getElem?_getD] at this
      rw [List.getD_eq_getElem?_getD, List.getElem?_append_left (by rw [tblTo_len]; exact e)]
      exact this
    · rw [List.getD_eq_getElem?_getD, List.getElem?_append_right (by rw [tblTo_len]; omega), tblTo_len, show j - i = 0 by omega]
      simp [rowTo_len]
theorem min_if (x y : Int) : min x y = if y < x then y else x := by split <;> omega
def tabN (l : List Int) (k : Nat) : Nat := (1 + nxt l k 4).toNat
def tab0 (l : List Int) (k : Nat) : List (List Int) × Nat := tblTo l (k + 1) (tabN l k) (tabN l k)
/-- The table that the stream makes at its place k, and its place behind it. -/
def tableE (l : List Int) (n : Nat) (T : List (List Int)) (q : Nat) : List (List Int) × Nat :=
  if flipM l q 12 = true then
    if nxt l (q + 1) 3 = 0 then
      (T.set (nxt l (q + 2) n).toNat ((T.getD (nxt l (q + 2) n).toNat []).set (nxt l (q + 3) n).toNat (pickM l (q + 4) [-1, 5, 101, 100])), q + 5)
    else if nxt l (q + 1) 3 = 1 then (T ++ [[0]], q + 2)
    else ([], q + 2)
  else (T, q + 1)
def tableM (l : List Int) (k : Nat) : List (List Int) × Nat := tableE l (tabN l k) (tab0 l k).1 (tab0 l k).2
theorem tableM_eq (l : List Int) (k n : Nat) (h : 1 + nxt l k (4 - 1 + 1) = n) : tableM l k = tableE l n (tblTo l (k + 1) n n).1 (tblTo l (k + 1) n n).2 := by
  have : tabN l k = n := by unfold tabN; rw [show (4 : Int) = 4 - 1 + 1 from rfl, h]; rfl
  unfold tableM tab0
  rw [this]
theorem tabN_le (l : List Int) (k : Nat) : 1 ≤ tabN l k ∧ tabN l k ≤ 4 := by
  have := nxt_range l k 4 (by omega)
  unfold tabN; omega
theorem tableM_k (l : List Int) (k : Nat) : (tableM l k).2 ≤ k + 22 := by
  have h1 := tblTo_k l (k + 1) (tabN l k) (tabN l k)
  have h2 := tabN_le l k
  have h3 : tabN l k * tabN l k ≤ 4 * 4 := Nat.mul_le_mul h2.2 h2.2
  unfold tableM tableE tab0
  (repeat' split) <;> simp only <;> omega
theorem tableM_len (l : List Int) (k : Nat) : (tableM l k).1.length ≤ 5 := by
  have h2 := tabN_le l k
  unfold tableM tableE tab0
  (repeat' split) <;> simp [tblTo_len] <;> omega
theorem tableM_row (l : List Int) (k : Nat) : ∀ r ∈ (tableM l k).1, r.length ≤ 4 := by
  have h2 := tabN_le l k
  have h0 : ∀ r ∈ (tblTo l (k + 1) (tabN l k) (tabN l k)).1, r.length ≤ 4 := by
    intro r hr
    obtain ⟨j, hj, rfl⟩ := List.getElem_of_mem hr
    have hj' := hj
    rw [tblTo_len] at hj'
    have := tblTo_rows l (k + 1) (tabN l k) (tabN l k) j hj'
    rw [List.getD_eq_getElem?_getD, List.getElem?_eq_getElem hj, Option.getD_some] at this
    omega
  unfold tableM tableE tab0
  generalize tblTo l (k + 1) (tabN l k) (tabN l k) = p at h0
  intro r hr
  split at hr
  · split at hr
    · obtain ⟨j, hj, rfl⟩ := List.getElem_of_mem hr
      simp only [List.length_set] at hj
      rw [List.getElem_set]
      split
      · rw [List.length_set]
        rw [List.getD_eq_getElem?_getD]
        rename_i e
        rw [e, List.getElem?_eq_getElem hj, Option.getD_some]
        exact h0 _ (List.getElem_mem _)
      · exact h0 _ (List.getElem_mem _)
    · split at hr
      · simp only [List.mem_append, List.mem_cons, List.not_mem_nil, or_false] at hr
        rcases hr with hr | rfl
        · exact h0 r hr
        · simp
      · simp at hr
  · exact h0 r hr

theorem set_block {w : World} {p : Nat} {v0 : Value} {t : TypeId} {m : Nat × Nat} (h : w.heap[p]? = some (.cells #[v0] t m)) (v : Value) : (w.setCell ⟨p, 0, none⟩ v).heap[p]? = some (.cells #[v] t m) := by
  have hlt := lt_of_block h
  have h' : w.heap[p] = .cells #[v0] t m := by simpa [Array.getElem?_eq_getElem hlt] using h
  show (w.heap.modify p _)[p]? = _
  rw [Array.getElem?_eq_getElem (by simpa using hlt), Array.getElem_modify_self, h']
  rfl

/-- The end: what lies in t goes into the result. -/
theorem tab_fin {w wz : World} {p base K b : Nat} {l : List Int} {v : Value} {T : List (List Int)} {vs : List Value} (hp : p < b) (hwb : w.heap.size ≤ b) (hrows : OwnRows wz base v T vs) (hb : b < base) (hs : StreamAt wz p lw l K) (hg : w.grownBy wz (some p)) (hwl : w.heap.size ≤ base) :
    OwnRows (wz.setCell ⟨b, 0, none⟩ v) w.heap.size v T vs ∧ StreamAt (wz.setCell ⟨b, 0, none⟩ v) p lw l K ∧ w.grownBy (wz.setCell ⟨b, 0, none⟩ v) (some p) :=
  ⟨(hrows.keepS (gr_set (gr_refl wz (some b)) rfl _) hb).low hwl, hs.keep (gr_set (gr_refl wz (some b)) rfl _) (fun q e => by cases e; exact hp), gr_new hg hwb _⟩

theorem gr_cellS {w w1 : World} {p b o : Nat} (h : w.grownBy w1 (some p)) (hb : b < w.heap.size) (hn : b ≠ p) : w1.cell? ⟨b, o, none⟩ = w.cell? ⟨b, o, none⟩ := World.cell?_of_block (w := w) (h.block b hb (by simpa using hn))
theorem gr_freeS {w w1 : World} {p b o : Nat} (h : w.grownBy w1 (some p)) (hb : b < w.heap.size) (hn : b ≠ p) : w1.frozen? ⟨b, o, none⟩ = w.frozen? ⟨b, o, none⟩ := World.frozen?_of_block (w := w) (h.block b hb (by simpa using hn))
theorem cellA {w : World} {b o : Nat} {v : Value} (h : w.cell? ⟨b, o, none⟩ = some v) (ob : Obj) : (w.alloc ob).cell? ⟨b, o, none⟩ = some v := (gr_cell (gr_alloc (gr_refl w none) ob) (lt_of_cell h)).trans h
theorem cell_set {w : World} {b o g j : Nat} {v : Value} (h : w.cell? ⟨b, o, none⟩ = some v) (hn : b ≠ g) (x : Value) : (w.setCell ⟨g, j, none⟩ x).cell? ⟨b, o, none⟩ = some v := (gr_cellS (gr_set (gr_refl w (some g)) (q := ⟨g, j, none⟩) rfl x) (lt_of_cell h) hn).trans h

theorem und_parts {P : Program} {t : TypeId} (h : (P.underlying t).map (fun d => match d with | .struct _ => true | _ => false) = some true) : ∃ fs, P.underlying t = some (.struct fs) := by
  cases hd : P.underlying t with
  | none => rw [hd] at h; cases h
  | some d =>
    rw [hd] at h
    cases d with
    | struct fs => exact ⟨fs, rfl⟩
    | _ => simp at h

end Go.Proofs.YtjhfglhoiplfmaaDoor
