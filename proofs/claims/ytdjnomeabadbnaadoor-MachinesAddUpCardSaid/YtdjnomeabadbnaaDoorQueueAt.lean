/- The queue of entries of vend.further, as it lies in memory: a slice that may have lost its head. -/
import Derived.Test.YtdjnomeabadbnaaDoorMakeInts
import Derived.Test.YtdjnomeabadbnaaDoorFlat
import Derived.ArgAppend
import Derived.Test.YtdjnomeabadbnaaDoorSum
namespace Go.Proofs.YtdjnomeabadbnaaDoor
open Go.RowKit

def encE (e : Nat × Int) : List Value := [.int .i64 e.1, .int .i64 e.2]
def entries (Q : List (Nat × Int)) : List Value := flat encE Q
theorem entries_len (Q : List (Nat × Int)) : (entries Q).length = Q.length * 2 := flat_length (enc := encE) (m := 2) (fun _ => rfl) Q
theorem entries_app (Q R : List (Nat × Int)) : entries (Q ++ R) = entries Q ++ entries R := flat_append Q R
theorem eEntry : ElemT Tryd.prog 248 250 (.agg #[.int .i64 0, .int .i64 0]) 2 16 := ⟨by kernel_rfl, by kernel_rfl, by decide, by decide, by decide⟩
/-- The queue: nil, or in a block of its own, from some place of it on. -/
def QueueAt (w : World) (base : Nat) (v : Value) (Q : List (Nat × Int)) : Prop :=
  (v = .slice none 0 0 ∧ Q = []) ∨ ∃ g off cap cur, v = .slice (some ⟨g, off, none⟩) Q.length cap ∧ base ≤ g ∧ w.heap[g]? = some (.cells cur 250 (0, 0)) ∧ Q.length ≤ cap ∧ cap ≤ maxLen ∧ off + cap * 2 ≤ cur.size ∧ ∀ j u, (entries Q)[j]? = some u → cur[off + j]? = some u
theorem queue_nil (w : World) (base : Nat) : QueueAt w base (.slice none 0 0) [] := .inl ⟨rfl, rfl⟩
theorem QueueAt.own {w : World} {base : Nat} {v : Value} {Q : List (Nat × Int)} (h : QueueAt w base v Q) (k : Nat) (hk : v.ownBlock = some k) : base ≤ k ∧ k < w.heap.size := by
  rcases h with ⟨rfl, _⟩ | ⟨g, off, cap, cur, rfl, hb, hg, _⟩
  · simp [Value.ownBlock] at hk
  · simp [Value.ownBlock] at hk
    subst hk
    exact ⟨hb, lt_of_block hg⟩
theorem QueueAt.keepS {w w1 : World} {base p : Nat} {v : Value} {Q : List (Nat × Int)} (h : QueueAt w base v Q) (g : w.grownBy w1 (some p)) (hp : p < base) : QueueAt w1 base v Q := by
  rcases h with h | ⟨b, off, cap, cur, rfl, hb, hg, r⟩
  · exact .inl h
  · exact .inr ⟨b, off, cap, cur, rfl, hb, by rw [g.block b (lt_of_block hg) (by simp; omega)]; exact hg, r⟩
theorem QueueAt.keep0 {w w1 : World} {base : Nat} {v : Value} {Q : List (Nat × Int)} (h : QueueAt w base v Q) (g : w.grownBy w1 none) : QueueAt w1 base v Q := by
  rcases h with h | ⟨b, off, cap, cur, rfl, hb, hg, r⟩
  · exact .inl h
  · exact .inr ⟨b, off, cap, cur, rfl, hb, by rw [g.block b (lt_of_block hg) (by simp)]; exact hg, r⟩
theorem QueueAt.len {w : World} {base n c : Nat} {a : Option Addr} {Q : List (Nat × Int)} (h : QueueAt w base (.slice a n c) Q) : n = Q.length ∧ n ≤ c := by
  rcases h with ⟨h, rfl⟩ | ⟨b, off, cap, cur, h, hb, hg, hl, _⟩
  · cases h; exact ⟨rfl, Nat.le_refl _⟩
  · cases h; exact ⟨rfl, hl⟩
theorem QueueAt.shape {w : World} {base : Nat} {v : Value} {Q : List (Nat × Int)} (h : QueueAt w base v Q) : ∃ a c, v = .slice a Q.length c ∧ Q.length ≤ c ∧ c ≤ maxLen := by
  rcases h with ⟨rfl, rfl⟩ | ⟨b, off, cap, cur, rfl, hb, hg, hl, hm, _⟩
  · exact ⟨_, _, rfl, Nat.le_refl _, Nat.zero_le _⟩
  · exact ⟨_, _, rfl, hl, hm⟩
/-- A queue that is not empty. -/
theorem queue_some {w : World} {base : Nat} {v : Value} {Q : List (Nat × Int)} (h : QueueAt w base v Q) (hQ : 0 < Q.length) : ∃ g off c, v = .slice (some ⟨g, off, none⟩) Q.length c ∧ base ≤ g ∧ g < w.heap.size ∧ Q.length ≤ c ∧ c ≤ maxLen ∧
    (∀ i (hi : i < Q.length), w.cell? ⟨g, off + i * 2, none⟩ = some (.int .i64 Q[i].1) ∧ w.cell? ⟨g, off + i * 2 + 1, none⟩ = some (.int .i64 Q[i].2)) := by
  rcases h with ⟨rfl, rfl⟩ | ⟨b, off, cap, cur, rfl, hb, hg, hl, hm, hsz, hc⟩
  · simp at hQ
  · refine ⟨b, off, cap, rfl, hb, lt_of_block hg, hl, hm, fun i hi => ?_⟩
    have h0 := hc (i * 2 + 0) (.int .i64 Q[i].1) (by rw [entries, flat_get (m := 2) (fun _ => rfl) Q i hi 0 (by omega)]; rfl)
    have h1 := hc (i * 2 + 1) (.int .i64 Q[i].2) (by rw [entries, flat_get (m := 2) (fun _ => rfl) Q i hi 1 (by omega)]; rfl)
    have e0 : off + i * 2 = off + (i * 2 + 0) := by omega
    have e1 : off + i * 2 + 1 = off + (i * 2 + 1) := by omega
    rw [e1, e0]
    constructor
    · simp only [World.cell?, hg]; exact h0
    · simp only [World.cell?, hg]; exact h1
theorem QueueAt.pop {w : World} {base g off c : Nat} {Q : List (Nat × Int)} {e : Nat × Int} (h : QueueAt w base (.slice (some ⟨g, off, none⟩) (Q ++ [e]).length c) (Q ++ [e])) : QueueAt w base (.slice (some ⟨g, off, none⟩) Q.length c) Q := by
  rcases h with ⟨h, _⟩ | ⟨b, o, cap, cur, h, hb, hg, hl, hm, hsz, hc⟩
  · cases h
  · cases h
    refine .inr ⟨g, off, c, cur, rfl, hb, hg, by simp at hl; omega, hm, hsz, fun j u hj => hc j u ?_⟩
    rw [entries_app, List.getElem?_append_left (List.getElem?_eq_some_iff.1 hj).1]
    exact hj
theorem QueueAt.front {w : World} {base g off c : Nat} {Q : List (Nat × Int)} {e : Nat × Int} (h : QueueAt w base (.slice (some ⟨g, off, none⟩) (e :: Q).length c) (e :: Q)) : QueueAt w base (.slice (some ⟨g, off + 2, none⟩) Q.length (c - 1)) Q := by
  rcases h with ⟨h, _⟩ | ⟨b, o, cap, cur, h, hb, hg, hl, hm, hsz, hc⟩
  · cases h
  · cases h
    simp only [List.length_cons] at hl
    refine .inr ⟨g, off + 2, c - 1, cur, rfl, hb, hg, by omega, by omega, by omega, fun j u hj => ?_⟩
    have := hc (j + 2) u (by show (encE e ++ entries Q)[j + 2]? = _; rw [List.getElem?_append_right (by simp [encE])]; simpa [encE] using hj)
    rw [← this]
    congr 1; omega
theorem queue_last {w : World} {base : Nat} {v : Value} {R : List (Nat × Int)} {e : Nat × Int} (h : QueueAt w base v (R ++ [e])) : ∃ g off c, v = .slice (some ⟨g, off, none⟩) (R.length + 1) c ∧ base ≤ g ∧ g < w.heap.size ∧ R.length + 1 ≤ c ∧ c ≤ maxLen ∧
    w.cell? ⟨g, off + R.length * 2 + 1, none⟩ = some (.int .i64 e.2) ∧ QueueAt w base (.slice (some ⟨g, off, none⟩) R.length c) R := by
  obtain ⟨g, off, c, rfl, h1, h2, h3, h4, h5⟩ := queue_some h (by simp)
  have h6 := h.pop
  have h7 := (h5 R.length (by simp)).2
  simp only [List.getElem_concat_length] at h7
  simp only [List.length_append, List.length_cons, List.length_nil, Nat.zero_add] at h3 ⊢
  exact ⟨g, off, c, rfl, h1, h2, h3, h4, h7, h6⟩
theorem queue_head {w : World} {base : Nat} {v : Value} {R : List (Nat × Int)} {e : Nat × Int} (h : QueueAt w base v (e :: R)) : ∃ g off c, v = .slice (some ⟨g, off, none⟩) (R.length + 1) c ∧ base ≤ g ∧ g < w.heap.size ∧ R.length + 1 ≤ c ∧ c ≤ maxLen ∧
    w.cell? ⟨g, off, none⟩ = some (.int .i64 e.1) ∧ w.cell? ⟨g, off + 1, none⟩ = some (.int .i64 e.2) ∧ QueueAt w base (.slice (some ⟨g, off + 2, none⟩) R.length (c - 1)) R := by
  obtain ⟨g, off, c, rfl, h1, h2, h3, h4, h5⟩ := queue_some h (by simp)
  have h6 := h.front
  have h7 := h5 0 (by simp)
  simp only [List.getElem_cons_zero, Nat.zero_mul, Nat.add_zero] at h7
  simp only [List.length_cons] at h3 ⊢
  exact ⟨g, off, c, rfl, h1, h2, h3, h4, h7.1, h7.2, h6⟩
theorem queue_first {w : World} {base g off n c : Nat} {Q R : List (Nat × Int)} {e : Nat × Int} (h : QueueAt w base (.slice (some ⟨g, off, none⟩) n c) Q) (hQ : Q = e :: R) : w.cell? ⟨g, off, none⟩ = some (.int .i64 e.1) ∧ w.cell? ⟨g, off + 1, none⟩ = some (.int .i64 e.2) := by
  subst hQ
  obtain ⟨g', off', c', he, _, _, _, _, h1, h2, _⟩ := queue_head h
  cases he
  exact ⟨h1, h2⟩
theorem queue_cut (Q : List (Nat × Int)) : Q = [] ∨ ∃ R e, Q = R ++ [e] := by
  rcases List.eq_nil_or_concat Q with h | ⟨R, e, h⟩
  · exact .inl h
  · exact .inr ⟨R, e, by rw [h]; simp⟩
theorem sep {α : Type} {a : Array α} {i j : Nat} {x u : α} (h : a[j]? = some u) (hne : i ≠ j) : (a.setIfInBounds i x)[j]? = some u := by rw [Array.getElem?_setIfInBounds_ne hne]; exact h
theorem own_queue {w : World} {base : Nat} {v : Value} {Q : List (Nat × Int)} (h : w.ownsRow base 250 2 v Q.length (entries Q)) : QueueAt w base v Q := by
  rcases h.2 with ⟨rfl, h0⟩ | ⟨g, cap, cur, rfl, hb, hg, hl, hm, hsz, ht⟩
  · exact .inl ⟨rfl, List.eq_nil_of_length_eq_zero h0⟩
  · refine .inr ⟨g, 0, cap, cur, rfl, hb, hg, hl, hm, by omega, fun j u hj => ?_⟩
    rw [← ht, List.getElem?_take] at hj
    split at hj
    · simpa using hj
    · cases hj

/-- append of one entry, which was laid right ahead of it in a block of its own. -/
theorem wpList_qpush {w : World} {ops : Array Oper} {rest : List Oper} {o : Oper} {a : Act} {P : Exit → Act → World → Prop} (hgd : o.guard = none) (s x : Operand)
    (ho : o.op = .call { callee := .builtin .append, args := #[s, x], argTypes := #[248, 248] })
    (base : Nat) (v : Value) (Q : List (Nat × Int)) (e : Nat × Int) (hs : a.eval s = v) (W : World) (hw : w = W.alloc (.cells #[.int .i64 e.1, .int .i64 e.2] 250)) (hown : QueueAt W base v Q)
    (hx : a.eval x = .slice (some ⟨W.heap.size, 0, none⟩) 1 1)
    (hb : Q.length + 1 ≤ 137438953472) (hbase : base ≤ W.heap.size)
    (h : ∀ v' w', QueueAt w' base v' (Q ++ [e]) → W.grownBy w' v.ownBlock → (∀ q, v.ownBlock = some q → base ≤ q) → wpList Tryd.prog ops P rest (a.put o.dst v') w') : wpList Tryd.prog ops P (o :: rest) a w := by
  subst hw
  obtain ⟨i, hi, hz, hz1, hz2⟩ := info_parts eEntry.info
  have hvb := hown.own
  have hlen := entries_len Q
  have hcn : ∀ j u, (encE e)[j]? = some u → (W.alloc (.cells #[.int .i64 e.1, .int .i64 e.2] 250)).cell? ((⟨W.heap.size, 0, none⟩ : Addr).add j) = some u := by
    intro j u hj
    obtain ⟨b, off, he, hc⟩ := CellsAt.new W #[.int .i64 e.1, .int .i64 e.2] 250 j u hj
    cases he
    rw [Addr.add_lit]
    exact hc
  have h1c : ∀ u ∈ encE e, u.oneCell' = true := by intro u hu; simp [encE] at hu; rcases hu with rfl | rfl <;> rfl
  have hsz0 : base ≤ (W.alloc (.cells #[.int .i64 e.1, .int .i64 e.2] 250)).heap.size := by simp; omega
  have hfin : ∀ v' w', w'.ownsRow (W.alloc (.cells #[.int .i64 e.1, .int .i64 e.2] 250)).heap.size 250 2 v' (Q.length + 1) (entries Q ++ encE e) → (W.alloc (.cells #[.int .i64 e.1, .int .i64 e.2] 250)).grownBy w' none → wpList Tryd.prog ops P rest (a.put o.dst v') w' := by
    intro v' w' h2 h3
    refine h v' w' (own_queue (own_base ?_ hsz0)) (gr_weak (gr_trans (gr_alloc (gr_refl _ _) _) h3) _) (fun q hq => (hvb q hq).1)
    have e1 : entries Q ++ encE e = entries (Q ++ [e]) := by rw [entries_app]; rfl
    rw [e1] at h2
    simpa using h2
  rcases hown with ⟨rfl, rfl⟩ | ⟨g, off, cap, cur, rfl, hbg, hg, hl, hm, hsz, hc⟩
  · refine wpList_append_grows _ hgd s x 248 ho 250 i _ 2 16 eEntry.und hi hz hz1 hz2 eEntry.zc (by decide) none 0 0 [] hs (fun _ => ⟨rfl, rfl⟩) rfl (fun b hb => by cases hb) ⟨W.heap.size, 0, none⟩ 1 1 (encE e) hx rfl hcn h1c (by omega) (by unfold maxLen; omega) (by omega) ?_
    intro v' w' h2 h3
    exact hfin v' w' (by simpa [entries, flat] using h2) h3
  · have hglt := lt_of_block hg
    have hg2 : (W.alloc (.cells #[.int .i64 e.1, .int .i64 e.2] 250)).heap[g]? = some (.cells cur 250 (0, 0)) := by rw [heap_alloc_old (h := hglt)]; exact hg
    refine wpList_append_arg _ hgd s x 248 ho 250 i _ 2 16 eEntry.und hi hz hz1 hz2 eEntry.zc (by decide) g off Q.length cap (entries Q) hs hlen ?_ ⟨W.heap.size, 0, none⟩ 1 1 (encE e) hx rfl hcn h1c ?_ (by unfold maxLen; omega) (by omega) ?_ (fun _ => hfin)
    · intro j u hj
      have := hc j u hj
      simp only [World.cell?, hg2]
      exact this
    · intro hr j hj
      have hj2 : j < 2 := by simpa [encE] using hj
      have hlt : off + Q.length * 2 + j < cur.size := by omega
      simp [World.cell?, World.frozen?, hg2, Array.getElem?_eq_getElem hlt]
    · intro hr
      refine h _ _ (.inr ⟨g, off, cap, (cur.setIfInBounds (off + Q.length * 2) (.int .i64 e.1)).setIfInBounds (off + Q.length * 2 + 1) (.int .i64 e.2), ?_, hbg, ?_, by simp; omega, hm, by simpa using hsz, ?_⟩) ?_ (fun q hq => by cases hq; exact hbg)
      · simp
      · show (((W.alloc _).setCell ⟨g, off + Q.length * 2, none⟩ _).setCell ⟨g, off + Q.length * 2 + 1, none⟩ _).heap[g]? = _
        exact heap_setCell_same _ g _ _ _ _ (heap_setCell_same _ g _ _ _ _ hg2)
      · intro j u hj
        rw [entries_app] at hj
        by_cases hlt : j < (entries Q).length
        · rw [List.getElem?_append_left hlt] at hj
          exact sep (sep (hc j u hj) (by omega)) (by omega)
        · rw [List.getElem?_append_right (by omega)] at hj
          have hj2 := (List.getElem?_eq_some_iff.1 hj).1
          have hl2 : (entries [e]).length = 2 := rfl
          rcases (show j = (entries Q).length ∨ j = (entries Q).length + 1 by omega) with rfl | rfl
          · rw [Nat.sub_self] at hj
            cases hj
            rw [hlen]
            refine sep ?_ (by omega)
            rw [Array.getElem?_setIfInBounds_self_of_lt (by omega)]
          · rw [Nat.add_sub_cancel_left] at hj
            cases hj
            rw [hlen, ← Nat.add_assoc]
            rw [Array.getElem?_setIfInBounds_self_of_lt (by simp; omega)]
      · show W.grownBy (((W.alloc _).setCell ⟨g, off + Q.length * 2, none⟩ _).setCell ⟨g, off + Q.length * 2 + 1, none⟩ _) (some g)
        exact gr_set (q := ⟨g, off + Q.length * 2 + 1, none⟩) (gr_set (q := ⟨g, off + Q.length * 2, none⟩) (gr_alloc (gr_refl _ _) _) rfl _) rfl _

/-! A queue of least numbers (vend.further): the plain law. No program in sight. -/

/-- A queue of least numbers, behind place 'at': entries (place, number), both rising; all of the window, and each place of the window has an entry behind it that is not greater. -/
structure QOk (f : Nat → Int) (cnt pl : Nat) (Q : List (Nat × Int)) : Prop where
  up : Q.Pairwise (fun a b => a.1 < b.1 ∧ a.2 < b.2)
  mem : ∀ e ∈ Q, e.1 ≤ pl ∧ pl ≤ e.1 + cnt ∧ e.2 = f e.1
  cov : ∀ s, s ≤ pl → pl ≤ s + cnt → ∃ e ∈ Q, s ≤ e.1 ∧ e.2 ≤ f s
/-- While the tail is popped for the place pl, whose number is f pl. -/
structure QPop (f : Nat → Int) (cnt pl : Nat) (Q : List (Nat × Int)) : Prop where
  up : Q.Pairwise (fun a b => a.1 < b.1 ∧ a.2 < b.2)
  mem : ∀ e ∈ Q, e.1 < pl ∧ pl ≤ e.1 + cnt + 1 ∧ e.2 = f e.1
  cov : ∀ s, s < pl → pl ≤ s + cnt + 1 → (∃ e ∈ Q, s ≤ e.1 ∧ e.2 ≤ f s) ∨ f pl ≤ f s
theorem QPop.start (f : Nat → Int) (cnt : Nat) : QPop f cnt 0 [] := ⟨List.Pairwise.nil, fun e h => by simp at h, fun s h => absurd h (Nat.not_lt_zero _)⟩
theorem QOk.next {f : Nat → Int} {cnt pl : Nat} {Q : List (Nat × Int)} (h : QOk f cnt pl Q) : QPop f cnt (pl + 1) Q :=
  ⟨h.up, fun e he => by have := h.mem e he; exact ⟨by omega, by omega, this.2.2⟩, fun s h1 h2 => .inl (h.cov s (by omega) (by omega))⟩
theorem QPop.pop {f : Nat → Int} {cnt pl : Nat} {Q : List (Nat × Int)} {e : Nat × Int} (h : QPop f cnt pl (Q ++ [e])) (hn : f pl ≤ e.2) : QPop f cnt pl Q := by
  refine ⟨(List.pairwise_append.1 h.up).1, fun x hx => h.mem x (List.mem_append_left _ hx), fun s h1 h2 => ?_⟩
  rcases h.cov s h1 h2 with ⟨x, hx, h3, h4⟩ | h3
  · simp only [List.mem_append, List.mem_cons, List.not_mem_nil, or_false] at hx
    rcases hx with hx | rfl
    · exact .inl ⟨x, hx, h3, h4⟩
    · exact .inr (by omega)
  · exact .inr h3
/-- The place itself is pushed; the window may hold one place too many. -/
theorem QPop.push {f : Nat → Int} {cnt pl : Nat} {Q : List (Nat × Int)} (h : QPop f cnt pl Q) (hl : ∀ e ∈ Q, e.2 < f pl) :
    (Q ++ [(pl, f pl)]).Pairwise (fun a b => a.1 < b.1 ∧ a.2 < b.2) ∧ (∀ e ∈ Q ++ [(pl, f pl)], e.1 ≤ pl ∧ pl ≤ e.1 + cnt + 1 ∧ e.2 = f e.1) ∧ (∀ s, s ≤ pl → pl ≤ s + cnt → ∃ e ∈ Q ++ [(pl, f pl)], s ≤ e.1 ∧ e.2 ≤ f s) := by
  refine ⟨List.pairwise_append.2 ⟨h.up, by simp, fun a ha b hb => ?_⟩, fun e he => ?_, fun s h1 h2 => ?_⟩
  · simp only [List.mem_cons, List.not_mem_nil, or_false] at hb
    subst hb
    exact ⟨(h.mem a ha).1, hl a ha⟩
  · simp only [List.mem_append, List.mem_cons, List.not_mem_nil, or_false] at he
    rcases he with he | rfl
    · have := h.mem e he; exact ⟨by omega, this.2.1, this.2.2⟩
    · exact ⟨Nat.le_refl _, by simp only; omega, rfl⟩
  · rcases Nat.lt_or_ge s pl with e | e
    · rcases h.cov s e (by omega) with ⟨x, hx, h3, h4⟩ | h3
      · exact ⟨x, List.mem_append_left _ hx, h3, h4⟩
      · exact ⟨(pl, f pl), by simp, by simp only; omega, h3⟩
    · exact ⟨(pl, f pl), by simp, h1, by rw [show s = pl by omega]; exact Int.le_refl _⟩
/-- The head, if it left the window, goes. -/
theorem q_front {f : Nat → Int} {cnt pl : Nat} {e : Nat × Int} {Q : List (Nat × Int)} (up : (e :: Q).Pairwise (fun a b => a.1 < b.1 ∧ a.2 < b.2)) (mem : ∀ x ∈ e :: Q, x.1 ≤ pl ∧ pl ≤ x.1 + cnt + 1 ∧ x.2 = f x.1)
    (cov : ∀ s, s ≤ pl → pl ≤ s + cnt → ∃ x ∈ e :: Q, s ≤ x.1 ∧ x.2 ≤ f s) : (e.1 + cnt < pl → QOk f cnt pl Q) ∧ (¬ e.1 + cnt < pl → QOk f cnt pl (e :: Q)) := by
  have hu := List.pairwise_cons.1 up
  constructor
  · intro h
    refine ⟨hu.2, fun x hx => ?_, fun s h1 h2 => ?_⟩
    · have h1 := mem e (by simp)
      have h2 := (hu.1 x hx).1
      have h3 := mem x (List.mem_cons_of_mem _ hx)
      exact ⟨h3.1, by omega, h3.2.2⟩
    · obtain ⟨x, hx, h3, h4⟩ := cov s h1 h2
      rcases List.mem_cons.1 hx with rfl | hx
      · omega
      · exact ⟨x, hx, h3, h4⟩
  · intro h
    refine ⟨up, fun x hx => ?_, cov⟩
    have h3 := mem x hx
    rcases List.mem_cons.1 hx with rfl | hx
    · exact ⟨h3.1, by omega, h3.2.2⟩
    · have h2 := (hu.1 x hx).1
      exact ⟨h3.1, by omega, h3.2.2⟩
/-- The head is the least number of the window. -/
theorem QOk.least {f : Nat → Int} {cnt pl : Nat} {e : Nat × Int} {Q : List (Nat × Int)} (h : QOk f cnt pl (e :: Q)) : (e.1 ≤ pl ∧ pl ≤ e.1 + cnt ∧ e.2 = f e.1) ∧ ∀ s, s ≤ pl → pl ≤ s + cnt → e.2 ≤ f s := by
  refine ⟨h.mem e (by simp), fun s h1 h2 => ?_⟩
  obtain ⟨x, hx, _, h4⟩ := h.cov s h1 h2
  rcases List.mem_cons.1 hx with rfl | hx
  · exact h4
  · have := ((List.pairwise_cons.1 h.up).1 x hx).2
    omega
theorem QOk.some {f : Nat → Int} {cnt pl : Nat} {Q : List (Nat × Int)} (h : QOk f cnt pl Q) : Q ≠ [] := by
  intro e
  obtain ⟨x, hx, _⟩ := h.cov pl (Nat.le_refl _) (by omega)
  rw [e] at hx
  simp at hx
end Go.Proofs.YtdjnomeabadbnaaDoor
