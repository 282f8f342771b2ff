/- A slice in memory of the call's own, from some place of a block on: it may be read and written. Of no program. -/
import Derived.Test.YtakabckmiodjaaaDoorPkDAj
import Derived.Test.YtakabckmiodjaaaDoorPkDBb
namespace Go.Proofs.YtakabckmiodjaaaDoor
open Go.RowKit

/-- A slice of n elements: nil, or in a block from lo on and before hi; what it reads; nothing of it is frozen. -/
def RowAt (w : World) (lo hi : Nat) (v : Value) (n : Nat) (xs : List Value) : Prop :=
  (v = .slice none 0 0 ∧ n = 0 ∧ xs = []) ∨ ∃ b off cap, v = .slice (some ⟨b, off, none⟩) n cap ∧ n ≤ cap ∧ cap ≤ maxLen ∧ lo ≤ b ∧ b < hi ∧ b < w.heap.size ∧ (∀ j x, xs[j]? = some x → w.cell? ⟨b, off + j, none⟩ = some x) ∧ ∀ j, w.frozen? ⟨b, off + j, none⟩ = false
theorem RowAt.shape {w : World} {lo hi n : Nat} {v : Value} {xs : List Value} (h : RowAt w lo hi v n xs) :
    ∃ a cap, v = .slice a n cap ∧ n ≤ cap ∧ cap ≤ maxLen ∧ (a = none → n = 0 ∧ cap = 0) ∧ CellsAt w a xs ∧ (∀ b off, a = some ⟨b, off, none⟩ → lo ≤ b ∧ b < hi) := by
  rcases h with ⟨rfl, rfl, rfl⟩ | ⟨b, off, cap, rfl, h1, h2, h3, h4, h5, h6, h7⟩
  · exact ⟨none, 0, rfl, Nat.le_refl _, Nat.zero_le _, fun _ => ⟨rfl, rfl⟩, CellsAt.nil _ _, fun b off e => by cases e⟩
  · exact ⟨some ⟨b, off, none⟩, cap, rfl, h1, h2, (fun e => by cases e), fun j x hx => ⟨b, off, rfl, h6 j x hx⟩, (fun b' off' e => by cases e; exact ⟨h3, h4⟩)⟩
theorem RowAt.keep {w w1 : World} {lo hi n : Nat} {v : Value} {xs : List Value} {r : Option Nat} (h : RowAt w lo hi v n xs) (g : w.grownBy w1 r) (hr : ∀ q, r = some q → q < lo ∨ hi ≤ q) : RowAt w1 lo hi v n xs := by
  rcases h with h | ⟨b, off, cap, rfl, h1, h2, h3, h4, h5, h6, h7⟩
  · exact .inl h
  · have hb := g.block b h5 (fun e => by have := hr b e.symm; omega)
    refine .inr ⟨b, off, cap, rfl, h1, h2, h3, h4, Nat.lt_of_lt_of_le h5 g.size, fun j x hx => ?_, fun j => ?_⟩
    · exact (World.cell?_of_block (w := w) hb).trans (h6 j x hx)
    · exact (World.frozen?_of_block (w := w) hb).trans (h7 j)
theorem RowAt.keep0 {w w1 : World} {lo hi n : Nat} {v : Value} {xs : List Value} (h : RowAt w lo hi v n xs) (g : w.grownBy w1 none) : RowAt w1 lo hi v n xs := h.keep g (fun q e => by cases e)
theorem RowAt.wide {w : World} {lo hi lo' hi' n : Nat} {v : Value} {xs : List Value} (h : RowAt w lo hi v n xs) (h1 : lo' ≤ lo) (h2 : hi ≤ hi') : RowAt w lo' hi' v n xs := by
  rcases h with h | ⟨b, off, cap, rfl, a1, a2, a3, a4, r⟩
  · exact .inl h
  · exact .inr ⟨b, off, cap, rfl, a1, a2, by omega, by omega, r⟩
theorem own_row {w : World} {base e size n : Nat} {v : Value} {xs : List Value} (h : w.ownsRow base e size v n xs) : RowAt w base w.heap.size v n xs := by
  rcases h.2 with ⟨rfl, rfl⟩ | ⟨g, cap, cur, rfl, hb, hg, hn, hcap, hs, ht⟩
  · exact .inl ⟨rfl, rfl, List.eq_nil_of_length_eq_zero (by simpa using h.1)⟩
  · refine .inr ⟨g, 0, cap, rfl, hn, hcap, hb, lt_of_block hg, lt_of_block hg, fun j x hx => ?_, fun j => ?_⟩
    · have h1 := h.cells (g := g) (by simp [Value.ownBlock]) j x hx
      rw [Addr.add_lit] at h1
      exact h1
    · exact blkF hg _
/-- A row that has something: where it lies. -/
theorem RowAt.some {w : World} {lo hi n : Nat} {v : Value} {xs : List Value} (h : RowAt w lo hi v n xs) (hn : 0 < n) :
    ∃ b off cap, v = .slice (some ⟨b, off, none⟩) n cap ∧ n ≤ cap ∧ cap ≤ maxLen ∧ lo ≤ b ∧ b < hi ∧ b < w.heap.size ∧ (∀ j x, xs[j]? = some x → w.cell? ⟨b, off + j, none⟩ = some x) ∧ ∀ j, w.frozen? ⟨b, off + j, none⟩ = false := by
  rcases h with ⟨_, h0, _⟩ | h
  · omega
  · exact h
/-- A cell of it is written. -/
theorem RowAt.set {w : World} {lo hi n b off cap : Nat} {xs : List Value} (h : RowAt w lo hi (.slice (.some ⟨b, off, none⟩) n cap) n xs) (j : Nat) (hj : j < xs.length) (u : Value) : RowAt (w.setCell ⟨b, off + j, none⟩ u) lo hi (.slice (.some ⟨b, off, none⟩) n cap) n (xs.set j u) := by
  rcases h with ⟨h, _⟩ | ⟨b', off', cap', e, h1, h2, h3, h4, h5, h6, h7⟩
  · cases h
  · cases e
    refine .inr ⟨b, off, cap, rfl, h1, h2, h3, h4, by simp [World.setCell]; exact h5, fun i x hx => ?_, fun i => ?_⟩
    · by_cases e : i = j
      · subst e
        rw [List.getElem?_set_self hj] at hx
        cases hx
        exact World.cell?_setCell_same _ _ _ (h6 i _ (List.getElem?_eq_getElem hj))
      · rw [List.getElem?_set_ne (fun e' => e e'.symm)] at hx
        rw [World.cell?_setCell_other _ _ _ _ (by intro e'; injection e'; omega)]
        exact h6 i x hx
    · rw [World.frozen?_setCell]; exact h7 i
/-- The first element is taken off. -/
theorem RowAt.tail {w : World} {lo hi n b off cap size : Nat} {x xs : List Value} (h : RowAt w lo hi (.slice (.some ⟨b, off, none⟩) (n + 1) cap) (n + 1) (x ++ xs)) (hs : x.length = size) (v : Value) (hv : v = if cap = 1 then .slice (.some ⟨b, off, none⟩) n (cap - 1) else .slice (.some ⟨b, off + size, none⟩) n (cap - 1)) (hx : n = 0 → xs = []) : RowAt w lo hi v n xs := by
  rcases h with ⟨h, _⟩ | ⟨b', off', cap', e, h1, h2, h3, h4, h5, h6, h7⟩
  · cases h
  · cases e
    split at hv
    · obtain rfl : n = 0 := by omega
      rw [hx rfl, hv]
      exact .inr ⟨b, off, cap - 1, rfl, by omega, by omega, h3, h4, h5, fun j u hj => by simp at hj, h7⟩
    · rw [hv]
      refine .inr ⟨b, off + size, cap - 1, rfl, by omega, by omega, h3, h4, h5, fun j u hj => ?_, fun j => ?_⟩
      · rw [Nat.add_assoc]
        exact h6 (size + j) u (by rw [List.getElem?_append_right (by omega)]; simpa [hs] using hj)
      · rw [Nat.add_assoc]; exact h7 (size + j)
end Go.Proofs.YtakabckmiodjaaaDoor
