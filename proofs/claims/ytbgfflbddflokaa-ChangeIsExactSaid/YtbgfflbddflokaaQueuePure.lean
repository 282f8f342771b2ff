/- A queue of least numbers (vend.further): the plain law. No program in sight. -/
import Derived.Test.YtbgfflbddflokaaSum
namespace Go.Proofs.Ytbgfflbddflokaa

/-- A queue of least numbers, behind place 'at': entries (place, number), both rising; all of the window, and each place of the window has an entry behind it that is not greater. -/
structure QOk (f : Nat → Int) (cnt pl : Nat) (Q : List (Nat × Int)) : Prop where
  up : Q.Pairwise (fun a b => a.1 < b.1 ∧ a.2 < b.2)
  mem : ∀ e ∈ Q, e.1 ≤ pl ∧ pl ≤ e.1 + cnt ∧ e.2 = f e.1
  cov : ∀ s, s ≤ pl → pl ≤ s + cnt → ∃ e ∈ Q, s ≤ e.1 ∧ e.2 ≤ f s
/-- While the tail is popped for the place pl, whose number is f pl. -/
structure QPop (f : Nat → Int) (cnt pl : Nat) (Q : List (Nat × Int)) : Prop where
  up : Q.Pairwise (fun a b => a.1 < b.1 ∧ a.2 < b.2)
  mem : ∀ e ∈ Q, e.1 < pl ∧ pl ≤ e.1 + cnt + 1 ∧ e.2 = f e.1
  cov : ∀ s, s < pl → pl ≤ s + cnt + 1 → (∃ e ∈ Q, s ≤ e.1 ∧ e.2 ≤ f s) ∨ f pl ≤ f s
theorem QPop.start (f : Nat → Int) (cnt : Nat) : QPop f cnt 0 [] := ⟨List.Pairwise.nil, fun e h => by simp at h, fun s h => absurd h (Nat.not_lt_zero _)⟩
theorem QOk.next {f : Nat → Int} {cnt pl : Nat} {Q : List (Nat × Int)} (h : QOk f cnt pl Q) : QPop f cnt (pl + 1) Q :=
  ⟨h.up, fun e he => by have := h.mem e he; exact ⟨by omega, by omega, this.2.2⟩, fun s h1 h2 => .inl (h.cov s (by omega) (by omega))⟩
theorem QPop.pop {f : Nat → Int} {cnt pl : Nat} {Q : List (Nat × Int)} {e : Nat × Int} (h : QPop f cnt pl (Q ++ [e])) (hn : f pl ≤ e.2) : QPop f cnt pl Q := by
  refine ⟨(List.pairwise_append.1 h.up).1, fun x hx => h.mem x (List.mem_append_left _ hx), fun s h1 h2 => ?_⟩
  rcases h.cov s h1 h2 with ⟨x, hx, h3, h4⟩ | h3
  · simp only [List.mem_append, List.mem_cons, List.not_mem_nil, or_false] at hx
    rcases hx with hx | rfl
    · exact .inl ⟨x, hx, h3, h4⟩
    · exact .inr (by omega)
  · exact .inr h3
/-- The place itself is pushed; the window may hold one place too many. -/
theorem QPop.push {f : Nat → Int} {cnt pl : Nat} {Q : List (Nat × Int)} (h : QPop f cnt pl Q) (hl : ∀ e ∈ Q, e.2 < f pl) :
    (Q ++ [(pl, f pl)]).Pairwise (fun a b => a.1 < b.1 ∧ a.2 < b.2) ∧ (∀ e ∈ Q ++ [(pl, f pl)], e.1 ≤ pl ∧ pl ≤ e.1 + cnt + 1 ∧ e.2 = f e.1) ∧ (∀ s, s ≤ pl → pl ≤ s + cnt → ∃ e ∈ Q ++ [(pl, f pl)], s ≤ e.1 ∧ e.2 ≤ f s) := by
  refine ⟨List.pairwise_append.2 ⟨h.up, by simp, fun a ha b hb => ?_⟩, fun e he => ?_, fun s h1 h2 => ?_⟩
  · simp only [List.mem_cons, List.not_mem_nil, or_false] at hb
    subst hb
    exact ⟨(h.mem a ha).1, hl a ha⟩
  · simp only [List.mem_append, List.mem_cons, List.not_mem_nil, or_false] at he
    rcases he with he | rfl
    · have := h.mem e he; exact ⟨by omega, this.2.1, this.2.2⟩
    · exact ⟨Nat.le_refl _, by simp only; omega, rfl⟩
  · rcases Nat.lt_or_ge s pl with e | e
    · rcases h.cov s e (by omega) with ⟨x, hx, h3, h4⟩ | h3
      · exact ⟨x, List.mem_append_left _ hx, h3, h4⟩
      · exact ⟨(pl, f pl), by simp, by simp only; omega, h3⟩
    · exact ⟨(pl, f pl), by simp, h1, by rw [show s = pl by omega]; exact Int.le_refl _⟩
/-- The head, if it left the window, goes. -/
theorem q_front {f : Nat → Int} {cnt pl : Nat} {e : Nat × Int} {Q : List (Nat × Int)} (up : (e :: Q).Pairwise (fun a b => a.1 < b.1 ∧ a.2 < b.2)) (mem : ∀ x ∈ e :: Q, x.1 ≤ pl ∧ pl ≤ x.1 + cnt + 1 ∧ x.2 = f x.1)
    (cov : ∀ s, s ≤ pl → pl ≤ s + cnt → ∃ x ∈ e :: Q, s ≤ x.1 ∧ x.2 ≤ f s) : (e.1 + cnt < pl → QOk f cnt pl Q) ∧ (¬ e.1 + cnt < pl → QOk f cnt pl (e :: Q)) := by
  have hu := List.pairwise_cons.1 up
  constructor
  · intro h
    refine ⟨hu.2, fun x hx => ?_, fun s h1 h2 => ?_⟩
    · have h1 := mem e (by simp)
      have h2 := (hu.1 x hx).1
      have h3 := mem x (List.mem_cons_of_mem _ hx)
      exact ⟨h3.1, by omega, h3.2.2⟩
    · obtain ⟨x, hx, h3, h4⟩ := cov s h1 h2
      rcases List.mem_cons.1 hx with rfl | hx
      · omega
      · exact ⟨x, hx, h3, h4⟩
  · intro h
    refine ⟨up, fun x hx => ?_, cov⟩
    have h3 := mem x hx
    rcases List.mem_cons.1 hx with rfl | hx
    · exact ⟨h3.1, by omega, h3.2.2⟩
    · have h2 := (hu.1 x hx).1
      exact ⟨h3.1, by omega, h3.2.2⟩
/-- The head is the least number of the window. -/
theorem QOk.least {f : Nat → Int} {cnt pl : Nat} {e : Nat × Int} {Q : List (Nat × Int)} (h : QOk f cnt pl (e :: Q)) : (e.1 ≤ pl ∧ pl ≤ e.1 + cnt ∧ e.2 = f e.1) ∧ ∀ s, s ≤ pl → pl ≤ s + cnt → e.2 ≤ f s := by
  refine ⟨h.mem e (by simp), fun s h1 h2 => ?_⟩
  obtain ⟨x, hx, _, h4⟩ := h.cov s h1 h2
  rcases List.mem_cons.1 hx with rfl | hx
  · exact h4
  · have := ((List.pairwise_cons.1 h.up).1 x hx).2
    omega
theorem QOk.some {f : Nat → Int} {cnt pl : Nat} {Q : List (Nat × Int)} (h : QOk f cnt pl Q) : Q ≠ [] := by
  intro e
  obtain ⟨x, hx, _⟩ := h.cov pl (Nat.le_refl _) (by omega)
  rw [e] at hx
  simp at hx
end Go.Proofs.Ytbgfflbddflokaa
