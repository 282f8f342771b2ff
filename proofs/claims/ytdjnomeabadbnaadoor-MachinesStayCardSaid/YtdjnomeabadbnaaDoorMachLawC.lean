/- Configurations of the stream are small; their takes' cells. -/
import Derived.Test.YtdjnomeabadbnaaDoorConfig
namespace Go.Proofs.YtdjnomeabadbnaaDoor
open Go.RowKit

theorem cfgSlots_key (l : List Int) (k i : Nat) : ∀ s ∈ (cfgSlots l k i).1, s.key.size ≤ 100 ∧ s.prod.size ≤ 100 := by
  have hs : ∀ j i, (cfgSlot l j i).key.size ≤ 100 ∧ (cfgSlot l j i).prod.size ≤ 100 := by
    intro j i
    constructor
    · show (keyABC i).size ≤ 100
      unfold keyABC
      split
      · decide
      · split <;> decide
    · have := oneS_mem l (j + 1) [⟨#[99, 97, 110]⟩, ⟨#[98, 97, 114]⟩] (by decide)
      simp only [List.mem_cons, List.not_mem_nil, or_false] at this
      show (oneS l (j + 1) [⟨#[99, 97, 110]⟩, ⟨#[98, 97, 114]⟩]).size ≤ 100
      rcases this with h | h <;> rw [h] <;> decide
  induction i with
  | zero => intro s h; simp [cfgSlots] at h
  | succ i ih =>
    intro s h
    simp only [cfgSlots] at h
    split at h
    · rcases List.mem_append.1 h with h | h
      · exact ih s h
      · simp only [List.mem_cons, List.not_mem_nil, or_false] at h
        rw [h]; exact hs _ _
    · split at h
      · rcases List.mem_append.1 h with h | h
        · exact ih s h
        · simp only [List.mem_cons, List.not_mem_nil, or_false] at h
          rw [h]; exact hs _ _
      · exact ih s h
theorem cfgM_small (l : List Int) (k : Nat) : (cfgM l k).1.tubes.length ≤ 10 ∧ (cfgM l k).1.takes.length ≤ 10 ∧ (cfgM l k).1.slots.length ≤ 10 ∧ ∀ s ∈ (cfgM l k).1.slots, s.key.size ≤ 100 ∧ s.prod.size ≤ 100 := by
  have h1 := tubesTo_len l k 5
  have h2 := cfgSlots_len l (tubesK l k + 1) 3
  have h3 := cfgSlots_key l (tubesK l k + 1) 3
  have h0 : (cfg0 l k).tubes.length ≤ 5 ∧ (cfg0 l k).takes.length = 6 ∧ (cfg0 l k).slots.length ≤ 3 ∧ ∀ s ∈ (cfg0 l k).slots, s.key.size ≤ 100 ∧ s.prod.size ≤ 100 := ⟨h1, rfl, h2, h3⟩
  obtain ⟨c, hc⟩ : ∃ c, c = cfg0 l k := ⟨_, rfl⟩
  unfold cfgM
  rw [← hc] at h0 ⊢
  obtain ⟨a1, a2, a3, a4⟩ := h0
  split
  · unfold cfgTurn
    split
    · refine ⟨by simp; omega, by simp; omega, by simp; omega, a4⟩
    · split
      · refine ⟨by simp; omega, by simp; omega, by simp; omega, a4⟩
      · split
        · refine ⟨by simp; omega, by simp; omega, by simp; omega, fun s hs => ?_⟩
          rcases List.mem_append.1 hs with hs | hs
          · exact a4 s hs
          · simp only [List.mem_cons, List.not_mem_nil, or_false] at hs
            rw [hs]
            constructor
            · have := oneS_mem l (cfgJ l k + 2) [⟨#[]⟩, ⟨#[97]⟩, ⟨#[100]⟩] (by decide)
              simp only [List.mem_cons, List.not_mem_nil, or_false] at this
              show (oneS l (cfgJ l k + 2) [⟨#[]⟩, ⟨#[97]⟩, ⟨#[100]⟩]).size ≤ 100
              rcases this with h | h | h <;> rw [h] <;> decide
            · have := oneS_mem l (cfgJ l k + 3) [⟨#[]⟩, ⟨#[99, 97, 110]⟩] (by decide)
              simp only [List.mem_cons, List.not_mem_nil, or_false] at this
              show (oneS l (cfgJ l k + 3) [⟨#[]⟩, ⟨#[99, 97, 110]⟩]).size ≤ 100
              rcases this with h | h <;> rw [h] <;> decide
        · split
          · exact ⟨by simp; omega, by simp; omega, by simp, fun s hs => by simp at hs⟩
          · split
            · exact ⟨by simp; omega, by simp; omega, by simp; omega, a4⟩
            · exact ⟨by simp; omega, by simp; omega, by simp; omega, a4⟩
  · exact ⟨by show c.tubes.length ≤ 10; omega, by show c.takes.length ≤ 10; omega, by show c.slots.length ≤ 10; omega, a4⟩

theorem TakesAt.cells {w : World} {base : Nat} {v : Value} {ks : List Int} (h : TakesAt w base v ks) : ∃ g o cap, v = .slice (some ⟨g, o, none⟩) ks.length cap ∧ CellsAt w (some ⟨g, o, none⟩) (ints ks) := by
  obtain ⟨g, o, cap, cs, rfl, _, hg, _, _, _, hx⟩ := h
  refine ⟨g, o, cap, rfl, fun j u hj => ⟨g, o, rfl, ?_⟩⟩
  simp only [ints, List.getElem?_map, Option.map_eq_some_iff] at hj
  obtain ⟨x, hx1, rfl⟩ := hj
  exact blkC hg (o + j) (hx j x hx1)
end Go.Proofs.YtdjnomeabadbnaaDoor
