/- Rows of structs that hold rows: owned, with what each element's cells mean. -/
import Derived.Test.YthikknnadmebgaaGreatDoorPkSAa
import Derived.Test.YthikknnadmebgaaGreatDoorPkSAb
import Derived.Test.YthikknnadmebgaaGreatDoorPkSAc
namespace Go.Proofs.YthikknnadmebgaaGreatDoor
open Go.RowKit

structure OwnNest {α : Type} (R : World → α → List Value → Prop) (w : World) (base e m : Nat) (v : Value) (xs : List α) : Prop where
  ex : ∃ cs : List (List Value), cs.length = xs.length ∧ (∀ c ∈ cs, c.length = m) ∧ w.ownsRow base e m v xs.length (flat id cs) ∧ ∀ (i : Nat) (x : α) (c : List Value), xs[i]? = some x → cs[i]? = some c → R w x c
variable {α : Type} {R : World → α → List Value → Prop}
theorem OwnNest.nil (w : World) (base e m : Nat) : OwnNest R w base e m (.slice none 0 0) [] :=
  ⟨[], rfl, fun _ h => (by simp at h), World.ownsRow_nil _ _ _ _, fun i x c h => by simp at h⟩
/-- What keeps the row and each element keeps the whole. -/
theorem OwnNest.keepW {w w1 : World} {base e m : Nat} {v : Value} {xs : List α} (h : OwnNest R w base e m v xs) {r : Option Nat} (g : w.grownBy w1 r) (hv : v.ownBlock = none ∨ v.ownBlock ≠ r) (hR : ∀ x c, R w x c → R w1 x c) : OwnNest R w1 base e m v xs := by
  obtain ⟨cs, h1, h2, h3, h4⟩ := h.ex
  exact ⟨cs, h1, h2, own_keep h3 g hv, fun i x c hx hc => hR x c (h4 i x c hx hc)⟩
theorem OwnNest.keep0 {w w1 : World} {base e m : Nat} {v : Value} {xs : List α} (h : OwnNest R w base e m v xs) (g : w.grownBy w1 none) (hR : ∀ x c, R w x c → R w1 x c) : OwnNest R w1 base e m v xs := by
  obtain ⟨cs, h1, h2, h3, h4⟩ := h.ex
  exact ⟨cs, h1, h2, own_keep0 h3 g, fun i x c hx hc => hR x c (h4 i x c hx hc)⟩
theorem OwnNest.keepS {w w1 : World} {base e m p : Nat} {v : Value} {xs : List α} (h : OwnNest R w base e m v xs) (g : w.grownBy w1 (some p)) (hp : p < base) (hR : ∀ x c, R w x c → R w1 x c) : OwnNest R w1 base e m v xs := by
  obtain ⟨cs, h1, h2, h3, h4⟩ := h.ex
  exact ⟨cs, h1, h2, own_keepS h3 g hp, fun i x c hx hc => hR x c (h4 i x c hx hc)⟩
theorem OwnNest.base {w : World} {base base' e m : Nat} {v : Value} {xs : List α} (h : OwnNest R w base e m v xs) (hb : base' ≤ base) {R' : World → α → List Value → Prop} (hR : ∀ x c, R w x c → R' w x c) : OwnNest R' w base' e m v xs := by
  obtain ⟨cs, h1, h2, h3, h4⟩ := h.ex
  exact ⟨cs, h1, h2, own_base h3 hb, fun i x c hx hc => hR x c (h4 i x c hx hc)⟩
/-- The cells of the row, for an append: what it owns, and what a longer one of its kind is. -/
theorem OwnNest.push {w : World} {base e m : Nat} {v : Value} {xs : List α} (h : OwnNest R w base e m v xs) :
    ∃ cs : List (List Value), w.ownsRow base e m v xs.length (flat id cs) ∧ (∀ (w1 : World) (v1 : Value) (x : α) (c : List Value), w1.ownsRow base e m v1 (xs.length + 1) (flat id cs ++ c) → c.length = m → (∀ y d, R w y d → R w1 y d) → R w1 x c → OwnNest R w1 base e m v1 (xs ++ [x])) := by
  obtain ⟨cs, h1, h2, h3, h4⟩ := h.ex
  refine ⟨cs, h3, fun w1 v1 x c ho hl hk hx => ⟨cs ++ [c], by simp [h1], ?_, ?_, ?_⟩⟩
  · intro d hd
    rcases List.mem_append.1 hd with hd | hd
    · exact h2 d hd
    · simp only [List.mem_cons, List.not_mem_nil, or_false] at hd
      rw [hd]; exact hl
  · rw [flat_append, flat_one]
    simpa using ho
  · intro i y d hy hd
    by_cases hi : i < xs.length
    · rw [List.getElem?_append_left hi] at hy
      rw [List.getElem?_append_left (by omega)] at hd
      exact hk y d (h4 i y d hy hd)
    · have e1 : i = xs.length := by
        have := (List.getElem?_eq_some_iff.1 hy).1
        simp at this; omega
      subst e1
      rw [List.getElem?_append_right (by omega), Nat.sub_self] at hy
      rw [List.getElem?_append_right (by omega), h1, Nat.sub_self] at hd
      simp only [List.getElem?_cons_zero, Option.some.injEq] at hy hd
      rw [← hy, ← hd]; exact hx
theorem flat_id_get (m : Nat) (cs : List (List Value)) (hm : ∀ c ∈ cs, c.length = m) (i : Nat) (c : List Value) (hc : cs[i]? = some c) (j : Nat) (u : Value) (hu : c[j]? = some u) : (flat id cs)[i * m + j]? = some u := by
  induction cs generalizing i with
  | nil => simp at hc
  | cons a l ih =>
    have ha : a.length = m := hm a (by simp)
    have hf : flat id (a :: l) = a ++ flat id l := by simp [flat]
    rw [hf]
    cases i with
    | zero =>
      simp only [List.getElem?_cons_zero, Option.some.injEq] at hc
      subst hc
      have := (List.getElem?_eq_some_iff.1 hu).1
      rw [Nat.zero_mul, Nat.zero_add, List.getElem?_append_left this]
      exact hu
    | succ i =>
      simp only [List.getElem?_cons_succ] at hc
      have h1 := ih (fun d hd => hm d (by simp [hd])) i hc
      rw [List.getElem?_append_right (by rw [ha, Nat.add_mul]; omega), ha, Nat.add_mul, Nat.one_mul, show i * m + m + j - m = i * m + j by omega]
      exact h1
/-- The same, for reading only. -/
structure NestAt (R : World → α → List Value → Prop) (w : World) (m : Nat) (a : Option Addr) (xs : List α) : Prop where
  ex : ∀ (i : Nat) (x : α), xs[i]? = some x → ∃ b off c, a = some ⟨b, off, none⟩ ∧ c.length = m ∧ R w x c ∧ ∀ j u, c[j]? = some u → w.cell? ⟨b, off + i * m + j, none⟩ = some u
theorem OwnNest.shape {w : World} {base e m : Nat} {v : Value} {xs : List α} (h : OwnNest R w base e m v xs) :
    ∃ a cap, v = .slice a xs.length cap ∧ xs.length ≤ cap ∧ cap ≤ maxLen ∧ NestAt R w m a xs ∧ (∀ b off, a = some ⟨b, off, none⟩ → base ≤ b ∧ b < w.heap.size ∧ v.ownBlock = some b) := by
  obtain ⟨cs, h1, h2, h3, h4⟩ := h.ex
  obtain ⟨a, cap, rfl, hn, hm, hc, hb⟩ := own_shape h3
  refine ⟨a, cap, rfl, hn, hm, ⟨fun i x hx => ?_⟩, hb⟩
  have hi := (List.getElem?_eq_some_iff.1 hx).1
  have hci : cs[i]? = some (cs[i]'(by omega)) := List.getElem?_eq_getElem (by omega)
  have hlen := h2 _ (List.mem_of_getElem? hci)
  have hR := h4 i x _ hx hci
  by_cases hm0 : m = 0
  · -- no cell: the address is there all the same, for the row is not empty
    have hne := own_some h3 (by omega)
    obtain ⟨g, cap', he, _⟩ := hne
    injection he with he _ _
    exact ⟨g, 0, _, he, hlen, hR, fun j u hu => by
      have := (List.getElem?_eq_some_iff.1 hu).1
      omega⟩
  · obtain ⟨b, off, he, hcell⟩ := hc _ _ (flat_id_get m cs h2 i _ hci 0 _ (List.getElem?_eq_getElem (by omega)))
    refine ⟨b, off, _, he, hlen, hR, fun j u hu => ?_⟩
    obtain ⟨b', off', he', hcell'⟩ := hc _ _ (flat_id_get m cs h2 i _ hci j u hu)
    rw [he] at he'
    cases he'
    rw [Nat.add_assoc]
    exact hcell'
theorem NestAt.keepW {w w1 : World} {m : Nat} {a : Option Addr} {xs : List α} (h : NestAt R w m a xs) {r : Option Nat} (g : w.grownBy w1 r) (hr : ∀ b off, a = some ⟨b, off, none⟩ → some b ≠ r) (hR : ∀ x c, R w x c → R w1 x c) : NestAt R w1 m a xs := by
  refine ⟨fun i x hx => ?_⟩
  obtain ⟨b, off, c, rfl, hl, hc, hu⟩ := h.ex i x hx
  refine ⟨b, off, c, rfl, hl, hR x c hc, fun j u hj => ?_⟩
  have := hu j u hj
  exact (World.cell?_of_block (w := w) (g.block b (lt_of_cell this) (hr b off rfl))).trans this
theorem NestAt.keep0 {w w1 : World} {m : Nat} {a : Option Addr} {xs : List α} (h : NestAt R w m a xs) (g : w.grownBy w1 none) (hR : ∀ x c, R w x c → R w1 x c) : NestAt R w1 m a xs :=
  h.keepW g (fun _ _ _ => by simp) hR
theorem NestAt.at {w : World} {m : Nat} {a : Option Addr} {xs : List α} (h : NestAt R w m a xs) (i : Nat) (hi : i < xs.length) : ∃ b off c, a = some ⟨b, off, none⟩ ∧ c.length = m ∧ R w xs[i] c ∧ ∀ j u, c[j]? = some u → w.cell? ⟨b, off + i * m + j, none⟩ = some u :=
  h.ex i _ (List.getElem?_eq_getElem hi)

/-! The same, where the elements' own rows lie apart. -/
def SepAll (cs : List (List Value)) : Prop := ∀ (i k : Nat) (c d : List Value) (u v : Value) (q : Nat), i ≠ k → cs[i]? = some c → cs[k]? = some d → u ∈ c → v ∈ d → u.ownBlock = some q → v.ownBlock ≠ some q
structure NestS (R : World → α → List Value → Prop) (w : World) (base e m : Nat) (v : Value) (xs : List α) : Prop where
  ex : ∃ cs : List (List Value), cs.length = xs.length ∧ (∀ c ∈ cs, c.length = m) ∧ w.ownsRow base e m v xs.length (flat id cs) ∧ (∀ (i : Nat) (x : α) (c : List Value), xs[i]? = some x → cs[i]? = some c → R w x c) ∧ SepAll cs
theorem NestS.own {w : World} {base e m : Nat} {v : Value} {xs : List α} (h : NestS R w base e m v xs) : OwnNest R w base e m v xs := by
  obtain ⟨cs, h1, h2, h3, h4, _⟩ := h.ex
  exact ⟨cs, h1, h2, h3, h4⟩
theorem NestS.nil (w : World) (base e m : Nat) : NestS R w base e m (.slice none 0 0) [] :=
  ⟨[], rfl, fun _ h => (by simp at h), World.ownsRow_nil _ _ _ _, fun i x c h => by simp at h, fun i k c d u v q _ h => by simp at h⟩
theorem NestS.keep0 {w w1 : World} {base e m : Nat} {v : Value} {xs : List α} (h : NestS R w base e m v xs) (g : w.grownBy w1 none) (hR : ∀ x c, R w x c → R w1 x c) : NestS R w1 base e m v xs := by
  obtain ⟨cs, h1, h2, h3, h4, h5⟩ := h.ex
  exact ⟨cs, h1, h2, own_keep0 h3 g, fun i x c hx hc => hR x c (h4 i x c hx hc), h5⟩
theorem NestS.keepS {w w1 : World} {base e m p : Nat} {v : Value} {xs : List α} (h : NestS R w base e m v xs) (g : w.grownBy w1 (some p)) (hp : p < base) (hR : ∀ x c, R w x c → R w1 x c) : NestS R w1 base e m v xs := by
  obtain ⟨cs, h1, h2, h3, h4, h5⟩ := h.ex
  exact ⟨cs, h1, h2, own_keepS h3 g hp, fun i x c hx hc => hR x c (h4 i x c hx hc), h5⟩
/-- For an append: N parts what the old elements hold from what the new one holds. -/
theorem NestS.push {w : World} {base e m : Nat} {v : Value} {xs : List α} (h : NestS R w base e m v xs) :
    ∃ cs : List (List Value), w.ownsRow base e m v xs.length (flat id cs) ∧ (∀ (N : Nat) (w1 : World) (v1 : Value) (x : α) (c : List Value), w1.ownsRow base e m v1 (xs.length + 1) (flat id cs ++ c) → c.length = m → (∀ y d, R w y d → R w1 y d) → (∀ y d, R w y d → ∀ u ∈ d, ∀ q, u.ownBlock = some q → q < N) → (∀ u ∈ c, ∀ q, u.ownBlock = some q → N ≤ q) → R w1 x c → NestS R w1 base e m v1 (xs ++ [x])) := by
  obtain ⟨cs, h1, h2, h3, h4, h5⟩ := h.ex
  obtain ⟨cs', h3', hp⟩ := OwnNest.push (R := R) (w := w) (base := base) (e := e) (m := m) (v := v) (xs := xs) ⟨cs, h1, h2, h3, h4⟩
  clear cs' h3' hp
  refine ⟨cs, h3, fun N w1 v1 x c ho hl hk hlt hge hx => ⟨cs ++ [c], by simp [h1], ?_, ?_, ?_, ?_⟩⟩
  · intro d hd
    rcases List.mem_append.1 hd with hd | hd
    · exact h2 d hd
    · simp only [List.mem_cons, List.not_mem_nil, or_false] at hd
      rw [hd]; exact hl
  · rw [flat_append, flat_one]
    simpa using ho
  · intro i y d hy hd
    by_cases hi : i < xs.length
    · rw [List.getElem?_append_left hi] at hy
      rw [List.getElem?_append_left (by omega)] at hd
      exact hk y d (h4 i y d hy hd)
    · have e1 : i = xs.length := by
        have := (List.getElem?_eq_some_iff.1 hy).1
        simp at this; omega
      subst e1
      rw [List.getElem?_append_right (by omega), Nat.sub_self] at hy
      rw [List.getElem?_append_right (by omega), h1, Nat.sub_self] at hd
      simp only [List.getElem?_cons_zero, Option.some.injEq] at hy hd
      rw [← hy, ← hd]; exact hx
  · have old : ∀ (i : Nat) (d : List Value), (cs ++ [c])[i]? = some d → (i < cs.length ∧ cs[i]? = some d) ∨ (i = cs.length ∧ d = c) := by
      intro i d hd
      by_cases hi : i < cs.length
      · rw [List.getElem?_append_left hi] at hd; exact .inl ⟨hi, hd⟩
      · have := (List.getElem?_eq_some_iff.1 hd).1
        simp at this
        have e1 : i = cs.length := by omega
        subst e1
        rw [List.getElem?_append_right (by omega), Nat.sub_self] at hd
        simp only [List.getElem?_cons_zero, Option.some.injEq] at hd
        exact .inr ⟨rfl, hd.symm⟩
    have oldR : ∀ (i : Nat) (d : List Value), cs[i]? = some d → i < cs.length → ∀ u ∈ d, ∀ q, u.ownBlock = some q → q < N := by
      intro i d hd hi
      exact hlt _ d (h4 i _ d (List.getElem?_eq_getElem (by omega)) hd)
    intro i k a b u v' q hik ha hb hu hv hq hq2
    rcases old i a ha with ⟨hi, ha'⟩ | ⟨hi, e1⟩
    · rcases old k b hb with ⟨hk', hb'⟩ | ⟨hk', e2⟩
      · exact h5 i k a b u v' q hik ha' hb' hu hv hq hq2
      · have h6 := oldR i a ha' hi u hu q hq
        have h7 := hge v' (e2 ▸ hv) q hq2
        omega
    · rcases old k b hb with ⟨hk', hb'⟩ | ⟨hk', e2⟩
      · have h6 := oldR k b hb' hk' v' hv q hq2
        have h7 := hge u (e1 ▸ hu) q hq
        omega
      · omega
end Go.Proofs.YthikknnadmebgaaGreatDoor
