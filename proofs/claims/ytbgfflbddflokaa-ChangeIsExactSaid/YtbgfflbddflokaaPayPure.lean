/- Payments with as few coins as possible, kind by kind: the plain law. No program in sight. -/
import Derived.Test.YtbgfflbddflokaaSum
namespace Go.Proofs.Ytbgfflbddflokaa

/-- With the first k kinds of coins, of which there are C i of value V i, m coins pay a. -/
def Pay (V C : Nat → Nat) : Nat → Nat → Nat → Prop
  | 0, a, m => a = 0 ∧ m = 0
  | k + 1, a, m => ∃ j, j ≤ C k ∧ j * V k ≤ a ∧ j ≤ m ∧ Pay V C k (a - j * V k) (m - j)
/-- A row says for each amount below n with how few coins it is paid. -/
def RowOk (V C : Nat → Nat) (k n : Nat) (p : Nat → Int) : Prop :=
  ∀ a, a < n → p a ≤ 1073741824 ∧ (p a < 1073741824 → ∃ m : Nat, p a = m ∧ Pay V C k a m) ∧ (∀ m : Nat, Pay V C k a m → p a ≤ m)
theorem row_first (V C : Nat → Nat) (n : Nat) (p : Nat → Int) (h0 : p 0 = 0) (h : ∀ a, 0 < a → a < n → p a = 1073741824) : RowOk V C 0 n p := by
  intro a ha
  rcases Nat.eq_zero_or_pos a with e | e
  · subst e
    exact ⟨by omega, fun _ => ⟨0, by simpa using h0, rfl, rfl⟩, fun m hm => by omega⟩
  · have h1 := h a e ha
    refine ⟨by omega, fun h2 => by omega, fun m hm => ?_⟩
    have := hm.1
    omega
theorem row_next {V C : Nat → Nat} {k n : Nat} {p out : Nat → Int} (hV : 1 ≤ V k) (hp : RowOk V C k n p)
    (ho : ∀ a, a < n → ∃ s, s ≤ a / V k ∧ a / V k ≤ s + C k ∧ out a = min (p (a % V k + s * V k) - s + (a / V k : Nat)) 1073741824 ∧
      ∀ s', s' ≤ a / V k → a / V k ≤ s' + C k → p (a % V k + s * V k) - s ≤ p (a % V k + s' * V k) - s') : RowOk V C (k + 1) n out := by
  intro a ha
  obtain ⟨s, hs1, hs2, he, hl⟩ := ho a ha
  have hdm := Nat.div_add_mod a (V k)
  have hb : ∀ t, t ≤ a / V k → a % V k + t * V k = a - (a / V k - t) * V k ∧ (a / V k - t) * V k ≤ a ∧ a % V k + t * V k < n := by
    intro t ht
    have h1 : (a / V k - t) * V k + t * V k = a / V k * V k := by rw [← Nat.add_mul, Nat.sub_add_cancel ht]
    rw [Nat.mul_comm (a / V k) (V k)] at h1
    omega
  obtain ⟨hb1, hb2, hb3⟩ := hb s hs1
  obtain ⟨hp1, hp2, hp3⟩ := hp _ hb3
  refine ⟨by omega, fun hlt => ?_, fun m hm => ?_⟩
  · have hq : p (a % V k + s * V k) < 1073741824 := by omega
    obtain ⟨m, hm1, hm2⟩ := hp2 hq
    have h1 : out a = ((m + (a / V k - s) : Nat) : Int) := by
      rw [hm1] at he
      generalize a / V k = d at he hs1
      omega
    have h2 : a / V k - s ≤ C k := by omega
    have h3 : a / V k - s ≤ m + (a / V k - s) := Nat.le_add_left _ _
    refine ⟨m + (a / V k - s), h1, a / V k - s, h2, hb2, h3, ?_⟩
    rw [← hb1, Nat.add_sub_cancel]
    exact hm2
  · obtain ⟨j, hj1, hj2, hj3, hj4⟩ := hm
    have hjd : j ≤ a / V k := (Nat.le_div_iff_mul_le (by omega)).2 hj2
    have h1 := hl (a / V k - j) (by omega) (by omega)
    obtain ⟨hc1, _, hc3⟩ := hb (a / V k - j) (by omega)
    rw [show a / V k - (a / V k - j) = j by omega] at hc1
    have h2 := (hp _ hc3).2.2 (m - j) (by rw [hc1]; exact hj4)
    omega
end Go.Proofs.Ytbgfflbddflokaa
