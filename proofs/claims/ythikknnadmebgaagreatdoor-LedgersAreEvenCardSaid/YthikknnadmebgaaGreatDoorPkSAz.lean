/- A row stays where its block stays. -/
import Derived.Test.YthikknnadmebgaaGreatDoorPkSAa
namespace Go.Proofs.YthikknnadmebgaaGreatDoor
open Go.RowKit

theorem own_at {w w1 : World} {base e size n : Nat} {v : Value} {xs : List Value} (h : w.ownsRow base e size v n xs) (hb : ∀ b, v.ownBlock = some b → w1.heap[b]? = w.heap[b]?) : w1.ownsRow base e size v n xs := by
  refine ⟨h.1, ?_⟩
  rcases h.2 with h2 | ⟨g, cap, cur, hv, hg, hh, r⟩
  · exact .inl h2
  · refine .inr ⟨g, cap, cur, hv, hg, ?_, r⟩
    rw [hb g (by rw [hv]; rfl)]
    exact hh
end Go.Proofs.YthikknnadmebgaaGreatDoor

/-! Rounding of a quotient to the nearest number; commissions by tiers: no program in sight. -/
namespace Go.Proofs.YthikknnadmebgaaGreatDoor
open Go.RowKit

def evenM (num den : Int) : Int := if den < 2 * (num - num / den * den) ∨ (2 * (num - num / den * den) = den ∧ ¬ num / den % 2 = 0) then num / den + 1 else num / den
theorem evenM_mono {num num' den : Int} (h : num ≤ num') (hd : 0 < den) : evenM num den ≤ evenM num' den := by
  have hq := Int.ediv_le_ediv hd h
  unfold evenM
  by_cases e : num / den = num' / den
  · rw [← e]
    generalize num / den * den = p
    generalize num / den = q
    split <;> split <;> omega
  · generalize num / den * den = p
    generalize num' / den * den = p'
    generalize num / den = q at *
    generalize num' / den = q' at *
    split <;> split <;> omega
theorem evenM_exact (g d : Int) (hd : 0 < d) : evenM (g * d) d = g := by
  have e : g * d / d = g := Int.mul_ediv_cancel g (by omega)
  unfold evenM
  rw [e, if_neg]
  omega
structure Tier where
  from_ : Int
  rate : Int
def tierTo (l : List Tier) (sales : Int) (i : Nat) : Int := if h : i + 1 < l.length then min sales l[i + 1].from_ else sales
def tierTerm (l : List Tier) (sales : Int) (i : Nat) : Int := if h : i < l.length then max 0 (tierTo l sales i - l[i].from_) * l[i].rate else 0
def tierSum (l : List Tier) (sales : Int) : Nat → Int
  | 0 => 0
  | k + 1 => tierSum l sales k + tierTerm l sales k
structure TiersOk (l : List Tier) : Prop where
  pos : 0 < l.length
  len : l.length ≤ 20
  zero : ∀ (h : 0 < l.length), l[0].from_ = 0
  lo : ∀ i (h : i < l.length), 0 ≤ l[i].from_ ∧ l[i].from_ ≤ 1000000000
  up : ∀ i (h : i < l.length) (h0 : 0 < i), (l[i - 1]'(by omega)).from_ < l[i].from_
  rate : ∀ i (h : i < l.length), 0 ≤ l[i].rate ∧ l[i].rate ≤ 10000
theorem tierTerm_mono {l : List Tier} (hr : ∀ i (h : i < l.length), 0 ≤ l[i].rate ∧ l[i].rate ≤ 10000) {s s' : Int} (h : s ≤ s') (i : Nat) : tierTerm l s i ≤ tierTerm l s' i := by
  unfold tierTerm
  split
  · rename_i hi
    have hto : tierTo l s i ≤ tierTo l s' i := by
      unfold tierTo
      split
      · omega
      · exact h
    exact Int.mul_le_mul_of_nonneg_right (by omega) (hr i hi).1
  · exact Int.le_refl _
theorem tierSum_mono {l : List Tier} (hr : ∀ i (h : i < l.length), 0 ≤ l[i].rate ∧ l[i].rate ≤ 10000) {s s' : Int} (h : s ≤ s') (k : Nat) : tierSum l s k ≤ tierSum l s' k := by
  induction k with
  | zero => exact Int.le_refl _
  | succ k ih =>
    have := tierTerm_mono hr h k
    simp only [tierSum]
    omega
theorem tierTerm_bd {l : List Tier} (hl : ∀ i (h : i < l.length), 0 ≤ l[i].from_ ∧ l[i].from_ ≤ 1000000000) (hr : ∀ i (h : i < l.length), 0 ≤ l[i].rate ∧ l[i].rate ≤ 10000) {s : Int} (h0 : 0 ≤ s) (h1 : s ≤ 1000000000) (i : Nat) : 0 ≤ tierTerm l s i ∧ tierTerm l s i ≤ 10000000000000 := by
  unfold tierTerm
  split
  · rename_i hi
    have hto : tierTo l s i ≤ 1000000000 := by
      unfold tierTo
      split
      · omega
      · exact h1
    have a := hl i hi
    have b := hr i hi
    generalize hx : max 0 (tierTo l s i - l[i].from_) = x
    have x0 : 0 ≤ x := by omega
    have x1 : x ≤ 1000000000 := by omega
    refine ⟨Int.mul_nonneg x0 b.1, ?_⟩
    exact Int.mul_le_mul x1 b.2 b.1 (by omega)
  · omega
theorem tierSum_bd {l : List Tier} (hl : ∀ i (h : i < l.length), 0 ≤ l[i].from_ ∧ l[i].from_ ≤ 1000000000) (hr : ∀ i (h : i < l.length), 0 ≤ l[i].rate ∧ l[i].rate ≤ 10000) {s : Int} (h0 : 0 ≤ s) (h1 : s ≤ 1000000000) (k : Nat) : 0 ≤ tierSum l s k ∧ tierSum l s k ≤ 10000000000000 * k := by
  induction k with
  | zero => simp [tierSum]
  | succ k ih =>
    have := tierTerm_bd hl hr h0 h1 k
    simp only [tierSum]
    omega
end Go.Proofs.YthikknnadmebgaaGreatDoor
