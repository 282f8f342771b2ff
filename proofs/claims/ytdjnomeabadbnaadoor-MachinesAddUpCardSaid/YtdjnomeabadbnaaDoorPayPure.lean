/- Payments with as few coins as possible, kind by kind: the plain law. No program in sight. -/
import Derived.Test.YtdjnomeabadbnaaDoorSum
import Derived.Test.YtdjnomeabadbnaaDoorVend2
namespace Go.Proofs.YtdjnomeabadbnaaDoor
open Go.RowKit

/-- With the first k kinds of coins, of which there are C i of value V i, m coins pay a. -/
def Pay (V C : Nat → Nat) : Nat → Nat → Nat → Prop
  | 0, a, m => a = 0 ∧ m = 0
  | k + 1, a, m => ∃ j, j ≤ C k ∧ j * V k ≤ a ∧ j ≤ m ∧ Pay V C k (a - j * V k) (m - j)
/-- A row says for each amount below n with how few coins it is paid. -/
def RowOk (V C : Nat → Nat) (k n : Nat) (p : Nat → Int) : Prop :=
  ∀ a, a < n → p a ≤ 1073741824 ∧ (p a < 1073741824 → ∃ m : Nat, p a = m ∧ Pay V C k a m) ∧ (∀ m : Nat, Pay V C k a m → p a ≤ m)
theorem row_first (V C : Nat → Nat) (n : Nat) (p : Nat → Int) (h0 : p 0 = 0) (h : ∀ a, 0 < a → a < n → p a = 1073741824) : RowOk V C 0 n p := by
  intro a ha
  rcases Nat.eq_zero_or_pos a with e | e
  · subst e
    exact ⟨by omega, fun _ => ⟨0, by simpa using h0, rfl, rfl⟩, fun m hm => by omega⟩
  · have h1 := h a e ha
    refine ⟨by omega, fun h2 => by omega, fun m hm => ?_⟩
    have := hm.1
    omega
theorem row_next {V C : Nat → Nat} {k n : Nat} {p out : Nat → Int} (hV : 1 ≤ V k) (hp : RowOk V C k n p)
    (ho : ∀ a, a < n → ∃ s, s ≤ a / V k ∧ a / V k ≤ s + C k ∧ out a = min (p (a % V k + s * V k) - s + (a / V k : Nat)) 1073741824 ∧
      ∀ s', s' ≤ a / V k → a / V k ≤ s' + C k → p (a % V k + s * V k) - s ≤ p (a % V k + s' * V k) - s') : RowOk V C (k + 1) n out := by
  intro a ha
  obtain ⟨s, hs1, hs2, he, hl⟩ := ho a ha
  have hdm := Nat.div_add_mod a (V k)
  have hb : ∀ t, t ≤ a / V k → a % V k + t * V k = a - (a / V k - t) * V k ∧ (a / V k - t) * V k ≤ a ∧ a % V k + t * V k < n := by
    intro t ht
    have h1 : (a / V k - t) * V k + t * V k = a / V k * V k := by rw [← Nat.add_mul, Nat.sub_add_cancel ht]
    rw [Nat.mul_comm (a / V k) (V k)] at h1
    omega
  obtain ⟨hb1, hb2, hb3⟩ := hb s hs1
  obtain ⟨hp1, hp2, hp3⟩ := hp _ hb3
  refine ⟨by omega, fun hlt => ?_, fun m hm => ?_⟩
  · have hq : p (a % V k + s * V k) < 1073741824 := by omega
    obtain ⟨m, hm1, hm2⟩ := hp2 hq
    have h1 : out a = ((m + (a / V k - s) : Nat) : Int) := by
      rw [hm1] at he
      generalize a / V k = d at he hs1
      omega
    have h2 : a / V k - s ≤ C k := by omega
    have h3 : a / V k - s ≤ m + (a / V k - s) := Nat.le_add_left _ _
    refine ⟨m + (a / V k - s), h1, a / V k - s, h2, hb2, h3, ?_⟩
    rw [← hb1, Nat.add_sub_cancel]
    exact hm2
  · obtain ⟨j, hj1, hj2, hj3, hj4⟩ := hm
    have hjd : j ≤ a / V k := (Nat.le_div_iff_mul_le (by omega)).2 hj2
    have h1 := hl (a / V k - j) (by omega) (by omega)
    obtain ⟨hc1, _, hc3⟩ := hb (a / V k - j) (by omega)
    rw [show a / V k - (a / V k - j) = j by omega] at hc1
    have h2 := (hp _ hc3).2.2 (m - j) (by rw [hc1]; exact hj4)
    omega

/-! Payments of tubes: what rows of payments say. No program in sight. -/

def vT (l : List Tube) (k : Nat) : Nat := (tubeAt l k).value.toNat
def cT (l : List Tube) (k : Nat) : Nat := (tubeAt l k).count.toNat
/-- How a row follows from the one before it, with a further kind of coins. -/
def StepOk (V C : Nat) (n : Nat) (p out : List Int) : Prop :=
  ∀ a, a < n → ∃ s, s ≤ a / V ∧ a / V ≤ s + C ∧ out.getD a 0 = min (p.getD (a % V + s * V) 0 - s + (a / V : Nat)) 1073741824 ∧
    ∀ s', s' ≤ a / V → a / V ≤ s' + C → p.getD (a % V + s * V) 0 - s ≤ p.getD (a % V + s' * V) 0 - s'
def FirstOk (n : Nat) (p : List Int) : Prop := p.length = n ∧ ∀ a, a < n → p.getD a 0 = if a = 0 then 0 else 1073741824
structure PaysTo (l : List Tube) (n k : Nat) (T : List (List Int)) : Prop where
  len : T.length = k + 1
  row : ∀ i, i ≤ k → (T.getD i []).length = n
  first : FirstOk n (T.getD 0 [])
  step : ∀ i, i < k → StepOk (vT l i) (cT l i) n (T.getD i []) (T.getD (i + 1) [])
theorem v_pos {l : List Tube} (ho : OkTubes l) {k : Nat} (hk : k < l.length) : 1 ≤ vT l k ∧ vT l k ≤ 10000 ∧ ((vT l k : Nat) : Int) = (tubeAt l k).value := by
  have := (ho.ok k hk).v0
  have := (ho.ok k hk).v1
  unfold vT; omega
theorem c_pos {l : List Tube} (ho : OkTubes l) {k : Nat} (hk : k < l.length) : cT l k ≤ 1000 ∧ ((cT l k : Nat) : Int) = (tubeAt l k).count := by
  have := (ho.ok k hk).c0
  have := (ho.ok k hk).c1
  have := (ho.ok k hk).m1
  unfold cT; omega
theorem pays_row {l : List Tube} {n m : Nat} {T : List (List Int)} (ho : OkTubes l) (hm : m ≤ l.length) (h : PaysTo l n m T) : ∀ k, k ≤ m → RowOk (vT l) (cT l) k n (fun a => (T.getD k []).getD a 0) := by
  intro k
  induction k with
  | zero =>
    intro _ a ha
    refine row_first (vT l) (cT l) n (fun a => (T.getD 0 []).getD a 0) ?_ ?_ a ha
    · exact (h.first.2 0 (by omega)).trans (by simp)
    · intro a h0 ha; exact (h.first.2 a ha).trans (by simp; omega)
  | succ k ih =>
    intro hk
    exact row_next (v_pos ho (by omega)).1 (ih (by omega)) (h.step k (by omega))
theorem row_bound {V C : Nat → Nat} {k n : Nat} {p : Nat → Int} (h : RowOk V C k n p) (a : Nat) (ha : a < n) : 0 ≤ p a ∧ p a ≤ 1073741824 := by
  obtain ⟨h1, h2, _⟩ := h a ha
  refine ⟨?_, h1⟩
  rcases Int.lt_or_le (p a) 1073741824 with e | e
  · obtain ⟨m, hm, _⟩ := h2 e; omega
  · omega
theorem PaysTo.push {l : List Tube} {n k : Nat} {T : List (List Int)} {R : List Int} (h : PaysTo l n k T) (hR : R.length = n) (hs : StepOk (vT l k) (cT l k) n (T.getD k []) R) : PaysTo l n (k + 1) (T ++ [R]) := by
  have hl := h.len
  have e1 : ∀ i, i ≤ k → (T ++ [R]).getD i [] = T.getD i [] := by
    intro i hi
    rw [List.getD_eq_getElem?_getD, List.getElem?_append_left (by omega), ← List.getD_eq_getElem?_getD]
  have e2 : (T ++ [R]).getD (k + 1) [] = R := by
    rw [List.getD_eq_getElem?_getD, List.getElem?_append_right (by omega), hl, Nat.sub_self]; rfl
  refine ⟨by simp [hl], fun i hi => ?_, by rw [e1 0 (by omega)]; exact h.first, fun i hi => ?_⟩
  · rcases Nat.lt_or_ge k i with e | e
    · rw [show i = k + 1 by omega, e2, hR]
    · rw [e1 i e]; exact h.row i e
  · rcases Nat.lt_or_ge i k with e | e
    · rw [e1 i (by omega), e1 (i + 1) (by omega)]; exact h.step i e
    · rw [show i = k by omega, e1 k (by omega), e2]; exact hs
/-- Where a row says that an amount is paid, so many coins of the further kind are found. -/
theorem paid_find {V C n : Nat} {p out : List Int} (h : StepOk V C n p out) {A : Nat} (hA : A < n) (hlt : out.getD A 0 < 1073741824) : ∃ j, j ≤ C ∧ j ≤ A / V ∧ j * V ≤ A ∧ p.getD (A - j * V) 0 + j = out.getD A 0 := by
  obtain ⟨s, hs1, hs2, he, _⟩ := h A hA
  have hdm := Nat.div_add_mod A V
  have h1 : (A / V - s) * V + s * V = A / V * V := by rw [← Nat.add_mul, Nat.sub_add_cancel hs1]
  rw [Nat.mul_comm (A / V) V] at h1
  refine ⟨A / V - s, by omega, by omega, by omega, ?_⟩
  have h2 : A - (A / V - s) * V = A % V + s * V := by omega
  rw [h2]
  generalize A / V = d at he hs1 ⊢
  omega
/-- Numbers of coins are a payment. -/
theorem pay_vec {l : List Tube} (ho : OkTubes l) {f : List Int} (hl : f.length = l.length) (hb : ∀ k, k < l.length → 0 ≤ f.getD k 0 ∧ f.getD k 0 ≤ (tubeAt l k).count) :
    ∃ a m : Nat, (a : Int) = worthM l f ∧ (m : Int) = f.sum ∧ Pay (vT l) (cT l) l.length a m := by
  have hwl := worthL_len l f (by omega)
  have key : ∀ k, k ≤ l.length → ∃ a m : Nat, (a : Int) = ((worthL l f).take k).sum ∧ (m : Int) = (f.take k).sum ∧ Pay (vT l) (cT l) k a m := by
    intro k
    induction k with
    | zero => intro _; exact ⟨0, 0, by simp, by simp, rfl, rfl⟩
    | succ k ih =>
      intro hk
      obtain ⟨a, m, ha, hm, hp⟩ := ih (by omega)
      have h1 := sum_next (worthL l f) k (by omega)
      have h2 := sum_next f k (by omega)
      rw [worthL_get l f k (by omega) (by omega), ← ha] at h1
      rw [← hm] at h2
      obtain ⟨hb0, hb1⟩ := hb k (by omega)
      obtain ⟨hv1, _, hv⟩ := v_pos ho (k := k) (by omega)
      obtain ⟨_, hc⟩ := c_pos ho (k := k) (by omega)
      obtain ⟨j, hj⟩ : ∃ j : Nat, (j : Int) = f.getD k 0 := ⟨(f.getD k 0).toNat, by omega⟩
      rw [← hj, ← hv] at h1
      rw [← hj] at h2
      refine ⟨a + j * vT l k, m + j, by rw [h1]; simp, by rw [h2]; simp, j, by omega, by omega, by omega, ?_⟩
      rw [Nat.add_sub_cancel, Nat.add_sub_cancel]
      exact hp
  obtain ⟨a, m, ha, hm, hp⟩ := key l.length (Nat.le_refl _)
  rw [List.take_of_length_le (by omega)] at ha
  rw [List.take_of_length_le (by omega)] at hm
  exact ⟨a, m, ha, hm, hp⟩
/-- Two rows say the same of an amount: that it is paid. -/
theorem rows_same {V C : Nat → Nat} {k n1 n2 : Nat} {p1 p2 : Nat → Int} (h1 : RowOk V C k n1 p1) (h2 : RowOk V C k n2 p2) {a : Nat} (ha1 : a < n1) (ha2 : a < n2) : p1 a = p2 a := by
  obtain ⟨x1, y1, z1⟩ := h1 a ha1
  obtain ⟨x2, y2, z2⟩ := h2 a ha2
  have k1 : p1 a < 1073741824 → p2 a ≤ p1 a := by intro h; obtain ⟨m, hm, hp⟩ := y1 h; have := z2 m hp; omega
  have k2 : p2 a < 1073741824 → p1 a ≤ p2 a := by intro h; obtain ⟨m, hm, hp⟩ := y2 h; have := z1 m hp; omega
  omega
end Go.Proofs.YtdjnomeabadbnaaDoor
