/- Shares of named partners: whoever comes first. No program in sight. -/
import Derived.Test.YtoiclngamaadgaaSharePure
namespace Go.Proofs.Ytoiclngamaadgaa
open Go.RowKit

structure Nm where
  key : ByteArray
  many : Int
/-- What may be divided among. -/
structure FitW (ws : List Int) : Prop where
  pos : 0 < ws.length
  each : ∀ x ∈ ws, 0 ≤ x ∧ x ≤ 1000000
  sum : 0 < ws.sum
structure FitN (p : List Nm) : Prop where
  keys : ∀ x ∈ p, keyB x.key = true
  apart : p.Pairwise (fun a b => a.key ≠ b.key)
  fit : FitW (p.map Nm.many)
theorem sum_perm {a b : List Int} (h : a.Perm b) : a.sum = b.sum := by
  induction h with
  | nil => rfl
  | cons x _ ih => simp only [List.sum_cons]; omega
  | swap x y l => simp only [List.sum_cons]; omega
  | trans _ _ h1 h2 => omega
theorem FitW.perm {a b : List Int} (h : FitW a) (hp : a.Perm b) : FitW b :=
  ⟨by rw [← hp.length_eq]; exact h.pos, fun x hx => h.each x (hp.mem_iff.2 hx), by rw [← sum_perm hp]; exact h.sum⟩
theorem FitN.perm {a b : List Nm} (h : FitN a) (hp : a.Perm b) : FitN b :=
  ⟨fun x hx => h.keys x (hp.mem_iff.2 hx), (hp.pairwise_iff (fun hxy e => hxy e.symm)).1 h.apart, h.fit.perm (hp.map _)⟩
def keyLt (a b : Nm) : Prop := cmpB a.key b.key < 0
/-- What each partner gets: by key. -/
structure SharesOf (tot : Int) (p : List Nm) (P : List Int) : Prop where
  len : P.length = p.length
  all : P.sum = tot
  ex : ∃ (Z : List Nm) (Q : List Int), Z.Perm p ∧ Z.Pairwise keyLt ∧ ShareOk tot (Z.map Nm.many).sum (Z.map Nm.many) Q ∧ ∀ i k (hi : i < p.length) (hk : k < Z.length), Z[k] = p[i] → P.getD i 0 = Q.getD k 0
theorem SharesOf.same {tot : Int} {p p' : List Nm} {P P' : List Int} (h : SharesOf tot p P) (h' : SharesOf tot p' P') (hp : p'.Perm p) (i j : Nat) (hi : i < p'.length) (hj : j < p.length) (e : p'[i] = p[j]) : P'.getD i 0 = P.getD j 0 := by
  obtain ⟨Z, Q, z1, z2, z3, z4⟩ := h.ex
  obtain ⟨Z', Q', y1, y2, y3, y4⟩ := h'.ex
  have ez : Z = Z' := by
    refine List.Perm.eq_of_pairwise (le := keyLt) (fun a b _ _ hab hba => ?_) z2 y2 (z1.trans (hp.symm.trans y1.symm))
    unfold keyLt at hab hba
    rw [cmpB_anti a.key b.key] at hba
    omega
  subst ez
  have eq := z3.unique y3
  subst eq
  have hm : p[j] ∈ Z := z1.mem_iff.2 (List.getElem_mem hj)
  obtain ⟨k, hk, ek⟩ := List.getElem_of_mem hm
  rw [y4 i k hi hk (by rw [ek, e]), z4 j k hj hk ek]
end Go.Proofs.Ytoiclngamaadgaa
