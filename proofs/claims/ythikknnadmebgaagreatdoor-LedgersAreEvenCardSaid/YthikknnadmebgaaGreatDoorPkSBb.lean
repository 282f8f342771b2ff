/- A map's entries as a list that is sorted by name: no program in sight. -/
import Derived.Test.YthikknnadmebgaaGreatDoorPkSAp
import Derived.Test.YthikknnadmebgaaGreatDoorPkSAx
import Derived.Test.YthikknnadmebgaaGreatDoorPkSAf
import Derived.Test.YthikknnadmebgaaGreatDoorPkSAo
namespace Go.Proofs.YthikknnadmebgaaGreatDoor
open Go.RowKit

theorem sub_len {α : Type} [DecidableEq α] : ∀ (L K : List α), L.Nodup → (∀ x ∈ L, x ∈ K) → L.length ≤ K.length := by
  intro L
  induction L with
  | nil => intro K _ _; exact Nat.zero_le _
  | cons x L ih =>
    intro K hn h
    have hx := h x (by simp)
    have hn2 := List.nodup_cons.1 hn
    have := ih (K.erase x) hn2.2 (fun y hy => (List.mem_erase_of_ne (fun e => hn2.1 (by rw [← e]; exact hy))).2 (h y (by simp [hy])))
    rw [List.length_erase_of_mem hx] at this
    have hp : 0 < K.length := List.length_pos_of_mem hx
    simp only [List.length_cons]
    omega
theorem skey_same (s : ByteArray) : (skey s).sameKey (skey s) = true := by simp [skey, Lit.sameKey]
/-- What stands while a map is read into a list. -/
structure NamedSt (f : ByteArray → Option Int) (left : Lit → Bool) (R : List Nm) : Prop where
  got : ∀ x ∈ R, f x.key = some x.many ∧ left (skey x.key) = false
  nd : R.Pairwise (fun a b => a.key ≠ b.key)
  has : ∀ s v, f s = some v → left (skey s) = false → ∃ x ∈ R, x.key = s ∧ x.many = v
theorem NamedSt.start {f : ByteArray → Option Int} {left : Lit → Bool} (h : ∀ s, left (skey s) = (f s).isSome) : NamedSt f left [] :=
  ⟨fun x hx => (by cases hx), List.Pairwise.nil, fun s v h1 h2 => by rw [h s, h1] at h2; cases h2⟩
theorem NamedSt.next {f : ByteArray → Option Int} {left : Lit → Bool} {R : List Nm} (h : NamedSt f left R) (s : ByteArray) (x : Int) (h1 : f s = some x) (h2 : left (skey s) = true) : NamedSt f (fun z => left z && !z.sameKey (skey s)) (R ++ [⟨s, x⟩]) := by
  refine ⟨fun y hy => ?_, ?_, fun t v ht hl => ?_⟩
  · rcases List.mem_append.1 hy with hy | hy
    · have := h.got y hy
      exact ⟨this.1, by show (left (skey y.key) && _) = false; rw [this.2]; rfl⟩
    · have : y = ⟨s, x⟩ := by simpa using hy
      subst this
      exact ⟨h1, by show (left (skey s) && !(skey s).sameKey (skey s)) = false; rw [skey_same]; simp⟩
  · rw [List.pairwise_append]
    refine ⟨h.nd, by simp, fun a ha b hb e => ?_⟩
    have : b = ⟨s, x⟩ := by simpa using hb
    subst this
    have := (h.got a ha).2
    rw [e] at this
    rw [this] at h2
    cases h2
  · have hl : (left (skey t) && !(skey t).sameKey (skey s)) = false := hl
    by_cases e : t = s
    · subst e
      rw [h1] at ht
      cases ht
      exact ⟨⟨t, x⟩, by simp, rfl, rfl⟩
    · have hne : skey t ≠ skey s := fun e2 => e (skey_inj e2)
      rw [Maps.sameKey_ne hne] at hl
      obtain ⟨y, hy, e1⟩ := h.has t v ht (by simpa using hl)
      exact ⟨y, List.mem_append_left _ hy, e1⟩
theorem NamedSt.le {f : ByteArray → Option Int} {left : Lit → Bool} {R : List Nm} (h : NamedSt f left R) (K : List ByteArray) (hK : ∀ s v, f s = some v → s ∈ K) : R.length ≤ K.length := by
  have := sub_len (R.map Nm.key) K (by unfold List.Nodup; rw [List.pairwise_map]; exact h.nd) (fun y hy => by
    obtain ⟨x, hx, rfl⟩ := List.mem_map.1 hy
    exact hK _ _ (h.got x hx).1)
  simpa using this
/-- A map's entries, sorted by name. -/
structure NamesOf (f : ByteArray → Option Int) (O : List Nm) : Prop where
  srt : O.Pairwise keyLt
  got : ∀ x ∈ O, f x.key = some x.many
  has : ∀ s v, f s = some v → ∃ x ∈ O, x.key = s ∧ x.many = v
  len : O.length ≤ 12
def nmK (x y : Nm) : Int := cmpB x.key y.key
theorem nmK_ok : CmpOk nmK := by
  refine ⟨fun a b h => ?_, fun a b c h1 h2 h3 => ?_⟩
  · unfold nmK at *
    rw [cmpB_anti a.key b.key]; omega
  · unfold nmK at *
    rw [cmpB_neg] at h1 h2 h3
    rcases compareBytes_sign b.key.data.toList a.key.data.toList with ⟨_, g⟩ | ⟨_, g⟩ | ⟨_, g⟩
    · exact h1 g
    · rw [g] at h2; exact h2 h3
    · exact h2 (ltL_trans h3 g)
theorem NamedSt.sorted {f : ByteArray → Option Int} {left : Lit → Bool} {R O : List Nm} (h : NamedSt f left R) (hd : ∀ kl, left kl = false) (hp : O.Perm R) (hs : Srt nmK nmD O O.length) (hl : R.length ≤ 12) : NamesOf f O := by
  have nd : O.Pairwise (fun a b => a.key ≠ b.key) := (hp.symm.pairwise_iff (fun hxy e => hxy e.symm)).1 h.nd
  refine ⟨?_, fun x hx => (h.got x (hp.mem_iff.1 hx)).1, fun s v hv => ?_, by rw [hp.length_eq]; exact hl⟩
  · rw [List.pairwise_iff_getElem]
    intro i j hi hj hij
    have h1 := hs i j hij hj
    rw [getD_eq O j _ hj, getD_eq O i _ hi] at h1
    have h2 := (List.pairwise_iff_getElem.1 nd) i j hi hj hij
    have h3 : ¬ cmpB O[i].key O[j].key = 0 := fun e => h2 (cmpB_zero.1 e)
    unfold keyLt
    unfold nmK at h1
    rw [cmpB_anti O[i].key O[j].key] at h1
    omega
  · obtain ⟨x, hx, e⟩ := h.has s v hv (hd _)
    exact ⟨x, hp.mem_iff.2 hx, e⟩
end Go.Proofs.YthikknnadmebgaaGreatDoor
