/- Shares by key: the order, the weights, what is laid where. No program in sight. -/
import Derived.Test.YtoiclngamaadgaaFairPure
namespace Go.Proofs.Ytoiclngamaadgaa
open Go.RowKit

theorem bytesN_of {a b : ByteArray} (h : a.toList = b.toList) : a = b := by
  rw [ByteArray.toList_eq, ByteArray.toList_eq] at h
  cases a; cases b
  simp at h
  rw [h]
def nmD : Nm := ⟨⟨#[]⟩, 0⟩
def nmN (p : List Nm) (i : Nat) : Nm := p.getD i nmD
theorem nmN_get {p : List Nm} {i : Nat} (h : i < p.length) : nmN p i = p[i] := by
  unfold nmN
  rw [List.getD_eq_getElem?_getD, List.getElem?_eq_getElem h]; rfl
def nmCm (p : List Nm) (a b : Int) : Int := cmpB (nmN p a.toNat).key (nmN p b.toNat).key
theorem nmCm_ok (p : List Nm) : CmpOk (nmCm p) := by
  refine ⟨fun a b h => ?_, fun a b c h1 h2 h3 => ?_⟩
  · unfold nmCm at *
    rw [cmpB_anti (nmN p a.toNat).key (nmN p b.toNat).key]; omega
  · unfold nmCm at *
    rw [cmpB_neg] at h1 h2 h3
    rcases compareBytes_sign (nmN p b.toNat).key.data.toList (nmN p a.toNat).key.data.toList with ⟨_, g⟩ | ⟨_, g⟩ | ⟨_, g⟩
    · exact h1 g
    · rw [g] at h2; exact h2 h3
    · exact h2 (ltL_trans h3 g)
def sortedN (p : List Nm) (O : List Int) : List Nm := O.map (fun i => nmN p i.toNat)
theorem places_map (p : List Nm) : (placesL p.length).map (fun i => nmN p i.toNat) = p := by
  refine List.ext_getElem (by simp [placesL]) (fun i h1 h2 => ?_)
  simp [placesL, nmN_get h2]
theorem sortedN_perm {p : List Nm} {O : List Int} (h : O.Perm (placesL p.length)) : (sortedN p O).Perm p := by
  have := h.map (fun i => nmN p i.toNat)
  rw [places_map] at this
  exact this
theorem order_at {p : List Nm} {O : List Int} (h : O.Perm (placesL p.length)) (t : Nat) (ht : t < O.length) : ∃ i : Nat, i < p.length ∧ O[t] = (i : Int) := places_mem (h.mem_iff.1 (List.getElem_mem ht))
theorem apart_ne {p : List Nm} (h : p.Pairwise (fun a b => a.key ≠ b.key)) {i j : Nat} (hi : i < p.length) (hj : j < p.length) (e : p[i].key = p[j].key) : i = j := by
  rcases Nat.lt_trichotomy i j with g | g | g
  · exact absurd e ((List.pairwise_iff_getElem.1 h) i j hi hj g)
  · exact g
  · exact absurd e.symm ((List.pairwise_iff_getElem.1 h) j i hj hi g)
theorem sortedN_lt {p : List Nm} {O : List Int} (h : O.Perm (placesL p.length)) (hs : Srt (nmCm p) 0 O p.length) (ha : p.Pairwise (fun a b => a.key ≠ b.key)) : (sortedN p O).Pairwise keyLt := by
  have hl : O.length = p.length := by rw [h.length_eq, places_len]
  have hnd := h.nodup_iff.2 (places_nodup p.length)
  rw [List.pairwise_iff_getElem]
  intro i j hi hj hij
  have hi2 : i < O.length := by simpa [sortedN] using hi
  have hj2 : j < O.length := by simpa [sortedN] using hj
  have h1 := hs i j hij (by omega)
  rw [getD_eq O i 0 hi2, getD_eq O j 0 hj2] at h1
  obtain ⟨a, ha2, ea⟩ := order_at h i hi2
  obtain ⟨b, hb2, eb⟩ := order_at h j hj2
  have hne := (List.pairwise_iff_getElem.1 hnd) i j hi2 hj2 hij
  rw [ea, eb] at hne h1
  unfold keyLt
  simp only [sortedN, List.getElem_map, ea, eb, Int.toNat_natCast, nmN_get ha2, nmN_get hb2]
  unfold nmCm at h1
  simp only [Int.toNat_natCast, nmN_get ha2, nmN_get hb2] at h1
  have h3 : ¬ cmpB p[a].key p[b].key = 0 := fun e => hne (by rw [apart_ne ha ha2 hb2 (cmpB_zero.1 e)])
  rw [cmpB_anti p[a].key p[b].key] at h1
  omega
theorem set_getD (L : List Int) (i : Nat) (x : Int) (h : i < L.length) (j : Nat) : (L.set i x).getD j 0 = if i = j then x else L.getD j 0 := by
  rw [List.getD_eq_getElem?_getD, List.getElem?_set]
  by_cases e : i = j
  · subst e; simp [h]
  · rw [if_neg e, if_neg e, ← List.getD_eq_getElem?_getD]
/-- What stands while the parts are laid in the places of the order. -/
structure LaidAt (O Q : List Int) (n k : Nat) (L : List Int) : Prop where
  len : L.length = n
  sum : L.sum = (Q.take k).sum
  at_ : ∀ j (_ : j < O.length), j < k → L.getD (O.getD j 0).toNat 0 = Q.getD j 0
  zero : ∀ i : Nat, i < n → (i : Int) ∉ O.take k → L.getD i 0 = 0
theorem LaidAt.start (O Q : List Int) (n : Nat) : LaidAt O Q n 0 (List.replicate n 0) :=
  ⟨by simp, by induction n with
    | zero => rfl
    | succ n ih => rw [List.replicate_succ, List.sum_cons, ih]; simp, fun j _ h => absurd h (Nat.not_lt_zero _), fun i hi _ => by rw [getD_eq _ _ _ (by simpa using hi), List.getElem_replicate]⟩
theorem LaidAt.next {O Q L : List Int} {n k i : Nat} (h : LaidAt O Q n k L) (hnd : O.Nodup) (hm : ∀ t (ht : t < O.length), ∃ i : Nat, i < n ∧ O[t] = (i : Int)) (hk : k < O.length) (hq : Q.length = O.length) (hi : O[k] = (i : Int)) (hin : i < n) : LaidAt O Q n (k + 1) (L.set i (Q.getD k 0)) := by
  have hlen := h.len
  have hni : (i : Int) ∉ O.take k := fun hmm => by
    rw [← hi] at hmm
    obtain ⟨j, hj, e⟩ := List.getElem_of_mem hmm
    rw [List.getElem_take] at e
    have hjt : j < k := by rw [List.length_take] at hj; omega
    exact (List.pairwise_iff_getElem.1 hnd) j k (by omega) hk hjt e
  refine ⟨by simp [hlen], ?_, fun j hj hjk => ?_, fun j hj hjm => ?_⟩
  · rw [sum_set L i (by omega), h.zero i hin hni, h.sum, take_snoc Q k (by omega), sumI_app, getD_eq Q k 0 (by omega)]
    simp
  · rw [set_getD L i _ (by omega)]
    by_cases e : j = k
    · subst e
      rw [getD_eq O j 0 hj, hi, if_pos (by simp)]
    · obtain ⟨b, hb, eb⟩ := hm j hj
      have hne := (List.pairwise_iff_getElem.1 hnd) j k hj hk (by omega)
      rw [eb, hi] at hne
      have := h.at_ j hj (by omega)
      rw [getD_eq O j 0 hj, eb] at this ⊢
      rw [if_neg (by simp; omega)]
      exact this
  · rw [set_getD L i _ (by omega)]
    have h1 : (j : Int) ∉ O.take k := fun hmm => hjm (by rw [take_snoc O k hk]; exact List.mem_append_left _ hmm)
    have h2 : ¬ i = j := fun e => hjm (by rw [take_snoc O k hk, hi, e]; exact List.mem_append_right _ (by simp))
    rw [if_neg h2]
    exact h.zero j hj h1
theorem shares_end {tot : Int} {p : List Nm} {O Q P : List Int} (hO : O.Perm (placesL p.length)) (hS : Srt (nmCm p) 0 O p.length) (ha : p.Pairwise (fun a b => a.key ≠ b.key)) (hQ : ShareOk tot ((sortedN p O).map Nm.many).sum ((sortedN p O).map Nm.many) Q) (hL : LaidAt O Q p.length p.length P) : SharesOf tot p P := by
  have hl : O.length = p.length := by rw [hO.length_eq, places_len]
  have hq : Q.length = p.length := by rw [hQ.len]; simp [sortedN, hl]
  refine ⟨hL.len, ?_, sortedN p O, Q, sortedN_perm hO, sortedN_lt hO hS ha, hQ, fun i k hi hk e => ?_⟩
  · rw [hL.sum, ← hq, List.take_length]; exact hQ.all
  · have hk2 : k < O.length := by simpa [sortedN] using hk
    obtain ⟨b, hb, eb⟩ := order_at hO k hk2
    have e1 : p[b] = p[i] := by
      rw [← e]
      simp only [sortedN, List.getElem_map, eb, Int.toNat_natCast, nmN_get hb]
    have e2 := apart_ne ha hb hi (by rw [e1])
    have := hL.at_ k hk2 (by omega)
    rw [getD_eq O k 0 hk2, eb, Int.toNat_natCast, e2] at this
    exact this
/-- The first ones are right. -/
structure GoodTo (p : List Nm) (k : Nat) : Prop where
  keys : ∀ x ∈ p.take k, keyB x.key = true
  apart : (p.take k).Pairwise (fun a b => a.key ≠ b.key)
theorem GoodTo.zero (p : List Nm) : GoodTo p 0 := ⟨fun x hx => by simp at hx, by simp⟩
theorem nm_snoc (p : List Nm) (k : Nat) (h : k < p.length) : p.take (k + 1) = p.take k ++ [p[k]] := by simp
theorem GoodTo.next {p : List Nm} {k : Nat} (h : GoodTo p k) (hk : k < p.length) (h1 : keyB p[k].key = true) (h2 : (p.take k).any (fun q => q.key.toList == p[k].key.toList) = false) : GoodTo p (k + 1) := by
  constructor
  · intro x hx
    rw [nm_snoc p k hk] at hx
    rcases List.mem_append.1 hx with hx | hx
    · exact h.keys x hx
    · have : x = p[k] := by simpa using hx
      rw [this]; exact h1
  · rw [nm_snoc p k hk, List.pairwise_append]
    refine ⟨h.apart, by simp, fun a ha b hb e => ?_⟩
    have : b = p[k] := by simpa using hb
    subst this
    have := List.any_eq_false.1 h2 a ha
    rw [e] at this
    simp at this
theorem fit_keys {p : List Nm} (h : FitN p) {k : Nat} (hk : k < p.length) : keyB p[k].key = true := h.keys _ (List.getElem_mem hk)
theorem fit_apart {p : List Nm} (h : FitN p) {k : Nat} (hk : k < p.length) : (p.take k).any (fun q => q.key.toList == p[k].key.toList) = false := by
  rw [List.any_eq_false]
  intro q hq e
  obtain ⟨j, hj, e2⟩ := List.getElem_of_mem hq
  have hj2 : j < k := by rw [List.length_take] at hj; omega
  rw [List.getElem_take] at e2
  have e3 : p[j].key = p[k].key := by rw [e2]; exact bytesN_of (by simpa using e)
  have := apart_ne h.apart (by omega) hk e3
  omega
theorem GoodTo.fit {p : List Nm} (h : GoodTo p p.length) {O : List Int} (hO : O.Perm (placesL p.length)) (hf : FitW ((sortedN p O).map Nm.many)) : FitN p := by
  refine ⟨fun x hx => h.keys x (by rw [List.take_length]; exact hx), by have := h.apart; rw [List.take_length] at this; exact this, hf.perm ((sortedN_perm hO).map _)⟩
theorem FitN.sorted {p : List Nm} (h : FitN p) {O : List Int} (hO : O.Perm (placesL p.length)) : FitW ((sortedN p O).map Nm.many) := h.fit.perm ((sortedN_perm hO).symm.map _)
end Go.Proofs.Ytoiclngamaadgaa
