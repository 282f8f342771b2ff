/- Lines of readings as bytes: what is cut and joined, numerals, the exclusive or of all bytes. No program in sight. -/
import Derived.Test.YtdminjijhpemkaaGreatDoorPkSAa
import Derived.Lib.Split
import Derived.Lib.Atoi
import Derived.Lib.ItoaNum
namespace Go.Proofs.YtdminjijhpemkaaGreatDoor

theorem occ_head {s : List UInt8} {c : UInt8} {j : Nat} (h : Lib.occAt s [c] j = true) : s[j]? = some c := Lib.occAt_head rfl h
theorem index_hit (c : UInt8) (p r : List UInt8) (h : c ∉ p) : Lib.index (p ++ c :: r) [c] = p.length := by
  refine Lib.index_first (by simp) ?_ ?_
  · rw [Lib.occAt_iff_take _ _ _ (by simp)]
    simp
  · intro j hj
    cases ho : Lib.occAt (p ++ c :: r) [c] j with
    | false => rfl
    | true =>
      have h1 := occ_head ho
      rw [List.getElem?_append_left hj] at h1
      exact absurd (List.mem_of_getElem? h1) h
theorem index_no (c : UInt8) (p : List UInt8) (h : c ∉ p) : Lib.index p [c] = -1 := by
  refine Lib.index_none (fun j _ => ?_)
  cases ho : Lib.occAt p [c] j with
  | false => rfl
  | true => exact absurd (List.mem_of_getElem? (occ_head ho)) h
def splitL (c : UInt8) (s : List UInt8) : List (List UInt8) := Lib.splitK [c] 0 (Lib.count s [c]) s
theorem splitL_miss (c : UInt8) (p : List UInt8) (h : c ∉ p) : splitL c p = [p] := by
  unfold splitL
  rw [Lib.count_miss (index_no c p h)]
  rfl
theorem splitL_hit (c : UInt8) (p r : List UInt8) (h : c ∉ p) : splitL c (p ++ c :: r) = p :: splitL c r := by
  have hi := index_hit c p r h
  have hd : (p ++ c :: r).drop (p.length + [c].length) = r := by simp
  unfold splitL
  rw [Lib.count_hit (by simp) hi, hd, Nat.add_comm, Lib.splitK, hi]
  rw [if_neg (by simp)]
  simp
theorem splitB_list (s : ByteArray) (c : UInt8) : Lib.splitB ⟨#[c]⟩ 0 (Lib.countB s ⟨#[c]⟩) s = (splitL c s.data.toList).map (fun l => ⟨l.toArray⟩) := by
  have h := Lib.splitB_data ⟨#[c]⟩ 0 (Lib.countB s ⟨#[c]⟩) s
  have h2 : (Lib.splitB ⟨#[c]⟩ 0 (Lib.countB s ⟨#[c]⟩) s).map (·.data.toList) = splitL c s.data.toList := h
  rw [← h2, List.map_map]
  have h3 : ((fun l : List UInt8 => (⟨l.toArray⟩ : ByteArray)) ∘ fun x : ByteArray => x.data.toList) = id := by funext x; simp
  rw [h3, List.map_id]
theorem splitL_len (s : ByteArray) (c : UInt8) : (splitL c s.data.toList).length = Lib.countB s ⟨#[c]⟩ + 1 → (Lib.splitB ⟨#[c]⟩ 0 (Lib.countB s ⟨#[c]⟩) s).length = Lib.countB s ⟨#[c]⟩ + 1 := by
  intro h
  rw [splitB_list, List.length_map, h]
/-- How often a byte comes up is how many pieces there are, less one. -/
theorem count_no (c : UInt8) (p : List UInt8) (h : c ∉ p) : Lib.count p [c] = 0 := Lib.count_miss (index_no c p h)
theorem count_one (c : UInt8) (p r : List UInt8) (h : c ∉ p) : Lib.count (p ++ c :: r) [c] = 1 + Lib.count r [c] := by
  have hd : (p ++ c :: r).drop (p.length + [c].length) = r := by simp
  rw [Lib.count_hit (by simp) (index_hit c p r h), hd]
def joinC : List (List UInt8) → List UInt8
  | [] => []
  | [p] => p
  | p :: q :: r => p ++ 44 :: joinC (q :: r)
theorem join_split : ∀ ns : List (List UInt8), ns ≠ [] → (∀ p ∈ ns, (44 : UInt8) ∉ p) → splitL 44 (joinC ns) = ns ∧ Lib.count (joinC ns) [44] + 1 = ns.length
  | [], h, _ => absurd rfl h
  | [p], _, h => ⟨splitL_miss 44 p (h p (by simp)), by rw [joinC, count_no 44 p (h p (by simp))]; rfl⟩
  | p :: q :: r, _, h => by
    obtain ⟨h1, h2⟩ := join_split (q :: r) (by simp) (fun x hx => h x (by simp [hx]))
    rw [joinC]
    refine ⟨by rw [splitL_hit 44 p _ (h p (by simp)), h1], ?_⟩
    rw [count_one 44 p _ (h p (by simp))]
    simp only [List.length_cons] at h2 ⊢
    omega
theorem join_no (c : UInt8) (hc : c ≠ 44) : ∀ ns : List (List UInt8), (∀ p ∈ ns, c ∉ p) → c ∉ joinC ns
  | [], _ => by simp [joinC]
  | [p], h => h p (by simp)
  | p :: q :: r, h => by
    rw [joinC]
    have h1 := join_no c hc (q :: r) (fun x hx => h x (by simp [hx]))
    simp only [List.mem_append, List.mem_cons, not_or]
    exact ⟨h p (by simp), hc, h1⟩
theorem join_snoc : ∀ (ns : List (List UInt8)) (p : List UInt8), ns ≠ [] → joinC (ns ++ [p]) = joinC ns ++ 44 :: p
  | [], _, h => absurd rfl h
  | [q], p, _ => rfl
  | q :: r :: s, p, _ => by
    have h := join_snoc (r :: s) p (by simp)
    show q ++ 44 :: joinC ((r :: s) ++ [p]) = (q ++ 44 :: joinC (r :: s)) ++ 44 :: p
    rw [h]
    simp
/-- A numeral from 0 on, of at most 9 digits. -/
structure NumL (p : List UInt8) : Prop where
  ne : 0 < p.length
  len : p.length ≤ 9
  dig : ∀ b ∈ p, 48 ≤ b.toNat ∧ b.toNat ≤ 57
  zero : p.head? = some 48 → p.length = 1
theorem NumL.no {p : List UInt8} (h : NumL p) (c : UInt8) (hc : c.toNat < 48) : c ∉ p := fun hm => by have := (h.dig c hm).1; omega
theorem digit_val {b : UInt8} (h : 48 ≤ b.toNat ∧ b.toNat ≤ 57) : Lib.digitVal b = some (b.toNat - 48) := by unfold Lib.digitVal; rw [if_pos h]
theorem decFrom_ok : ∀ (p : List UInt8) (acc : Nat), (∀ b ∈ p, 48 ≤ b.toNat ∧ b.toNat ≤ 57) → ∃ n, Lib.decFrom acc p = some n
  | [], acc, _ => ⟨acc, rfl⟩
  | b :: r, acc, h => by
    obtain ⟨n, hn⟩ := decFrom_ok r (acc * 10 + (b.toNat - 48)) (fun x hx => h x (by simp [hx]))
    exact ⟨n, by rw [Lib.decFrom, digit_val (h b (by simp))]; exact hn⟩
theorem decFrom_app : ∀ (p q : List UInt8) (acc n : Nat), Lib.decFrom acc p = some n → Lib.decFrom acc (p ++ q) = Lib.decFrom n q
  | [], q, acc, n, h => by
    have : acc = n := by simpa [Lib.decFrom] using h
    rw [this]; rfl
  | b :: r, q, acc, n, h => by
    rw [List.cons_append, Lib.decFrom]
    rw [Lib.decFrom] at h
    cases hd : Lib.digitVal b with
    | none => rw [hd] at h; cases h
    | some d =>
      rw [hd] at h
      exact decFrom_app r q _ n h
theorem atoi_num {p : List UInt8} (h : NumL p) : ∃ n : Nat, Lib.atoi p = some (n : Int) ∧ Lib.decFrom 0 p = some n := by
  obtain ⟨n, hn⟩ := decFrom_ok p 0 h.dig
  cases p with
  | nil => have := h.ne; simp at this
  | cons b r =>
    have hb := h.dig b (by simp)
    have h1 : (b == 45) = false := by rw [beq_eq_false_iff_ne]; intro e; rw [e] at hb; revert hb; decide
    have h2 : (b == 43) = false := by rw [beq_eq_false_iff_ne]; intro e; rw [e] at hb; revert hb; decide
    refine ⟨n, ?_, hn⟩
    simp only [Lib.atoi, h1, h2, Lib.decNat]
    simp [hn]
/-- The digits of a number. -/
theorem dec_dig (u : Nat) : ∀ b ∈ Lib.decDigits u, 48 ≤ b.toNat ∧ b.toNat ≤ 57 := by
  induction u using Nat.strongRecOn with
  | ind u ih =>
    intro b hb
    rw [Lib.decDigits] at hb
    have conv : ∀ d : Nat, d < 10 → 48 ≤ (UInt8.ofNat (48 + d)).toNat ∧ (UInt8.ofNat (48 + d)).toNat ≤ 57 := fun d hd => by
      rw [UInt8.toNat_ofNat_of_lt' (by simp [UInt8.size]; omega)]; omega
    split at hb
    · rename_i h
      have : b = UInt8.ofNat (48 + u) := by simpa using hb
      rw [this]; exact conv u h
    · rcases List.mem_append.1 hb with hb | hb
      · exact ih (u / 10) (by omega) b hb
      · have : b = UInt8.ofNat (48 + u % 10) := by simpa using hb
        rw [this]; exact conv _ (by omega)
theorem dec_val (u : Nat) : Lib.decFrom 0 (Lib.decDigits u) = some u := by
  induction u using Nat.strongRecOn with
  | ind u ih =>
    rw [Lib.decDigits]
    have conv : ∀ d : Nat, d < 10 → Lib.digitVal (UInt8.ofNat (48 + d)) = some d := fun d hd => by
      have e : (UInt8.ofNat (48 + d)).toNat = 48 + d := UInt8.toNat_ofNat_of_lt' (by simp [UInt8.size]; omega)
      rw [digit_val (by omega), e]; congr 1; omega
    split
    · rename_i h
      rw [Lib.decFrom, conv u h]
      simp [Lib.decFrom]
    · rename_i h
      rw [decFrom_app _ _ 0 _ (ih (u / 10) (by omega)), Lib.decFrom, conv _ (by omega)]
      simp only [Lib.decFrom]
      congr 1
      omega
theorem dec_len : ∀ (k u : Nat), u < 10 ^ (k + 1) → 0 < (Lib.decDigits u).length ∧ (Lib.decDigits u).length ≤ k + 1
  | 0, u, h => by
    rw [Lib.decDigits, dif_pos (by simpa using h)]
    exact ⟨by simp, by simp⟩
  | k + 1, u, h => by
    rw [Lib.decDigits]
    split
    · exact ⟨by simp, by simp⟩
    · have h1 := dec_len k (u / 10) (by rw [Nat.pow_succ] at h; omega)
      rw [List.length_append]
      exact ⟨by omega, by simp; omega⟩
theorem dec_head (u : Nat) (hu : 1 ≤ u) : ∃ d : Nat, 1 ≤ d ∧ d < 10 ∧ (Lib.decDigits u).head? = some (UInt8.ofNat (48 + d)) := by
  induction u using Nat.strongRecOn with
  | ind u ih =>
    rw [Lib.decDigits]
    split
    · rename_i h
      exact ⟨u, hu, h, rfl⟩
    · rename_i h
      obtain ⟨d, h1, h2, h3⟩ := ih (u / 10) (by omega) (by omega)
      refine ⟨d, h1, h2, ?_⟩
      rw [List.head?_append, h3]
      rfl
theorem dec_num (u : Nat) (h : u < 1000000000) : NumL (Lib.decDigits u) := by
  obtain ⟨h1, h2⟩ := dec_len 8 u (by simpa using h)
  refine ⟨h1, h2, dec_dig u, fun hz => ?_⟩
  by_cases hu : u = 0
  · subst hu
    rw [Lib.decDigits, dif_pos (by decide)]
    rfl
  · obtain ⟨d, d1, d2, d3⟩ := dec_head u (by omega)
    rw [d3] at hz
    have e : (UInt8.ofNat (48 + d)).toNat = 48 + d := UInt8.toNat_ofNat_of_lt' (by simp [UInt8.size]; omega)
    have hz2 : UInt8.ofNat (48 + d) = 48 := by simpa using hz
    rw [hz2] at e
    have : (48 : UInt8).toNat = 48 := rfl
    omega
theorem dec_atoi (u : Nat) (h : u < 1000000000) : Lib.atoi (Lib.decDigits u) = some (u : Int) := by
  obtain ⟨n, h1, h2⟩ := atoi_num (dec_num u h)
  rw [dec_val u] at h2
  cases h2
  exact h1
/-- One digit more by one: a numeral still. -/
theorem NumL.up {p : List UInt8} (h : NumL p) (k : Nat) (hk : k < p.length) (h1 : 49 ≤ p[k].toNat) (h2 : p[k].toNat ≤ 56) : NumL (p.set k (p[k] + 1)) := by
  have e : (p[k] + 1).toNat = p[k].toNat + 1 := by
    rw [UInt8.toNat_add]
    have : (1 : UInt8).toNat = 1 := rfl
    omega
  refine ⟨by rw [List.length_set]; exact h.ne, by rw [List.length_set]; exact h.len, fun b hb => ?_, fun hz => ?_⟩
  · rcases List.mem_or_eq_of_mem_set hb with hb | hb
    · exact h.dig b hb
    · rw [hb]; omega
  · rw [List.length_set]
    rw [List.head?_eq_getElem?] at hz
    by_cases hk0 : k = 0
    · subst hk0
      rw [List.getElem?_set_self hk] at hz
      have hz2 : p[0] + 1 = 48 := by simpa using hz
      rw [hz2] at e
      have : (48 : UInt8).toNat = 48 := rfl
      omega
    · rw [List.getElem?_set_ne hk0] at hz
      exact h.zero (by rw [List.head?_eq_getElem?]; exact hz)
/-- What stands ahead of the check digits. -/
structure BodyL (s : List UInt8) (A : List UInt8) (ns : List (List UInt8)) : Prop where
  eq : s = A ++ 32 :: joinC ns
  a : NumL A
  nums : ∀ p ∈ ns, NumL p
  nne : ns ≠ []
theorem set_pos (x : UInt8) (J : List UInt8) (n : Nat) (v : UInt8) (h : 0 < n) : (x :: J).set n v = x :: J.set (n - 1) v := by
  cases n with
  | zero => omega
  | succ n => rfl
theorem join_up : ∀ (ns : List (List UInt8)), (∀ p ∈ ns, NumL p) → ∀ (k : Nat) (hk : k < (joinC ns).length), 49 ≤ (joinC ns)[k].toNat → (joinC ns)[k].toNat ≤ 56 → ∃ ms, ms.length = ns.length ∧ (∀ p ∈ ms, NumL p) ∧ joinC ms = (joinC ns).set k ((joinC ns)[k] + 1)
  | [], _, k, hk, _, _ => by simp [joinC] at hk
  | [p], h, k, hk, h1, h2 => ⟨[p.set k (p[k]'hk + 1)], rfl, fun q hq => by
      have : q = p.set k (p[k]'hk + 1) := by simpa using hq
      rw [this]; exact (h p (by simp)).up k hk h1 h2, rfl⟩
  | p :: q :: r, h, k, hk, h1, h2 => by
    have hj : joinC (p :: q :: r) = p ++ 44 :: joinC (q :: r) := rfl
    simp only [hj] at hk h1 h2 ⊢
    by_cases hkp : k < p.length
    · rw [List.getElem_append_left hkp] at h1 h2
      refine ⟨p.set k (p[k] + 1) :: q :: r, rfl, fun x hx => ?_, ?_⟩
      · rcases List.mem_cons.1 hx with rfl | hx
        · exact (h p (by simp)).up k hkp h1 h2
        · exact h x (by simp only [List.mem_cons] at hx ⊢; exact .inr hx)
      · show p.set k (p[k] + 1) ++ 44 :: joinC (q :: r) = _
        rw [List.getElem_append_left hkp, List.set_append_left _ _ hkp]
    · by_cases hkc : k = p.length
      · subst hkc
        rw [List.getElem_append_right (Nat.le_refl _)] at h1
        exact absurd h1 (by simp)
      · have hk2 : k - p.length - 1 < (joinC (q :: r)).length := by simp at hk; omega
        have hg : (p ++ 44 :: joinC (q :: r))[k] = (joinC (q :: r))[k - p.length - 1] := by
          rw [List.getElem_append_right (by omega), List.getElem_cons]
          rw [dif_neg (by omega)]
        rw [hg] at h1 h2
        obtain ⟨ms, m1, m2, m3⟩ := join_up (q :: r) (fun x hx => h x (by simp only [List.mem_cons] at hx ⊢; exact .inr hx)) _ hk2 h1 h2
        rw [hg]
        cases ms with
        | nil => simp at m1
        | cons m ms =>
          refine ⟨p :: m :: ms, by simp at m1 ⊢; exact m1, fun x hx => ?_, ?_⟩
          · rcases List.mem_cons.1 hx with rfl | hx
            · exact h x (by simp)
            · exact m2 x hx
          · show p ++ 44 :: joinC (m :: ms) = _
            rw [m3, List.set_append_right _ _ (by omega)]
            rw [set_pos _ _ _ _ (by omega)]
theorem BodyL.up {s A : List UInt8} {ns : List (List UInt8)} (h : BodyL s A ns) (k : Nat) (hk : k < s.length) (h1 : 49 ≤ s[k].toNat) (h2 : s[k].toNat ≤ 56) : ∃ A' ns', ns'.length = ns.length ∧ BodyL (s.set k (s[k] + 1)) A' ns' := by
  obtain ⟨he, ha, hns, hne⟩ := h
  subst he
  by_cases hkp : k < A.length
  · rw [List.getElem_append_left hkp] at h1 h2
    refine ⟨A.set k (A[k] + 1), ns, rfl, ?_, ha.up k hkp h1 h2, hns, hne⟩
    rw [List.getElem_append_left hkp, List.set_append_left _ _ hkp]
  · by_cases hkc : k = A.length
    · subst hkc
      rw [List.getElem_append_right (Nat.le_refl _)] at h1
      exact absurd h1 (by simp)
    · have hk2 : k - A.length - 1 < (joinC ns).length := by simp at hk; omega
      have hg : (A ++ 32 :: joinC ns)[k] = (joinC ns)[k - A.length - 1] := by
        rw [List.getElem_append_right (by omega), List.getElem_cons]
        rw [dif_neg (by omega)]
      rw [hg] at h1 h2
      obtain ⟨ms, m1, m2, m3⟩ := join_up ns hns _ hk2 h1 h2
      refine ⟨A, ms, m1, ?_, ha, m2, fun e => by rw [e] at m1; exact hne (List.eq_nil_of_length_eq_zero m1.symm)⟩
      rw [hg, m3, List.set_append_right _ _ (by omega)]
      rw [set_pos _ _ _ _ (by omega)]
/-- The exclusive or of all bytes. -/
def foldX (s : List UInt8) : UInt8 := s.foldl (fun x b => x ^^^ b) 0
theorem foldX_from (s : List UInt8) : ∀ x : UInt8, s.foldl (fun x b => x ^^^ b) x = x ^^^ foldX s := by
  unfold foldX
  induction s with
  | nil => intro x; simp
  | cons b r ih =>
    intro x
    rw [List.foldl_cons, List.foldl_cons, ih (x ^^^ b), ih (0 ^^^ b)]
    rw [UInt8.zero_xor, UInt8.xor_assoc]
theorem foldX_app (p q : List UInt8) : foldX (p ++ q) = foldX p ^^^ foldX q := by
  show (p ++ q).foldl _ 0 = _
  rw [List.foldl_append, foldX_from q]
  rfl
theorem foldX_set (s : List UInt8) (k : Nat) (hk : k < s.length) (c : UInt8) (h : c ≠ s[k]) : foldX (s.set k c) ≠ foldX s := by
  have e1 : s = s.take k ++ s[k] :: s.drop (k + 1) := by simp
  have e2 : s.set k c = s.take k ++ c :: s.drop (k + 1) := by rw [List.set_eq_take_append_cons_drop, if_pos hk]
  intro e
  rw [e2] at e
  conv at e => rhs; rw [e1]
  rw [foldX_app, foldX_app, show ∀ b : UInt8, foldX (b :: s.drop (k + 1)) = b ^^^ foldX (s.drop (k + 1)) from fun b => by rw [show b :: s.drop (k + 1) = [b] ++ s.drop (k + 1) from rfl, foldX_app]; congr 1; show 0 ^^^ b = b; exact UInt8.zero_xor] at e
  rw [show ∀ b : UInt8, foldX (b :: s.drop (k + 1)) = b ^^^ foldX (s.drop (k + 1)) from fun b => by rw [show b :: s.drop (k + 1) = [b] ++ s.drop (k + 1) from rfl, foldX_app]; congr 1; show 0 ^^^ b = b; exact UInt8.zero_xor] at e
  have h1 := (UInt8.xor_right_inj _).1 e
  have h2 := (UInt8.xor_left_inj _).1 h1
  exact h h2
end Go.Proofs.YtdminjijhpemkaaGreatDoor
