/- shelf.newTable, shelf.table.with, shelf.worths. -/
import Derived.Test.YthikknnadmebgaaGreatDoorPkSBc
import Derived.Test.YthikknnadmebgaaGreatDoorPkSAe
import Derived.Test.YthikknnadmebgaaGreatDoorPkSAb
import Derived.Test.YthikknnadmebgaaGreatDoorPkSAm
namespace Go.Proofs.YthikknnadmebgaaGreatDoor
open Go.RowKit

theorem fillN (n k : Nat) (x : Int) (h : k < n) : (List.replicate k x ++ List.replicate (n - k) 0).set k x = List.replicate (k + 1) x ++ List.replicate (n - (k + 1)) 0 := by
  obtain ⟨m, rfl⟩ : ∃ m, n = k + 1 + m := ⟨n - (k + 1), by omega⟩
  rw [show k + 1 + m - k = m + 1 by omega, show k + 1 + m - (k + 1) = m by omega, List.replicate_succ (n := m), List.set_append_right _ _ (by simp)]
  simp [List.replicate_succ']
theorem getD_bd {l : List Int} {a b : Int} (h : ∀ x ∈ l, a ≤ x ∧ x ≤ b) (k : Nat) (hk : k < l.length) : a ≤ l.getD k 0 ∧ l.getD k 0 ≤ b := by
  rw [getD_eq l k 0 hk]
  exact h _ (List.getElem_mem hk)
end Go.Proofs.YthikknnadmebgaaGreatDoor

/-! shelf.worths: what each count of an offer is worth. -/
namespace Go.Proofs.YthikknnadmebgaaGreatDoor
open Go.RowKit

def worthN (ps : List Int) (f : Int) (n : Nat) : Int := if 0 ≤ f ∧ (n : Int) ≠ f then nothingT else (ps.take n).sum
def worthsT (ps : List Int) (f : Int) (k : Nat) : List Int := (List.range k).map (worthN ps f)
theorem worthsT_next (ps : List Int) (f : Int) (k : Nat) : worthsT ps f (k + 1) = worthsT ps f k ++ [worthN ps f k] := by
  unfold worthsT
  rw [List.range_succ, List.map_append]
  rfl
theorem worthsT_len (ps : List Int) (f : Int) (k : Nat) : (worthsT ps f k).length = k := by simp [worthsT]
end Go.Proofs.YthikknnadmebgaaGreatDoor

/-! The tables of groups of offers, and what they say. No program in sight. -/
namespace Go.Proofs.YthikknnadmebgaaGreatDoor
open Go.RowKit

def o0 : Offer := ⟨⟨#[]⟩, ⟨#[]⟩, [], [], []⟩
theorem used_bd (o : Offer) (n : Nat) (h : o.profits.length ≤ 10) (hb : ∀ x ∈ o.profits, -1000000 ≤ x ∧ x ≤ 1000000) : -10000000 ≤ (o.profits.take n).sum ∧ (o.profits.take n).sum ≤ 10000000 := by
  have := usedM_bd o (n : Int) h hb
  simpa [usedM] using this
theorem off_at (os : List Offer) (j : Nat) (h : j < os.length) : os.getD j o0 = os[j] := by rw [List.getD_eq_getElem?_getD, List.getElem?_eq_getElem h]; rfl
/-- The problem of offers and quotas. -/
def pbOf (os : List Offer) (hok : OffersOk os) (q : List Quo) : Pb where
  m := os.length
  G := fun j => (os.getD j o0).group
  N := fun j => (os.getD j o0).profits.length
  U := fun j n => ((os.getD j o0).profits.take n).sum
  q := q
  bd := fun j n => by
    by_cases h : j < os.length
    · rw [off_at os j h]
      have hp := hok.prof _ (List.getElem_mem h)
      exact used_bd _ n hp.2.1 hp.2.2
    · rw [List.getD_eq_getElem?_getD, List.getElem?_eq_none (by omega)]
      simp [o0]
  mb := hok.len
def fixF (F : List Int) (k : Nat) : Int := if k < F.length then F.getD k 0 else -1
def wsF (os : List Offer) (F : List Int) (k : Nat) : List Int := worthsT (os.getD k o0).profits (fixF F k) ((os.getD k o0).profits.length + 1)
def gT (os : List Offer) (F : List Int) (S : Nat) (g : ByteArray) : Nat → List Int
  | 0 => unitT S
  | k + 1 => if (os.getD k o0).group = g then withT (gT os F S g k) (wsF os F k) else gT os F S g k
def lT (os : List Offer) (F : List Int) (S : Nat) (q : List Quo) (g : ByteArray) : Nat → List Int
  | 0 => gT os F S g os.length
  | k + 1 => match q[k]? with
    | some x => if x.group = g then limT x.least x.most (S + 1) (lT os F S q g k) else lT os F S q g k
    | none => lT os F S q g k
theorem unitT_len (S : Nat) : (unitT S).length = S + 1 := by simp [unitT]
theorem withT_len (t ws : List Int) : (withT t ws).length = t.length := withI_len t ws _
theorem gT_len (os : List Offer) (F : List Int) (S : Nat) (g : ByteArray) : ∀ k, (gT os F S g k).length = S + 1
  | 0 => unitT_len S
  | k + 1 => by
    rw [gT]
    split
    · rw [withT_len, gT_len os F S g k]
    · exact gT_len os F S g k
theorem lT_len (os : List Offer) (F : List Int) (S : Nat) (q : List Quo) (g : ByteArray) : ∀ k, (lT os F S q g k).length = S + 1
  | 0 => gT_len os F S g _
  | k + 1 => by
    rw [lT]
    split
    · split
      · rw [limT_len, lT_len os F S q g k]
      · exact lT_len os F S q g k
    · exact lT_len os F S q g k
theorem gT_none (os : List Offer) (F : List Int) (S : Nat) (g : ByteArray) : ∀ k, (∀ j, j < k → (os.getD j o0).group ≠ g) → gT os F S g k = unitT S
  | 0, _ => rfl
  | k + 1, h => by rw [gT, if_neg (h k (by omega)), gT_none os F S g k (fun j hj => h j (by omega))]
theorem fixF_alw (P : Pb) (F : List Int) (hF : ∀ x ∈ F, 0 ≤ x) (k n : Nat) (hn : n ≤ P.N k) : alw P F k n ↔ ¬ (0 ≤ fixF F k ∧ (n : Int) ≠ fixF F k) := by
  unfold alw fixF
  by_cases h : k < F.length
  · rw [if_pos h]
    have h0 : 0 ≤ F.getD k 0 := by
      rw [List.getD_eq_getElem?_getD, List.getElem?_eq_getElem h]
      exact hF _ (List.getElem_mem h)
    constructor
    · rintro ⟨_, h2⟩ ⟨_, h3⟩
      exact h3 (h2 h)
    · intro h2
      refine ⟨hn, fun _ => Classical.byContradiction fun h3 => h2 ⟨h0, h3⟩⟩
  · rw [if_neg h]
    exact ⟨fun _ h2 => by omega, fun _ => ⟨hn, fun h2 => absurd h2 h⟩⟩
theorem wsF_len (os : List Offer) (F : List Int) (k : Nat) : (wsF os F k).length = (os.getD k o0).profits.length + 1 := worthsT_len _ _ _
theorem wsF_rep (os : List Offer) (hok : OffersOk os) (q : List Quo) (F : List Int) (hF : ∀ x ∈ F, 0 ≤ x) (k : Nat) : Rep (wsF os F k) (fun n v => alw (pbOf os hok q) F k n ∧ v = (pbOf os hok q).U k n) := by
  refine ⟨fun r hr => ?_, fun r v ⟨_, e⟩ => by have := (pbOf os hok q).bd k r; omega⟩
  rw [wsF_len] at hr
  have hn : r ≤ (pbOf os hok q).N k := by show r ≤ (os.getD k o0).profits.length; omega
  have hv : (wsF os F k).getD r 0 = worthN (os.getD k o0).profits (fixF F k) r := by
    unfold wsF worthsT
    rw [List.getD_eq_getElem?_getD, List.getElem?_map, List.getElem?_range hr]
    rfl
  rw [hv]
  have ha := fixF_alw (pbOf os hok q) F hF k r hn
  unfold worthN
  by_cases hc : 0 ≤ fixF F k ∧ (r : Int) ≠ fixF F k
  · rw [if_pos hc]
    exact .inl ⟨rfl, fun v ⟨h1, _⟩ => (ha.1 h1) hc⟩
  · rw [if_neg hc]
    have hb := (pbOf os hok q).bd k r
    refine .inr ⟨?_, ⟨ha.2 hc, rfl⟩, fun v ⟨_, e⟩ => by rw [e]; exact Int.le_refl _⟩
    have e : (pbOf os hok q).U k r = ((os.getD k o0).profits.take r).sum := rfl
    rw [e] at hb
    show (-1099511627776 : Int) < _
    omega
theorem gT_rep (os : List Offer) (hok : OffersOk os) (q : List Quo) (F : List Int) (hF : ∀ x ∈ F, 0 ≤ x) (S : Nat) (g : ByteArray) : ∀ k, k ≤ os.length → Rep (gT os F S g k) (setG (pbOf os hok q) F (isG (pbOf os hok q) g) k)
  | 0, _ => (unit_rep S).iff (fun r _ v => setG_zero _ F _ r v) (fun r v h => setG_bd _ F _ 0 (Nat.zero_le _) r v h)
  | k + 1, hk => by
    have ih := gT_rep os hok q F hF S g k (by omega)
    have bd : ∀ r v, setG (pbOf os hok q) F (isG (pbOf os hok q) g) (k + 1) r v → -1000000000 ≤ v ∧ v ≤ 1000000000 := fun r v h => setG_bd _ F _ (k + 1) hk r v h
    rw [gT]
    by_cases hg : (os.getD k o0).group = g
    · rw [if_pos hg]
      have hp : isG (pbOf os hok q) g k = true := decide_eq_true hg
      refine (Rep.with ih (wsF_rep os hok q F hF k) (fun n v _ ⟨h, _⟩ => by rw [wsF_len]; have := h.1; show n < (os.getD k o0).profits.length + 1; exact Nat.lt_succ_of_le this) (fun r v h => bd r v ((setG_take _ F _ k hp r v).1 h))).iff (fun r _ v => setG_take _ F _ k hp r v) bd
    · rw [if_neg hg]
      exact ih.iff (fun r _ v => setG_skip _ F _ k (decide_eq_false hg) r v) bd
theorem lT_rep (os : List Offer) (hok : OffersOk os) (q : List Quo) (F : List Int) (hF : ∀ x ∈ F, 0 ≤ x) (S : Nat) (g : ByteArray) : ∀ k, k ≤ q.length → Rep (lT os F S q g k) (fun r v => setG (pbOf os hok q) F (isG (pbOf os hok q) g) os.length r v ∧ ∀ j x, j < k → q[j]? = some x → x.group = g → x.least ≤ (r : Int) ∧ (r : Int) ≤ x.most)
  | 0, _ => (gT_rep os hok q F hF S g os.length (Nat.le_refl _)).iff (fun r _ v => ⟨fun h => ⟨h, fun j _ hj => by omega⟩, fun h => h.1⟩) (fun r v h => setG_bd _ F _ _ (Nat.le_refl _) r v h.1)
  | k + 1, hk => by
    have ih := lT_rep os hok q F hF S g k (by omega)
    have hq : q[k]? = some q[k] := List.getElem?_eq_getElem (by omega)
    have split_j : ∀ (Q : Nat → Quo → Prop), (∀ j x, j < k + 1 → q[j]? = some x → Q j x) ↔ (∀ j x, j < k → q[j]? = some x → Q j x) ∧ Q k q[k] := fun Q =>
      ⟨fun h => ⟨fun j x hj => h j x (by omega), h k _ (by omega) hq⟩, fun ⟨h1, h2⟩ j x hj hx => by
        by_cases e : j = k
        · subst e
          rw [hq] at hx
          cases hx
          exact h2
        · exact h1 j x (by omega) hx⟩
    have bd : ∀ r v, (setG (pbOf os hok q) F (isG (pbOf os hok q) g) os.length r v ∧ ∀ j x, j < k + 1 → q[j]? = some x → x.group = g → x.least ≤ (r : Int) ∧ (r : Int) ≤ x.most) → -1000000000 ≤ v ∧ v ≤ 1000000000 := fun r v h => setG_bd _ F _ _ (Nat.le_refl _) r v h.1
    rw [lT, hq]
    simp only
    by_cases hg : q[k].group = g
    · rw [if_pos hg]
      have hl := ih.lim q[k].least q[k].most
      rw [lT_len] at hl
      refine hl.iff (fun r _ v => ?_) bd
      rw [split_j (fun _ x => x.group = g → x.least ≤ (r : Int) ∧ (r : Int) ≤ x.most)]
      exact ⟨fun ⟨⟨h1, h2⟩, h3⟩ => ⟨h1, h2, fun _ => h3⟩, fun ⟨h1, h2, h3⟩ => ⟨⟨h1, h2⟩, h3 hg⟩⟩
    · rw [if_neg hg]
      refine ih.iff (fun r _ v => ?_) bd
      rw [split_j (fun _ x => x.group = g → x.least ≤ (r : Int) ∧ (r : Int) ≤ x.most)]
      exact ⟨fun ⟨h1, h2⟩ => ⟨h1, h2, fun e => absurd e hg⟩, fun ⟨h1, h2, _⟩ => ⟨h1, h2⟩⟩
theorem last_rep (os : List Offer) (hok : OffersOk os) (q : List Quo) (F : List Int) (hF : ∀ x ∈ F, 0 ≤ x) (S : Nat) (g : ByteArray) : Rep (lT os F S q g q.length) (lastG (pbOf os hok q) F g) := by
  refine (lT_rep os hok q F hF S g q.length (Nat.le_refl _)).iff (fun r _ v => ?_) (fun r v h => setG_bd _ F _ _ (Nat.le_refl _) r v h.1)
  constructor
  · rintro ⟨h1, h2⟩
    refine ⟨h1, fun x hx e => ?_⟩
    obtain ⟨j, hj, rfl⟩ := List.getElem_of_mem (show x ∈ q from hx)
    exact h2 j _ hj (List.getElem?_eq_getElem hj) e
  · rintro ⟨h1, h2⟩
    exact ⟨h1, fun j x _ hx e => h2 x (List.mem_of_getElem? hx) e⟩
theorem Rep.mem_bd {t : List Int} {A : Nat → Int → Prop} (h : Rep t A) : ∀ x ∈ t, -10000000000000 ≤ x ∧ x ≤ 10000000000000 := by
  intro x hx
  obtain ⟨r, hr, rfl⟩ := List.getElem_of_mem hx
  have e : t.getD r 0 = t[r] := by rw [List.getD_eq_getElem?_getD, List.getElem?_eq_getElem hr]; rfl
  rw [← e]
  rcases h.gr r hr with ⟨e1, _⟩ | ⟨_, e1, _⟩
  · rw [e1]
    show (-10000000000000 : Int) ≤ -1099511627776 ∧ (-1099511627776 : Int) ≤ _
    omega
  · have := h.bd _ _ e1
    omega
end Go.Proofs.YthikknnadmebgaaGreatDoor
