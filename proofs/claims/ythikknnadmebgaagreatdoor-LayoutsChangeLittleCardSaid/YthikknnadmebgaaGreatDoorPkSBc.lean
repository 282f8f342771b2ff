/- Tables of the greatest worth for each number of slots: no program in sight. -/
import Derived.Test.YthikknnadmebgaaGreatDoorPkSAa
namespace Go.Proofs.YthikknnadmebgaaGreatDoor

abbrev nothingT : Int := -1099511627776
/-- x is the greatest of the values v with A v; or nothing, if there is none. -/
def GrIs (A : Int → Prop) (x : Int) : Prop := (x = nothingT ∧ ∀ v, ¬ A v) ∨ (nothingT < x ∧ A x ∧ ∀ v, A v → v ≤ x)
theorem GrIs.iff {A B : Int → Prop} {x : Int} (h : GrIs A x) (e : ∀ v, A v ↔ B v) : GrIs B x := by
  rcases h with ⟨h1, h2⟩ | ⟨h1, h2, h3⟩
  · exact .inl ⟨h1, fun v hv => h2 v ((e v).2 hv)⟩
  · exact .inr ⟨h1, (e x).1 h2, fun v hv => h3 v ((e v).2 hv)⟩
theorem GrIs.one {A B : Int → Prop} {x y : Int} (h : GrIs A x) (g : GrIs B y) (e : ∀ v, A v ↔ B v) : x = y := by
  have g := g.iff (fun v => (e v).symm)
  rcases h with ⟨h1, h2⟩ | ⟨h1, h2, h3⟩
  · rcases g with ⟨g1, _⟩ | ⟨_, g2, _⟩
    · rw [h1, g1]
    · exact absurd g2 (h2 _)
  · rcases g with ⟨_, g2⟩ | ⟨_, g2, g3⟩
    · exact absurd h2 (g2 _)
    · have := h3 _ g2; have := g3 _ h2; omega
theorem GrIs.add {A : Int → Prop} {x : Int} (h : GrIs A x) (u : Int) (hu : nothingT < u) : GrIs (fun v => A v ∨ v = u) (max x u) := by
  rcases h with ⟨h1, h2⟩ | ⟨h1, h2, h3⟩
  · refine .inr ⟨by omega, .inr (by omega), fun v hv => ?_⟩
    rcases hv with hv | hv
    · exact absurd hv (h2 v)
    · omega
  · refine .inr ⟨by omega, ?_, fun v hv => ?_⟩
    · rcases Int.le_total x u with hl | hl
      · exact .inr (by omega)
      · exact .inl (by rw [Int.max_eq_left hl]; exact h2)
    · rcases hv with hv | hv
      · have := h3 v hv; omega
      · omega
def stepW (t ws : List Int) (s : Nat) (out : List Int) (n : Nat) : List Int :=
  if nothingT < t.getD s 0 ∧ nothingT < ws.getD n 0 ∧ s + n < t.length then out.set (s + n) (max (out.getD (s + n) 0) (t.getD s 0 + ws.getD n 0)) else out
def rowW (t ws : List Int) (s k : Nat) (out : List Int) : List Int := (List.range k).foldl (stepW t ws s) out
def withI (t ws : List Int) (i : Nat) : List Int := (List.range i).foldl (fun o s => rowW t ws s ws.length o) (List.replicate t.length nothingT)
def withT (t ws : List Int) : List Int := withI t ws t.length
theorem rowW_next (t ws : List Int) (s k : Nat) (out : List Int) : rowW t ws s (k + 1) out = stepW t ws s (rowW t ws s k out) k := by
  unfold rowW
  rw [List.range_succ, List.foldl_append]
  rfl
theorem withI_next (t ws : List Int) (i : Nat) : withI t ws (i + 1) = rowW t ws i ws.length (withI t ws i) := by
  unfold withI
  rw [List.range_succ, List.foldl_append]
  rfl
theorem stepW_len (t ws : List Int) (s : Nat) (out : List Int) (n : Nat) : (stepW t ws s out n).length = out.length := by
  unfold stepW
  split
  · rw [List.length_set]
  · rfl
theorem rowW_len (t ws : List Int) (s : Nat) (out : List Int) : ∀ k, (rowW t ws s k out).length = out.length
  | 0 => rfl
  | k + 1 => by rw [rowW_next, stepW_len, rowW_len t ws s out k]
theorem withI_len (t ws : List Int) : ∀ i, (withI t ws i).length = t.length
  | 0 => by simp [withI]
  | i + 1 => by rw [withI_next, rowW_len, withI_len t ws i]
/-- What was put into a table for the pairs P. -/
def InW (t ws : List Int) (P : Nat → Nat → Prop) (out : List Int) : Prop :=
  out.length = t.length ∧ ∀ r, r < t.length → GrIs (fun v => ∃ s n, P s n ∧ nothingT < t.getD s 0 ∧ nothingT < ws.getD n 0 ∧ s + n = r ∧ v = t.getD s 0 + ws.getD n 0) (out.getD r 0)
theorem getD_setT (l : List Int) (i r : Nat) (x : Int) (h : r < l.length) : (l.set i x).getD r 0 = if r = i then x else l.getD r 0 := by
  rw [List.getD_eq_getElem?_getD, List.getD_eq_getElem?_getD, List.getElem?_set]
  by_cases e : i = r
  · subst e
    rw [if_pos rfl, if_pos rfl, if_pos h]
    rfl
  · rw [if_neg e, if_neg (fun e2 => e e2.symm)]
theorem InW.step {t ws : List Int} {P : Nat → Nat → Prop} {out : List Int} (h : InW t ws P out) (s n : Nat) (hb : nothingT < t.getD s 0 → nothingT < ws.getD n 0 → nothingT < t.getD s 0 + ws.getD n 0) : InW t ws (fun a b => P a b ∨ (a = s ∧ b = n)) (stepW t ws s out n) := by
  refine ⟨by rw [stepW_len]; exact h.1, fun r hr => ?_⟩
  have hg := h.2 r hr
  unfold stepW
  by_cases hc : nothingT < t.getD s 0 ∧ nothingT < ws.getD n 0 ∧ s + n < t.length
  · rw [if_pos hc, getD_setT _ _ _ _ (by rw [h.1]; exact hr)]
    by_cases e : r = s + n
    · rw [if_pos e, ← e]
      refine (hg.add _ (hb hc.1 hc.2.1)).iff (fun v => ⟨fun hv => ?_, fun hv => ?_⟩)
      · rcases hv with ⟨a, b, p, q⟩ | hv
        · exact ⟨a, b, .inl p, q⟩
        · exact ⟨s, n, .inr ⟨rfl, rfl⟩, hc.1, hc.2.1, e.symm, hv⟩
      · obtain ⟨a, b, p | ⟨rfl, rfl⟩, q⟩ := hv
        · exact .inl ⟨a, b, p, q⟩
        · exact .inr q.2.2.2
    · rw [if_neg e]
      refine hg.iff (fun v => ⟨fun ⟨a, b, p, q⟩ => ⟨a, b, .inl p, q⟩, fun ⟨a, b, p, q⟩ => ?_⟩)
      rcases p with p | ⟨rfl, rfl⟩
      · exact ⟨a, b, p, q⟩
      · exact absurd q.2.2.1.symm e
  · rw [if_neg hc]
    refine hg.iff (fun v => ⟨fun ⟨a, b, p, q⟩ => ⟨a, b, .inl p, q⟩, fun ⟨a, b, p, q⟩ => ?_⟩)
    rcases p with p | ⟨rfl, rfl⟩
    · exact ⟨a, b, p, q⟩
    · exact absurd ⟨q.1, q.2.1, by have := q.2.2.1; omega⟩ hc
theorem InW.same {t ws : List Int} {P Q : Nat → Nat → Prop} {out : List Int} (h : InW t ws P out) (e : ∀ a b, P a b ↔ Q a b) : InW t ws Q out :=
  ⟨h.1, fun r hr => (h.2 r hr).iff (fun _ => ⟨fun ⟨a, b, p, q⟩ => ⟨a, b, (e a b).1 p, q⟩, fun ⟨a, b, p, q⟩ => ⟨a, b, (e a b).2 p, q⟩⟩)⟩
theorem InW.row {t ws : List Int} {P : Nat → Nat → Prop} {out : List Int} (h : InW t ws P out) (s : Nat) (hb : ∀ n, nothingT < t.getD s 0 → nothingT < ws.getD n 0 → nothingT < t.getD s 0 + ws.getD n 0) : ∀ k, InW t ws (fun a b => P a b ∨ (a = s ∧ b < k)) (rowW t ws s k out)
  | 0 => h.same (fun a b => by simp)
  | k + 1 => by
    rw [rowW_next]
    refine ((InW.row h s hb k).step s k (hb k)).same (fun a b => ⟨fun hv => ?_, fun hv => ?_⟩)
    · rcases hv with (p | ⟨p, q⟩) | ⟨p, q⟩
      · exact .inl p
      · exact .inr ⟨p, by omega⟩
      · exact .inr ⟨p, by omega⟩
    · rcases hv with p | ⟨p, q⟩
      · exact .inl (.inl p)
      · by_cases e : b = k
        · exact .inr ⟨p, e⟩
        · exact .inl (.inr ⟨p, by omega⟩)
theorem withI_in (t ws : List Int) (hb : ∀ s n, nothingT < t.getD s 0 → nothingT < ws.getD n 0 → nothingT < t.getD s 0 + ws.getD n 0) : ∀ i, InW t ws (fun a b => a < i ∧ b < ws.length) (withI t ws i)
  | 0 => by
    refine ⟨by rw [withI_len], fun r hr => .inl ⟨?_, fun _ ⟨a, b, p, _⟩ => by omega⟩⟩
    simp [withI, List.getD_eq_getElem?_getD, hr]
  | i + 1 => by
    rw [withI_next]
    refine ((withI_in t ws hb i).row i (hb i) ws.length).same (fun a b => ⟨fun hv => ?_, fun hv => ?_⟩)
    · rcases hv with ⟨p, q⟩ | ⟨p, q⟩
      · exact ⟨by omega, q⟩
      · exact ⟨by omega, q⟩
    · by_cases e : a = i
      · exact .inr ⟨e, hv.2⟩
      · exact .inl ⟨by omega, hv.2⟩
/-- A table says for each number of slots below its length what is the greatest worth in A. -/
structure Rep (t : List Int) (A : Nat → Int → Prop) : Prop where
  gr : ∀ r, r < t.length → GrIs (A r) (t.getD r 0)
  bd : ∀ r v, A r v → -1000000000 ≤ v ∧ v ≤ 1000000000
theorem Rep.iff {t : List Int} {A B : Nat → Int → Prop} (h : Rep t A) (e : ∀ r, r < t.length → ∀ v, A r v ↔ B r v) (hb : ∀ r v, B r v → -1000000000 ≤ v ∧ v ≤ 1000000000) : Rep t B := ⟨fun r hr => (h.gr r hr).iff (e r hr), hb⟩
theorem Rep.val {t : List Int} {A : Nat → Int → Prop} (h : Rep t A) (r : Nat) (h1 : r < t.length) (h2 : nothingT < t.getD r 0) : A r (t.getD r 0) ∧ -1000000000 ≤ t.getD r 0 ∧ t.getD r 0 ≤ 1000000000 := by
  rcases h.gr r h1 with ⟨e, _⟩ | ⟨_, e, _⟩
  · rw [e] at h2; omega
  · exact ⟨e, h.bd _ _ e⟩
theorem Rep.big {t : List Int} {A : Nat → Int → Prop} (h : Rep t A) (r : Nat) (h1 : r < t.length) (v : Int) (hv : A r v) : nothingT < t.getD r 0 ∧ v ≤ t.getD r 0 := by
  rcases h.gr r h1 with ⟨_, e⟩ | ⟨e1, _, e⟩
  · exact absurd hv (e v)
  · exact ⟨e1, e v hv⟩
def sumA (A B : Nat → Int → Prop) : Nat → Int → Prop := fun r v => ∃ a x b y, A a x ∧ B b y ∧ a + b = r ∧ v = x + y
/-- With something more. -/
theorem Rep.with {t ws : List Int} {A B : Nat → Int → Prop} (h : Rep t A) (g : Rep ws B) (hB : ∀ n v, n < t.length → B n v → n < ws.length) (hs : ∀ r v, sumA A B r v → -1000000000 ≤ v ∧ v ≤ 1000000000) : Rep (withT t ws) (sumA A B) := by
  have hb : ∀ s n, nothingT < t.getD s 0 → nothingT < ws.getD n 0 → nothingT < t.getD s 0 + ws.getD n 0 := fun s n h1 h2 => by
    have e1 : -1000000000 ≤ t.getD s 0 := by
      by_cases hl : s < t.length
      · exact (h.val s hl h1).2.1
      · rw [List.getD_eq_getElem?_getD, List.getElem?_eq_none (by omega)]; simp
    have e2 : -1000000000 ≤ ws.getD n 0 := by
      by_cases hl : n < ws.length
      · exact (g.val n hl h2).2.1
      · rw [List.getD_eq_getElem?_getD, List.getElem?_eq_none (by omega)]; simp
    show (-1099511627776 : Int) < _
    omega
  have hI := withI_in t ws hb t.length
  refine ⟨fun r hr => ?_, hs⟩
  rw [show (withT t ws).length = t.length from withI_len t ws _] at hr
  have h1 := hI.2 r hr
  rcases h1 with ⟨e1, e2⟩ | ⟨e1, ⟨s, n, ⟨p1, p2⟩, q1, q2, q3, q4⟩, e3⟩
  · refine .inl ⟨e1, fun v hv => ?_⟩
    obtain ⟨a, x, b, y, ha, hb2, hab, hv2⟩ := hv
    have hbl := hB b y (by omega) hb2
    have k1 := h.big a (by omega) x ha
    have k2 := g.big b hbl y hb2
    exact e2 _ ⟨a, b, ⟨by omega, hbl⟩, k1.1, k2.1, hab, rfl⟩
  · refine .inr ⟨e1, ?_, fun v hv => ?_⟩
    · have k1 := h.val s (by omega) q1
      have k2 := g.val n p2 q2
      show sumA A B r ((withI t ws t.length).getD r 0)
      rw [q4]
      exact ⟨s, _, n, _, k1.1, k2.1, q3, rfl⟩
    · obtain ⟨a, x, b, y, ha, hb2, hab, hv2⟩ := hv
      have hbl := hB b y (by omega) hb2
      have k1 := h.big a (by omega) x ha
      have k2 := g.big b hbl y hb2
      have := e3 _ ⟨a, b, ⟨by omega, hbl⟩, k1.1, k2.1, hab, rfl⟩
      show v ≤ (withI t ws t.length).getD r 0
      omega
/-- A table of nothing but no slots. -/
def unitT (S : Nat) : List Int := (List.replicate (S + 1) nothingT).set 0 0
theorem unit_rep (S : Nat) : Rep (unitT S) (fun r v => r = 0 ∧ v = 0) := by
  refine ⟨fun r hr => ?_, fun r v ⟨_, e⟩ => by omega⟩
  have hl : (List.replicate (S + 1) nothingT).length = S + 1 := by simp
  have hr2 : r < S + 1 := by unfold unitT at hr; simpa using hr
  unfold unitT
  rw [getD_setT _ _ _ _ (by rw [hl]; exact hr2)]
  by_cases e : r = 0
  · rw [if_pos e]
    exact .inr ⟨by decide, ⟨e, rfl⟩, fun v hv => by omega⟩
  · rw [if_neg e]
    refine .inl ⟨?_, fun v hv => e hv.1⟩
    simp [List.getD_eq_getElem?_getD, hr2]
/-- .. of numbers of slots within bounds alone. -/
def limT (lo hi : Int) (k : Nat) (t : List Int) : List Int := (List.range k).foldl (fun (o : List Int) (n : Nat) => if (n : Int) < lo ∨ hi < (n : Int) then o.set n nothingT else o) t
theorem limT_next (lo hi : Int) (k : Nat) (t : List Int) : limT lo hi (k + 1) t = if (k : Int) < lo ∨ hi < (k : Int) then (limT lo hi k t).set k nothingT else limT lo hi k t := by
  unfold limT
  rw [List.range_succ, List.foldl_append]
  rfl
theorem limT_len (lo hi : Int) (t : List Int) : ∀ k, (limT lo hi k t).length = t.length
  | 0 => rfl
  | k + 1 => by rw [limT_next]; split <;> simp [limT_len lo hi t k]
theorem limT_get (lo hi : Int) (t : List Int) (r : Nat) (hr : r < t.length) : ∀ k, (limT lo hi k t).getD r 0 = if r < k ∧ ((r : Int) < lo ∨ hi < (r : Int)) then nothingT else t.getD r 0
  | 0 => by simp [limT]
  | k + 1 => by
    rw [limT_next]
    have ih := limT_get lo hi t r hr k
    split
    · rename_i hc
      rw [getD_setT _ _ _ _ (by rw [limT_len]; exact hr), ih]
      by_cases e : r = k
      · subst e
        rw [if_pos rfl, if_pos ⟨by omega, hc⟩]
      · rw [if_neg e]
        by_cases h1 : r < k
        · simp [h1, show r < k + 1 by omega]
        · simp [h1, show ¬ r < k + 1 by omega]
    · rename_i hc
      rw [ih]
      by_cases e : r = k
      · subst e
        simp [hc]
      · by_cases h1 : r < k
        · simp [h1, show r < k + 1 by omega]
        · simp [h1, show ¬ r < k + 1 by omega]
theorem Rep.lim {t : List Int} {A : Nat → Int → Prop} (h : Rep t A) (lo hi : Int) : Rep (limT lo hi t.length t) (fun r v => A r v ∧ lo ≤ (r : Int) ∧ (r : Int) ≤ hi) := by
  refine ⟨fun r hr => ?_, fun r v hv => h.bd r v hv.1⟩
  rw [limT_len] at hr
  rw [limT_get lo hi t r hr]
  by_cases hc : (r : Int) < lo ∨ hi < (r : Int)
  · rw [if_pos ⟨hr, hc⟩]
    exact .inl ⟨rfl, fun v hv => by omega⟩
  · rw [if_neg (fun e => hc e.2)]
    exact (h.gr r hr).iff (fun v => ⟨fun hv => ⟨hv, by omega⟩, fun hv => hv.1⟩)
end Go.Proofs.YthikknnadmebgaaGreatDoor

/-! What the tables of all groups say together: the greatest worth of counts that keep the quotas. No program in sight. -/
namespace Go.Proofs.YthikknnadmebgaaGreatDoor

/-- Sums over the indices below k with p. -/
def gn (p : Nat → Bool) (c : Nat → Nat) : Nat → Nat
  | 0 => 0
  | k + 1 => gn p c k + if p k then c k else 0
def gs (p : Nat → Bool) (u : Nat → Int) : Nat → Int
  | 0 => 0
  | k + 1 => gs p u k + if p k then u k else 0
theorem gn_congr {p q : Nat → Bool} {c d : Nat → Nat} : ∀ k, (∀ j, j < k → p j = q j) → (∀ j, j < k → p j = true → c j = d j) → gn p c k = gn q d k
  | 0, _, _ => rfl
  | k + 1, h, g => by
    rw [gn, gn, gn_congr k (fun j hj => h j (by omega)) (fun j hj => g j (by omega)), ← h k (by omega)]
    cases hp : p k with
    | false => rfl
    | true => rw [g k (by omega) hp]
theorem gs_congr {p q : Nat → Bool} {c d : Nat → Int} : ∀ k, (∀ j, j < k → p j = q j) → (∀ j, j < k → p j = true → c j = d j) → gs p c k = gs q d k
  | 0, _, _ => rfl
  | k + 1, h, g => by
    rw [gs, gs, gs_congr k (fun j hj => h j (by omega)) (fun j hj => g j (by omega)), ← h k (by omega)]
    cases hp : p k with
    | false => rfl
    | true => rw [g k (by omega) hp]
theorem gn_or {p q : Nat → Bool} {c : Nat → Nat} (h : ∀ j, p j = true → q j = false) : ∀ k, gn (fun j => p j || q j) c k = gn p c k + gn q c k
  | 0 => rfl
  | k + 1 => by
    rw [gn, gn, gn, gn_or h k]
    cases hp : p k with
    | false => simp; omega
    | true => simp [h k hp]; omega
theorem gs_or {p q : Nat → Bool} {c : Nat → Int} (h : ∀ j, p j = true → q j = false) : ∀ k, gs (fun j => p j || q j) c k = gs p c k + gs q c k
  | 0 => rfl
  | k + 1 => by
    rw [gs, gs, gs, gs_or h k]
    cases hp : p k with
    | false => simp; omega
    | true => simp [h k hp]; omega
theorem gs_bd {p : Nat → Bool} {u : Nat → Int} (B : Int) (hB : 0 ≤ B) : ∀ k, (∀ j, j < k → p j = true → -B ≤ u j ∧ u j ≤ B) → -(k * B) ≤ gs p u k ∧ gs p u k ≤ k * B
  | 0, _ => by simp [gs]
  | k + 1, h => by
    obtain ⟨h1, h2⟩ := gs_bd B hB k (fun j hj => h j (by omega))
    rw [gs]
    have e : ((k + 1 : Nat) : Int) * B = k * B + B := by push_cast; rw [Int.add_mul, Int.one_mul]
    rw [e]
    cases hp : p k with
    | false => simp; omega
    | true => have := h k (by omega) hp; simp; omega
structure Quo where
  group : ByteArray
  least : Int
  most : Int
/-- The problem: indices below m, each with a group, a greatest count and worths; some first counts fixed; quotas. -/
structure Pb where
  m : Nat
  G : Nat → ByteArray
  N : Nat → Nat
  U : Nat → Nat → Int
  q : List Quo
  bd : ∀ j n, -10000000 ≤ U j n ∧ U j n ≤ 10000000
  mb : m ≤ 30
def alw (P : Pb) (F : List Int) (j n : Nat) : Prop := n ≤ P.N j ∧ (j < F.length → (n : Int) = F.getD j 0)
def isG (P : Pb) (g : ByteArray) (j : Nat) : Bool := decide (P.G j = g)
def setG (P : Pb) (F : List Int) (p : Nat → Bool) (k : Nat) : Nat → Int → Prop := fun r v => ∃ c : Nat → Nat, (∀ j, j < k → p j = true → alw P F j (c j)) ∧ r = gn p c k ∧ v = gs p (fun j => P.U j (c j)) k
theorem setG_bd (P : Pb) (F : List Int) (p : Nat → Bool) (k : Nat) (hk : k ≤ P.m) (r : Nat) (v : Int) (h : setG P F p k r v) : -1000000000 ≤ v ∧ v ≤ 1000000000 := by
  obtain ⟨c, _, _, e⟩ := h
  have h1 := gs_bd (p := p) (u := fun j => P.U j (c j)) 10000000 (by decide) k (fun j _ _ => P.bd j (c j))
  have h2 := P.mb
  have h3 : (k : Int) * 10000000 ≤ 300000000 := by omega
  omega
theorem setG_zero (P : Pb) (F : List Int) (p : Nat → Bool) (r : Nat) (v : Int) : (r = 0 ∧ v = 0) ↔ setG P F p 0 r v :=
  ⟨fun ⟨h1, h2⟩ => ⟨fun _ => 0, fun j hj => by omega, h1, h2⟩, fun ⟨_, _, h1, h2⟩ => ⟨h1, h2⟩⟩
theorem setG_skip (P : Pb) (F : List Int) (p : Nat → Bool) (k : Nat) (hp : p k = false) (r : Nat) (v : Int) : setG P F p k r v ↔ setG P F p (k + 1) r v := by
  refine ⟨fun ⟨c, h1, h2, h3⟩ => ⟨c, fun j hj hpj => ?_, by rw [gn, hp]; simpa using h2, by rw [gs, hp]; simpa using h3⟩, fun ⟨c, h1, h2, h3⟩ => ⟨c, fun j hj => h1 j (by omega), by rw [gn, hp] at h2; simpa using h2, by rw [gs, hp] at h3; simpa using h3⟩⟩
  by_cases e : j = k
  · rw [e, hp] at hpj; cases hpj
  · exact h1 j (by omega) hpj
theorem setG_take (P : Pb) (F : List Int) (p : Nat → Bool) (k : Nat) (hp : p k = true) (r : Nat) (v : Int) : sumA (setG P F p k) (fun n v => alw P F k n ∧ v = P.U k n) r v ↔ setG P F p (k + 1) r v := by
  constructor
  · rintro ⟨a, x, b, y, ⟨c, h1, h2, h3⟩, ⟨h4, h5⟩, h6, h7⟩
    refine ⟨fun j => if j = k then b else c j, fun j hj hpj => ?_, ?_, ?_⟩
    · show alw P F j (if j = k then b else c j)
      by_cases e : j = k
      · rw [if_pos e, e]; exact h4
      · rw [if_neg e]; exact h1 j (by omega) hpj
    · rw [gn, hp, ← h6, h2]
      congr 1
      · exact gn_congr k (fun _ _ => rfl) (fun j hj _ => by rw [if_neg (by omega)])
      · simp
    · rw [gs, hp, h7, h3, h5]
      congr 1
      · exact gs_congr k (fun _ _ => rfl) (fun j hj _ => by show P.U j (c j) = P.U j (if j = k then b else c j); rw [if_neg (by omega)])
      · simp
  · rintro ⟨c, h1, h2, h3⟩
    refine ⟨gn p c k, gs p (fun j => P.U j (c j)) k, c k, P.U k (c k), ⟨c, fun j hj => h1 j (by omega), rfl, rfl⟩, ⟨h1 k (by omega) hp, rfl⟩, ?_, ?_⟩
    · rw [h2, gn, hp]; simp
    · rw [h3, gs, hp]; simp
def keepsQ (P : Pb) (g : ByteArray) (r : Nat) : Prop := ∀ x ∈ P.q, x.group = g → x.least ≤ (r : Int) ∧ (r : Int) ≤ x.most
/-- The groups with V, together. -/
def setV (P : Pb) (F : List Int) (V : ByteArray → Bool) : Nat → Int → Prop := fun r v => ∃ c : Nat → Nat, (∀ j, j < P.m → V (P.G j) = true → alw P F j (c j)) ∧ (∀ g, V g = true → keepsQ P g (gn (isG P g) c P.m)) ∧ r = gn (fun j => V (P.G j)) c P.m ∧ v = gs (fun j => V (P.G j)) (fun j => P.U j (c j)) P.m
theorem setV_bd (P : Pb) (F : List Int) (V : ByteArray → Bool) (r : Nat) (v : Int) (h : setV P F V r v) : -1000000000 ≤ v ∧ v ≤ 1000000000 := by
  obtain ⟨c, h1, _, h3, h4⟩ := h
  exact setG_bd P F (fun j => V (P.G j)) P.m (Nat.le_refl _) r v ⟨c, h1, h3, h4⟩
theorem setV_none (P : Pb) (F : List Int) (r : Nat) (v : Int) : (r = 0 ∧ v = 0) ↔ setV P F (fun _ => false) r v := by
  have e1 : ∀ c, gn (fun _ => false) c P.m = 0 := fun c => by
    have : ∀ k, gn (fun _ => false) c k = 0 := fun k => by induction k with
      | zero => rfl
      | succ k ih => rw [gn, ih]; rfl
    exact this _
  have e2 : ∀ c, gs (fun _ => false) c P.m = 0 := fun c => by
    have : ∀ k, gs (fun _ => false) c k = 0 := fun k => by induction k with
      | zero => rfl
      | succ k ih => rw [gs, ih]; rfl
    exact this _
  exact ⟨fun ⟨h1, h2⟩ => ⟨fun _ => 0, ⟨fun j _ h => absurd h (by simp), fun g h => absurd h (by simp), h1.trans (e1 _).symm, h2.trans (e2 _).symm⟩⟩, fun ⟨c, _, _, h1, h2⟩ => ⟨h1.trans (e1 _), h2.trans (e2 _)⟩⟩
def lastG (P : Pb) (F : List Int) (g : ByteArray) : Nat → Int → Prop := fun r v => setG P F (isG P g) P.m r v ∧ keepsQ P g r
theorem setV_add (P : Pb) (F : List Int) (V : ByteArray → Bool) (g : ByteArray) (hg : V g = false) (r : Nat) (v : Int) : sumA (setV P F V) (lastG P F g) r v ↔ setV P F (fun h => V h || decide (h = g)) r v := by
  have dis : ∀ j, V (P.G j) = true → isG P g j = false := fun j h => by
    unfold isG
    simp only [decide_eq_false_iff_not]
    intro e
    rw [e, hg] at h
    cases h
  have hor : ∀ j, (V (P.G j) || decide (P.G j = g)) = (V (P.G j) || isG P g j) := fun j => rfl
  constructor
  · rintro ⟨a, x, b, y, ⟨c, h1, h2, h3, h4⟩, ⟨⟨d, g1, g2, g3⟩, g4⟩, h6, h7⟩
    have cg : ∀ j, isG P g j = true → (if P.G j = g then d j else c j) = d j := fun j h => by
      unfold isG at h; rw [if_pos (by simpa using h)]
    have cv : ∀ j, V (P.G j) = true → (if P.G j = g then d j else c j) = c j := fun j h => by
      have := dis j h; unfold isG at this; rw [if_neg (by simpa using this)]
    refine ⟨fun j => if P.G j = g then d j else c j, fun j hj hv => ?_, fun k hv => ?_, ?_, ?_⟩
    · have hv : (V (P.G j) || isG P g j) = true := hv
      show alw P F j (if P.G j = g then d j else c j)
      cases hVj : V (P.G j) with
      | true => rw [cv j hVj]; exact h1 j hj hVj
      | false =>
        rw [hVj, Bool.false_or] at hv
        rw [cg j hv]; exact g1 j hj hv
    · by_cases e : k = g
      · subst e
        rw [gn_congr (q := isG P k) (d := d) P.m (fun _ _ => rfl) (fun j _ h => cg j h), ← g2]
        exact g4
      · have hVk : V k = true := by simpa [e] using hv
        rw [gn_congr (q := isG P k) (d := c) P.m (fun _ _ => rfl) (fun j _ h => cv j (by unfold isG at h; rw [show P.G j = k by simpa using h]; exact hVk))]
        exact h2 k hVk
    · show r = gn (fun j => V (P.G j) || isG P g j) _ P.m
      rw [gn_or dis, ← h6, h3, g2]
      congr 1
      · exact gn_congr P.m (fun _ _ => rfl) (fun j _ h => (cv j h).symm)
      · exact gn_congr P.m (fun _ _ => rfl) (fun j _ h => (cg j h).symm)
    · show v = gs (fun j => V (P.G j) || isG P g j) _ P.m
      rw [gs_or dis, h7, h4, g3]
      congr 1
      · exact gs_congr P.m (fun _ _ => rfl) (fun j _ h => by show P.U j (c j) = P.U j (if P.G j = g then d j else c j); rw [cv j h])
      · exact gs_congr P.m (fun _ _ => rfl) (fun j _ h => by show P.U j (d j) = P.U j (if P.G j = g then d j else c j); rw [cg j h])
  · rintro ⟨c, h1, h2, h3, h4⟩
    refine ⟨gn (fun j => V (P.G j)) c P.m, gs (fun j => V (P.G j)) (fun j => P.U j (c j)) P.m, gn (isG P g) c P.m, gs (isG P g) (fun j => P.U j (c j)) P.m, ⟨c, fun j hj h => h1 j hj (show (V (P.G j) || isG P g j) = true by rw [h]; rfl), fun k hk => h2 k (show (V k || decide (k = g)) = true by rw [hk]; rfl), rfl, rfl⟩, ⟨⟨c, fun j hj h => h1 j hj (show (V (P.G j) || isG P g j) = true by rw [h, Bool.or_true]), rfl, rfl⟩, h2 g (by simp)⟩, ?_, ?_⟩
    · rw [h3]
      exact (gn_or dis P.m).symm
    · rw [h4]
      exact (gs_or dis P.m)
/-- Counts that are allowed, keep the quotas and have S slots. -/
def okC (P : Pb) (F : List Int) (S : Nat) (c : Nat → Nat) : Prop := (∀ j, j < P.m → alw P F j (c j)) ∧ (∀ g, keepsQ P g (gn (isG P g) c P.m)) ∧ gn (fun _ => true) c P.m = S
def worthC (P : Pb) (c : Nat → Nat) : Int := gs (fun _ => true) (fun j => P.U j (c j)) P.m
def GreatIs (P : Pb) (F : List Int) (S : Nat) (x : Int) : Prop := GrIs (fun v => ∃ c, okC P F S c ∧ v = worthC P c) x
theorem setV_all (P : Pb) (F : List Int) (V : ByteArray → Bool) (hG : ∀ j, j < P.m → V (P.G j) = true) (hq : ∀ x ∈ P.q, V x.group = true) (S : Nat) (v : Int) : setV P F V S v ↔ ∃ c, okC P F S c ∧ v = worthC P c := by
  have e1 : ∀ c, gn (fun j => V (P.G j)) c P.m = gn (fun _ => true) c P.m := fun c => gn_congr P.m hG (fun _ _ _ => rfl)
  have e2 : ∀ c, gs (fun j => V (P.G j)) c P.m = gs (fun _ => true) c P.m := fun c => gs_congr P.m hG (fun _ _ _ => rfl)
  constructor
  · rintro ⟨c, h1, h2, h3, h4⟩
    exact ⟨c, ⟨fun j hj => h1 j hj (hG j hj), fun g x hx e => h2 g (by rw [← e]; exact hq x hx) x hx e, by rw [h3, e1]⟩, by rw [h4, e2]; rfl⟩
  · rintro ⟨c, ⟨h1, h2, h3⟩, h4⟩
    exact ⟨c, fun j hj _ => h1 j hj, fun g _ => h2 g, by rw [e1, h3], by rw [e2]; exact h4⟩
/-- One count more is fixed. -/
theorem app_l (F : List Int) (n : Int) (j : Nat) (h : j < F.length) : (F ++ [n]).getD j 0 = F.getD j 0 := by
  rw [List.getD_eq_getElem?_getD, List.getD_eq_getElem?_getD, List.getElem?_append_left h]
theorem app_r (F : List Int) (n : Int) : (F ++ [n]).getD F.length 0 = n := by
  rw [List.getD_eq_getElem?_getD, List.getElem?_append_right (Nat.le_refl _)]
  simp
theorem alw_snoc (P : Pb) (F : List Int) (n : Int) (j k : Nat) : alw P (F ++ [n]) j k ↔ alw P F j k ∧ (j = F.length → (k : Int) = n) := by
  unfold alw
  rw [List.length_append]
  simp only [List.length_cons, List.length_nil]
  constructor
  · rintro ⟨h1, h2⟩
    refine ⟨⟨h1, fun hj => ?_⟩, fun e => ?_⟩
    · have := h2 (by omega)
      rwa [app_l F n j hj] at this
    · have := h2 (by omega)
      rwa [e, app_r] at this
  · rintro ⟨⟨h1, h2⟩, h3⟩
    refine ⟨h1, fun hj => ?_⟩
    by_cases e : j = F.length
    · rw [e, app_r]
      exact h3 e
    · rw [app_l F n j (by omega)]
      exact h2 (by omega)
theorem okC_snoc (P : Pb) (F : List Int) (n : Int) (S : Nat) (c : Nat → Nat) (hl : F.length < P.m) : okC P (F ++ [n]) S c ↔ okC P F S c ∧ (c F.length : Int) = n := by
  constructor
  · rintro ⟨h1, h2, h3⟩
    exact ⟨⟨fun j hj => ((alw_snoc P F n j _).1 (h1 j hj)).1, h2, h3⟩, ((alw_snoc P F n _ _).1 (h1 _ hl)).2 rfl⟩
  · rintro ⟨⟨h1, h2, h3⟩, h4⟩
    exact ⟨fun j hj => (alw_snoc P F n j _).2 ⟨h1 j hj, fun e => by rw [e]; exact h4⟩, h2, h3⟩
/-- While a best choice goes on, some next count keeps the worth. -/
theorem Great_next (P : Pb) (F : List Int) (S : Nat) (x : Int) (h : GreatIs P F S x) (hx : nothingT < x) (hl : F.length < P.m) : ∃ n : Nat, n ≤ P.N F.length ∧ GreatIs P (F ++ [(n : Int)]) S x := by
  rcases h with ⟨e, _⟩ | ⟨_, ⟨c, hc, hv⟩, h3⟩
  · rw [e] at hx; omega
  · refine ⟨c F.length, (hc.1 _ hl).1, .inr ⟨hx, ⟨c, (okC_snoc P F _ S c hl).2 ⟨hc, rfl⟩, hv⟩, fun v ⟨d, hd, hv2⟩ => h3 v ⟨d, ((okC_snoc P F _ S d hl).1 hd).1, hv2⟩⟩⟩
theorem Great_one {P : Pb} {F : List Int} {S : Nat} {x y : Int} (h : GreatIs P F S x) (g : GreatIs P F S y) : x = y := GrIs.one h g (fun _ => Iff.rfl)
end Go.Proofs.YthikknnadmebgaaGreatDoor

/-! In how many slots layouts differ: no other layout with the same counts differs in fewer. No program in sight. -/
namespace Go.Proofs.YthikknnadmebgaaGreatDoor

def cntB (v : ByteArray) (l : List ByteArray) : Nat := l.countP (fun y => decide (y = v))
def bothB (v : ByteArray) : List ByteArray → List ByteArray → Nat
  | y :: x, z :: p => (if y = v ∧ z = v then 1 else 0) + bothB v x p
  | _, _ => 0
def sameB : List ByteArray → List ByteArray → Nat
  | y :: x, z :: p => (if y = z then 1 else 0) + sameB x p
  | _, _ => 0
def diffB : List ByteArray → List ByteArray → Nat
  | y :: x, z :: p => (if y = z then 0 else 1) + diffB x p
  | _, _ => 0
theorem cntB_cons (v y : ByteArray) (l : List ByteArray) : cntB v (y :: l) = (if y = v then 1 else 0) + cntB v l := by
  unfold cntB
  rw [List.countP_cons]
  by_cases h : y = v <;> simp [h] <;> omega
theorem diff_same : ∀ (x p : List ByteArray), p.length = x.length → diffB x p + sameB x p = x.length
  | [], [], _ => rfl
  | y :: x, z :: p, h => by
    have := diff_same x p (by simpa using h)
    show (if y = z then 0 else 1) + diffB x p + ((if y = z then 1 else 0) + sameB x p) = x.length + 1
    split <;> omega
theorem both_left : ∀ (v : ByteArray) (x p : List ByteArray), bothB v x p ≤ cntB v x
  | v, [], [] => Nat.zero_le _
  | v, [], _ :: _ => Nat.zero_le _
  | v, y :: x, [] => Nat.zero_le _
  | v, y :: x, z :: p => by
    have := both_left v x p
    rw [cntB_cons]
    show (if y = v ∧ z = v then 1 else 0) + bothB v x p ≤ _
    by_cases h : y = v <;> simp [h]
    · split <;> omega
    · exact this
theorem both_right : ∀ (v : ByteArray) (x p : List ByteArray), bothB v x p ≤ cntB v p
  | v, [], [] => Nat.zero_le _
  | v, [], _ :: _ => Nat.zero_le _
  | v, y :: x, [] => Nat.zero_le _
  | v, y :: x, z :: p => by
    have := both_right v x p
    rw [cntB_cons]
    show (if y = v ∧ z = v then 1 else 0) + bothB v x p ≤ _
    by_cases h : z = v <;> simp [h]
    · split <;> omega
    · exact this
theorem both_all : ∀ (v : ByteArray) (x a : List ByteArray), a.length = x.length → (∀ i : Nat, x[i]? = some v → a[i]? = some v) → bothB v x a = cntB v x
  | v, [], [], _, _ => rfl
  | v, y :: x, z :: a, hl, h => by
    have ih := both_all v x a (by simpa using hl) (fun i hi => by
      have := h (i + 1) (by simpa using hi)
      simpa using this)
    rw [cntB_cons]
    show (if y = v ∧ z = v then 1 else 0) + bothB v x a = _
    rw [ih]
    by_cases e : y = v
    · have := h 0 (by simp [e])
      have hz : z = v := by simpa using this
      simp [e, hz]
    · simp [e]
theorem both_all2 : ∀ (v : ByteArray) (x a : List ByteArray), a.length = x.length → (∀ i : Nat, a[i]? = some v → x[i]? = some v) → bothB v x a = cntB v a
  | v, [], [], _, _ => rfl
  | v, y :: x, z :: a, hl, h => by
    have ih := both_all2 v x a (by simpa using hl) (fun i hi => by
      have := h (i + 1) (by simpa using hi)
      simpa using this)
    rw [cntB_cons]
    show (if y = v ∧ z = v then 1 else 0) + bothB v x a = _
    rw [ih]
    by_cases e : z = v
    · have := h 0 (by simp [e])
      have hy : y = v := by simpa using this
      simp [e, hy]
    · simp [e]
theorem same_sum (V : List ByteArray) (hV : V.Nodup) : ∀ (x p : List ByteArray), (∀ y ∈ x, y ∈ V) → sameB x p = (V.map fun v => bothB v x p).sum
  | [], p, _ => by
    have : ∀ W : List ByteArray, (W.map fun v => bothB v [] p).sum = 0 := by
      intro W
      induction W with
      | nil => rfl
      | cons v W ih => simp only [List.map_cons, List.sum_cons, ih]; cases p <;> rfl
    rw [this]; cases p <;> rfl
  | y :: x, [], _ => by
    have : ∀ W : List ByteArray, (W.map fun v => bothB v (y :: x) []).sum = 0 := by
      intro W
      induction W with
      | nil => rfl
      | cons v W ih => simp only [List.map_cons, List.sum_cons, ih]; rfl
    rw [this]; rfl
  | y :: x, z :: p, h => by
    have ih := same_sum V hV x p (fun u hu => h u (List.mem_cons_of_mem _ hu))
    have key : ∀ W : List ByteArray, (W.map fun v => bothB v (y :: x) (z :: p)).sum = (W.map fun v => if y = v ∧ z = v then 1 else 0).sum + (W.map fun v => bothB v x p).sum := by
      intro W
      induction W with
      | nil => rfl
      | cons v W ihW =>
        simp only [List.map_cons, List.sum_cons, ihW]
        show (if y = v ∧ z = v then 1 else 0) + bothB v x p + _ = _
        omega
    have zero : ∀ W : List ByteArray, (y ∉ W ∨ y ≠ z) → (W.map fun v => if y = v ∧ z = v then 1 else 0).sum = 0 := by
      intro W
      induction W with
      | nil => intro _; rfl
      | cons v W ihW =>
        intro hW
        have h1 : ¬ (y = v ∧ z = v) := by
          rintro ⟨rfl, e⟩
          rcases hW with hW | hW
          · exact hW (List.mem_cons_self ..)
          · exact hW e.symm
        simp only [List.map_cons, List.sum_cons, if_neg h1]
        rw [ihW (hW.elim (fun hW => .inl (fun hm => hW (List.mem_cons_of_mem _ hm))) .inr)]
    have one : ∀ W : List ByteArray, W.Nodup → y ∈ W → y = z → (W.map fun v => if y = v ∧ z = v then 1 else 0).sum = 1 := by
      intro W
      induction W with
      | nil => intro _ hm; cases hm
      | cons v W ihW =>
        intro hn hm e
        obtain ⟨h1, h2⟩ := List.nodup_cons.1 hn
        by_cases hv : y = v
        · simp only [List.map_cons, List.sum_cons]
          rw [if_pos ⟨hv, e ▸ hv⟩, zero W (.inl (by rw [hv]; exact h1))]
        · have hm2 : y ∈ W := by
            rcases List.mem_cons.1 hm with hm | hm
            · exact absurd hm hv
            · exact hm
          simp only [List.map_cons, List.sum_cons]
          rw [if_neg (fun h => hv h.1), ihW h2 hm2 e]
    rw [key V, ← ih]
    show (if y = z then 1 else 0) + sameB x p = _
    by_cases e : y = z
    · rw [if_pos e, one V hV (h y (List.mem_cons_self ..)) e]
    · rw [if_neg e, zero V (.inr e)]
/-- What keeps as much as can be kept differs least. -/
theorem diff_min (V : List ByteArray) (hV : V.Nodup) (x a p : List ByteArray) (ha : a.length = x.length) (hp : p.length = x.length) (hx : ∀ y ∈ x, y ∈ V)
    (hP : ∀ v, (∀ i : Nat, x[i]? = some v → a[i]? = some v) ∨ (∀ i : Nat, a[i]? = some v → x[i]? = some v)) (hc : ∀ v ∈ V, cntB v a = cntB v p) : diffB x a ≤ diffB x p := by
  have h1 := diff_same x a ha
  have h2 := diff_same x p hp
  have h3 : sameB x p ≤ sameB x a := by
    rw [same_sum V hV x p hx, same_sum V hV x a hx]
    have : ∀ W : List ByteArray, (∀ v ∈ W, v ∈ V) → (W.map fun v => bothB v x p).sum ≤ (W.map fun v => bothB v x a).sum := by
      intro W
      induction W with
      | nil => intro _; exact Nat.le_refl _
      | cons v W ih =>
        intro hW
        have i1 := ih (fun u hu => hW u (List.mem_cons_of_mem _ hu))
        have i2 : bothB v x p ≤ bothB v x a := by
          rcases hP v with h | h
          · rw [both_all v x a ha h]; exact both_left v x p
          · rw [both_all2 v x a ha h, hc v (hW v (List.mem_cons_self ..))]; exact both_right v x p
        simp only [List.map_cons, List.sum_cons]
        omega
    exact this V (fun v hv => hv)
  omega
/-- All slots of a layout together. -/
theorem cntB_all (V : List ByteArray) (hV : V.Nodup) : ∀ (x : List ByteArray), (∀ y ∈ x, y ∈ V) → (V.map fun v => cntB v x).sum = x.length := by
  intro x hx
  have h1 := same_sum V hV x x hx
  have h2 : ∀ l : List ByteArray, sameB l l = l.length := by
    intro l
    induction l with
    | nil => rfl
    | cons y l ih => show (if y = y then 1 else 0) + sameB l l = _; rw [if_pos rfl, ih, List.length_cons]; omega
  have h3 : ∀ v, bothB v x x = cntB v x := fun v => both_all v x x rfl (fun _ h => h)
  rw [h2] at h1
  rw [h1]
  congr 1
  exact List.map_congr_left (fun v _ => (h3 v).symm)
theorem cntB_set (v y : ByteArray) : ∀ (l : List ByteArray) (i : Nat) (h : i < l.length), cntB v (l.set i y) + (if l[i] = v then 1 else 0) = cntB v l + (if y = v then 1 else 0)
  | [], i, h => absurd h (Nat.not_lt_zero _)
  | z :: l, 0, _ => by
    show cntB v (y :: l) + (if z = v then 1 else 0) = cntB v (z :: l) + _
    rw [cntB_cons, cntB_cons]
    omega
  | z :: l, i + 1, h => by
    have := cntB_set v y l i (by simpa using h)
    show cntB v (z :: l.set i y) + (if l[i]'(by simpa using h) = v then 1 else 0) = cntB v (z :: l) + _
    rw [cntB_cons, cntB_cons]
    omega
end Go.Proofs.YthikknnadmebgaaGreatDoor

/-! What stands while a layout is arranged. No program in sight. -/
namespace Go.Proofs.YthikknnadmebgaaGreatDoor

abbrev e0B : ByteArray := ⟨#[]⟩
structure ArC (ks x : List ByteArray) (cs : List Int) : Prop where
  nd : (e0B :: ks).Nodup
  xin : ∀ y ∈ x, y ∈ e0B :: ks
  csl : cs.length = ks.length
  cs0 : ∀ o, o < ks.length → 0 ≤ cs.getD o 0
  tot : cs.sum ≤ (x.length : Int)
theorem key_ne {ks : List ByteArray} (h : (e0B :: ks).Nodup) (o : Nat) (ho : o < ks.length) : ks[o] ≠ e0B := fun e => (List.nodup_cons.1 h).1 (by rw [← e]; exact List.getElem_mem ho)
theorem key_inj {ks : List ByteArray} (h : (e0B :: ks).Nodup) {o p : Nat} (ho : o < ks.length) (hp : p < ks.length) (e : ks[o] = ks[p]) : o = p := by
  have hn := (List.nodup_cons.1 h).2
  rcases Nat.lt_trichotomy o p with h1 | h1 | h1
  · exact absurd e ((List.pairwise_iff_getElem.1 hn) o p ho hp h1)
  · exact h1
  · exact absurd e.symm ((List.pairwise_iff_getElem.1 hn) p o hp ho h1)
/-- The first round: what can stay stays. -/
structure Ar1 (ks x : List ByteArray) (cs : List Int) (k : Nat) (out : List ByteArray) (L F : List Int) : Prop where
  kl : k ≤ x.length
  ol : out.length = x.length
  ll : L.length = ks.length
  rest : ∀ i : Nat, k ≤ i → i < x.length → out[i]? = some e0B
  done : ∀ i : Nat, i < k → out[i]? = x[i]? ∨ (out[i]? = some e0B ∧ (i : Int) ∈ F)
  lost : ∀ z ∈ F, ∃ i : Nat, z = (i : Int) ∧ i < k ∧ out[i]? = some e0B ∧ ∃ o, ∃ h : o < ks.length, x[i]? = some ks[o] ∧ L.getD o 0 = 0
  nd : F.Nodup
  cnt : ∀ o (h : o < ks.length), L.getD o 0 + (cntB ks[o] out : Int) = cs.getD o 0 ∧ 0 ≤ L.getD o 0
theorem cntB_rep (v : ByteArray) (hv : v ≠ e0B) : ∀ n : Nat, cntB v (List.replicate n e0B) = 0
  | 0 => rfl
  | n + 1 => by
    rw [List.replicate_succ, cntB_cons, if_neg (fun e => hv e.symm), cntB_rep v hv n]
theorem Ar1.start {ks x : List ByteArray} {cs : List Int} (C : ArC ks x cs) : Ar1 ks x cs 0 (List.replicate x.length e0B) cs [] := by
  refine ⟨Nat.zero_le _, by simp, C.csl, fun i _ hi => by rw [List.getElem?_replicate, if_pos hi], fun i hi => absurd hi (Nat.not_lt_zero _), fun z hz => (by cases hz), List.nodup_nil, fun o ho => ?_⟩
  rw [cntB_rep _ (key_ne C.nd o ho)]
  exact ⟨by simp, C.cs0 o ho⟩
theorem Ar1.skip {ks x : List ByteArray} {cs : List Int} {k : Nat} {out : List ByteArray} {L F : List Int} (h : Ar1 ks x cs k out L F) (hk : k < x.length) (he : x[k] = e0B) : Ar1 ks x cs (k + 1) out L F := by
  refine ⟨hk, h.ol, h.ll, fun i hi hl => h.rest i (by omega) hl, fun i hi => ?_, fun z hz => ?_, h.nd, h.cnt⟩
  · by_cases e : i = k
    · subst e
      refine .inl ?_
      rw [h.rest i (Nat.le_refl _) hk, List.getElem?_eq_getElem hk, he]
    · exact h.done i (by omega)
  · obtain ⟨i, e, hi, r⟩ := h.lost z hz
    exact ⟨i, e, by omega, r⟩
theorem getD_setI (L : List Int) (o p : Nat) (n : Int) (ho : o < L.length) : (L.set o n).getD p 0 = if p = o then n else L.getD p 0 := by
  rw [List.getD_eq_getElem?_getD, List.getD_eq_getElem?_getD]
  by_cases e : p = o
  · subst e; rw [List.getElem?_set_self ho, if_pos rfl]; rfl
  · rw [List.getElem?_set_ne (fun h => e h.symm), if_neg e]
theorem Ar1.keep {ks x : List ByteArray} {cs : List Int} {k : Nat} {out : List ByteArray} {L F : List Int} (C : ArC ks x cs) (h : Ar1 ks x cs k out L F) (hk : k < x.length) (o : Nat) (ho : o < ks.length) (he : x[k] = ks[o]) (hL : 0 < L.getD o 0) : Ar1 ks x cs (k + 1) (out.set k ks[o]) (L.set o (L.getD o 0 - 1)) F := by
  have hko : k < out.length := by rw [h.ol]; exact hk
  have hol : o < L.length := by rw [h.ll]; exact ho
  have hout : out[k] = e0B := by
    have := h.rest k (Nat.le_refl _) hk
    rw [List.getElem?_eq_getElem hko] at this
    simpa using this
  refine ⟨hk, by rw [List.length_set]; exact h.ol, by rw [List.length_set]; exact h.ll, fun i hi hl => ?_, fun i hi => ?_, fun z hz => ?_, h.nd, fun p hp => ?_⟩
  · rw [List.getElem?_set_ne (by omega)]
    exact h.rest i (by omega) hl
  · by_cases e : i = k
    · subst e
      refine .inl ?_
      rw [List.getElem?_set_self hko, List.getElem?_eq_getElem hk, he]
    · rw [List.getElem?_set_ne (fun h => e h.symm)]
      exact h.done i (by omega)
  · obtain ⟨i, e, hi, h2, p, hp, h3, h4⟩ := h.lost z hz
    refine ⟨i, e, by omega, by rw [List.getElem?_set_ne (by omega)]; exact h2, p, hp, h3, ?_⟩
    rw [getD_setI L o p _ hol]
    split
    · rename_i e2
      rw [e2] at h4; omega
    · exact h4
  · have h1 := cntB_set ks[p] ks[o] out k hko
    rw [hout, if_neg (fun e => key_ne C.nd p hp e.symm)] at h1
    obtain ⟨h2, h3⟩ := h.cnt p hp
    rw [getD_setI L o p _ hol]
    by_cases e : p = o
    · subst e
      rw [if_pos rfl] at h1 ⊢
      omega
    · rw [if_neg (fun h => e (key_inj C.nd hp ho h.symm))] at h1
      rw [if_neg e]
      omega
theorem Ar1.lose {ks x : List ByteArray} {cs : List Int} {k : Nat} {out : List ByteArray} {L F : List Int} (h : Ar1 ks x cs k out L F) (hk : k < x.length) (o : Nat) (ho : o < ks.length) (he : x[k] = ks[o]) (hL : ¬ 0 < L.getD o 0) : Ar1 ks x cs (k + 1) out L (F ++ [(k : Int)]) := by
  have hz : L.getD o 0 = 0 := by have := (h.cnt o ho).2; omega
  refine ⟨hk, h.ol, h.ll, fun i hi hl => h.rest i (by omega) hl, fun i hi => ?_, fun z hz2 => ?_, ?_, h.cnt⟩
  · by_cases e : i = k
    · subst e
      exact .inr ⟨h.rest i (Nat.le_refl _) hk, by simp⟩
    · rcases h.done i (by omega) with h1 | ⟨h1, h2⟩
      · exact .inl h1
      · exact .inr ⟨h1, List.mem_append_left _ h2⟩
  · rcases List.mem_append.1 hz2 with hz2 | hz2
    · obtain ⟨i, e, hi, r⟩ := h.lost z hz2
      exact ⟨i, e, by omega, r⟩
    · have : z = (k : Int) := by simpa using hz2
      exact ⟨k, this, by omega, h.rest k (Nat.le_refl _) hk, o, ho, by rw [List.getElem?_eq_getElem hk, he], hz⟩
  · refine List.nodup_append.2 ⟨h.nd, by simp, fun z hz2 y hy e => ?_⟩
    have hy : y = (k : Int) := by simpa using hy
    obtain ⟨i, e2, hi, -⟩ := h.lost z hz2
    omega
/-- The second round: the slots that are empty. -/
structure Ar2 (x : List ByteArray) (k : Nat) (E : List Int) : Prop where
  nd : E.Nodup
  are : ∀ z ∈ E, ∃ i : Nat, z = (i : Int) ∧ i < k ∧ x[i]? = some e0B
  has : ∀ i : Nat, i < k → x[i]? = some e0B → (i : Int) ∈ E
theorem Ar2.start (x : List ByteArray) : Ar2 x 0 [] := ⟨List.nodup_nil, fun z hz => (by cases hz), fun i hi => absurd hi (Nat.not_lt_zero _)⟩
theorem Ar2.skip {x : List ByteArray} {k : Nat} {E : List Int} (h : Ar2 x k E) (hk : k < x.length) (he : x[k] ≠ e0B) : Ar2 x (k + 1) E := by
  refine ⟨h.nd, fun z hz => ?_, fun i hi hx => ?_⟩
  · obtain ⟨i, e, hi, r⟩ := h.are z hz
    exact ⟨i, e, by omega, r⟩
  · by_cases e : i = k
    · subst e
      rw [List.getElem?_eq_getElem hk] at hx
      exact absurd (by simpa using hx) he
    · exact h.has i (by omega) hx
theorem Ar2.add {x : List ByteArray} {k : Nat} {E : List Int} (h : Ar2 x k E) (hk : k < x.length) (he : x[k] = e0B) : Ar2 x (k + 1) (E ++ [(k : Int)]) := by
  refine ⟨List.nodup_append.2 ⟨h.nd, by simp, fun z hz y hy e => ?_⟩, fun z hz => ?_, fun i hi hx => ?_⟩
  · have hy : y = (k : Int) := by simpa using hy
    obtain ⟨i, e2, hi, -⟩ := h.are z hz
    omega
  · rcases List.mem_append.1 hz with hz | hz
    · obtain ⟨i, e, hi, r⟩ := h.are z hz
      exact ⟨i, e, by omega, r⟩
    · have : z = (k : Int) := by simpa using hz
      exact ⟨k, this, by omega, by rw [List.getElem?_eq_getElem hk, he]⟩
  · by_cases e : i = k
    · subst e; simp
    · exact List.mem_append_left _ (h.has i (by omega) hx)
/-- The third round: the free slots are filled, from the front. -/
structure Ar3 (ks x : List ByteArray) (cs L G : List Int) (o : Nat) (r : Int) (t : Nat) (out : List ByteArray) : Prop where
  ndG : G.Nodup
  L0 : ∀ p, p < ks.length → 0 ≤ L.getD p 0
  tl : t ≤ G.length
  ol : out.length = x.length
  free : ∀ z ∈ G.drop t, ∃ i : Nat, z = (i : Int) ∧ i < x.length ∧ out[i]? = some e0B
  used : ∀ z ∈ G.take t, ∃ i : Nat, z = (i : Int) ∧ ∃ p, ∃ h : p < ks.length, 0 < L.getD p 0 ∧ out[i]? = some ks[p]
  same : ∀ i : Nat, i < x.length → (i : Int) ∉ G → out[i]? = x[i]? ∧ out[i]? ≠ some e0B
  r0 : 0 ≤ r
  cnt : ∀ p (h : p < ks.length), (p < o → (cntB ks[p] out : Int) = cs.getD p 0) ∧ (p = o → (cntB ks[p] out : Int) + r = cs.getD p 0) ∧ (o < p → (cntB ks[p] out : Int) + L.getD p 0 = cs.getD p 0)
  zer : cntB e0B out + t = G.length
  inV : ∀ y ∈ out, y ∈ e0B :: ks
theorem cntB_zero : ∀ (v : ByteArray) (l : List ByteArray) (G : List Int), G.Nodup → (∀ i : Nat, l[i]? = some v ↔ (i : Int) ∈ G) → (∀ z ∈ G, ∃ i : Nat, z = (i : Int) ∧ i < l.length) → cntB v l = G.length := by
  intro v l G hn h1 h2
  have key : ∀ (l : List ByteArray) (s : Nat), cntB v l = ((List.range' s l.length).filter (fun i => decide (l[i - s]? = some v))).length := by
    intro l
    induction l with
    | nil => intro s; rfl
    | cons y l ih =>
      intro s
      rw [cntB_cons, ih (s + 1), List.length_cons, List.range'_succ, List.filter_cons]
      have e : (List.range' (s + 1) l.length).filter (fun i => decide (l[i - (s + 1)]? = some v)) = (List.range' (s + 1) l.length).filter (fun i => decide ((y :: l)[i - s]? = some v)) := by
        refine List.filter_congr (fun i hi => ?_)
        have := (List.mem_range'_1.1 hi).1
        rw [show i - s = (i - (s + 1)) + 1 by omega, List.getElem?_cons_succ]
      rw [e, Nat.sub_self]
      by_cases hy : y = v
      · simp [hy]; omega
      · simp [hy]
  have k0 := key l 0
  rw [k0]
  have p1 : (((List.range' 0 l.length).filter (fun i => decide (l[i - 0]? = some v))).map fun i : Nat => (i : Int)).Perm G := by
    refine (List.perm_ext_iff_of_nodup ?_ hn).2 (fun z => ?_)
    · unfold List.Nodup
      rw [List.pairwise_map]
      exact ((List.nodup_range' (step := 1)).sublist List.filter_sublist).imp (fun h e => h (by omega))
    · constructor
      · intro hz
        obtain ⟨i, hi, rfl⟩ := List.mem_map.1 hz
        have := (List.mem_filter.1 hi).2
        exact (h1 i).1 (by simpa using this)
      · intro hz
        obtain ⟨i, rfl, hi⟩ := h2 z hz
        refine List.mem_map.2 ⟨i, List.mem_filter.2 ⟨List.mem_range'_1.2 ⟨Nat.zero_le _, by omega⟩, ?_⟩, rfl⟩
        have := (h1 i).2 hz
        simpa using this
  rw [← p1.length_eq, List.length_map]
theorem Ar3.start {ks x : List ByteArray} {cs : List Int} {out : List ByteArray} {L F E : List Int} (C : ArC ks x cs) (h : Ar1 ks x cs x.length out L F) (h2 : Ar2 x x.length E) : Ar3 ks x cs L (F ++ E) 0 (L.getD 0 0) 0 out := by
  have hF : ∀ z ∈ F, ∃ i : Nat, z = (i : Int) ∧ i < x.length ∧ out[i]? = some e0B ∧ x[i]? ≠ some e0B := by
    intro z hz
    obtain ⟨i, e, hi, h3, p, hp, h4, -⟩ := h.lost z hz
    exact ⟨i, e, hi, h3, by rw [h4]; intro e2; exact key_ne C.nd p hp (by simpa using e2)⟩
  have hE : ∀ z ∈ E, ∃ i : Nat, z = (i : Int) ∧ i < x.length ∧ out[i]? = some e0B := by
    intro z hz
    obtain ⟨i, e, hi, h3⟩ := h2.are z hz
    refine ⟨i, e, hi, ?_⟩
    rcases h.done i hi with h4 | ⟨h4, -⟩
    · rw [h4, h3]
    · exact h4
  have hG : ∀ z ∈ F ++ E, ∃ i : Nat, z = (i : Int) ∧ i < x.length ∧ out[i]? = some e0B := by
    intro z hz
    rcases List.mem_append.1 hz with hz | hz
    · obtain ⟨i, e, hi, h3, -⟩ := hF z hz
      exact ⟨i, e, hi, h3⟩
    · exact hE z hz
  have hsame : ∀ i : Nat, i < x.length → (i : Int) ∉ F ++ E → out[i]? = x[i]? ∧ out[i]? ≠ some e0B := by
    intro i hi hn
    rcases h.done i hi with h4 | ⟨-, h4⟩
    · refine ⟨h4, fun e => hn (List.mem_append_right _ (h2.has i hi ?_))⟩
      rw [← h4]; exact e
    · exact absurd (List.mem_append_left _ h4) hn
  have hnd : (F ++ E).Nodup := List.nodup_append.2 ⟨h.nd, h2.nd, fun z hz y hy e => by
    obtain ⟨i, e1, -, -, h3⟩ := hF z hz
    obtain ⟨j, e2, -, h4⟩ := h2.are y hy
    have : i = j := by omega
    rw [this] at h3
    exact h3 h4⟩
  refine ⟨hnd, fun p hp => (h.cnt p hp).2, Nat.zero_le _, h.ol, fun z hz => hG z (by simpa using hz), fun z hz => by simp at hz, hsame, ?_, fun p hp => ⟨fun h => absurd h (Nat.not_lt_zero _), fun e => ?_, fun _ => ?_⟩, ?_, fun y hy => ?_⟩
  · rcases Nat.lt_or_ge 0 ks.length with h0 | h0
    · exact (h.cnt 0 h0).2
    · rw [List.getD_eq_getElem?_getD, List.getElem?_eq_none (by rw [h.ll]; exact h0)]; simp
  · subst e
    have := (h.cnt 0 hp).1
    omega
  · have := (h.cnt p hp).1
    omega
  · rw [Nat.add_zero]
    refine cntB_zero e0B out (F ++ E) hnd (fun i => ⟨fun hi => ?_, fun hi => ?_⟩) (fun z hz => ?_)
    · have hlt : i < x.length := by
        rw [← h.ol]
        exact (List.getElem?_eq_some_iff.1 hi).1
      rcases Classical.em ((i : Int) ∈ F ++ E) with hm | hm
      · exact hm
      · exact absurd hi (hsame i hlt hm).2
    · obtain ⟨j, e, -, h3⟩ := hG _ hi
      have : i = j := by omega
      rw [this]; exact h3
    · obtain ⟨i, e, hi, -⟩ := hG z hz
      exact ⟨i, e, by rw [h.ol]; exact hi⟩
  · obtain ⟨i, hi, rfl⟩ := List.mem_iff_getElem.1 hy
    have hlt : i < x.length := by rw [← h.ol]; exact hi
    rcases h.done i hlt with h4 | ⟨h4, -⟩
    · rw [List.getElem?_eq_getElem hi, List.getElem?_eq_getElem hlt] at h4
      have : out[i] = x[i] := by simpa using h4
      rw [this]
      exact C.xin _ (List.getElem_mem hlt)
    · rw [List.getElem?_eq_getElem hi] at h4
      have : out[i] = e0B := by simpa using h4
      rw [this]; exact List.mem_cons_self ..
theorem sum_leA : ∀ (A : List Nat) (B : List Int) (j : Nat) (r : Int), A.length = B.length → j < A.length → (∀ p, p < A.length → (A.getD p 0 : Int) ≤ B.getD p 0) → (A.getD j 0 : Int) + r ≤ B.getD j 0 → (A.sum : Int) + r ≤ B.sum
  | [], _, j, _, _, h, _, _ => absurd h (Nat.not_lt_zero j)
  | _ :: _, [], _, _, h, _, _, _ => by simp at h
  | a :: A, b :: B, 0, r, hl, _, h, hj => by
    have tail : ∀ (A : List Nat) (B : List Int), A.length = B.length → (∀ p, p < A.length → (A.getD p 0 : Int) ≤ B.getD p 0) → (A.sum : Int) ≤ B.sum := by
      intro A
      induction A with
      | nil => intro B hl _; cases B with
        | nil => simp
        | cons _ _ => simp at hl
      | cons a A ih =>
        intro B hl h
        cases B with
        | nil => simp at hl
        | cons b B =>
          have h1 := ih B (by simpa using hl) (fun p hp => by have := h (p + 1) (by simpa using hp); simpa using this)
          have h2 := h 0 (by simp)
          simp only [List.getD_cons_zero] at h2
          simp only [List.sum_cons, Int.natCast_add]
          omega
    have h1 := tail A B (by simpa using hl) (fun p hp => by have := h (p + 1) (by simpa using hp); simpa using this)
    simp only [List.getD_cons_zero] at hj
    simp only [List.sum_cons, Int.natCast_add]
    omega
  | a :: A, b :: B, j + 1, r, hl, hjl, h, hj => by
    have h1 := sum_leA A B j r (by simpa using hl) (by simpa using hjl) (fun p hp => by have := h (p + 1) (by simpa using hp); simpa using this) (by simpa using hj)
    have h2 := h 0 (by simp)
    simp only [List.getD_cons_zero] at h2
    simp only [List.sum_cons, Int.natCast_add]
    omega
theorem Ar3.room {ks x : List ByteArray} {cs L G : List Int} {o t : Nat} {r : Int} {out : List ByteArray} (C : ArC ks x cs) (h : Ar3 ks x cs L G o r t out) (ho : o < ks.length) (hr : 0 < r) : t < G.length := by
  have h1 := cntB_all (e0B :: ks) C.nd out h.inV
  simp only [List.map_cons, List.sum_cons] at h1
  have g : ∀ p (hp : p < ks.length), ((ks.map fun v => cntB v out).getD p 0) = cntB ks[p] out := by
    intro p hp
    rw [List.getD_eq_getElem?_getD, List.getElem?_map, List.getElem?_eq_getElem hp]
    rfl
  have h2 := sum_leA (ks.map fun v => cntB v out) cs o r (by rw [List.length_map, C.csl]) (by rw [List.length_map]; exact ho) (fun p hp => by
    rw [List.length_map] at hp
    rw [g p hp]
    obtain ⟨c1, c2, c3⟩ := h.cnt p hp
    have := h.L0 p hp
    rcases Nat.lt_trichotomy p o with e | e | e
    · have := c1 e; omega
    · have := c2 e; omega
    · have := c3 e; omega) (by rw [g o ho]; have := (h.cnt o ho).2.1 rfl; omega)
  have h3 := C.tot
  have h4 := h.zer
  have h5 := h.ol
  omega
theorem Ar3.next {ks x : List ByteArray} {cs L G : List Int} {o t : Nat} {out : List ByteArray} (h : Ar3 ks x cs L G o 0 t out) (hL : L.length = ks.length) : Ar3 ks x cs L G (o + 1) (L.getD (o + 1) 0) t out := by
  refine ⟨h.ndG, h.L0, h.tl, h.ol, h.free, h.used, h.same, ?_, fun p hp => ⟨fun e => ?_, fun e => ?_, fun e => ?_⟩, h.zer, h.inV⟩
  · rcases Nat.lt_or_ge (o + 1) ks.length with h0 | h0
    · exact h.L0 _ h0
    · rw [List.getD_eq_getElem?_getD, List.getElem?_eq_none (by rw [hL]; exact h0)]; simp
  · rcases Nat.lt_or_ge p o with e2 | e2
    · exact (h.cnt p hp).1 e2
    · have := (h.cnt p hp).2.1 (by omega)
      omega
  · have := (h.cnt p hp).2.2 (by omega)
    have e2 : L.getD (o + 1) 0 = L.getD p 0 := by rw [e]
    rw [e2]
    exact this
  · exact (h.cnt p hp).2.2 (by omega)
theorem Ar3.put {ks x : List ByteArray} {cs L G : List Int} {o t i : Nat} {r : Int} {out : List ByteArray} (C : ArC ks x cs) (h : Ar3 ks x cs L G o r t out) (ho : o < ks.length) (hr : 0 < r) (hL : 0 < L.getD o 0) (ht : t < G.length) (hi : G[t] = (i : Int)) : i < x.length ∧ Ar3 ks x cs L G o (r - 1) (t + 1) (out.set i ks[o]) := by
  have hm : G[t] ∈ G.drop t := by
    rw [List.drop_eq_getElem_cons ht]; exact List.mem_cons_self ..
  obtain ⟨j, e, hjl, hj⟩ := h.free _ hm
  have hij : i = j := by omega
  subst hij
  have hio : i < out.length := by rw [h.ol]; exact hjl
  have hout : out[i] = e0B := by rw [List.getElem?_eq_getElem hio] at hj; simpa using hj
  refine ⟨hjl, h.ndG, h.L0, ht, by rw [List.length_set]; exact h.ol, fun z hz => ?_, fun z hz => ?_, fun k hk hn => ?_, by omega, fun p hp => ?_, ?_, fun y hy => ?_⟩
  · have hz2 : z ∈ G.drop t := by rw [List.drop_eq_getElem_cons ht]; exact List.mem_cons_of_mem _ hz
    obtain ⟨k, e2, hk, h2⟩ := h.free z hz2
    refine ⟨k, e2, hk, ?_⟩
    have hne : k ≠ i := by
      rintro rfl
      have hnd := h.ndG
      rw [← List.take_append_drop t G, List.drop_eq_getElem_cons ht] at hnd
      have := (List.nodup_append.1 hnd).2.1
      refine (List.nodup_cons.1 this).1 ?_
      rw [hi, ← e2]; exact hz
    rw [List.getElem?_set_ne (fun e => hne e.symm)]
    exact h2
  · rw [List.take_succ_eq_append_getElem ht] at hz
    rcases List.mem_append.1 hz with hz | hz
    · obtain ⟨k, e2, p, hp, h2, h3⟩ := h.used z hz
      refine ⟨k, e2, p, hp, h2, ?_⟩
      have hne : i ≠ k := by
        rintro rfl
        rw [hj] at h3
        exact key_ne C.nd p hp (by simpa using h3.symm)
      rw [List.getElem?_set_ne hne]
      exact h3
    · have : z = G[t] := by simpa using hz
      exact ⟨i, by rw [this, hi], o, ho, hL, by rw [List.getElem?_set_self hio]⟩
  · have hne : i ≠ k := by
      rintro rfl
      exact hn (by rw [← hi]; exact List.getElem_mem ht)
    rw [List.getElem?_set_ne hne]
    exact h.same k hk hn
  · have h1 := cntB_set ks[p] ks[o] out i hio
    rw [hout, if_neg (fun e => key_ne C.nd p hp e.symm)] at h1
    obtain ⟨c1, c2, c3⟩ := h.cnt p hp
    refine ⟨fun e2 => ?_, fun e2 => ?_, fun e2 => ?_⟩
    · rw [if_neg (fun e3 => by have := key_inj C.nd ho hp e3; omega)] at h1
      have := c1 e2; omega
    · subst e2
      rw [if_pos rfl] at h1
      have := c2 rfl; omega
    · rw [if_neg (fun e3 => by have := key_inj C.nd ho hp e3; omega)] at h1
      have := c3 e2; omega
  · have h1 := cntB_set e0B ks[o] out i hio
    rw [hout, if_pos rfl, if_neg (key_ne C.nd o ho)] at h1
    have := h.zer
    omega
  · rcases List.mem_or_eq_of_mem_set hy with hy | hy
    · exact h.inV y hy
    · rw [hy]; exact List.mem_cons_of_mem _ (List.getElem_mem ho)
/-- A layout that was arranged. -/
structure ArrIs (ks x : List ByteArray) (cs : List Int) (a : List ByteArray) : Prop where
  len : a.length = x.length
  cnt : ∀ o (h : o < ks.length), (cntB ks[o] a : Int) = cs.getD o 0
  inV : ∀ y ∈ a, y ∈ e0B :: ks
  keeps : ∀ v, (∀ i : Nat, x[i]? = some v → a[i]? = some v) ∨ (∀ i : Nat, a[i]? = some v → x[i]? = some v)
theorem Ar3.last {ks x : List ByteArray} {cs : List Int} {out1 out : List ByteArray} {L F E : List Int} {r : Int} {t : Nat} (C : ArC ks x cs) (h1 : Ar1 ks x cs x.length out1 L F) (h2 : Ar2 x x.length E) (h : Ar3 ks x cs L (F ++ E) ks.length r t out) : ArrIs ks x cs out := by
  refine ⟨h.ol, fun o ho => (h.cnt o ho).1 ho, h.inV, fun v => ?_⟩
  have hlt : ∀ {i : Nat}, ∀ v, x[i]? = some v → i < x.length := fun v hi => (List.getElem?_eq_some_iff.1 hi).1
  have hlt2 : ∀ {i : Nat}, ∀ v, out[i]? = some v → i < x.length := fun v hi => by rw [← h.ol]; exact (List.getElem?_eq_some_iff.1 hi).1
  have hE : ∀ z ∈ (F ++ E).drop t, F.length ≤ t → z ∈ E := by
    intro z hz ht
    rw [List.drop_append, List.drop_of_length_le ht, List.nil_append] at hz
    exact List.mem_of_mem_drop hz
  by_cases hv : v = e0B
  · subst hv
    rcases Nat.le_total t F.length with ht | ht
    · refine .inl (fun i hi => ?_)
      have hm : (i : Int) ∈ (F ++ E).drop t := by
        rw [List.drop_append, Nat.sub_eq_zero_of_le ht, List.drop_zero]
        exact List.mem_append_right _ (h2.has i (hlt _ hi) hi)
      obtain ⟨j, e, -, hj⟩ := h.free _ hm
      have : i = j := by omega
      rw [this]; exact hj
    · refine .inr (fun i hi => ?_)
      have hG : (i : Int) ∈ F ++ E := by
        rcases Classical.em ((i : Int) ∈ F ++ E) with hm | hm
        · exact hm
        · exact absurd hi (h.same i (hlt2 _ hi) hm).2
      rw [← List.take_append_drop t (F ++ E)] at hG
      rcases List.mem_append.1 hG with hm | hm
      · obtain ⟨j, e, p, hp, -, h3⟩ := h.used _ hm
        have : i = j := by omega
        rw [← this, hi] at h3
        exact absurd (by simpa using h3.symm) (key_ne C.nd p hp)
      · obtain ⟨j, e, -, hj⟩ := h2.are _ (hE _ hm ht)
        have : i = j := by omega
        rw [this]; exact hj
  · by_cases hk : ∃ o, ∃ ho : o < ks.length, v = ks[o]
    · obtain ⟨o, ho, rfl⟩ := hk
      rcases Int.lt_or_le 0 (L.getD o 0) with hL | hL
      · refine .inl (fun i hi => ?_)
        have h4 : out1[i]? = x[i]? := by
          rcases h1.done i (hlt _ hi) with h4 | ⟨h4, h5⟩
          · exact h4
          · obtain ⟨j, e, -, -, p, hp, h6, h7⟩ := h1.lost _ h5
            have hij : i = j := by omega
            rw [← hij, hi] at h6
            have := key_inj C.nd ho hp (by simpa using h6)
            subst this
            omega
        have hn : (i : Int) ∉ F ++ E := by
          intro hm
          rcases List.mem_append.1 hm with hm | hm
          · obtain ⟨j, e, -, h5, -⟩ := h1.lost _ hm
            have hij : i = j := by omega
            rw [← hij, h4, hi] at h5
            exact hv (by simpa using h5)
          · obtain ⟨j, e, -, h5⟩ := h2.are _ hm
            have hij : i = j := by omega
            rw [← hij, hi] at h5
            exact hv (by simpa using h5)
        rw [(h.same i (hlt _ hi) hn).1, hi]
      · refine .inr (fun i hi => ?_)
        rcases Classical.em ((i : Int) ∈ F ++ E) with hm | hm
        · rw [← List.take_append_drop t (F ++ E)] at hm
          rcases List.mem_append.1 hm with hm | hm
          · obtain ⟨j, e, p, hp, h3, h4⟩ := h.used _ hm
            have hij : i = j := by omega
            rw [← hij, hi] at h4
            have := key_inj C.nd ho hp (by simpa using h4)
            subst this
            omega
          · obtain ⟨j, e, -, h4⟩ := h.free _ hm
            have hij : i = j := by omega
            rw [← hij, hi] at h4
            exact absurd (by simpa using h4) hv
        · rw [← (h.same i (hlt2 _ hi) hm).1]; exact hi
    · refine .inl (fun i hi => ?_)
      have hm : v ∈ x := List.mem_of_getElem? hi
      rcases List.mem_cons.1 (C.xin v hm) with e | hm2
      · exact absurd e hv
      · obtain ⟨o, ho, e⟩ := List.mem_iff_getElem.1 hm2
        exact absurd ⟨o, ho, e.symm⟩ hk
end Go.Proofs.YthikknnadmebgaaGreatDoor
