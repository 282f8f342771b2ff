/- Tables of the greatest worth for each number of slots: no program in sight. -/
import Derived.Test.YtjhdngfliakidaaDoorPkCAa
namespace Go.Proofs.YtjhdngfliakidaaDoor

abbrev nothingT : Int := -1099511627776
/-- x is the greatest of the values v with A v; or nothing, if there is none. -/
def GrIs (A : Int → Prop) (x : Int) : Prop := (x = nothingT ∧ ∀ v, ¬ A v) ∨ (nothingT < x ∧ A x ∧ ∀ v, A v → v ≤ x)
theorem GrIs.iff {A B : Int → Prop} {x : Int} (h : GrIs A x) (e : ∀ v, A v ↔ B v) : GrIs B x := by
  rcases h with ⟨h1, h2⟩ | ⟨h1, h2, h3⟩
  · exact .inl ⟨h1, fun v hv => h2 v ((e v).2 hv)⟩
  · exact .inr ⟨h1, (e x).1 h2, fun v hv => h3 v ((e v).2 hv)⟩
theorem GrIs.one {A B : Int → Prop} {x y : Int} (h : GrIs A x) (g : GrIs B y) (e : ∀ v, A v ↔ B v) : x = y := by
  have g := g.iff (fun v => (e v).symm)
  rcases h with ⟨h1, h2⟩ | ⟨h1, h2, h3⟩
  · rcases g with ⟨g1, _⟩ | ⟨_, g2, _⟩
    · rw [h1, g1]
    · exact absurd g2 (h2 _)
  · rcases g with ⟨_, g2⟩ | ⟨_, g2, g3⟩
    · exact absurd h2 (g2 _)
    · have := h3 _ g2; have := g3 _ h2; omega
theorem GrIs.add {A : Int → Prop} {x : Int} (h : GrIs A x) (u : Int) (hu : nothingT < u) : GrIs (fun v => A v ∨ v = u) (max x u) := by
  rcases h with ⟨h1, h2⟩ | ⟨h1, h2, h3⟩
  · refine .inr ⟨by omega, .inr (by omega), fun v hv => ?_⟩
    rcases hv with hv | hv
    · exact absurd hv (h2 v)
    · omega
  · refine .inr ⟨by omega, ?_, fun v hv => ?_⟩
    · rcases Int.le_total x u with hl | hl
      · exact .inr (by omega)
      · exact .inl (by rw [Int.max_eq_left hl]; exact h2)
    · rcases hv with hv | hv
      · have := h3 v hv; omega
      · omega
def stepW (t ws : List Int) (s : Nat) (out : List Int) (n : Nat) : List Int :=
  if nothingT < t.getD s 0 ∧ nothingT < ws.getD n 0 ∧ s + n < t.length then out.set (s + n) (max (out.getD (s + n) 0) (t.getD s 0 + ws.getD n 0)) else out
def rowW (t ws : List Int) (s k : Nat) (out : List Int) : List Int := (List.range k).foldl (stepW t ws s) out
def withI (t ws : List Int) (i : Nat) : List Int := (List.range i).foldl (fun o s => rowW t ws s ws.length o) (List.replicate t.length nothingT)
def withT (t ws : List Int) : List Int := withI t ws t.length
theorem rowW_next (t ws : List Int) (s k : Nat) (out : List Int) : rowW t ws s (k + 1) out = stepW t ws s (rowW t ws s k out) k := by
  unfold rowW
  rw [List.range_succ, List.foldl_append]
  rfl
theorem withI_next (t ws : List Int) (i : Nat) : withI t ws (i + 1) = rowW t ws i ws.length (withI t ws i) := by
  unfold withI
  rw [List.range_succ, List.foldl_append]
  rfl
theorem stepW_len (t ws : List Int) (s : Nat) (out : List Int) (n : Nat) : (stepW t ws s out n).length = out.length := by
  unfold stepW
  split
  · rw [List.length_set]
  · rfl
theorem rowW_len (t ws : List Int) (s : Nat) (out : List Int) : ∀ k, (rowW t ws s k out).length = out.length
  | 0 => rfl
  | k + 1 => by rw [rowW_next, stepW_len, rowW_len t ws s out k]
theorem withI_len (t ws : List Int) : ∀ i, (withI t ws i).length = t.length
  | 0 => by simp [withI]
  | i + 1 => by rw [withI_next, rowW_len, withI_len t ws i]
/-- What was put into a table for the pairs P. -/
def InW (t ws : List Int) (P : Nat → Nat → Prop) (out : List Int) : Prop :=
  out.length = t.length ∧ ∀ r, r < t.length → GrIs (fun v => ∃ s n, P s n ∧ nothingT < t.getD s 0 ∧ nothingT < ws.getD n 0 ∧ s + n = r ∧ v = t.getD s 0 + ws.getD n 0) (out.getD r 0)
theorem getD_set (l : List Int) (i r : Nat) (x : Int) (h : r < l.length) : (l.set i x).getD r 0 = if r = i then x else l.getD r 0 := by
  rw [List.getD_eq_getElem?_getD, List.getD_eq_getElem?_getD, List.getElem?_set]
  by_cases e : i = r
  · subst e
    rw [if_pos rfl, if_pos rfl, if_pos h]
    rfl
  · rw [if_neg e, if_neg (fun e2 => e e2.symm)]
theorem InW.step {t ws : List Int} {P : Nat → Nat → Prop} {out : List Int} (h : InW t ws P out) (s n : Nat) (hb : nothingT < t.getD s 0 → nothingT < ws.getD n 0 → nothingT < t.getD s 0 + ws.getD n 0) : InW t ws (fun a b => P a b ∨ (a = s ∧ b = n)) (stepW t ws s out n) := by
  refine ⟨by rw [stepW_len]; exact h.1, fun r hr => ?_⟩
  have hg := h.2 r hr
  unfold stepW
  by_cases hc : nothingT < t.getD s 0 ∧ nothingT < ws.getD n 0 ∧ s + n < t.length
  · rw [if_pos hc, getD_set _ _ _ _ (by rw [h.1]; exact hr)]
    by_cases e : r = s + n
    · rw [if_pos e, ← e]
      refine (hg.add _ (hb hc.1 hc.2.1)).iff (fun v => ⟨fun hv => ?_, fun hv => ?_⟩)
      · rcases hv with ⟨a, b, p, q⟩ | hv
        · exact ⟨a, b, .inl p, q⟩
        · exact ⟨s, n, .inr ⟨rfl, rfl⟩, hc.1, hc.2.1, e.symm, hv⟩
      · obtain ⟨a, b, p | ⟨rfl, rfl⟩, q⟩ := hv
        · exact .inl ⟨a, b, p, q⟩
        · exact .inr q.2.2.2
    · rw [if_neg e]
      refine hg.iff (fun v => ⟨fun ⟨a, b, p, q⟩ => ⟨a, b, .inl p, q⟩, fun ⟨a, b, p, q⟩ => ?_⟩)
      rcases p with p | ⟨rfl, rfl⟩
      · exact ⟨a, b, p, q⟩
      · exact absurd q.2.2.1.symm e
  · rw [if_neg hc]
    refine hg.iff (fun v => ⟨fun ⟨a, b, p, q⟩ => ⟨a, b, .inl p, q⟩, fun ⟨a, b, p, q⟩ => ?_⟩)
    rcases p with p | ⟨rfl, rfl⟩
    · exact ⟨a, b, p, q⟩
    · exact absurd ⟨q.1, q.2.1, by have := q.2.2.1; omega⟩ hc
theorem InW.same {t ws : List Int} {P Q : Nat → Nat → Prop} {out : List Int} (h : InW t ws P out) (e : ∀ a b, P a b ↔ Q a b) : InW t ws Q out :=
  ⟨h.1, fun r hr => (h.2 r hr).iff (fun _ => ⟨fun ⟨a, b, p, q⟩ => ⟨a, b, (e a b).1 p, q⟩, fun ⟨a, b, p, q⟩ => ⟨a, b, (e a b).2 p, q⟩⟩)⟩
theorem InW.row {t ws : List Int} {P : Nat → Nat → Prop} {out : List Int} (h : InW t ws P out) (s : Nat) (hb : ∀ n, nothingT < t.getD s 0 → nothingT < ws.getD n 0 → nothingT < t.getD s 0 + ws.getD n 0) : ∀ k, InW t ws (fun a b => P a b ∨ (a = s ∧ b < k)) (rowW t ws s k out)
  | 0 => h.same (fun a b => by simp)
  | k + 1 => by
    rw [rowW_next]
    refine ((InW.row h s hb k).step s k (hb k)).same (fun a b => ⟨fun hv => ?_, fun hv => ?_⟩)
    · rcases hv with (p | ⟨p, q⟩) | ⟨p, q⟩
      · exact .inl p
      · exact .inr ⟨p, by omega⟩
      · exact .inr ⟨p, by omega⟩
    · rcases hv with p | ⟨p, q⟩
      · exact .inl (.inl p)
      · by_cases e : b = k
        · exact .inr ⟨p, e⟩
        · exact .inl (.inr ⟨p, by omega⟩)
theorem withI_in (t ws : List Int) (hb : ∀ s n, nothingT < t.getD s 0 → nothingT < ws.getD n 0 → nothingT < t.getD s 0 + ws.getD n 0) : ∀ i, InW t ws (fun a b => a < i ∧ b < ws.length) (withI t ws i)
  | 0 => by
    refine ⟨by rw [withI_len], fun r hr => .inl ⟨?_, fun _ ⟨a, b, p, _⟩ => by omega⟩⟩
    simp [withI, List.getD_eq_getElem?_getD, hr]
  | i + 1 => by
    rw [withI_next]
    refine ((withI_in t ws hb i).row i (hb i) ws.length).same (fun a b => ⟨fun hv => ?_, fun hv => ?_⟩)
    · rcases hv with ⟨p, q⟩ | ⟨p, q⟩
      · exact ⟨by omega, q⟩
      · exact ⟨by omega, q⟩
    · by_cases e : a = i
      · exact .inr ⟨e, hv.2⟩
      · exact .inl ⟨by omega, hv.2⟩
/-- A table says for each number of slots below its length what is the greatest worth in A. -/
structure Rep (t : List Int) (A : Nat → Int → Prop) : Prop where
  gr : ∀ r, r < t.length → GrIs (A r) (t.getD r 0)
  bd : ∀ r v, A r v → -1000000000 ≤ v ∧ v ≤ 1000000000
theorem Rep.iff {t : List Int} {A B : Nat → Int → Prop} (h : Rep t A) (e : ∀ r, r < t.length → ∀ v, A r v ↔ B r v) (hb : ∀ r v, B r v → -1000000000 ≤ v ∧ v ≤ 1000000000) : Rep t B := ⟨fun r hr => (h.gr r hr).iff (e r hr), hb⟩
theorem Rep.val {t : List Int} {A : Nat → Int → Prop} (h : Rep t A) (r : Nat) (h1 : r < t.length) (h2 : nothingT < t.getD r 0) : A r (t.getD r 0) ∧ -1000000000 ≤ t.getD r 0 ∧ t.getD r 0 ≤ 1000000000 := by
  rcases h.gr r h1 with ⟨e, _⟩ | ⟨_, e, _⟩
  · rw [e] at h2; omega
  · exact ⟨e, h.bd _ _ e⟩
theorem Rep.big {t : List Int} {A : Nat → Int → Prop} (h : Rep t A) (r : Nat) (h1 : r < t.length) (v : Int) (hv : A r v) : nothingT < t.getD r 0 ∧ v ≤ t.getD r 0 := by
  rcases h.gr r h1 with ⟨_, e⟩ | ⟨e1, _, e⟩
  · exact absurd hv (e v)
  · exact ⟨e1, e v hv⟩
def sumA (A B : Nat → Int → Prop) : Nat → Int → Prop := fun r v => ∃ a x b y, A a x ∧ B b y ∧ a + b = r ∧ v = x + y
/-- With something more. -/
theorem Rep.with {t ws : List Int} {A B : Nat → Int → Prop} (h : Rep t A) (g : Rep ws B) (hB : ∀ n v, n < t.length → B n v → n < ws.length) (hs : ∀ r v, sumA A B r v → -1000000000 ≤ v ∧ v ≤ 1000000000) : Rep (withT t ws) (sumA A B) := by
  have hb : ∀ s n, nothingT < t.getD s 0 → nothingT < ws.getD n 0 → nothingT < t.getD s 0 + ws.getD n 0 := fun s n h1 h2 => by
    have e1 : -1000000000 ≤ t.getD s 0 := by
      by_cases hl : s < t.length
      · exact (h.val s hl h1).2.1
      · rw [List.getD_eq_getElem?_getD, List.getElem?_eq_none (by omega)]; simp
    have e2 : -1000000000 ≤ ws.getD n 0 := by
      by_cases hl : n < ws.length
      · exact (g.val n hl h2).2.1
      · rw [List.getD_eq_getElem?_getD, List.getElem?_eq_none (by omega)]; simp
    show (-1099511627776 : Int) < _
    omega
  have hI := withI_in t ws hb t.length
  refine ⟨fun r hr => ?_, hs⟩
  rw [show (withT t ws).length = t.length from withI_len t ws _] at hr
  have h1 := hI.2 r hr
  rcases h1 with ⟨e1, e2⟩ | ⟨e1, ⟨s, n, ⟨p1, p2⟩, q1, q2, q3, q4⟩, e3⟩
  · refine .inl ⟨e1, fun v hv => ?_⟩
    obtain ⟨a, x, b, y, ha, hb2, hab, hv2⟩ := hv
    have hbl := hB b y (by omega) hb2
    have k1 := h.big a (by omega) x ha
    have k2 := g.big b hbl y hb2
    exact e2 _ ⟨a, b, ⟨by omega, hbl⟩, k1.1, k2.1, hab, rfl⟩
  · refine .inr ⟨e1, ?_, fun v hv => ?_⟩
    · have k1 := h.val s (by omega) q1
      have k2 := g.val n p2 q2
      show sumA A B r ((withI t ws t.length).getD r 0)
      rw [q4]
      exact ⟨s, _, n, _, k1.1, k2.1, q3, rfl⟩
    · obtain ⟨a, x, b, y, ha, hb2, hab, hv2⟩ := hv
      have hbl := hB b y (by omega) hb2
      have k1 := h.big a (by omega) x ha
      have k2 := g.big b hbl y hb2
      have := e3 _ ⟨a, b, ⟨by omega, hbl⟩, k1.1, k2.1, hab, rfl⟩
      show v ≤ (withI t ws t.length).getD r 0
      omega
/-- A table of nothing but no slots. -/
def unitT (S : Nat) : List Int := (List.replicate (S + 1) nothingT).set 0 0
theorem unit_rep (S : Nat) : Rep (unitT S) (fun r v => r = 0 ∧ v = 0) := by
  refine ⟨fun r hr => ?_, fun r v ⟨_, e⟩ => by omega⟩
  have hl : (List.replicate (S + 1) nothingT).length = S + 1 := by simp
  have hr2 : r < S + 1 := by unfold unitT at hr; simpa using hr
  unfold unitT
  rw [getD_set _ _ _ _ (by rw [hl]; exact hr2)]
  by_cases e : r = 0
  · rw [if_pos e]
    exact .inr ⟨by decide, ⟨e, rfl⟩, fun v hv => by omega⟩
  · rw [if_neg e]
    refine .inl ⟨?_, fun v hv => e hv.1⟩
    simp [List.getD_eq_getElem?_getD, hr2]
/-- .. of numbers of slots within bounds alone. -/
def limT (lo hi : Int) (k : Nat) (t : List Int) : List Int := (List.range k).foldl (fun (o : List Int) (n : Nat) => if (n : Int) < lo ∨ hi < (n : Int) then o.set n nothingT else o) t
theorem limT_next (lo hi : Int) (k : Nat) (t : List Int) : limT lo hi (k + 1) t = if (k : Int) < lo ∨ hi < (k : Int) then (limT lo hi k t).set k nothingT else limT lo hi k t := by
  unfold limT
  rw [List.range_succ, List.foldl_append]
  rfl
theorem limT_len (lo hi : Int) (t : List Int) : ∀ k, (limT lo hi k t).length = t.length
  | 0 => rfl
  | k + 1 => by rw [limT_next]; split <;> simp [limT_len lo hi t k]
theorem limT_get (lo hi : Int) (t : List Int) (r : Nat) (hr : r < t.length) : ∀ k, (limT lo hi k t).getD r 0 = if r < k ∧ ((r : Int) < lo ∨ hi < (r : Int)) then nothingT else t.getD r 0
  | 0 => by simp [limT]
  | k + 1 => by
    rw [limT_next]
    have ih := limT_get lo hi t r hr k
    split
    · rename_i hc
      rw [getD_set _ _ _ _ (by rw [limT_len]; exact hr), ih]
      by_cases e : r = k
      · subst e
        rw [if_pos rfl, if_pos ⟨by omega, hc⟩]
      · rw [if_neg e]
        by_cases h1 : r < k
        · simp [h1, show r < k + 1 by omega]
        · simp [h1, show ¬ r < k + 1 by omega]
    · rename_i hc
      rw [ih]
      by_cases e : r = k
      · subst e
        simp [hc]
      · by_cases h1 : r < k
        · simp [h1, show r < k + 1 by omega]
        · simp [h1, show ¬ r < k + 1 by omega]
theorem Rep.lim {t : List Int} {A : Nat → Int → Prop} (h : Rep t A) (lo hi : Int) : Rep (limT lo hi t.length t) (fun r v => A r v ∧ lo ≤ (r : Int) ∧ (r : Int) ≤ hi) := by
  refine ⟨fun r hr => ?_, fun r v hv => h.bd r v hv.1⟩
  rw [limT_len] at hr
  rw [limT_get lo hi t r hr]
  by_cases hc : (r : Int) < lo ∨ hi < (r : Int)
  · rw [if_pos ⟨hr, hc⟩]
    exact .inl ⟨rfl, fun v hv => by omega⟩
  · rw [if_neg (fun e => hc e.2)]
    exact (h.gr r hr).iff (fun v => ⟨fun hv => ⟨hv, by omega⟩, fun hv => hv.1⟩)
end Go.Proofs.YtjhdngfliakidaaDoor

/-! What the tables of all groups say together: the greatest worth of counts that keep the quotas. No program in sight. -/
namespace Go.Proofs.YtjhdngfliakidaaDoor

/-- Sums over the indices below k with p. -/
def gn (p : Nat → Bool) (c : Nat → Nat) : Nat → Nat
  | 0 => 0
  | k + 1 => gn p c k + if p k then c k else 0
def gs (p : Nat → Bool) (u : Nat → Int) : Nat → Int
  | 0 => 0
  | k + 1 => gs p u k + if p k then u k else 0
theorem gn_congr {p q : Nat → Bool} {c d : Nat → Nat} : ∀ k, (∀ j, j < k → p j = q j) → (∀ j, j < k → p j = true → c j = d j) → gn p c k = gn q d k
  | 0, _, _ => rfl
  | k + 1, h, g => by
    rw [gn, gn, gn_congr k (fun j hj => h j (by omega)) (fun j hj => g j (by omega)), ← h k (by omega)]
    cases hp : p k with
    | false => rfl
    | true => rw [g k (by omega) hp]
theorem gs_congr {p q : Nat → Bool} {c d : Nat → Int} : ∀ k, (∀ j, j < k → p j = q j) → (∀ j, j < k → p j = true → c j = d j) → gs p c k = gs q d k
  | 0, _, _ => rfl
  | k + 1, h, g => by
    rw [gs, gs, gs_congr k (fun j hj => h j (by omega)) (fun j hj => g j (by omega)), ← h k (by omega)]
    cases hp : p k with
    | false => rfl
    | true => rw [g k (by omega) hp]
theorem gn_or {p q : Nat → Bool} {c : Nat → Nat} (h : ∀ j, p j = true → q j = false) : ∀ k, gn (fun j => p j || q j) c k = gn p c k + gn q c k
  | 0 => rfl
  | k + 1 => by
    rw [gn, gn, gn, gn_or h k]
    cases hp : p k with
    | false => simp; omega
    | true => simp [h k hp]; omega
theorem gs_or {p q : Nat → Bool} {c : Nat → Int} (h : ∀ j, p j = true → q j = false) : ∀ k, gs (fun j => p j || q j) c k = gs p c k + gs q c k
  | 0 => rfl
  | k + 1 => by
    rw [gs, gs, gs, gs_or h k]
    cases hp : p k with
    | false => simp; omega
    | true => simp [h k hp]; omega
theorem gs_bd {p : Nat → Bool} {u : Nat → Int} (B : Int) (hB : 0 ≤ B) : ∀ k, (∀ j, j < k → p j = true → -B ≤ u j ∧ u j ≤ B) → -(k * B) ≤ gs p u k ∧ gs p u k ≤ k * B
  | 0, _ => by simp [gs]
  | k + 1, h => by
    obtain ⟨h1, h2⟩ := gs_bd B hB k (fun j hj => h j (by omega))
    rw [gs]
    have e : ((k + 1 : Nat) : Int) * B = k * B + B := by push_cast; rw [Int.add_mul, Int.one_mul]
    rw [e]
    cases hp : p k with
    | false => simp; omega
    | true => have := h k (by omega) hp; simp; omega
structure Quo where
  group : ByteArray
  least : Int
  most : Int
/-- The problem: indices below m, each with a group, a greatest count and worths; some first counts fixed; quotas. -/
structure Pb where
  m : Nat
  G : Nat → ByteArray
  N : Nat → Nat
  U : Nat → Nat → Int
  q : List Quo
  bd : ∀ j n, -10000000 ≤ U j n ∧ U j n ≤ 10000000
  mb : m ≤ 30
def alw (P : Pb) (F : List Int) (j n : Nat) : Prop := n ≤ P.N j ∧ (j < F.length → (n : Int) = F.getD j 0)
def isG (P : Pb) (g : ByteArray) (j : Nat) : Bool := decide (P.G j = g)
def setG (P : Pb) (F : List Int) (p : Nat → Bool) (k : Nat) : Nat → Int → Prop := fun r v => ∃ c : Nat → Nat, (∀ j, j < k → p j = true → alw P F j (c j)) ∧ r = gn p c k ∧ v = gs p (fun j => P.U j (c j)) k
theorem setG_bd (P : Pb) (F : List Int) (p : Nat → Bool) (k : Nat) (hk : k ≤ P.m) (r : Nat) (v : Int) (h : setG P F p k r v) : -1000000000 ≤ v ∧ v ≤ 1000000000 := by
  obtain ⟨c, _, _, e⟩ := h
  have h1 := gs_bd (p := p) (u := fun j => P.U j (c j)) 10000000 (by decide) k (fun j _ _ => P.bd j (c j))
  have h2 := P.mb
  have h3 : (k : Int) * 10000000 ≤ 300000000 := by omega
  omega
theorem setG_zero (P : Pb) (F : List Int) (p : Nat → Bool) (r : Nat) (v : Int) : (r = 0 ∧ v = 0) ↔ setG P F p 0 r v :=
  ⟨fun ⟨h1, h2⟩ => ⟨fun _ => 0, fun j hj => by omega, h1, h2⟩, fun ⟨_, _, h1, h2⟩ => ⟨h1, h2⟩⟩
theorem setG_skip (P : Pb) (F : List Int) (p : Nat → Bool) (k : Nat) (hp : p k = false) (r : Nat) (v : Int) : setG P F p k r v ↔ setG P F p (k + 1) r v := by
  refine ⟨fun ⟨c, h1, h2, h3⟩ => ⟨c, fun j hj hpj => ?_, by rw [gn, hp]; simpa using h2, by rw [gs, hp]; simpa using h3⟩, fun ⟨c, h1, h2, h3⟩ => ⟨c, fun j hj => h1 j (by omega), by rw [gn, hp] at h2; simpa using h2, by rw [gs, hp] at h3; simpa using h3⟩⟩
  by_cases e : j = k
  · rw [e, hp] at hpj; cases hpj
  · exact h1 j (by omega) hpj
theorem setG_take (P : Pb) (F : List Int) (p : Nat → Bool) (k : Nat) (hp : p k = true) (r : Nat) (v : Int) : sumA (setG P F p k) (fun n v => alw P F k n ∧ v = P.U k n) r v ↔ setG P F p (k + 1) r v := by
  constructor
  · rintro ⟨a, x, b, y, ⟨c, h1, h2, h3⟩, ⟨h4, h5⟩, h6, h7⟩
    refine ⟨fun j => if j = k then b else c j, fun j hj hpj => ?_, ?_, ?_⟩
    · show alw P F j (if j = k then b else c j)
      by_cases e : j = k
      · rw [if_pos e, e]; exact h4
      · rw [if_neg e]; exact h1 j (by omega) hpj
    · rw [gn, hp, ← h6, h2]
      congr 1
      · exact gn_congr k (fun _ _ => rfl) (fun j hj _ => by rw [if_neg (by omega)])
      · simp
    · rw [gs, hp, h7, h3, h5]
      congr 1
      · exact gs_congr k (fun _ _ => rfl) (fun j hj _ => by show P.U j (c j) = P.U j (if j = k then b else c j); rw [if_neg (by omega)])
      · simp
  · rintro ⟨c, h1, h2, h3⟩
    refine ⟨gn p c k, gs p (fun j => P.U j (c j)) k, c k, P.U k (c k), ⟨c, fun j hj => h1 j (by omega), rfl, rfl⟩, ⟨h1 k (by omega) hp, rfl⟩, ?_, ?_⟩
    · rw [h2, gn, hp]; simp
    · rw [h3, gs, hp]; simp
def keepsQ (P : Pb) (g : ByteArray) (r : Nat) : Prop := ∀ x ∈ P.q, x.group = g → x.least ≤ (r : Int) ∧ (r : Int) ≤ x.most
/-- The groups with V, together. -/
def setV (P : Pb) (F : List Int) (V : ByteArray → Bool) : Nat → Int → Prop := fun r v => ∃ c : Nat → Nat, (∀ j, j < P.m → V (P.G j) = true → alw P F j (c j)) ∧ (∀ g, V g = true → keepsQ P g (gn (isG P g) c P.m)) ∧ r = gn (fun j => V (P.G j)) c P.m ∧ v = gs (fun j => V (P.G j)) (fun j => P.U j (c j)) P.m
theorem setV_bd (P : Pb) (F : List Int) (V : ByteArray → Bool) (r : Nat) (v : Int) (h : setV P F V r v) : -1000000000 ≤ v ∧ v ≤ 1000000000 := by
  obtain ⟨c, h1, _, h3, h4⟩ := h
  exact setG_bd P F (fun j => V (P.G j)) P.m (Nat.le_refl _) r v ⟨c, h1, h3, h4⟩
theorem setV_none (P : Pb) (F : List Int) (r : Nat) (v : Int) : (r = 0 ∧ v = 0) ↔ setV P F (fun _ => false) r v := by
  have e1 : ∀ c, gn (fun _ => false) c P.m = 0 := fun c => by
    have : ∀ k, gn (fun _ => false) c k = 0 := fun k => by induction k with
      | zero => rfl
      | succ k ih => rw [gn, ih]; rfl
    exact this _
  have e2 : ∀ c, gs (fun _ => false) c P.m = 0 := fun c => by
    have : ∀ k, gs (fun _ => false) c k = 0 := fun k => by induction k with
      | zero => rfl
      | succ k ih => rw [gs, ih]; rfl
    exact this _
  exact ⟨fun ⟨h1, h2⟩ => ⟨fun _ => 0, ⟨fun j _ h => absurd h (by simp), fun g h => absurd h (by simp), h1.trans (e1 _).symm, h2.trans (e2 _).symm⟩⟩, fun ⟨c, _, _, h1, h2⟩ => ⟨h1.trans (e1 _), h2.trans (e2 _)⟩⟩
def lastG (P : Pb) (F : List Int) (g : ByteArray) : Nat → Int → Prop := fun r v => setG P F (isG P g) P.m r v ∧ keepsQ P g r
theorem setV_add (P : Pb) (F : List Int) (V : ByteArray → Bool) (g : ByteArray) (hg : V g = false) (r : Nat) (v : Int) : sumA (setV P F V) (lastG P F g) r v ↔ setV P F (fun h => V h || decide (h = g)) r v := by
  have dis : ∀ j, V (P.G j) = true → isG P g j = false := fun j h => by
    unfold isG
    simp only [decide_eq_false_iff_not]
    intro e
    rw [e, hg] at h
    cases h
  have hor : ∀ j, (V (P.G j) || decide (P.G j = g)) = (V (P.G j) || isG P g j) := fun j => rfl
  constructor
  · rintro ⟨a, x, b, y, ⟨c, h1, h2, h3, h4⟩, ⟨⟨d, g1, g2, g3⟩, g4⟩, h6, h7⟩
    have cg : ∀ j, isG P g j = true → (if P.G j = g then d j else c j) = d j := fun j h => by
      unfold isG at h; rw [if_pos (by simpa using h)]
    have cv : ∀ j, V (P.G j) = true → (if P.G j = g then d j else c j) = c j := fun j h => by
      have := dis j h; unfold isG at this; rw [if_neg (by simpa using this)]
    refine ⟨fun j => if P.G j = g then d j else c j, fun j hj hv => ?_, fun k hv => ?_, ?_, ?_⟩
    · have hv : (V (P.G j) || isG P g j) = true := hv
      show alw P F j (if P.G j = g then d j else c j)
      cases hVj : V (P.G j) with
      | true => rw [cv j hVj]; exact h1 j hj hVj
      | false =>
        rw [hVj, Bool.false_or] at hv
        rw [cg j hv]; exact g1 j hj hv
    · by_cases e : k = g
      · subst e
        rw [gn_congr (q := isG P k) (d := d) P.m (fun _ _ => rfl) (fun j _ h => cg j h), ← g2]
        exact g4
      · have hVk : V k = true := by simpa [e] using hv
        rw [gn_congr (q := isG P k) (d := c) P.m (fun _ _ => rfl) (fun j _ h => cv j (by unfold isG at h; rw [show P.G j = k by simpa using h]; exact hVk))]
        exact h2 k hVk
    · show r = gn (fun j => V (P.G j) || isG P g j) _ P.m
      rw [gn_or dis, ← h6, h3, g2]
      congr 1
      · exact gn_congr P.m (fun _ _ => rfl) (fun j _ h => (cv j h).symm)
      · exact gn_congr P.m (fun _ _ => rfl) (fun j _ h => (cg j h).symm)
    · show v = gs (fun j => V (P.G j) || isG P g j) _ P.m
      rw [gs_or dis, h7, h4, g3]
      congr 1
      · exact gs_congr P.m (fun _ _ => rfl) (fun j _ h => by show P.U j (c j) = P.U j (if P.G j = g then d j else c j); rw [cv j h])
      · exact gs_congr P.m (fun _ _ => rfl) (fun j _ h => by show P.U j (d j) = P.U j (if P.G j = g then d j else c j); rw [cg j h])
  · rintro ⟨c, h1, h2, h3, h4⟩
    refine ⟨gn (fun j => V (P.G j)) c P.m, gs (fun j => V (P.G j)) (fun j => P.U j (c j)) P.m, gn (isG P g) c P.m, gs (isG P g) (fun j => P.U j (c j)) P.m, ⟨c, fun j hj h => h1 j hj (show (V (P.G j) || isG P g j) = true by rw [h]; rfl), fun k hk => h2 k (show (V k || decide (k = g)) = true by rw [hk]; rfl), rfl, rfl⟩, ⟨⟨c, fun j hj h => h1 j hj (show (V (P.G j) || isG P g j) = true by rw [h, Bool.or_true]), rfl, rfl⟩, h2 g (by simp)⟩, ?_, ?_⟩
    · rw [h3]
      exact (gn_or dis P.m).symm
    · rw [h4]
      exact (gs_or dis P.m)
/-- Counts that are allowed, keep the quotas and have S slots. -/
def okC (P : Pb) (F : List Int) (S : Nat) (c : Nat → Nat) : Prop := (∀ j, j < P.m → alw P F j (c j)) ∧ (∀ g, keepsQ P g (gn (isG P g) c P.m)) ∧ gn (fun _ => true) c P.m = S
def worthC (P : Pb) (c : Nat → Nat) : Int := gs (fun _ => true) (fun j => P.U j (c j)) P.m
def GreatIs (P : Pb) (F : List Int) (S : Nat) (x : Int) : Prop := GrIs (fun v => ∃ c, okC P F S c ∧ v = worthC P c) x
theorem setV_all (P : Pb) (F : List Int) (V : ByteArray → Bool) (hG : ∀ j, j < P.m → V (P.G j) = true) (hq : ∀ x ∈ P.q, V x.group = true) (S : Nat) (v : Int) : setV P F V S v ↔ ∃ c, okC P F S c ∧ v = worthC P c := by
  have e1 : ∀ c, gn (fun j => V (P.G j)) c P.m = gn (fun _ => true) c P.m := fun c => gn_congr P.m hG (fun _ _ _ => rfl)
  have e2 : ∀ c, gs (fun j => V (P.G j)) c P.m = gs (fun _ => true) c P.m := fun c => gs_congr P.m hG (fun _ _ _ => rfl)
  constructor
  · rintro ⟨c, h1, h2, h3, h4⟩
    exact ⟨c, ⟨fun j hj => h1 j hj (hG j hj), fun g x hx e => h2 g (by rw [← e]; exact hq x hx) x hx e, by rw [h3, e1]⟩, by rw [h4, e2]; rfl⟩
  · rintro ⟨c, ⟨h1, h2, h3⟩, h4⟩
    exact ⟨c, fun j hj _ => h1 j hj, fun g _ => h2 g, by rw [e1, h3], by rw [e2]; exact h4⟩
/-- One count more is fixed. -/
theorem app_l (F : List Int) (n : Int) (j : Nat) (h : j < F.length) : (F ++ [n]).getD j 0 = F.getD j 0 := by
  rw [List.getD_eq_getElem?_getD, List.getD_eq_getElem?_getD, List.getElem?_append_left h]
theorem app_r (F : List Int) (n : Int) : (F ++ [n]).getD F.length 0 = n := by
  rw [List.getD_eq_getElem?_getD, List.getElem?_append_right (Nat.le_refl _)]
  simp
theorem alw_snoc (P : Pb) (F : List Int) (n : Int) (j k : Nat) : alw P (F ++ [n]) j k ↔ alw P F j k ∧ (j = F.length → (k : Int) = n) := by
  unfold alw
  rw [List.length_append]
  simp only [List.length_cons, List.length_nil]
  constructor
  · rintro ⟨h1, h2⟩
    refine ⟨⟨h1, fun hj => ?_⟩, fun e => ?_⟩
    · have := h2 (by omega)
      rwa [app_l F n j hj] at this
    · have := h2 (by omega)
      rwa [e, app_r] at this
  · rintro ⟨⟨h1, h2⟩, h3⟩
    refine ⟨h1, fun hj => ?_⟩
    by_cases e : j = F.length
    · rw [e, app_r]
      exact h3 e
    · rw [app_l F n j (by omega)]
      exact h2 (by omega)
theorem okC_snoc (P : Pb) (F : List Int) (n : Int) (S : Nat) (c : Nat → Nat) (hl : F.length < P.m) : okC P (F ++ [n]) S c ↔ okC P F S c ∧ (c F.length : Int) = n := by
  constructor
  · rintro ⟨h1, h2, h3⟩
    exact ⟨⟨fun j hj => ((alw_snoc P F n j _).1 (h1 j hj)).1, h2, h3⟩, ((alw_snoc P F n _ _).1 (h1 _ hl)).2 rfl⟩
  · rintro ⟨⟨h1, h2, h3⟩, h4⟩
    exact ⟨fun j hj => (alw_snoc P F n j _).2 ⟨h1 j hj, fun e => by rw [e]; exact h4⟩, h2, h3⟩
/-- While a best choice goes on, some next count keeps the worth. -/
theorem Great_next (P : Pb) (F : List Int) (S : Nat) (x : Int) (h : GreatIs P F S x) (hx : nothingT < x) (hl : F.length < P.m) : ∃ n : Nat, n ≤ P.N F.length ∧ GreatIs P (F ++ [(n : Int)]) S x := by
  rcases h with ⟨e, _⟩ | ⟨_, ⟨c, hc, hv⟩, h3⟩
  · rw [e] at hx; omega
  · refine ⟨c F.length, (hc.1 _ hl).1, .inr ⟨hx, ⟨c, (okC_snoc P F _ S c hl).2 ⟨hc, rfl⟩, hv⟩, fun v ⟨d, hd, hv2⟩ => h3 v ⟨d, ((okC_snoc P F _ S d hl).1 hd).1, hv2⟩⟩⟩
theorem Great_one {P : Pb} {F : List Int} {S : Nat} {x y : Int} (h : GreatIs P F S x) (g : GreatIs P F S y) : x = y := GrIs.one h g (fun _ => Iff.rfl)
end Go.Proofs.YtjhdngfliakidaaDoor
