/- What a ledger is told, call by call, and what it holds then: plain laws. -/
import Derived.Test.YthikknnadmebgaaGreatDoorPkSBa
import Derived.Test.YthikknnadmebgaaGreatDoorPkSBb
import Derived.Test.YthikknnadmebgaaGreatDoorPkSAy
namespace Go.Proofs.YthikknnadmebgaaGreatDoor
open Go.RowKit

def offAt : List Pst → Nat → List Pst
  | [], _ => []
  | p :: P, 0 => { p with off := true } :: P
  | p :: P, k + 1 => p :: offAt P k
theorem offAt_length : ∀ (P : List Pst) (k : Nat), (offAt P k).length = P.length
  | [], _ => rfl
  | _ :: P, 0 => rfl
  | p :: P, k + 1 => by
    show (offAt P k).length + 1 = P.length + 1
    rw [offAt_length P k]
theorem offAt_self : ∀ (P : List Pst) (k : Nat) (p : Pst), P[k]? = some p → (offAt P k)[k]? = some { p with off := true }
  | [], k, _, h => by simp at h
  | q :: P, 0, p, h => by
    have : q = p := by simpa using h
    rw [this]; rfl
  | q :: P, k + 1, p, h => by
    show (offAt P k)[k]? = _
    exact offAt_self P k p (by simpa using h)
theorem offAt_other : ∀ (P : List Pst) (k j : Nat), j ≠ k → (offAt P k)[j]? = P[j]?
  | [], _, _, _ => rfl
  | _ :: P, 0, 0, h => absurd rfl h
  | _ :: P, 0, j + 1, _ => rfl
  | _ :: P, k + 1, 0, _ => rfl
  | _ :: P, k + 1, j + 1, h => by
    show (offAt P k)[j]? = P[j]?
    exact offAt_other P k j (fun e => h (by rw [e]))
theorem offAt_mapP : ∀ (P : List Pst) (k : Nat) (f : ByteArray → Option Int), (offAt P k).foldl (fun f p => addL f p.lines) f = P.foldl (fun f p => addL f p.lines) f
  | [], _, _ => rfl
  | p :: P, 0, f => rfl
  | p :: P, k + 1, f => by
    show (offAt P k).foldl _ (addL f p.lines) = P.foldl _ (addL f p.lines)
    exact offAt_mapP P k _
def stepO (P : List Pst) (o : Pst) : List Pst := (if o.can = 0 then P else offAt P (o.can - 1)) ++ [o]
def runO (ops : List Pst) : List Pst := ops.foldl stepO []
theorem runO_app (ops : List Pst) (o : Pst) : runO (ops ++ [o]) = stepO (runO ops) o := by
  unfold runO
  rw [List.foldl_append]
  rfl
theorem stepO_length (P : List Pst) (o : Pst) : (stepO P o).length = P.length + 1 := by
  unfold stepO
  split
  · simp
  · simp [offAt_length]
theorem stepO_mapP (P : List Pst) (o : Pst) : mapP (stepO P o) = addL (mapP P) o.lines := by
  unfold stepO
  split
  · exact mapP_app P o
  · rw [mapP_app]
    unfold mapP
    rw [offAt_mapP]
/-- Induction over calls, the last one last. -/
theorem snoc_ind {α : Type} {C : List α → Prop} (h0 : C []) (h1 : ∀ l a, C l → C (l ++ [a])) (l : List α) : C l := by
  have : ∀ n (l : List α), l.length = n → C l := by
    intro n
    induction n with
    | zero => intro l hl; rw [List.eq_nil_of_length_eq_zero hl]; exact h0
    | succ n ih =>
      intro l hl
      have hne : l ≠ [] := fun e => by rw [e] at hl; cases hl
      rw [← List.dropLast_concat_getLast hne]
      exact h1 _ _ (ih _ (by rw [List.length_dropLast, hl]; rfl))
  exact this _ l rfl
theorem runO_length (ops : List Pst) : (runO ops).length = ops.length := by
  induction ops using snoc_ind with
  | h0 => rfl
  | h1 l a ih => rw [runO_app, stepO_length, ih, List.length_append]; rfl
theorem runO_mapP (ops : List Pst) : mapP (runO ops) = mapP ops := by
  induction ops using snoc_ind with
  | h0 => rfl
  | h1 l a ih => rw [runO_app, stepO_mapP, ih, mapP_app]
/-- Entries are alike but for being cancelled. -/
def AlikeP (p q : Pst) : Prop := p.day = q.day ∧ p.text = q.text ∧ p.lines = q.lines ∧ p.can = q.can
theorem offAt_alike (P : List Pst) (k j : Nat) (p : Pst) (h : (offAt P k)[j]? = some p) : ∃ q, P[j]? = some q ∧ AlikeP p q := by
  by_cases e : j = k
  · subst e
    cases hp : P[j]? with
    | none =>
      have : P.length ≤ j := List.getElem?_eq_none_iff.1 hp
      have : (offAt P j)[j]? = none := List.getElem?_eq_none_iff.2 (by rw [offAt_length]; exact this)
      rw [this] at h; cases h
    | some q =>
      rw [offAt_self P j q hp] at h
      cases h
      exact ⟨q, rfl, rfl, rfl, rfl, rfl⟩
  · rw [offAt_other P k j e] at h
    exact ⟨p, h, rfl, rfl, rfl, rfl⟩
theorem runO_alike (ops : List Pst) : ∀ (j : Nat) (p : Pst), (runO ops)[j]? = some p → ∃ o, ops[j]? = some o ∧ AlikeP p o := by
  induction ops using snoc_ind with
  | h0 => intro j p h; simp [runO] at h
  | h1 l a ih =>
    intro j p h
    rw [runO_app] at h
    unfold stepO at h
    have hlen : (if a.can = 0 then runO l else offAt (runO l) (a.can - 1)).length = l.length := by
      split
      · exact runO_length l
      · rw [offAt_length]; exact runO_length l
    rcases Nat.lt_or_ge j l.length with hj | hj
    · rw [List.getElem?_append_left (by rw [hlen]; exact hj)] at h
      rw [List.getElem?_append_left hj]
      split at h
      · exact ih j p h
      · obtain ⟨q, hq, e1, e2, e3, e4⟩ := offAt_alike _ _ _ _ h
        obtain ⟨o, ho, f1, f2, f3, f4⟩ := ih j q hq
        exact ⟨o, ho, e1.trans f1, e2.trans f2, e3.trans f3, e4.trans f4⟩
    · rw [List.getElem?_append_right (by rw [hlen]; exact hj), hlen] at h
      rw [List.getElem?_append_right hj]
      exact ⟨p, h, rfl, rfl, rfl, rfl⟩
def accK : List ByteArray := [accS 0, accS 1, accS 2, accS 3]
def canT (n : Nat) : ByteArray := ⟨([99, 97, 110, 99, 101, 108, 32] ++ Lib.itoa (n : Int)).toArray⟩
/-- A call that a ledger accepts. -/
structure OpOk (P : List Pst) (o : Pst) : Prop where
  off : o.off = false
  ent : EntOk o.lines
  l3 : o.lines.length ≤ 3
  small : ∀ x ∈ o.lines, -107 ≤ x.many ∧ x.many ≤ 107
  names : ∀ x ∈ o.lines, x.key ∈ accK
  d0 : 0 ≤ o.day
  d1 : o.day ≤ 8
  after : ∀ q, P.getLast? = some q → q.day ≤ o.day
  txt : o.can = 0 → PlainS o.text ∧ 1 ≤ o.text.size ∧ o.text.size ≤ 60 ∧ 10 ∉ o.text.data.toList
  can : 0 < o.can → ∃ p, P[o.can - 1]? = some p ∧ p.off = false ∧ p.can = 0 ∧ o.lines = p.lines.map negN ∧ o.text = canT o.can ∧ ∃ q, P.getLast? = some q ∧ q.day = o.day
def OpsOk (ops : List Pst) : Prop := ∀ i (h : i < ops.length), OpOk (runO (ops.take i)) ops[i]
theorem OpsOk.nil : OpsOk [] := fun i h => absurd h (Nat.not_lt_zero i)
theorem OpsOk.app {ops : List Pst} {o : Pst} (h : OpsOk ops) (ho : OpOk (runO ops) o) : OpsOk (ops ++ [o]) := by
  intro i hi
  rcases Nat.lt_or_ge i ops.length with hj | hj
  · rw [List.take_append_of_le_length (Nat.le_of_lt hj), List.getElem_append_left hj]
    exact h i hj
  · have : i = ops.length := by simp at hi; omega
    subst this
    rw [List.take_left, List.getElem_concat_length (h := rfl)]
    exact ho
theorem OpsOk.ent {ops : List Pst} (h : OpsOk ops) {o : Pst} (ho : o ∈ ops) : EntOk o.lines ∧ o.lines.length ≤ 3 ∧ (∀ x ∈ o.lines, -107 ≤ x.many ∧ x.many ≤ 107) ∧ ∀ x ∈ o.lines, x.key ∈ accK := by
  obtain ⟨i, hi, rfl⟩ := List.mem_iff_getElem.1 ho
  have := h i hi
  exact ⟨this.ent, this.l3, this.small, this.names⟩
theorem OpsOk.pre {ops : List Pst} (h : OpsOk ops) (k : Nat) : OpsOk (ops.take k) := by
  intro i hi
  have hi2 : i < ops.length := by simp at hi; omega
  have hik : i ≤ k := by simp at hi; omega
  have e : (ops.take k).take i = ops.take i := by rw [List.take_take, Nat.min_eq_left hik]
  rw [e, List.getElem_take]
  exact h i hi2
/-- What stands in an account is within bounds. -/
theorem addM_small (f : ByteArray → Option Int) (x : Nm) (B : Int) (h : ∀ t, -B ≤ (f t).getD 0 ∧ (f t).getD 0 ≤ B) (hx : -107 ≤ x.many ∧ x.many ≤ 107) (t : ByteArray) : -(B + 107) ≤ (addM f x t).getD 0 ∧ (addM f x t).getD 0 ≤ B + 107 := by
  unfold addM
  split
  · have := h x.key
    simp only [Option.getD_some]
    omega
  · have := h t
    omega
theorem addL_small : ∀ (L : List Nm) (f : ByteArray → Option Int) (B : Int), (∀ t, -B ≤ (f t).getD 0 ∧ (f t).getD 0 ≤ B) → (∀ x ∈ L, -107 ≤ x.many ∧ x.many ≤ 107) → ∀ t, -(B + 107 * L.length) ≤ (addL f L t).getD 0 ∧ (addL f L t).getD 0 ≤ B + 107 * L.length
  | [], f, B, h, _, t => by
    have := h t
    simp only [addL, List.foldl_nil, List.length_nil]
    omega
  | x :: L, f, B, h, hL, t => by
    have := addL_small L (addM f x) (B + 107) (addM_small f x B h (hL x (List.mem_cons_self ..))) (fun y hy => hL y (List.mem_cons_of_mem _ hy)) t
    show _ ≤ (addL (addM f x) L t).getD 0 ∧ (addL (addM f x) L t).getD 0 ≤ _
    simp only [List.length_cons]
    omega
theorem mapP_small (ops : List Pst) : (∀ o ∈ ops, o.lines.length ≤ 3 ∧ ∀ x ∈ o.lines, -107 ≤ x.many ∧ x.many ≤ 107) → ∀ t, -(321 * (ops.length : Int)) ≤ (mapP ops t).getD 0 ∧ (mapP ops t).getD 0 ≤ 321 * ops.length := by
  induction ops using snoc_ind with
  | h0 => intro _ t; simp [mapP]
  | h1 l a ih =>
    intro h t
    have h1 := addL_small a.lines (mapP l) (321 * l.length) (ih (fun o ho => h o (List.mem_append_left _ ho))) (h a (by simp)).2 t
    have h2 := (h a (by simp)).1
    rw [mapP_app]
    simp only [List.length_append, List.length_cons, List.length_nil]
    omega
theorem addL_names : ∀ (L : List Nm) (f : ByteArray → Option Int) (s : ByteArray) (v : Int), addL f L s = some v → (∃ u, f s = some u) ∨ ∃ x ∈ L, x.key = s
  | [], f, s, v, h => .inl ⟨v, h⟩
  | x :: L, f, s, v, h => by
    rcases addL_names L (addM f x) s v h with ⟨u, hu⟩ | ⟨y, hy, e⟩
    · by_cases e : s = x.key
      · exact .inr ⟨x, List.mem_cons_self .., e.symm⟩
      · unfold addM at hu
        rw [if_neg e] at hu
        exact .inl ⟨u, hu⟩
    · exact .inr ⟨y, List.mem_cons_of_mem _ hy, e⟩
theorem mapP_names (ops : List Pst) : (∀ o ∈ ops, ∀ x ∈ o.lines, x.key ∈ accK) → ∀ s v, mapP ops s = some v → s ∈ accK := by
  induction ops using snoc_ind with
  | h0 => intro _ s v h; simp [mapP] at h
  | h1 l a ih =>
    intro h s v hv
    rw [mapP_app] at hv
    rcases addL_names a.lines (mapP l) s v hv with ⟨u, hu⟩ | ⟨x, hx, rfl⟩
    · exact ih (fun o ho => h o (List.mem_append_left _ ho)) s u hu
    · exact h a (by simp) x hx
/-- A name that was once there stays. -/
theorem addL_stay : ∀ (L : List Nm) (f : ByteArray → Option Int) (s : ByteArray), (f s).isSome = true → (addL f L s).isSome = true
  | [], f, s, h => h
  | x :: L, f, s, h => addL_stay L (addM f x) s (by unfold addM; split <;> first | rfl | exact h)
theorem addL_has : ∀ (L : List Nm) (f : ByteArray → Option Int) (x : Nm), x ∈ L → (addL f L x.key).isSome = true
  | [], _, _, h => by cases h
  | y :: L, f, x, h => by
    rcases List.mem_cons.1 h with rfl | h
    · exact addL_stay L _ _ (by unfold addM; rw [if_pos rfl]; rfl)
    · exact addL_has L _ x h
theorem mapP_has (ops : List Pst) : ∀ o ∈ ops, ∀ x ∈ o.lines, (mapP ops x.key).isSome = true := by
  induction ops using snoc_ind with
  | h0 => intro o ho; cases ho
  | h1 l a ih =>
    intro o ho x hx
    rw [mapP_app]
    rcases List.mem_append.1 ho with ho | ho
    · exact addL_stay _ _ _ (ih o ho x hx)
    · have : o = a := by simpa using ho
      subst this
      exact addL_has _ _ x hx
theorem mapP_sum (K : List ByteArray) (hK : K.Nodup) (ops : List Pst) : (∀ o ∈ ops, (o.lines.map Nm.many).sum = 0 ∧ ∀ x ∈ o.lines, x.key ∈ K) → sumK (mapP ops) K = 0 := by
  induction ops using snoc_ind with
  | h0 =>
    intro _
    have : sumK (mapP []) K = sumK (fun _ => none) K := rfl
    rw [this]
    clear hK this
    induction K with
    | nil => rfl
    | cons t K ih => show (0 : Int) + sumK _ K = 0; rw [ih (fun o ho => by cases ho)]; rfl
  | h1 l a ih =>
    intro h
    rw [mapP_app, sumK_addL K hK a.lines (mapP l) (h a (by simp)).2, ih (fun o ho => h o (List.mem_append_left _ ho)), (h a (by simp)).1]
    rfl
theorem keyLt_asymm {a b : Nm} (h1 : keyLt a b) (h2 : keyLt b a) : False := by
  unfold keyLt at h1 h2
  rw [cmpB_anti a.key b.key] at h2
  omega
theorem keyLt_ne {a b : Nm} (h : keyLt a b) : a.key ≠ b.key := fun e => by
  unfold keyLt at h
  rw [cmpB_zero.2 e] at h
  omega
/-- The balances of right entries add up to nothing. -/
theorem names_sum (ops : List Pst) (h : OpsOk ops) (O : List Nm) (hO : NamesOf (mapP ops) O) : (O.map Nm.many).sum = 0 := by
  have nd : (O.map Nm.key).Nodup := by
    unfold List.Nodup
    rw [List.pairwise_map]
    exact hO.srt.imp (fun h => keyLt_ne h)
  have h1 : sumK (mapP ops) (O.map Nm.key) = 0 := mapP_sum _ nd ops (fun o ho => ⟨(h.ent ho).1.sum, fun x hx => by
    obtain ⟨v, hv⟩ := Option.isSome_iff_exists.1 (mapP_has ops o ho x hx)
    obtain ⟨y, hy, e, -⟩ := hO.has _ _ hv
    rw [← e]
    exact List.mem_map_of_mem hy⟩)
  have h2 : ∀ R : List Nm, (∀ x ∈ R, mapP ops x.key = some x.many) → sumK (mapP ops) (R.map Nm.key) = (R.map Nm.many).sum := by
    intro R
    induction R with
    | nil => intro _; rfl
    | cons x R ih =>
      intro hR
      show (mapP ops x.key).getD 0 + sumK (mapP ops) (R.map Nm.key) = _
      rw [ih (fun y hy => hR y (List.mem_cons_of_mem _ hy)), hR x (List.mem_cons_self ..), List.map_cons, List.sum_cons]
      rfl
  rw [← h2 O hO.got, h1]
theorem names_ext {A B : List Nm} (ha : A.Pairwise keyLt) (hb : B.Pairwise keyLt) (h : ∀ x, x ∈ A ↔ x ∈ B) : A = B := by
  have na : A.Nodup := by unfold List.Nodup; exact ha.imp (fun h e => keyLt_ne h (congrArg Nm.key e))
  have nb : B.Nodup := by unfold List.Nodup; exact hb.imp (fun h e => keyLt_ne h (congrArg Nm.key e))
  exact List.Perm.eq_of_pairwise (le := keyLt) (fun a b _ _ hab hba => absurd hba (fun h => keyLt_asymm hab h)) ha hb ((List.perm_ext_iff_of_nodup na nb).2 h)
/-- An entry and its contrary change no balance: what is left of the later names, without new empty ones. -/
def staysIn (A : List Nm) (x : Nm) : Bool := !(x.many == 0 && !(A.any fun b => b.key.toList == x.key.toList))
theorem toList_key (a b : ByteArray) : (a.toList == b.toList) = decide (a = b) := by
  by_cases e : a = b
  · rw [e]; simp
  · rw [decide_eq_false e]
    cases h : (a.toList == b.toList) with
    | false => rfl
    | true => exact absurd (bytes_eqL a b h) e
theorem cancel_even (f : ByteArray → Option Int) (L : List Nm) (hp : L.Pairwise (fun a b => a.key ≠ b.key)) (A C : List Nm) (hA : NamesOf f A) (hC : NamesOf (addL (addL f L) (L.map negN)) C) : C.filter (staysIn A) = A := by
  refine names_ext (hC.srt.sublist List.filter_sublist) hA.srt (fun x => ?_)
  have hinA : (A.any fun b => b.key.toList == x.key.toList) = (f x.key).isSome := by
    cases hf : f x.key with
    | none =>
      rw [Option.isSome_none, List.any_eq_false]
      intro b hb
      rw [toList_key]
      intro e
      have e : b.key = x.key := by simpa using e
      have := hA.got b hb
      rw [e, hf] at this
      cases this
    | some v =>
      obtain ⟨y, hy, e, -⟩ := hA.has _ _ hf
      rw [Option.isSome_some, List.any_eq_true]
      exact ⟨y, hy, by rw [e]; simp⟩
  have hst : staysIn A x = !(x.many == 0 && !(f x.key).isSome) := by unfold staysIn; rw [hinA]
  have hg : x ∈ C → addL (addL f L) (L.map negN) x.key = some x.many := fun h => hC.got x h
  rw [addL_neg f L hp] at hg
  constructor
  · intro h
    obtain ⟨h1, h2⟩ := List.mem_filter.1 h
    have h3 := hg h1
    rw [hst] at h2
    have hfx : f x.key = some x.many := by
      split at h3
      · cases hf : f x.key with
        | none =>
          rw [hf] at h3 h2
          have : x.many = 0 := by simpa using h3.symm
          rw [this] at h2
          simp at h2
        | some v =>
          rw [hf] at h3
          simpa using h3
      · exact h3
    obtain ⟨y, hy, e1, e2⟩ := hA.has _ _ hfx
    have : y = x := by cases y; cases x; simp at e1 e2; rw [e1, e2]
    rw [← this]; exact hy
  · intro h
    have hf := hA.got x h
    have h3 : addL (addL f L) (L.map negN) x.key = some x.many := by
      rw [addL_neg f L hp, hf]
      split <;> rfl
    obtain ⟨y, hy, e1, e2⟩ := hC.has _ _ h3
    have : y = x := by cases y; cases x; simp at e1 e2; rw [e1, e2]
    rw [this] at hy
    refine List.mem_filter.2 ⟨hy, ?_⟩
    rw [hst, hf]
    simp
theorem EntOk.pair {L : List Nm} (ok : EntOk L) : L.Pairwise (fun a b => a.key ≠ b.key) := by
  rw [List.pairwise_iff_getElem]
  intro i j hi hj hij e
  have h1 := List.any_eq_false.1 (ok.apart j hj) L[i] (by
    rw [List.mem_take_iff_getElem]
    exact ⟨i, by omega, rfl⟩)
  unfold lnIs at h1
  rw [e] at h1
  exact h1 (by simp)
theorem EntOk.neg {L : List Nm} (ok : EntOk L) : EntOk (L.map negN) := by
  refine ⟨by rw [List.length_map]; exact ok.l0, by rw [List.length_map]; exact ok.l1, fun x hx => ?_, fun j hj => ?_, fun x hx => ?_, ?_⟩
  · obtain ⟨y, hy, rfl⟩ := List.mem_map.1 hx
    exact ok.key y hy
  · rw [List.length_map] at hj
    have h := ok.apart j hj
    rw [List.getElem_map, ← List.map_take, List.any_map]
    exact h
  · obtain ⟨y, hy, rfl⟩ := List.mem_map.1 hx
    have := ok.many y hy
    show -y.many ≠ 0 ∧ -1000000000 ≤ -y.many ∧ -y.many ≤ 1000000000
    omega
  · have : ∀ L : List Nm, ((L.map negN).map Nm.many).sum = -((L.map Nm.many).sum) := by
      intro L
      induction L with
      | nil => rfl
      | cons x L ih =>
        simp only [List.map_cons, List.sum_cons]
        rw [ih]
        show -x.many + _ = _
        omega
    rw [this, ok.sum]
    rfl
end Go.Proofs.YthikknnadmebgaaGreatDoor

/-! till.Ledger.Post as a ledger with an entry more. -/
namespace Go.Proofs.YthikknnadmebgaaGreatDoor
open Go.RowKit

theorem pstRow_length : ∀ (P : List Pst) (vs : List Value), vs.length = P.length → (pstRow P vs).length = P.length * 5
  | [], [], _ => rfl
  | p :: P, v :: vs, h => by
    show (encPst p v ++ pstRow P vs).length = _
    rw [List.length_append, pstRow_length P vs (by simpa using h), List.length_cons]
    show 5 + _ = _
    omega
theorem pstRow_get : ∀ (P : List Pst) (vs : List Value) (k j : Nat) (p : Pst) (v : Value), vs.length = P.length → P[k]? = some p → vs[k]? = some v → j < 5 → (pstRow P vs)[k * 5 + j]? = (encPst p v)[j]?
  | [], _, _, _, _, _, _, h, _, _ => by simp at h
  | q :: P, [], _, _, _, _, h, _, _, _ => by simp at h
  | q :: P, u :: vs, 0, j, p, v, _, h1, h2, hj => by
    have e1 : q = p := by simpa using h1
    have e2 : u = v := by simpa using h2
    subst e1; subst e2
    show (encPst q u ++ pstRow P vs)[0 * 5 + j]? = _
    rw [List.getElem?_append_left (by show _ < 5; omega), Nat.zero_mul, Nat.zero_add]
  | q :: P, u :: vs, k + 1, j, p, v, h, h1, h2, hj => by
    show (encPst q u ++ pstRow P vs)[(k + 1) * 5 + j]? = _
    rw [List.getElem?_append_right (by show 5 ≤ _; omega)]
    have e : (k + 1) * 5 + j - (encPst q u).length = k * 5 + j := by show (k + 1) * 5 + j - 5 = _; omega
    rw [e]
    exact pstRow_get P vs k j p v (by simpa using h) (by simpa using h1) (by simpa using h2) hj
theorem runO_small {ops : List Pst} (h : OpsOk ops) (hl : ops.length ≤ 30) {L : List Nm} (hs : ∀ x ∈ L, -107 ≤ x.many ∧ x.many ≤ 107) : ∀ x ∈ L, -1000000000000 ≤ ((mapP (runO ops)) x.key).getD 0 + x.many ∧ ((mapP (runO ops)) x.key).getD 0 + x.many ≤ 1000000000000 := by
  intro x hx
  have h1 := mapP_small ops (fun o ho => ⟨(h.ent ho).2.1, (h.ent ho).2.2.1⟩) x.key
  have h2 := hs x hx
  rw [runO_mapP]
  omega
/-- A ledger that was told some calls. -/
def LedO (w : World) (base g M : Nat) (ops : List Pst) : Prop := ∃ n, n ≤ 3 * ops.length ∧ LedL w base g M n (runO ops)
theorem LedO.keep0 {w w1 : World} {base g M : Nat} {ops : List Pst} (h : LedO w base g M ops) (e : w.grownBy w1 none) : LedO w1 base g M ops := by
  obtain ⟨n, h1, h2⟩ := h
  exact ⟨n, h1, h2.keep0 e⟩
theorem postO_any (ops : List Pst) (o : Pst) (a : Option Addr) (c : Nat) (g M base : Nat) (w0 w : World) (E : EnvW w) (hL : LedO w base g M ops) (hops : OpsOk ops) (ok : OpOk (runO ops) o) (hcan : o.can = 0) (hl : ops.length ≤ 30) (hc : CellsAt w a (flat encNm o.lines)) (hcap : o.lines.length ≤ c) (g0 : w0.grownBy w none) (zg : w0.heap.size ≤ g) (zM : w0.heap.size ≤ M) (zb : w0.heap.size ≤ base) (hbw : base ≤ w.heap.size) :
    Calls Tryz.prog 7 #[.pointer (some ⟨g, 0, none⟩), .agg #[.int .i64 o.day, .string o.text, .slice a o.lines.length c]] w fun e w' => e = .returned (.tuple #[.int .i64 ((ops.length + 1 : Nat) : Int), .int .i64 0]) ∧ LedO w' base g M (ops ++ [o]) ∧ w0.grownBy w' none ∧ LedFr w w' g M := by
  obtain ⟨n, hn, hLL⟩ := hL
  obtain ⟨v, vs, h1, h2, h3, h4⟩ := hLL.led
  have hP : (runO ops).length = ops.length := runO_length ops
  obtain ⟨t1, t2, t3, t4⟩ := ok.txt hcan
  obtain ⟨last, hlast⟩ : ∃ last : Int, 0 < (runO ops).length → (pstRow (runO ops) vs)[((runO ops).length - 1) * 5]? = some (.int .i64 last) ∧ last ≤ o.day := by
    rcases Nat.eq_zero_or_pos (runO ops).length with h0 | h0
    · exact ⟨0, fun h => by omega⟩
    · obtain ⟨q, hq⟩ : ∃ q, (runO ops)[(runO ops).length - 1]? = some q := ⟨_, List.getElem?_eq_getElem (by omega)⟩
      obtain ⟨u, hu, -⟩ := h4 _ _ hq
      refine ⟨q.day, fun _ => ⟨?_, ok.after q (by rw [List.getLast?_eq_getElem?]; exact hq)⟩⟩
      have := pstRow_get _ _ _ 0 q u h3 hq hu (by omega)
      rw [Nat.add_zero] at this
      rw [this]
      rfl
  have hd0 := ok.d0
  have hd1 := ok.d1
  have hl3 := ok.l3
  refine (postL_any o.day o.text o.lines a c g M n base (runO ops).length v (pstRow (runO ops) vs) last (mapP (runO ops)) w0 w E h1 h2 (by omega) hlast hc hcap ok.ent t1 t2 t3 hd0 (by omega) (by omega) (runO_small hops hl ok.small) g0 zg zM zb hbw).mono ?_
  rintro e w' ⟨v', v3, rfl, r1, r2, r3, r4, r5⟩
  rw [hP]
  refine ⟨rfl, ⟨n + o.lines.length, by simp only [List.length_append, List.length_cons, List.length_nil]; omega, ?_⟩, r4, fun b hb b1 b2 b3 => r5 b hb b1 b2 (blk_posted h2 b3)⟩
  have hst : runO (ops ++ [o]) = runO ops ++ [o] := by rw [runO_app]; unfold stepO; rw [if_pos hcan]
  rw [hst]
  refine LedL.add h1 h2 h3 h4 rfl (fun _ p hp => ⟨p, hp, rfl⟩) rfl r1 ?_ (own_base r3 hbw) (fun b hb b1 b2 b3 => r5 b hb b1 b2 (blk_posted h2 b3))
  have he : encPst o v3 = [.int .i64 o.day, .string o.text, v3, .int .i64 0, .bool false] := by unfold encPst; rw [hcan, ok.off]; rfl
  rw [he]
  exact r2
end Go.Proofs.YthikknnadmebgaaGreatDoor

/-! till.Ledger.Trial: the accounts, sorted by name. -/
namespace Go.Proofs.YthikknnadmebgaaGreatDoor
open Go.RowKit
attribute [local go_sem ↓] Go.wp_at_zero Go.wp_at_succ

theorem trial1_fn : ∀ (args : Array Value) (w : World), (callFunc 46 args).run Tryz.prog w = .ok (.enter 46 args) w := fun _ _ => by kernel_rfl
theorem trial1_any (x y : Nm) (w : World) : Calls Tryz.prog 46 #[.agg #[.string x.key, .int .i64 x.many], .agg #[.string y.key, .int .i64 y.many]] w fun e w' => e = .returned (.int .i64 (nmK x y)) ∧ w.grownBy w' none := by
  obtain ⟨x0, x1⟩ := x
  obtain ⟨y0, y1⟩ := y
  have g2 := gr_alloc (gr_alloc (gr_refl w none) (.cells #[.string x0, .int .i64 x1] 42)) (.cells #[.string y0, .int .i64 y1] 42)
  obtain ⟨hA, hB⟩ := heap_2 w (.cells #[.string x0, .int .i64 x1] 42) (.cells #[.string y0, .int .i64 y1] 42)
  obtain ⟨w2, hw2⟩ : ∃ w2, w2 = (w.alloc (.cells #[.string x0, .int .i64 x1] 42)).alloc (.cells #[.string y0, .int .i64 y1] 42) := ⟨_, rfl⟩
  rw [← hw2] at g2 hA hB
  have p0 := blkC hA 0 rfl
  have r0 := blkC hB 0 rfl
  have HW := Lib.hid hw2
  show Calls _ _ _ _ _
  clear hA hB hw2
  simp only
  go_enter Tryz.func46, Tryz.ntmps46
  go_wp2_with (fail)
  rw [← HW.out]
  go_wp2_with (fail)
  refine (compare_any x0 y0 w2).mono ?_
  rintro e w5 ⟨rfl, rfl⟩
  go_wp2_with (fail)
  go_ret
  exact ⟨rfl, g2⟩
set_option maxRecDepth 100000 in
set_option maxHeartbeats 2000000 in
theorem trial_any (B n : Nat) (f : ByteArray → Option Int) (K : List ByteArray) (w : World) (g : Nat) (vr : Value) (hL : LedAt w g B vr n f) (hK : ∀ s v, f s = some v → s ∈ K) (hKl : K.length ≤ 12) :
    Calls Tryz.prog 10 #[.pointer (some ⟨g, 0, none⟩)] w fun e w' => ∃ v O, e = .returned v ∧ w'.ownsRow w.heap.size 42 2 v O.length (flat encNm O) ∧ NamesOf f O ∧ w.grownBy w' none := by
  have hm := hL.mp
  have hgm : w.cell? ⟨g, 1, none⟩ = some (.map (some B)) := blkC hL.blk 1 rfl
  have hBl := hm.lt
  have HM := Lib.hid hm
  have HK := Lib.hid hK
  clear hm hK hL
  go_enter Tryz.func10, Tryz.ntmps10
  go_wp2_with (first | (at_range; refine wpList_rangeSI rfl _ rfl B n f rfl HM.out ?_; intro w5 left cnt hr hleft g5 hz5))
  go_frame
  have K0 : Hid (RangeIs w5 B w.heap.size n f left cnt ∧ NamedSt f left [] ∧ w.grownBy w5 none) := ⟨hr, NamedSt.start hleft, g5⟩
  have hz5' : w.heap.size + 1 ≤ w5.heap.size := by omega
  obtain ⟨ib, hib⟩ : ∃ b, b = w.heap.size := ⟨_, rfl⟩
  rw [← hib] at K0
  rw [← hib]
  have HIB := Lib.hid hib
  have hibB : B < ib := by omega
  have hibw : w.heap.size ≤ ib := by omega
  clear hr hleft g5 hz5 hib
  go_loopw [3, 11] (fun v _ wr => ∃ left cnt R, RangeIs wr B ib n f left cnt ∧ NamedSt f left R ∧ wr.ownsRow (ib + 1) 42 2 v R.length (flat encNm R) ∧ ib + 1 ≤ wr.heap.size ∧ w.grownBy wr none) (fun _ _ wr => wr.rangeLeft B ib)
  case atStart => exact ⟨_, _, [], K0.out.1, K0.out.2.1, World.ownsRow_nil _ _ _ _, by have := HIB.out; omega, K0.out.2.2⟩
  case round =>
    clear K0
    obtain ⟨left, cnt, R, hr, hN, hO, hzi, hgr⟩ := hrel
    obtain ⟨wi, rfl⟩ : ∃ wi : World, wi = wr := ⟨_, rfl⟩
    have hRl := hN.le K HK.out
    have HO := Lib.hid hO
    have HN := Lib.hid hN
    clear hO hN
    go_wp2_with (first | (at_next; refine wpList_nextSI rfl _ rfl B ib n f left cnt rfl hr ?_ ?_))
    · intro hdone
      have HGR := Lib.hid hgr
      obtain ⟨va, vc, rfl, -, -, -, -⟩ := own_shape HO.out
      have SF := Lib.hid (sortFNm_few 46 R.length nmK _ (ib + 1) R wi HO.out rfl (by omega) trial1_fn nmK_ok (fun x y W _ _ _ => trial1_any x y W))
      have HD := Lib.hid hdone
      have LT := Lib.hid HO.out.lt
      clear hr hgr hdone HO
      go_wp2_with (fail)
      refine SF.out.mono ?_
      rintro e w3 ⟨O, rfl, o3, hp3, hs3, g3⟩
      have hOl : O.length = R.length := hp3.length_eq
      have HNM : Hid (NamesOf f O) := HN.out.sorted HD.out hp3 (by rw [hOl]; exact hs3) (by omega)
      have HG3 := Lib.hid (gr_grown HGR.out g3 (fun q hq => by have := (LT.out q hq).1; omega))
      have ho3 : w3.ownsRow (ib + 1) 42 2 (.slice va R.length vc) O.length (flat encNm O) := by rw [hOl]; exact o3
      have HO3 := Lib.hid ho3
      clear SF hp3 hs3 g3 o3 ho3
      go_wp2_with (fail)
      go_ret
      exact ⟨_, O, rfl, own_base HO3.out (by omega), HNM.out, HG3.out⟩
    · intro s x w22 cnt' hfs hl2 hr22 hlt g22 hz22 hen
      have HN2 := Lib.hid (HN.out.next s x hfs hl2)
      have HO22 := Lib.hid (own_keepS HO.out g22 (by omega))
      have HG22 := Lib.hid (gr_grown hgr g22 (fun k hk => by cases hk; exact hibw))
      have HLT := Lib.hid hlt
      have HR22 := Lib.hid hr22
      have HRo := Lib.hid hr
      have hz23 : ib + 1 ≤ w22.heap.size := by omega
      clear hfs hl2 hlt g22 hz22 hr hgr hr22 HO HN
      go_wp2_with (at_builtin; refine wpList_app1F eNm rfl _ _ rfl (ib + 1) _ R.length (flat encNm R) rfl w22 #[.string s, .int .i64 x] rfl HO22.out _ rfl rfl rfl rfl (by omega) (by omega) ?_; intro v7 w7 o7 g7 hl7 hk7)
      have HO7 : Hid (w7.ownsRow (ib + 1) 42 2 v7 (R ++ [(⟨s, x⟩ : Nm)]).length (flat encNm (R ++ [⟨s, x⟩]))) := by
        show World.ownsRow _ _ _ _ _ _ _
        rw [List.length_append, flat_append, flat_one]; exact o7
      have HR7 := Lib.hid (HR22.out.keep g7 (fun e => by have := hl7 B e.symm; omega) (fun e => by have := hl7 ib e.symm; omega))
      have HG7 := Lib.hid (gr_grown HG22.out g7 (fun q hq => by have := hl7 q hq; omega))
      have hz7 := g7.size
      have hz77 : ib + 1 ≤ w7.heap.size := by omega
      clear o7 g7 hl7 hk7 HO22 HG22 hz7
      go_wp2_with (fail)
      go_roundw
      case rel => exact ⟨_, _, _, HR7.out, HN2.out, HO7.out, hz77, HG7.out⟩
      case measure => rw [HR7.out.left, HRo.out.left]; exact HLT.out
end Go.Proofs.YthikknnadmebgaaGreatDoor
