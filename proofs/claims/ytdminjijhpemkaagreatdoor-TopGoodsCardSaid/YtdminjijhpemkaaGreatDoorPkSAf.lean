/- A region that draws its order: one proof for each operation, whatever the order: of no program. -/
import Derived.Test.YtdminjijhpemkaaGreatDoorPkSAa
import Derived.Orders
import Derived.RegionTactic
namespace Go.Proofs.YtdminjijhpemkaaGreatDoor
open Go.RowKit

section
variable {P : Program} {ops : Array Oper} {Q : Exit → Act → World → Prop}

theorem mem_ready' {md : Region.Mode} {ops : Array Oper} {listed : Array Bool} {i : Nat} : i ∈ Region.ready md ops listed ↔ listed.getD i true = false ∧ ∃ o, ops[i]? = some o ∧ ∀ e ∈ o.after, Region.binds md e = true → listed.getD e.on false = true := by
  unfold Region.ready
  simp only [List.mem_filter, List.mem_range, Bool.and_eq_true, Bool.not_eq_true']
  constructor
  · rintro ⟨hi, hl, h⟩
    refine ⟨hl, ops[i], Array.getElem?_eq_getElem hi, fun e he hb => ?_⟩
    rw [Array.getElem?_eq_getElem hi] at h
    simp only [Option.map_some, Option.getD_some, Array.all_eq_true'] at h
    have := h e he
    simpa [hb] using this
  · rintro ⟨hl, o, ho, h⟩
    have hi : i < ops.size := (Array.getElem?_eq_some_iff.1 ho).1
    refine ⟨hi, hl, ?_⟩
    rw [ho]
    simp only [Option.map_some, Option.getD_some, Array.all_eq_true']
    intro e he
    cases hb : Region.binds md e with
    | false => rfl
    | true => simpa using h e he hb
/-- Of those that are left the first one may come up, if each waits for earlier ones alone. -/
theorem ready_first {listed : Array Bool} (hs : listed.size = ops.size) (hac : ∀ (i : Nat) (o : Oper), ops[i]? = some o → ∀ e ∈ o.after, e.on < i) (h : Region.ready .any ops listed = []) : ∀ i, i < ops.size → listed.getD i true = true := by
  intro i
  induction i using Nat.strongRecOn with
  | ind i ih =>
    intro hi
    cases hl : listed.getD i true with
    | true => rfl
    | false =>
      exfalso
      have : i ∈ Region.ready .any ops listed := mem_ready'.2 ⟨hl, ops[i], Array.getElem?_eq_getElem hi, fun e he _ => by
        have hlt := hac i _ (Array.getElem?_eq_getElem hi) e he
        have := ih e.on hlt (by omega)
        rw [Array.getD_eq_getD_getElem?, Array.getElem?_eq_getElem (by omega)] at this ⊢
        exact this⟩
      rw [h] at this
      cases this
def left (listed : Array Bool) : Nat := listed.toList.countP (fun b => !b)
theorem left_list : ∀ (l : List Bool) (i : Nat), l[i]? = some false → (l.set i true).countP (fun b => !b) + 1 = l.countP (fun b => !b)
  | [], i, h => by simp at h
  | b :: l, 0, h => by
    simp at h
    subst h
    simp
  | b :: l, i + 1, h => by
    have := left_list l i (by simpa using h)
    simp only [List.set_cons_succ, List.countP_cons]
    omega
theorem left_set {listed : Array Bool} {i : Nat} (h : listed.getD i true = false) : left (listed.setIfInBounds i true) + 1 = left listed := by
  have hi : i < listed.size := by
    rcases Nat.lt_or_ge i listed.size with h' | h'
    · exact h'
    · rw [Array.getD_eq_getD_getElem?, Array.getElem?_eq_none h'] at h; cases h
  have hv : listed[i] = false := by rw [Array.getD_eq_getD_getElem?, Array.getElem?_eq_getElem hi] at h; exact h
  unfold left
  rw [Array.toList_setIfInBounds]
  exact left_list _ _ (by rw [Array.getElem?_toList, Array.getElem?_eq_getElem hi, hv])
theorem left_zero {listed : Array Bool} (h : left listed = 0) (i : Nat) : listed.getD i true = true := by
  cases hl : listed.getD i true with
  | true => rfl
  | false => have := left_set hl; omega
theorem wp_region_any_inv {id : Nat} {a0 : Act} {w : World} (hm : P.follows .mixedOrders = true) (hg : ∀ (i : Nat) (o : Oper), ops[i]? = some o → o.guard = none) (hac : ∀ (i : Nat) (o : Oper), ops[i]? = some o → ∀ e ∈ o.after, e.on < i)
    (I : Array Bool → Act → World → Prop) (h0 : I (Array.replicate ops.size false) a0 w.drew)
    (hstep : ∀ (i : Nat) (o : Oper) (listed : Array Bool) (a : Act) (w : World), ops[i]? = some o → listed.size = ops.size → listed.getD i true = false → (∀ e ∈ o.after, Region.binds .any e = true → listed.getD e.on false = true) → I listed a w → Oper.wp P o a w (I (listed.setIfInBounds i true)) Q)
    (hdone : ∀ (listed : Array Bool) (a : Act) (w : World), listed.size = ops.size → (∀ i, i < ops.size → listed.getD i true = true) → I listed a w → Q .normal a w) : (Code.region id ops true).wp P Q a0 w := by
  refine wp_region_any hm ?_
  have key : ∀ fuel listed a w, listed.size = ops.size → left listed = fuel → I listed a w → wpAny P .any ops Q fuel listed a w := by
    intro fuel
    induction fuel with
    | zero =>
      intro listed a w hs hl hI
      have hall := left_zero hl
      refine ⟨?_, hdone listed a w hs (fun i _ => hall i) hI⟩
      cases hr : Region.ready .any ops listed with
      | nil => rfl
      | cons i r =>
        have hmem : i ∈ Region.ready .any ops listed := by rw [hr]; exact List.mem_cons_self ..
        have := (mem_ready'.1 hmem).1
        rw [hall i] at this
        cases this
    | succ fuel ih =>
      intro listed a w hs hl hI
      refine ⟨fun hr => hdone listed a w hs (ready_first hs hac hr) hI, fun i hi => ?_⟩
      obtain ⟨hun, o, ho, hpre⟩ := mem_ready'.1 hi
      have hw : Region.wanted o (yielded ops a.tmps) = true := by simp [Region.wanted, hg i o ho]
      unfold wpOp
      simp only [ho, hw, if_true]
      refine .inl (Oper.wp_mono (fun a' w' h => ih _ a' w' (by simpa using hs) (by have := left_set hun; omega) h) (hstep i o listed a w ho hs hun hpre hI))
  have hl : left (Array.replicate ops.size false) = ops.size := by
    unfold left
    simp [List.countP_replicate]
  exact key ops.size _ a0 w.drew (by simp) hl h0

def putAll : List Oper → Nat → (Nat → Value) → Act → Act
  | [], _, _, a => a
  | o :: r, k, vs, a => putAll r (k + 1) vs (a.put o.dst (vs k))
theorem put_size (a : Act) (d : Option Tmp) (v : Value) : (a.put d v).tmps.size = a.tmps.size := by
  cases d <;> simp [Act.put]
theorem put_defers (a : Act) (d : Option Tmp) (v : Value) : (a.put d v).defers = a.defers := by
  cases d <;> simp [Act.put]
theorem put_get (a : Act) (d : Tmp) (v : Value) (t : Tmp) : (a.put (some d) v).tmps.getD t undef = if t = d ∧ d < a.tmps.size then v else a.tmps.getD t undef := by
  simp only [Act.put]
  rw [Array.getD_eq_getD_getElem?, Array.getD_eq_getD_getElem?, Array.getElem?_setIfInBounds]
  by_cases h : t = d
  · subst h
    by_cases h2 : t < a.tmps.size <;> simp [h2]
  · rw [if_neg (fun e => h e.symm), if_neg (fun e => h e.1)]
theorem putAll_size : ∀ (l : List Oper) (k : Nat) (vs : Nat → Value) (a : Act), (putAll l k vs a).tmps.size = a.tmps.size ∧ (putAll l k vs a).defers = a.defers
  | [], _, _, _ => ⟨rfl, rfl⟩
  | o :: r, k, vs, a => by
    obtain ⟨h1, h2⟩ := putAll_size r (k + 1) vs (a.put o.dst (vs k))
    exact ⟨h1.trans (put_size _ _ _), h2.trans (put_defers _ _ _)⟩
theorem putAll_get (f : Tmp → Value) : ∀ (l : List Oper) (k : Nat) (vs : Nat → Value) (a : Act) (t : Tmp), t < a.tmps.size → (∀ (j : Nat) (o : Oper) (d : Tmp), l[j]? = some o → o.dst = some d → vs (k + j) = f d) →
    ((∃ (j : Nat) (o : Oper), l[j]? = some o ∧ o.dst = some t) ∨ a.tmps.getD t undef = f t) → (putAll l k vs a).tmps.getD t undef = f t
  | [], _, _, _, _, _, _, h => by
    rcases h with ⟨j, o, h, _⟩ | h
    · simp at h
    · exact h
  | o :: r, k, vs, a, t, ht, hvs, h => by
    refine putAll_get f r (k + 1) vs (a.put o.dst (vs k)) t (by rw [put_size]; exact ht) (fun j o' d h1 h2 => ?_) ?_
    · have := hvs (j + 1) o' d (by simpa using h1) h2
      rw [← this]; congr 1; omega
    · have hk : ∀ d, o.dst = some d → vs k = f d := fun d hd => hvs 0 o d rfl hd
      cases hd : o.dst with
      | none =>
        rcases h with ⟨j, o', h1, h2⟩ | h
        · cases j with
          | zero => simp at h1; subst h1; rw [hd] at h2; cases h2
          | succ j => exact .inl ⟨j, o', by simpa using h1, h2⟩
        · exact .inr h
      | some d =>
        by_cases htd : t = d
        · subst htd
          right
          rw [put_get, if_pos ⟨rfl, ht⟩]
          exact hk t hd
        · rcases h with ⟨j, o', h1, h2⟩ | h
          · cases j with
            | zero => simp at h1; subst h1; rw [hd] at h2; cases h2; exact absurd rfl htd
            | succ j => exact .inl ⟨j, o', by simpa using h1, h2⟩
          · right
            rw [put_get, if_neg (fun e => htd e.1)]
            exact h
/-- Whether number i comes ahead of number j by the region's edges. -/
def isDep (l : List Oper) : Nat → Nat → Nat → Bool
  | 0, _, _ => false
  | f + 1, i, j => match l[j]? with
    | some o => o.after.any fun e => Region.binds .any e && (e.on == i || isDep l f i e.on)
    | none => false
theorem isDep_listed {l : List Oper} {listed : Array Bool} (hcl : ∀ (j : Nat) (o : Oper), l[j]? = some o → listed.getD j false = true → ∀ e ∈ o.after, Region.binds .any e = true → listed.getD e.on false = true) :
    ∀ (f i j : Nat), isDep l f i j = true → listed.getD j false = true → listed.getD i false = true
  | 0, _, _, h, _ => by simp [isDep] at h
  | f + 1, i, j, h, hj => by
    simp only [isDep] at h
    cases ho : l[j]? with
    | none => rw [ho] at h; cases h
    | some o =>
      rw [ho] at h
      simp only [Array.any_eq_true'] at h
      obtain ⟨e, he, h⟩ := h
      simp only [Bool.and_eq_true, Bool.or_eq_true, beq_iff_eq] at h
      have h1 := hcl j o ho hj e he h.1
      rcases h.2 with h2 | h2
      · rw [← h2]; exact h1
      · exact isDep_listed hcl f i e.on h2 h1
def StepPost (G : Nat → World → World → Prop) (V : Nat → Value → World → Prop) (S : Array Bool → World → Prop) (i : Nat) (d : Option Tmp) (listed : Array Bool) (a : Act) (w : World) (a' : Act) (w' : World) : Prop :=
  ∃ v, a' = a.put d v ∧ G i w w' ∧ V i v w' ∧ S (listed.setIfInBounds i true) w'
/-- A region that draws its order: a proof for each operation; what each yields (V) stays true behind the others (hV); S: the world, by what is done. -/
theorem wp_region_plan {id : Nat} {l : List Oper} {a0 : Act} {w : World} (hm : P.follows .mixedOrders = true)
    (hg : l.all (fun o => o.guard.isNone) = true) (hac : ((List.range l.length).all fun i => ((l[i]?).map fun o => o.after.all fun e => decide (e.on < i)).getD true) = true)
    (hnd : (l.filterMap (·.dst)).Nodup) (hsz : l.all (fun o => match o.dst with | some t => decide (t < a0.tmps.size) | none => true) = true)
    (f : Nat) (G : Nat → World → World → Prop) (V : Nat → Value → World → Prop) (hV : ∀ (i j : Nat) v w w', i < l.length → j < l.length → i ≠ j → isDep l f i j = false → V j v w → G i w w' → V j v w') (S : Array Bool → World → Prop) (h0 : S (Array.replicate l.length false) w.drew)
    (hop : ∀ (i : Nat) (o : Oper) (listed : Array Bool) (a : Act) (w : World), l[i]? = some o → listed.size = l.length → listed.getD i true = false → (∀ e ∈ o.after, Region.binds .any e = true → listed.getD e.on false = true) → (∀ j, isDep l f i j = true → listed.getD j false = false) → (∀ j, isDep l f j i = true → listed.getD j false = true) → S listed w →
      (∀ t, (∀ o ∈ l, o.dst ≠ some t) → a.tmps.getD t undef = a0.tmps.getD t undef) → (∀ (j : Nat) (o : Oper) (t : Tmp), l[j]? = some o → o.dst = some t → listed.getD j false = true → V j (a.tmps.getD t undef) w) →
      Oper.wp P o a w (StepPost G V S i o.dst listed a w) Q)
    (hdone : ∀ (vs : Nat → Value) (listed : Array Bool) (w' : World), listed.size = l.length → (∀ i, i < l.length → listed.getD i true = true) → S listed w' → (∀ (j : Nat) (o : Oper) (t : Tmp), l[j]? = some o → o.dst = some t → V j (vs j) w') → Q .normal (putAll l 0 vs a0) w') :
    (Code.region id l.toArray true).wp P Q a0 w := by
  have hgu : ∀ (i : Nat) (o : Oper), l.toArray[i]? = some o → o.guard = none := fun i o ho => by
    have := List.all_eq_true.1 hg o (List.mem_of_getElem? (by simpa using ho))
    simpa using this
  have hacy : ∀ (i : Nat) (o : Oper), l.toArray[i]? = some o → ∀ e ∈ o.after, e.on < i := fun i o ho e he => by
    have ho' : l[i]? = some o := by simpa using ho
    have hi := (List.getElem?_eq_some_iff.1 ho').1
    have := List.all_eq_true.1 hac i (List.mem_range.2 hi)
    rw [ho'] at this
    simp only [Option.map_some, Option.getD_some, Array.all_eq_true'] at this
    simpa using this e he
  have hdt : ∀ (o : Oper) (t : Tmp), o ∈ l → o.dst = some t → t < a0.tmps.size := fun o t ho hd => by
    have := List.all_eq_true.1 hsz o ho
    rw [hd] at this
    simpa using this
  have huniq : ∀ (i j : Nat) (oi oj : Oper) (t : Tmp), l[i]? = some oi → l[j]? = some oj → oi.dst = some t → oj.dst = some t → i = j := by
    clear hop hdone hV hsz hdt hg hac hgu hacy h0
    induction l with
    | nil => intro i j oi oj t h; simp at h
    | cons o r ih =>
      intro i j oi oj t h1 h2 h3 h4
      have hr : (r.filterMap (·.dst)).Nodup := by
        cases hd : o.dst with
        | none => simpa [List.filterMap_cons, hd] using hnd
        | some d => simp [hd] at hnd; exact hnd.2
      have hno : ∀ (k : Nat) (ok : Oper), r[k]? = some ok → o.dst = some t → ok.dst = some t → False := by
        intro k ok hk ho hok
        simp only [List.filterMap_cons, ho, List.nodup_cons] at hnd
        exact hnd.1 (List.mem_filterMap.2 ⟨ok, List.mem_of_getElem? hk, hok⟩)
      cases i with
      | zero =>
        cases j with
        | zero => rfl
        | succ j => simp at h1 h2; subst h1; exact (hno j oj h2 h3 h4).elim
      | succ i =>
        cases j with
        | zero => simp at h1 h2; subst h2; exact (hno i oi h1 h4 h3).elim
        | succ j => simp at h1 h2; rw [ih hr i j oi oj t h1 h2 h3 h4]
  refine wp_region_any_inv hm hgu hacy (fun listed a w => a.defers = a0.defers ∧ a.tmps.size = a0.tmps.size ∧ (∀ t, (∀ o ∈ l, o.dst ≠ some t) → a.tmps.getD t undef = a0.tmps.getD t undef) ∧ (∀ (j : Nat) (o : Oper) (t : Tmp), l[j]? = some o → o.dst = some t → listed.getD j false = true → V j (a.tmps.getD t undef) w) ∧ (∀ (j : Nat) (o : Oper), l[j]? = some o → listed.getD j false = true → ∀ e ∈ o.after, Region.binds .any e = true → listed.getD e.on false = true) ∧ S listed w) ?_ ?_ ?_
  · have hno : ∀ j, (Array.replicate l.toArray.size false).getD j false = true → False := fun j hl => by
      rw [Array.getD_eq_getD_getElem?] at hl
      simp only [Array.getElem?_replicate] at hl
      split at hl <;> cases hl
    exact ⟨rfl, rfl, fun _ _ => rfl, fun j o t hj hd hl => (hno j hl).elim, fun j o hj hl => (hno j hl).elim, by simpa using h0⟩
  · intro i o listed a w ho hs hun hpre ⟨hdef, hsize, hout, hval, hcl, hS⟩
    have ho' : l[i]? = some o := by simpa using ho
    have hui : listed.getD i false = false := by
      rw [Array.getD_eq_getD_getElem?] at hun ⊢
      cases h : listed[i]? with
      | none => rfl
      | some b => rw [h] at hun; exact hun
    have hde : ∀ j, isDep l f i j = true → listed.getD j false = false := fun j hj => by
      cases h : listed.getD j false with
      | false => rfl
      | true => have := isDep_listed hcl f i j hj h; rw [hui] at this; cases this
    have hld : ∀ j, isDep l f j i = true → listed.getD j false = true := fun j hj => by
      cases f with
      | zero => simp [isDep] at hj
      | succ f =>
        simp only [isDep, ho', Array.any_eq_true', Bool.and_eq_true, Bool.or_eq_true, beq_iff_eq] at hj
        obtain ⟨e, he, hb, h2⟩ := hj
        have h1 := hpre e he hb
        rcases h2 with h2 | h2
        · rw [← h2]; exact h1
        · exact isDep_listed hcl f j e.on h2 h1
    refine Oper.wp_mono ?_ (hop i o listed a w ho' (by simpa using hs) hun hpre hde hld hS hout hval)
    rintro a' w' ⟨v, rfl, hG, hVi, hS'⟩
    refine ⟨(put_defers _ _ _).trans hdef, (put_size _ _ _).trans hsize, fun t ht => ?_, fun j oj t hj hd hl => ?_, fun j oj hj hl e he hb => ?_, hS'⟩
    · cases hod : o.dst with
      | none => exact hout t ht
      | some d =>
        have : t ≠ d := fun e => ht o (List.mem_of_getElem? ho') (by rw [hod, e])
        rw [put_get, if_neg (fun e => this e.1)]
        exact hout t ht
    · have htl := hdt oj t (List.mem_of_getElem? hj) hd
      by_cases hij : j = i
      · subst hij
        rw [ho'] at hj
        cases hj
        rw [hd, put_get, if_pos ⟨rfl, by rw [hsize]; exact htl⟩]
        exact hVi
      · have hl' : listed.getD j false = true := by
          rw [Array.getD_eq_getD_getElem?, Array.getElem?_setIfInBounds, if_neg (fun e => hij e.symm)] at hl
          rw [Array.getD_eq_getD_getElem?]; exact hl
        have hnd : isDep l f i j = false := by
          cases h : isDep l f i j with
          | false => rfl
          | true => have := hde j h; rw [hl'] at this; cases this
        have h1 := hV i j _ _ _ (List.getElem?_eq_some_iff.1 ho').1 (List.getElem?_eq_some_iff.1 hj).1 (fun e => hij e.symm) hnd (hval j oj t hj hd hl') hG
        cases hod : o.dst with
        | none => exact h1
        | some d =>
          have hne : t ≠ d := fun e => hij (huniq j i oj o d hj ho' (by rw [hd, e]) hod)
          rw [put_get, if_neg (fun e => hne e.1)]
          exact h1
    · have hup : ∀ k, listed.getD k false = true → (listed.setIfInBounds i true).getD k false = true := fun k hk => by
        rw [Array.getD_eq_getD_getElem?, Array.getElem?_setIfInBounds]
        rw [Array.getD_eq_getD_getElem?] at hk
        by_cases hik : i = k
        · subst hik
          have hil : i < listed.size := by have := (List.getElem?_eq_some_iff.1 ho').1; simp at hs; omega
          simp [hil]
        · rw [if_neg hik]; exact hk
      by_cases hij : j = i
      · subst hij
        rw [ho'] at hj
        cases hj
        exact hup _ (hpre e he hb)
      · have hl' : listed.getD j false = true := by
          rw [Array.getD_eq_getD_getElem?, Array.getElem?_setIfInBounds, if_neg (fun e => hij e.symm)] at hl
          rw [Array.getD_eq_getD_getElem?]; exact hl
        exact hup _ (hcl j oj hj hl' e he hb)
  · intro listed a w' hs hall ⟨hdef, hsize, hout, hval, _, hS⟩
    have hallT : ∀ j, j < l.length → listed.getD j false = true := fun j hj => by
      have := hall j (by simpa using hj)
      rw [Array.getD_eq_getD_getElem?, Array.getElem?_eq_getElem (by simp at hs; omega)] at this ⊢
      exact this
    let vs : Nat → Value := fun j => match (l[j]?).bind (·.dst) with | some t => a.tmps.getD t undef | none => undef
    have hvs : ∀ (j : Nat) (o : Oper) (t : Tmp), l[j]? = some o → o.dst = some t → vs j = a.tmps.getD t undef := fun j o t hj hd => by
      show (match (l[j]?).bind (·.dst) with | some t => a.tmps.getD t undef | none => undef) = _
      rw [hj, Option.bind_some, hd]
    have hput : putAll l 0 vs a0 = a := by
      obtain ⟨h1, h2⟩ := putAll_size l 0 vs a0
      have ht : (putAll l 0 vs a0).tmps = a.tmps := by
        apply Array.ext (by rw [h1, hsize])
        intro t h3 h4
        have := putAll_get (fun t => a.tmps.getD t undef) l 0 vs a0 t (by rw [← h1]; exact h3) (fun j o d hj hd => by rw [Nat.zero_add]; exact hvs j o d hj hd) (by
          by_cases hx : ∃ (j : Nat) (o : Oper), l[j]? = some o ∧ o.dst = some t
          · exact .inl hx
          · right
            refine (hout t (fun o ho hd => ?_)).symm
            obtain ⟨j, hj⟩ := List.getElem?_of_mem ho
            exact hx ⟨j, o, hj, hd⟩)
        rw [Array.getD_eq_getD_getElem?, Array.getElem?_eq_getElem h3, Array.getD_eq_getD_getElem?, Array.getElem?_eq_getElem h4] at this
        exact this
      cases hp : putAll l 0 vs a0 with
      | mk tm df =>
        rw [hp] at ht h2
        cases a with
        | mk tm' df' => simp at ht h2 hdef; subst ht; rw [h2, hdef]
    rw [← hput]
    exact hdone vs listed w' (by simpa using hs) (fun i hi => hall i (by simpa using hi)) hS (fun j o t hj hd => by
      rw [hvs j o t hj hd]
      exact hval j o t hj hd (hallT j (List.getElem?_eq_some_iff.1 hj).1))
end
end Go.Proofs.YtdminjijhpemkaaGreatDoor
