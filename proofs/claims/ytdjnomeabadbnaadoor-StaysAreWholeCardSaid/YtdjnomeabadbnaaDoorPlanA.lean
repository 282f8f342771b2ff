/- A region that draws its order, where what holds of the world speaks of the temporaries too (as XPlan). -/
import Derived.Test.YtdjnomeabadbnaaDoorPlan
namespace Go.Proofs.YtdjnomeabadbnaaDoor
open Go.RowKit

section
variable {P : Program} {Q : Exit → Act → World → Prop}
def StepPostA (G : Nat → World → World → Prop) (V : Nat → Value → World → Prop) (S : Array Bool → Act → World → Prop) (i : Nat) (d : Option Tmp) (listed : Array Bool) (a : Act) (w : World) (a' : Act) (w' : World) : Prop :=
  ∃ v, a' = a.put d v ∧ G i w w' ∧ V i v w' ∧ S (listed.setIfInBounds i true) (a.put d v) w'
/-- As wp_region_plan: a proof for each operation; what each yields (V) stays true behind the others (hV); S: the world, by what is done. -/
theorem wp_region_planA {id : Nat} {l : List Oper} {a0 : Act} {w : World} (hm : P.follows .mixedOrders = true)
    (hg : l.all (fun o => o.guard.isNone) = true) (hac : ((List.range l.length).all fun i => ((l[i]?).map fun o => o.after.all fun e => decide (e.on < i)).getD true) = true)
    (hnd : (l.filterMap (·.dst)).Nodup) (hsz : l.all (fun o => match o.dst with | some t => decide (t < a0.tmps.size) | none => true) = true)
    (f : Nat) (G : Nat → World → World → Prop) (V : Nat → Value → World → Prop) (hV : ∀ (i j : Nat) v w w', i < l.length → j < l.length → i ≠ j → isDep l f i j = false → V j v w → G i w w' → V j v w') (S : Array Bool → Act → World → Prop) (h0 : S (Array.replicate l.length false) a0 w.drew)
    (hop : ∀ (i : Nat) (o : Oper) (listed : Array Bool) (a : Act) (w : World), l[i]? = some o → listed.size = l.length → listed.getD i true = false → (∀ e ∈ o.after, Region.binds .any e = true → listed.getD e.on false = true) → (∀ j, isDep l f i j = true → listed.getD j false = false) → (∀ j, isDep l f j i = true → listed.getD j false = true) → S listed a w →
      (∀ t, (∀ o ∈ l, o.dst ≠ some t) → a.tmps.getD t undef = a0.tmps.getD t undef) → (∀ (j : Nat) (o : Oper) (t : Tmp), l[j]? = some o → o.dst = some t → listed.getD j false = true → V j (a.tmps.getD t undef) w) →
      Oper.wp P o a w (StepPostA G V S i o.dst listed a w) Q)
    (hdone : ∀ (vs : Nat → Value) (listed : Array Bool) (w' : World), listed.size = l.length → (∀ i, i < l.length → listed.getD i true = true) → S listed (putAll l 0 vs a0) w' → (∀ (j : Nat) (o : Oper) (t : Tmp), l[j]? = some o → o.dst = some t → V j (vs j) w' ∧ (putAll l 0 vs a0).tmps.getD t undef = vs j) → Q .normal (putAll l 0 vs a0) w') :
    (Code.region id l.toArray true).wp P Q a0 w := by
  have hgu : ∀ (i : Nat) (o : Oper), l.toArray[i]? = some o → o.guard = none := fun i o ho => by
    have := List.all_eq_true.1 hg o (List.mem_of_getElem? (by simpa using ho))
    simpa using this
  have hacy : ∀ (i : Nat) (o : Oper), l.toArray[i]? = some o → ∀ e ∈ o.after, e.on < i := fun i o ho e he => by
    have ho' : l[i]? = some o := by simpa using ho
    have hi := (List.getElem?_eq_some_iff.1 ho').1
    have := List.all_eq_true.1 hac i (List.mem_range.2 hi)
    rw [ho'] at this
    simp only [Option.map_some, Option.getD_some, Array.all_eq_true'] at this
    simpa using this e he
  have hdt : ∀ (o : Oper) (t : Tmp), o ∈ l → o.dst = some t → t < a0.tmps.size := fun o t ho hd => by
    have := List.all_eq_true.1 hsz o ho
    rw [hd] at this
    simpa using this
  have huniq : ∀ (i j : Nat) (oi oj : Oper) (t : Tmp), l[i]? = some oi → l[j]? = some oj → oi.dst = some t → oj.dst = some t → i = j := by
    clear hop hdone hV hsz hdt hg hac hgu hacy h0
    induction l with
    | nil => intro i j oi oj t h; simp at h
    | cons o r ih =>
      intro i j oi oj t h1 h2 h3 h4
      have hr : (r.filterMap (·.dst)).Nodup := by
        cases hd : o.dst with
        | none => simpa [List.filterMap_cons, hd] using hnd
        | some d => simp [hd] at hnd; exact hnd.2
      have hno : ∀ (k : Nat) (ok : Oper), r[k]? = some ok → o.dst = some t → ok.dst = some t → False := by
        intro k ok hk ho hok
        simp only [List.filterMap_cons, ho, List.nodup_cons] at hnd
        exact hnd.1 (List.mem_filterMap.2 ⟨ok, List.mem_of_getElem? hk, hok⟩)
      cases i with
      | zero =>
        cases j with
        | zero => rfl
        | succ j => simp at h1 h2; subst h1; exact (hno j oj h2 h3 h4).elim
      | succ i =>
        cases j with
        | zero => simp at h1 h2; subst h2; exact (hno i oi h1 h4 h3).elim
        | succ j => simp at h1 h2; rw [ih hr i j oi oj t h1 h2 h3 h4]
  refine wp_region_any_inv hm hgu hacy (fun listed a w => a.defers = a0.defers ∧ a.tmps.size = a0.tmps.size ∧ (∀ t, (∀ o ∈ l, o.dst ≠ some t) → a.tmps.getD t undef = a0.tmps.getD t undef) ∧ (∀ (j : Nat) (o : Oper) (t : Tmp), l[j]? = some o → o.dst = some t → listed.getD j false = true → V j (a.tmps.getD t undef) w) ∧ (∀ (j : Nat) (o : Oper), l[j]? = some o → listed.getD j false = true → ∀ e ∈ o.after, Region.binds .any e = true → listed.getD e.on false = true) ∧ S listed a w) ?_ ?_ ?_
  · have hno : ∀ j, (Array.replicate l.toArray.size false).getD j false = true → False := fun j hl => by
      rw [Array.getD_eq_getD_getElem?] at hl
      simp only [Array.getElem?_replicate] at hl
      split at hl <;> cases hl
    exact ⟨rfl, rfl, fun _ _ => rfl, fun j o t hj hd hl => (hno j hl).elim, fun j o hj hl => (hno j hl).elim, by simpa using h0⟩
  · intro i o listed a w ho hs hun hpre ⟨hdef, hsize, hout, hval, hcl, hS⟩
    have ho' : l[i]? = some o := by simpa using ho
    have hui : listed.getD i false = false := by
      rw [Array.getD_eq_getD_getElem?] at hun ⊢
      cases h : listed[i]? with
      | none => rfl
      | some b => rw [h] at hun; exact hun
    have hde : ∀ j, isDep l f i j = true → listed.getD j false = false := fun j hj => by
      cases h : listed.getD j false with
      | false => rfl
      | true => have := isDep_listed hcl f i j hj h; rw [hui] at this; cases this
    have hld : ∀ j, isDep l f j i = true → listed.getD j false = true := fun j hj => by
      cases f with
      | zero => simp [isDep] at hj
      | succ f =>
        simp only [isDep, ho', Array.any_eq_true', Bool.and_eq_true, Bool.or_eq_true, beq_iff_eq] at hj
        obtain ⟨e, he, hb, h2⟩ := hj
        have h1 := hpre e he hb
        rcases h2 with h2 | h2
        · rw [← h2]; exact h1
        · exact isDep_listed hcl f j e.on h2 h1
    refine Oper.wp_mono ?_ (hop i o listed a w ho' (by simpa using hs) hun hpre hde hld hS hout hval)
    rintro a' w' ⟨v, rfl, hG, hVi, hS'⟩
    refine ⟨(put_defers _ _ _).trans hdef, (put_size _ _ _).trans hsize, fun t ht => ?_, fun j oj t hj hd hl => ?_, fun j oj hj hl e he hb => ?_, hS'⟩
    · cases hod : o.dst with
      | none => exact hout t ht
      | some d =>
        have : t ≠ d := fun e => ht o (List.mem_of_getElem? ho') (by rw [hod, e])
        rw [put_get, if_neg (fun e => this e.1)]
        exact hout t ht
    · have htl := hdt oj t (List.mem_of_getElem? hj) hd
      by_cases hij : j = i
      · subst hij
        rw [ho'] at hj
        cases hj
        rw [hd, put_get, if_pos ⟨rfl, by rw [hsize]; exact htl⟩]
        exact hVi
      · have hl' : listed.getD j false = true := by
          rw [Array.getD_eq_getD_getElem?, Array.getElem?_setIfInBounds, if_neg (fun e => hij e.symm)] at hl
          rw [Array.getD_eq_getD_getElem?]; exact hl
        have hnd : isDep l f i j = false := by
          cases h : isDep l f i j with
          | false => rfl
          | true => have := hde j h; rw [hl'] at this; cases this
        have h1 := hV i j _ _ _ (List.getElem?_eq_some_iff.1 ho').1 (List.getElem?_eq_some_iff.1 hj).1 (fun e => hij e.symm) hnd (hval j oj t hj hd hl') hG
        cases hod : o.dst with
        | none => exact h1
        | some d =>
          have hne : t ≠ d := fun e => hij (huniq j i oj o d hj ho' (by rw [hd, e]) hod)
          rw [put_get, if_neg (fun e => hne e.1)]
          exact h1
    · have hup : ∀ k, listed.getD k false = true → (listed.setIfInBounds i true).getD k false = true := fun k hk => by
        rw [Array.getD_eq_getD_getElem?, Array.getElem?_setIfInBounds]
        rw [Array.getD_eq_getD_getElem?] at hk
        by_cases hik : i = k
        · subst hik
          have hil : i < listed.size := by have := (List.getElem?_eq_some_iff.1 ho').1; simp at hs; omega
          simp [hil]
        · rw [if_neg hik]; exact hk
      by_cases hij : j = i
      · subst hij
        rw [ho'] at hj
        cases hj
        exact hup _ (hpre e he hb)
      · have hl' : listed.getD j false = true := by
          rw [Array.getD_eq_getD_getElem?, Array.getElem?_setIfInBounds, if_neg (fun e => hij e.symm)] at hl
          rw [Array.getD_eq_getD_getElem?]; exact hl
        exact hup _ (hcl j oj hj hl' e he hb)
  · intro listed a w' hs hall ⟨hdef, hsize, hout, hval, _, hS⟩
    have hallT : ∀ j, j < l.length → listed.getD j false = true := fun j hj => by
      have := hall j (by simpa using hj)
      rw [Array.getD_eq_getD_getElem?, Array.getElem?_eq_getElem (by simp at hs; omega)] at this ⊢
      exact this
    let vs : Nat → Value := fun j => match (l[j]?).bind (·.dst) with | some t => a.tmps.getD t undef | none => undef
    have hvs : ∀ (j : Nat) (o : Oper) (t : Tmp), l[j]? = some o → o.dst = some t → vs j = a.tmps.getD t undef := fun j o t hj hd => by
      show (match (l[j]?).bind (·.dst) with | some t => a.tmps.getD t undef | none => undef) = _
      rw [hj, Option.bind_some, hd]
    have hput : putAll l 0 vs a0 = a := by
      obtain ⟨h1, h2⟩ := putAll_size l 0 vs a0
      have ht : (putAll l 0 vs a0).tmps = a.tmps := by
        apply Array.ext (by rw [h1, hsize])
        intro t h3 h4
        have := putAll_get (fun t => a.tmps.getD t undef) l 0 vs a0 t (by rw [← h1]; exact h3) (fun j o d hj hd => by rw [Nat.zero_add]; exact hvs j o d hj hd) (by
          by_cases hx : ∃ (j : Nat) (o : Oper), l[j]? = some o ∧ o.dst = some t
          · exact .inl hx
          · right
            refine (hout t (fun o ho hd => ?_)).symm
            obtain ⟨j, hj⟩ := List.getElem?_of_mem ho
            exact hx ⟨j, o, hj, hd⟩)
        rw [Array.getD_eq_getD_getElem?, Array.getElem?_eq_getElem h3, Array.getD_eq_getD_getElem?, Array.getElem?_eq_getElem h4] at this
        exact this
      cases hp : putAll l 0 vs a0 with
      | mk tm df =>
        rw [hp] at ht h2
        cases a with
        | mk tm' df' => simp at ht h2 hdef; subst ht; rw [h2, hdef]
    rw [← hput]
    exact hdone vs listed w' (by simpa using hs) (fun i hi => hall i (by simpa using hi)) (by rw [hput]; exact hS) (fun j o t hj hd => by
      refine ⟨?_, by rw [hput]; exact (hvs j o t hj hd).symm⟩
      rw [hvs j o t hj hd]
      exact hval j o t hj hd (hallT j (List.getElem?_eq_some_iff.1 hj).1))
end
end Go.Proofs.YtdjnomeabadbnaaDoor
