/- 'c.F = append(c.F, T{..})' with calls of the stream among the parts: whatever the order that the region draws. -/
import Derived.Test.YtdminjijhpemkaaGreatDoorPkSAf
import Derived.Test.YtdminjijhpemkaaGreatDoorPkSAb
import Derived.Test.YtdminjijhpemkaaGreatDoorPkSAc
namespace Go.Proofs.YtdminjijhpemkaaGreatDoor
open Go.RowKit

inductive VSpec where
  | eq (v : Value)
  | blk (n : Nat) (cs : Array Value) (t : Nat)
  | row
  | any
structure AppCtx where
  p : Nat
  lw : Nat
  L : List Int
  k0 : Nat
  C : Nat
  fo : Nat
  tC : Nat
  cs : Array Value
  base : Nat
  e : Nat
  size : Nat
  sv : Value
  n : Nat
  xs : List Value
  news : List Value
def AppCtx.far (X : AppCtx) (g : Nat) : Prop := g ≠ X.p ∧ g ≠ X.C ∧ X.sv.ownBlock ≠ some g
def AppCtx.holds (X : AppCtx) : VSpec → Value → World → Prop
  | .eq u, v, _ => v = u
  | .blk n cs t, v, w => ∃ g, v = .slice (some ⟨g, 0, none⟩) n n ∧ X.far g ∧ w.heap[g]? = some (.cells cs t (0, 0))
  | .row, v, w => ∃ g c, v = .slice (some ⟨g, 0, none⟩) (X.n + 1) c ∧ g ≠ X.p ∧ g ≠ X.C ∧ w.ownsRow X.base X.e X.size v (X.n + 1) (X.xs ++ X.news)
  | .any, _, _ => True
def AppCtx.tgt (X : AppCtx) (iA iS i : Nat) : Option Nat := if i = iA then X.sv.ownBlock else if i = iS then some X.C else some X.p
def cntC (calls : List Nat) (listed : Array Bool) : Nat := calls.countP fun i => listed.getD i false
theorem getD_set_eq {listed : Array Bool} {i : Nat} (h : i < listed.size) : (listed.setIfInBounds i true).getD i false = true := by
  rw [Array.getD_eq_getD_getElem?, Array.getElem?_setIfInBounds]; simp [h]
theorem getD_set_off {listed : Array Bool} {i j : Nat} (h : j ≠ i) : (listed.setIfInBounds i true).getD j false = listed.getD j false := by
  rw [Array.getD_eq_getD_getElem?, Array.getElem?_setIfInBounds, if_neg (fun e => h e.symm), ← Array.getD_eq_getD_getElem?]
theorem cntC_set {calls : List Nat} {listed : Array Bool} {i : Nat} (hn : calls.Nodup) (hi : i < listed.size) (hl : listed.getD i false = false) : cntC calls (listed.setIfInBounds i true) = cntC calls listed + if i ∈ calls then 1 else 0 := by
  unfold cntC
  induction calls with
  | nil => simp
  | cons c r ih =>
    have h1 := ih (List.nodup_cons.1 hn).2
    rw [List.countP_cons, List.countP_cons, h1]
    by_cases hc : c = i
    · subst hc
      have : c ∉ r := (List.nodup_cons.1 hn).1
      rw [getD_set_eq hi, hl]
      simp [this]
    · rw [getD_set_off hc]
      have : (i ∈ c :: r) ↔ i ∈ r := by simp; intro e; exact absurd e.symm hc
      simp only [this]
      omega
structure AppCtx.S (X : AppCtx) (Keep : World → Prop) (calls : List Nat) (iA iS : Nat) (listed : Array Bool) (w : World) : Prop where
  str : StreamAt w X.p X.lw X.L (X.k0 + cntC calls listed)
  keep : Keep w
  own : listed.getD iA false = false → w.ownsRow X.base X.e X.size X.sv X.n X.xs
  blk : listed.getD iS false = false → w.heap[X.C]? = some (.cells X.cs X.tC (0, 0))
  fin : listed.getD iS false = true → ∃ g c, w.heap[X.C]? = some (.cells (X.cs.setIfInBounds X.fo (.slice (some ⟨g, 0, none⟩) (X.n + 1) c)) X.tC (0, 0)) ∧ w.ownsRow X.base X.e X.size (.slice (some ⟨g, 0, none⟩) (X.n + 1) c) (X.n + 1) (X.xs ++ X.news)

/-- What stays beside the row that grows: two other rows, the result's variable. -/
structure KeepC (w w7 : World) (p R e1 z1 : Nat) (v1 : Value) (n1 : Nat) (x1 : List Value) (e2 z2 : Nat) (v2 : Value) (n2 : Nat) (x2 : List Value) (wx : World) : Prop where
  r1 : wx.ownsRow R e1 z1 v1 n1 x1
  r2 : wx.ownsRow R e2 z2 v2 n2 x2
  hR : wx.heap[R]? = w7.heap[R]?
  gr : w.grownBy wx (some p)
  size : w7.heap.size ≤ wx.heap.size
theorem KeepC.keep {w w7 : World} {p R C e1 z1 : Nat} {v1 : Value} {n1 : Nat} {x1 : List Value} {e2 z2 : Nat} {v2 : Value} {n2 : Nat} {x2 : List Value} {sv : Value} (hp : p < R) (hRC : R < C) (hw : w.heap.size ≤ R) (hRl : R < w7.heap.size)
    (hs : ∀ q, sv.ownBlock = some q → R < q) (n1C : v1.ownBlock ≠ some C) (n2C : v2.ownBlock ≠ some C) (n1s : ∀ q, v1.ownBlock = some q → sv.ownBlock ≠ some q) (n2s : ∀ q, v2.ownBlock = some q → sv.ownBlock ≠ some q) :
    ∀ wx wy r, KeepC w w7 p R e1 z1 v1 n1 x1 e2 z2 v2 n2 x2 wx → wx.grownBy wy r → (∀ q, r = some q → q = p ∨ q = C ∨ sv.ownBlock = some q) → KeepC w w7 p R e1 z1 v1 n1 x1 e2 z2 v2 n2 x2 wy := by
  intro wx wy r h g hr
  have row : ∀ {e z n : Nat} {v : Value} {x : List Value}, wx.ownsRow R e z v n x → v.ownBlock ≠ some C → (∀ q, v.ownBlock = some q → sv.ownBlock ≠ some q) → wy.ownsRow R e z v n x := by
    intro e z n v x ho hC hv
    refine own_keep ho g ?_
    cases hb : v.ownBlock with
    | none => exact .inl rfl
    | some b =>
      refine .inr (fun e => ?_)
      have hb1 := (ho.lt b hb).1
      rcases hr b e.symm with rfl | rfl | h'
      · omega
      · exact hC hb
      · exact hv b hb h'
  refine ⟨row h.r1 n1C n1s, row h.r2 n2C n2s, (g.block R (Nat.lt_of_lt_of_le hRl h.size) (fun e => ?_)).trans h.hR, ⟨g.os.trans h.gr.os, g.tape.trans h.gr.tape, g.output.trans h.gr.output, Nat.le_trans h.gr.size g.size, fun b hb hne => (g.block b (Nat.lt_of_lt_of_le hb h.gr.size) (fun e => ?_)).trans (h.gr.block b hb hne)⟩, Nat.le_trans h.size g.size⟩
  · rcases hr R e.symm with h' | h' | h'
    · omega
    · omega
    · have := hs R h'; omega
  · rcases hr b e.symm with h' | h' | h'
    · exact hne (by rw [h'])
    · omega
    · have := hs b h'; omega
def waits (o : Oper) (j : Nat) : Bool := o.after.any fun e => Region.binds .any e && e.on == j
theorem waits_listed {o : Oper} {j : Nat} {listed : Array Bool} (h : waits o j = true) (hpre : ∀ e ∈ o.after, Region.binds .any e = true → listed.getD e.on false = true) : listed.getD j false = true := by
  simp only [waits, Array.any_eq_true', Bool.and_eq_true, beq_iff_eq] at h
  obtain ⟨e, he, hb, rfl⟩ := h
  exact hpre e he hb
theorem wp_field_append {P : Program} {Q : Exit → Act → World → Prop} {id : Nat} {l : List Oper} {a0 : Act} {w : World} (X : AppCtx) (f : Nat) (hm : P.follows .mixedOrders = true)
    (hg : l.all (fun o => o.guard.isNone) = true) (hac : ((List.range l.length).all fun i => ((l[i]?).map fun o => o.after.all fun e => decide (e.on < i)).getD true) = true)
    (hnd : (l.filterMap (·.dst)).Nodup) (hsz : l.all (fun o => match o.dst with | some t => decide (t < a0.tmps.size) | none => true) = true)
    (Keep : World → Prop) (hKeep : ∀ w w' r, Keep w → w.grownBy w' r → (∀ q, r = some q → q = X.p ∨ q = X.C ∨ X.sv.ownBlock = some q) → Keep w')
    (calls : List Nat) (hcn : calls.Nodup) (hcl : calls.all (fun i => decide (i < l.length)) = true) (iA iS : Nat) (hAS : iA ≠ iS) (hAc : iA ∉ calls) (hSc : iS ∉ calls) (hdAS : isDep l f iA iS = true) (specs : List VSpec) (hspA : specs.getD iA .any = .row) (hspS : specs.getD iS .any = .any)
    (hrow : ∀ j, specs.getD j .any = .row → j = iA)
    (hpb : X.p < X.base) (hbC : X.base ≤ X.C) (heC : X.e ≠ X.tC)
    (hstr : StreamAt w X.p X.lw X.L X.k0) (hkp : Keep w.drew) (hown : w.ownsRow X.base X.e X.size X.sv X.n X.xs) (hblk : w.heap[X.C]? = some (.cells X.cs X.tC (0, 0)))
    (t : Nat) (z : Value) (bytes : Nat) (E : ElemT P t X.e z X.size bytes) (oA : Oper) (hoA : l[iA]? = some oA) (ta tx : Tmp) (hopA : oA.op = .call { callee := .builtin .append, args := #[.tmp ta, .tmp tx], argTypes := #[t, t] })
    (ja jx : Nat) (oa ox : Oper) (hja : l[ja]? = some oa) (hjx : l[jx]? = some ox) (hta : oa.dst = some ta) (htx : ox.dst = some tx) (hda : waits oA ja = true) (hdx : waits oA jx = true)
    (cA : Array Value) (hsa : specs.getD ja .any = .eq X.sv) (hsx : specs.getD jx .any = .blk 1 cA X.e) (hcA : cA.toList = X.news) (hlA : cA.size = X.size) (h1A : cA.toList.all (fun u => u.oneCell') = true) (hnb : X.n + 1 ≤ 137438953472)
    (tA : Tmp) (htA : oA.dst = some tA) (oS : Oper) (hoS : l[iS]? = some oS) (T : TypeId) (tp : Tmp) (hopS : oS.op = .store T (.tmp tp) (.tmp tA)) (hSA : waits oS iA = true) (jp : Nat) (op : Oper) (hjp : l[jp]? = some op) (htp : op.dst = some tp) (hdp : waits oS jp = true) (hsp : specs.getD jp .any = .eq (.pointer (some ⟨X.C, X.fo, none⟩)))
    (hst : ∀ w g c, w.heap[X.C]? = some (.cells X.cs X.tC (0, 0)) → (Instr.storeAt T (.pointer (some ⟨X.C, X.fo, none⟩)) (.slice (some ⟨g, 0, none⟩) (X.n + 1) c)).run P w = .ok () (w.setCell ⟨X.C, X.fo, none⟩ (.slice (some ⟨g, 0, none⟩) (X.n + 1) c)))
    (hops : ∀ (i : Nat) (o : Oper) (listed : Array Bool) (a : Act) (w : World), l[i]? = some o → i ≠ iA → i ≠ iS → listed.getD i false = false → (∀ e ∈ o.after, Region.binds .any e = true → listed.getD e.on false = true) → (∀ j, isDep l f i j = true → listed.getD j false = false) → (∀ j, isDep l f j i = true → listed.getD j false = true) → X.S Keep calls iA iS listed w →
      (∀ t, (∀ o ∈ l, o.dst ≠ some t) → a.tmps.getD t undef = a0.tmps.getD t undef) → (∀ (j : Nat) (o : Oper) (t : Tmp), l[j]? = some o → o.dst = some t → listed.getD j false = true → X.holds (specs.getD j .any) (a.tmps.getD t undef) w) →
      Oper.wp P o a w (fun a' w' => ∃ v, a' = a.put o.dst v ∧ w.grownBy w' (some X.p) ∧ X.holds (specs.getD i .any) v w' ∧ StreamAt w' X.p X.lw X.L (X.k0 + cntC calls listed + if i ∈ calls then 1 else 0)) Q)
    (hdone : ∀ (vs : Nat → Value) (w' : World), StreamAt w' X.p X.lw X.L (X.k0 + calls.length) → Keep w' → (∃ g c, w'.heap[X.C]? = some (.cells (X.cs.setIfInBounds X.fo (.slice (some ⟨g, 0, none⟩) (X.n + 1) c)) X.tC (0, 0)) ∧ w'.ownsRow X.base X.e X.size (.slice (some ⟨g, 0, none⟩) (X.n + 1) c) (X.n + 1) (X.xs ++ X.news)) →
      (∀ (j : Nat) (o : Oper) (t : Tmp), l[j]? = some o → o.dst = some t → X.holds (specs.getD j .any) (vs j) w') → Q .normal (putAll l 0 vs a0) w') :
    (Code.region id l.toArray true).wp P Q a0 w := by
  have hlo : ∀ j, (Array.replicate l.length false).getD j false = true → False := fun j hl => by
    rw [Array.getD_eq_getD_getElem?] at hl
    simp only [Array.getElem?_replicate] at hl
    split at hl <;> cases hl
  have hc0 : cntC calls (Array.replicate l.length false) = 0 := by
    unfold cntC
    rw [List.countP_eq_zero]
    intro i _ h
    exact hlo i h
  have hgd := gr_drew (gr_refl w (some X.p))
  have hgd0 := gr_drew (gr_refl w none)
  have hpl := hstr.low
  have hCne : X.C ≠ X.p := by omega
  have hsC : X.sv.ownBlock ≠ some X.C := own_ne hown hblk heC
  have hsB : ∀ q, X.sv.ownBlock = some q → X.base ≤ q := fun q e => (hown.lt q e).1
  refine wp_region_plan hm hg hac hnd hsz f (fun i w w' => w.grownBy w' (X.tgt iA iS i)) (fun j v w => X.holds (specs.getD j .any) v w) ?_ (X.S Keep calls iA iS) ?_ ?_ ?_
  · intro i j v w w' hi hj hij hnd hv hgr
    cases hs : specs.getD j .any with
    | eq u => rw [hs] at hv; exact hv
    | any => exact trivial
    | blk n cs t =>
      rw [hs] at hv
      obtain ⟨g, rfl, ⟨h1, h2, h3⟩, hh⟩ := hv
      refine ⟨g, rfl, ⟨h1, h2, h3⟩, (hgr.block g (lt_of_block hh) ?_).trans hh⟩
      intro e
      unfold AppCtx.tgt at e
      split at e
      · exact h3 e.symm
      · split at e
        · exact h2 (by injection e)
        · exact h1 (by injection e)
    | row =>
      have hjA := hrow j hs
      rw [hs] at hv
      obtain ⟨g, c, rfl, h1, h2, ho⟩ := hv
      refine ⟨g, c, rfl, h1, h2, own_keep ho hgr (.inr ?_)⟩
      unfold AppCtx.tgt
      rw [if_neg (by omega)]
      split
      · simp [Value.ownBlock]; exact h2
      · simp [Value.ownBlock]; exact h1
  · refine ⟨by rw [hc0]; exact hstr.keep0 hgd0, hkp, fun _ => own_keep0 hown hgd0, fun _ => (hgd0.block _ (lt_of_block hblk) (by simp)).trans hblk, fun h => (hlo _ h).elim⟩
  · intro i o listed a w ho hls hun hpre hde hld hS hout hval
    have hil := (List.getElem?_eq_some_iff.1 ho).1
    have hun : listed.getD i false = false := by
      rw [Array.getD_eq_getD_getElem?] at hun ⊢
      cases h : listed[i]? with
      | none => rfl
      | some b => rw [h] at hun; exact hun
    have hcs := cntC_set hcn (by rw [hls]; exact hil) hun
    by_cases hiA : i = iA
    · subst hiA
      rw [hoA] at ho
      cases ho
      have hva := hval ja oa ta hja hta (waits_listed hda hpre)
      have hvx := hval jx ox tx hjx htx (waits_listed hdx hpre)
      simp only [hsa] at hva
      simp only [hsx] at hvx
      have hva : a.tmps.getD ta undef = X.sv := hva
      obtain ⟨gx, hvx, ⟨hx1, hx2, hx3⟩, hxh⟩ := hvx
      have hnS := hde iS hdAS
      have hw := hS.own hun
      have hC := hS.blk hnS
      have hCl := lt_of_block hC
      obtain ⟨ii, hi, hz, hz1, hz2⟩ := info_parts E.info
      have hle := Nat.mul_le_mul hnb E.le
      obtain ⟨v', w', hr, h2, h3, h4⟩ := run_app_cells (P := P) w X.base t oA.type X.e ii z X.size bytes E.und hi hz hz1 hz2 E.zc E.pos X.sv X.n X.xs hw ⟨gx, 0, none⟩ 1 1 cA.toList (by simpa using hlA)
        (by
          intro j u hj
          rw [Addr.add_lit, Nat.zero_add]
          exact blkC hxh j (by simpa using hj)) (fun u hu => List.all_eq_true.1 h1A u hu) (by unfold maxLen; omega) (by omega) (by omega)
      unfold Oper.wp execOp
      have e1 : a.eval (.tmp ta) = X.sv := hva
      have e2 : a.eval (.tmp tx) = .slice (some ⟨gx, 0, none⟩) 1 1 := hvx
      simp only [hopA, resolve, invoke, builtin, Sem.run_bind, Sem.run_pure, Result.andThen_ok, List.map_toArray, List.map_cons, List.map_nil, e1, e2, hr]
      obtain ⟨g', c', rfl, hb', _⟩ := own_some h2 (by omega)
      have hC' := (h3.block X.C hCl (fun e => hsC e.symm)).trans hC
      refine ⟨_, rfl, ?_, ?_, ?_⟩
      · show w.grownBy w' _
        unfold AppCtx.tgt; rw [if_pos rfl]; exact h3
      · show X.holds (specs.getD i .any) _ _
        rw [hspA]
        refine ⟨g', c', rfl, by omega, fun e => own_ne h2 hC' heC (by simp [Value.ownBlock, e]), ?_⟩
        rw [← hcA]; exact h2
      · refine ⟨?_, hKeep _ _ _ hS.keep h3 (fun q e => .inr (.inr e)), fun h => ?_, fun _ => hC', fun h => ?_⟩
        · rw [hcs, if_neg hAc]
          exact hS.str.keepNe h3 (fun q e => by have := hsB q e; omega)
        · rw [getD_set_eq (by omega)] at h; cases h
        · rw [getD_set_off (fun e => hAS e.symm), hnS] at h; cases h
    · by_cases hiS : i = iS
      · subst hiS
        rw [hoS] at ho
        cases ho
        have hlA := waits_listed hSA hpre
        have hvA := hval iA oA tA hoA htA hlA
        have hvp := hval jp op tp hjp htp (waits_listed hdp hpre)
        simp only [hspA] at hvA
        simp only [hsp] at hvp
        have hvp : a.tmps.getD tp undef = .pointer (some ⟨X.C, X.fo, none⟩) := hvp
        obtain ⟨g, c, hvA, hg1, hg2, hrw⟩ := hvA
        rw [hvA] at hrw
        have hC := hS.blk hun
        have hr := hst w g c hC
        unfold Oper.wp execOp
        have e1 : a.eval (.tmp tp) = .pointer (some ⟨X.C, X.fo, none⟩) := hvp
        have e2 : a.eval (.tmp tA) = .slice (some ⟨g, 0, none⟩) (X.n + 1) c := hvA
        simp only [hopS, e1, e2, Sem.run_bind, Sem.run_pure, Result.andThen_ok, hr]
        have hgs := gr_set (q := ⟨X.C, X.fo, none⟩) (gr_refl w (some X.C)) rfl (.slice (some ⟨g, 0, none⟩) (X.n + 1) c)
        refine ⟨undef, rfl, ?_, ?_, ?_⟩
        · show w.grownBy _ _
          unfold AppCtx.tgt; rw [if_neg hiA, if_pos rfl]; exact hgs
        · show X.holds (specs.getD i .any) _ _
          rw [hspS]; exact trivial
        · refine ⟨?_, hKeep _ _ _ hS.keep hgs (fun q e => .inr (.inl (by cases e; rfl))), fun h => ?_, fun h => ?_, fun _ => ⟨g, c, heap_setCell_same w X.C X.fo _ _ _ hC, ?_⟩⟩
          · rw [hcs, if_neg hSc]
            exact hS.str.keepNe hgs (fun q e => by cases e; omega)
          · rw [getD_set_off hAS, hlA] at h; cases h
          · rw [getD_set_eq (by omega)] at h; cases h
          · exact own_keep hrw hgs (.inr (by simp [Value.ownBlock]; exact hg2))
      · refine Oper.wp_mono ?_ (hops i o listed a w ho hiA hiS hun hpre hde hld hS hout hval)
        rintro a' w' ⟨v, rfl, hgr, hv, hst'⟩
        refine ⟨v, rfl, ?_, hv, ?_⟩
        · show w.grownBy w' _
          unfold AppCtx.tgt; rw [if_neg hiA, if_neg hiS]; exact hgr
        · refine ⟨?_, hKeep _ _ _ hS.keep hgr (fun q e => .inl (by cases e; rfl)), fun h => ?_, fun h => ?_, fun h => ?_⟩
          · rw [hcs, ← Nat.add_assoc]; exact hst'
          · rw [getD_set_off (fun e => hiA e.symm)] at h
            exact own_keepS (hS.own h) hgr hpb
          · rw [getD_set_off (fun e => hiS e.symm)] at h
            exact (hgr.block _ (lt_of_block (hS.blk h)) (fun e => hCne (by injection e))).trans (hS.blk h)
          · rw [getD_set_off (fun e => hiS e.symm)] at h
            obtain ⟨g, c, h1, h2⟩ := hS.fin h
            exact ⟨g, c, (hgr.block _ (lt_of_block h1) (fun e => hCne (by injection e))).trans h1, own_keepS h2 hgr hpb⟩
  · intro vs listed w' hls hall hS hval
    have hall' : ∀ i, i < l.length → listed.getD i false = true := fun i hi => by
      have := hall i hi
      rw [Array.getD_eq_getD_getElem?, Array.getElem?_eq_getElem (by omega)] at this ⊢
      exact this
    have hcf : cntC calls listed = calls.length := by
      unfold cntC
      rw [List.countP_eq_length]
      intro i hi
      exact hall' i (by have := List.all_eq_true.1 hcl i hi; simpa using this)
    have h1 := hS.str
    rw [hcf] at h1
    exact hdone vs w' h1 hS.keep (hS.fin (hall' iS (List.getElem?_eq_some_iff.1 hoS).1)) hval
end Go.Proofs.YtdminjijhpemkaaGreatDoor
