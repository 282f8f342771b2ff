/- coilref.Machine.Audit, ahead of its loop. Written by gen_refaudit.py. -/
import Derived.Test.YtdjnomeabadbnaaDoorRefInsert
import Derived.Test.YtdjnomeabadbnaaDoorSameAudit
import Derived.Test.YtdjnomeabadbnaaDoorPlanA
import Derived.Test.YtdjnomeabadbnaaDoorRefLook
import Derived.Test.YtdjnomeabadbnaaDoorOperApp
namespace Go.Proofs.YtdjnomeabadbnaaDoor
open Go.RowKit
attribute [local go_sem ↓] Go.wp_at_zero Go.wp_at_succ

def audit0 : Array Value := #[.slice none 0 0, .int .i64 0, .int .i64 0, .int .i64 0, .int .i64 0, .int .i64 0, .int .i64 0, .slice none 0 0]
def auditF (S : Int) (sl : Value) : Array Value := #[.slice none 0 0, .int .i64 0, .int .i64 0, .int .i64 0, .int .i64 0, .int .i64 0, .int .i64 S, sl]
structure RaS (w1 : World) (sz : Nat) (S : Int) (T : List Tube) (R : Nat) (listed : Array Bool) (a : Act) (wx : World) : Prop where
  gr : w1.grownBy wx none
  sz : a.tmps.size = sz
  st : listed.getD 36 false = true → ∃ q, a.tmps.getD 3 undef = .pointer (some ⟨q, 0, none⟩) ∧ w1.heap.size ≤ q ∧
    ((listed.getD 37 false = false ∧ wx.heap[q]? = some (.cells audit0 46 (0, 0))) ∨
     (listed.getD 37 false = true ∧ ∃ sl, wx.heap[q]? = some (.cells (auditF S sl) 46 (0, 0)) ∧ wx.ownsRow R 41 3 sl T.length (tubes T)))
theorem RaS.skip {w1 : World} {sz : Nat} {S : Int} {T : List Tube} {R : Nat} {listed : Array Bool} {a : Act} {wx wy : World} (h : RaS w1 sz S T R listed a wx) {i d : Nat} (v : Value) (h1 : i ≠ 36) (h2 : i ≠ 37) (hd : d ≠ 3) (g : wx.grownBy wy none) : RaS w1 sz S T R (listed.setIfInBounds i true) (a.put (some d) v) wy := by
  refine ⟨gr_trans h.gr g, (put_size _ _ _).trans h.sz, fun hl => ?_⟩
  rw [getD_set_off (fun e => h1 e.symm)] at hl
  obtain ⟨q, hq, hR, hc⟩ := h.st hl
  refine ⟨q, by rw [put_get, if_neg (fun e => hd e.1.symm)]; exact hq, hR, ?_⟩
  rw [getD_set_off (fun e => h2 e.symm)]
  rcases hc with ⟨h3, h4⟩ | ⟨h3, sl, h4, h5⟩
  · exact .inl ⟨h3, (g.block q (lt_of_block h4) (by simp)).trans h4⟩
  · exact .inr ⟨h3, sl, (g.block q (lt_of_block h4) (by simp)).trans h4, own_keep0 h5 g⟩
def RaG (w w' : World) : Prop := w.grownBy w' none ∨ (∃ q cs, w.heap[q]? = some (.cells cs 46 (0, 0)) ∧ w.grownBy w' (some q))
theorem RaG.own {w w' : World} (g : RaG w w') {base e z n : Nat} {v : Value} {xs : List Value} (h : w.ownsRow base e z v n xs) (he : e ≠ 46) : w'.ownsRow base e z v n xs := by
  rcases g with g | ⟨q, cs, hc, g⟩
  · exact own_keep0 h g
  · exact own_keep h g (.inr (own_ne h hc he))
def RaV (M : Nat) (tv ev : Value) (S : Int) (T : List Tube) (R : Nat) (j : Nat) (v : Value) (w : World) : Prop :=
  match j with
  | 0 => v = .pointer (some ⟨M, 0, none⟩)
  | 1 => v = .pointer (some ⟨M, 0, none⟩)
  | 2 => v = .pointer (some ⟨M, 8, none⟩)
  | 3 => v = .slice none 0 0
  | 4 => v = .int .i64 0
  | 5 => v = .pointer (some ⟨M, 0, none⟩)
  | 6 => v = .pointer (some ⟨M, 0, none⟩)
  | 7 => v = .pointer (some ⟨M, 9, none⟩)
  | 8 => v = .slice none 0 0
  | 9 => v = .int .i64 0
  | 10 => v = .pointer (some ⟨M, 0, none⟩)
  | 11 => v = .pointer (some ⟨M, 0, none⟩)
  | 12 => v = .pointer (some ⟨M, 10, none⟩)
  | 13 => v = .slice none 0 0
  | 14 => v = .int .i64 0
  | 15 => v = .pointer (some ⟨M, 0, none⟩)
  | 16 => v = .pointer (some ⟨M, 0, none⟩)
  | 17 => v = .pointer (some ⟨M, 11, none⟩)
  | 18 => v = .slice none 0 0
  | 19 => v = .int .i64 0
  | 20 => v = .pointer (some ⟨M, 0, none⟩)
  | 21 => v = .pointer (some ⟨M, 0, none⟩)
  | 22 => v = .pointer (some ⟨M, 6, none⟩)
  | 23 => v = .int .i64 0
  | 24 => v = .pointer (some ⟨M, 0, none⟩)
  | 25 => v = .pointer (some ⟨M, 0, none⟩)
  | 26 => v = .pointer (some ⟨M, 5, none⟩)
  | 27 => v = ev
  | 28 => v = .int .i64 S
  | 29 => v = .pointer (some ⟨M, 0, none⟩)
  | 30 => v = .pointer (some ⟨M, 0, none⟩)
  | 31 => v = .pointer (some ⟨M, 0, none⟩)
  | 32 => v = .pointer (some ⟨M, 0, none⟩)
  | 33 => v = tv
  | 34 => w.ownsRow R 41 3 v T.length (tubes T)
  | 35 => ∃ sl, v = .agg (auditF S sl) ∧ w.ownsRow R 41 3 sl T.length (tubes T)
  | _ => True
theorem RaV.keep {M : Nat} {tv ev : Value} {S : Int} {T : List Tube} {R : Nat} {j : Nat} {v : Value} {w w1 : World} (h : RaV M tv ev S T R j v w) (g : RaG w w1) : RaV M tv ev S T R j v w1 := by
  unfold RaV at h ⊢
  split at h
  all_goals first
    | exact h
    | exact g.own h (by decide)
    | (obtain ⟨sl, h1, h2⟩ := h; exact ⟨sl, h1, g.own h2 (by decide)⟩)

structure RbC where
  q : Nat
  sb : Nat
  M : Nat
  b2 : Nat
  key : ByteArray
  prod : ByteArray
  pr : Int
  mo : Int
  co : Int
  dv : Value
  k : Nat
  xs : List Value
  R1 : Nat
  R : Nat
  S : Int
  sl : Value
  n : Nat
  ts : List Value
def RbC.aud (X : RbC) (v : Value) : Obj := .cells #[v, .int .i64 0, .int .i64 0, .int .i64 0, .int .i64 0, .int .i64 0, .int .i64 X.S, X.sl] 46 (0, 0)
structure RbS (w1 : World) (X : RbC) (listed : Array Bool) (wx : World) : Prop where
  gr : w1.grownBy wx none
  sb : wx.heap[X.sb]? = some (.cells #[.string X.key, .string X.prod, .int .i64 X.pr, .int .i64 X.mo, .int .i64 X.co] 43 (0, 0))
  sl : wx.ownsRow X.R 41 3 X.sl X.n X.ts
  own : listed.getD 22 false = false → wx.ownsRow X.R1 79 3 X.dv X.k X.xs
  q0 : listed.getD 24 false = false → wx.heap[X.q]? = some (X.aud X.dv)
  q1 : listed.getD 24 false = true → ∃ v, wx.heap[X.q]? = some (X.aud v) ∧ wx.ownsRow X.R1 79 3 v (X.k + 1) (X.xs ++ [.string X.key, .int .i64 0, .int .i64 0])
theorem RbS.skip {w1 : World} {X : RbC} {listed : Array Bool} {wx wy : World} (h : RbS w1 X listed wx) {i : Nat} (h1 : i ≠ 22) (h2 : i ≠ 24) (g : wx.grownBy wy none) : RbS w1 X (listed.setIfInBounds i true) wy := by
  refine ⟨gr_trans h.gr g, (g.block _ (lt_of_block h.sb) (by simp)).trans h.sb, own_keep0 h.sl g, ?_, ?_, ?_⟩
  · rw [getD_set_off (fun e => h1 e.symm)]; exact fun h' => own_keep0 (h.own h') g
  · rw [getD_set_off (fun e => h2 e.symm)]; exact fun h' => (g.block _ (lt_of_block (h.q0 h')) (by simp)).trans (h.q0 h')
  · rw [getD_set_off (fun e => h2 e.symm)]
    intro h'
    obtain ⟨v, h3, h4⟩ := h.q1 h'
    exact ⟨v, (g.block _ (lt_of_block h3) (by simp)).trans h3, own_keep0 h4 g⟩
def RbG (X : RbC) (w w' : World) : Prop :=
  w.grownBy w' none ∨ (w.ownsRow X.R1 79 3 X.dv X.k X.xs ∧ w.grownBy w' X.dv.ownBlock) ∨ (∃ cs, w.heap[X.q]? = some (.cells cs 46 (0, 0)) ∧ w.grownBy w' (some X.q))
def RbV (X : RbC) (j : Nat) (v : Value) (w : World) : Prop :=
  match j with
  | 0 => v = .pointer (some ⟨X.q, 0, none⟩)
  | 1 => v = X.dv
  | 2 => v = .pointer (some ⟨X.sb, 0, none⟩)
  | 3 => v = .string X.key
  | 4 => v = .pointer (some ⟨X.M, 0, none⟩)
  | 5 => v = .pointer (some ⟨X.M, 0, none⟩)
  | 6 => v = .pointer (some ⟨X.M, 7, none⟩)
  | 7 => v = .map (some X.b2)
  | 8 => v = .pointer (some ⟨X.sb, 0, none⟩)
  | 9 => v = .string X.key
  | 10 => v = .slice none 0 0
  | 11 => v = .int .i64 0
  | 12 => v = .pointer (some ⟨X.M, 0, none⟩)
  | 13 => v = .pointer (some ⟨X.M, 0, none⟩)
  | 14 => v = .pointer (some ⟨X.M, 7, none⟩)
  | 15 => v = .map (some X.b2)
  | 16 => v = .pointer (some ⟨X.sb, 0, none⟩)
  | 17 => v = .string X.key
  | 18 => v = .slice none 0 0
  | 19 => v = .int .i64 0
  | 20 => v = .agg #[.string X.key, .int .i64 0, .int .i64 0]
  | 21 => ∃ g, v = .slice (some ⟨g, 0, none⟩) 1 1 ∧ w.heap[g]? = some (.cells #[.string X.key, .int .i64 0, .int .i64 0] 79 (0, 0)) ∧ X.dv.ownBlock ≠ some g
  | 22 => ∃ g c, v = .slice (some ⟨g, 0, none⟩) (X.k + 1) c ∧ w.ownsRow X.R1 79 3 v (X.k + 1) (X.xs ++ [.string X.key, .int .i64 0, .int .i64 0])
  | 23 => v = .pointer (some ⟨X.q, 0, none⟩)
  | _ => True
theorem RbV.keep {X : RbC} {i j : Nat} {v : Value} {w w1 : World} (hij : j = 22 → i ≠ 22) (h : RbV X j v w) (g : RbG X w w1) (hg : i ≠ 22 → (w.grownBy w1 none ∨ (∃ cs, w.heap[X.q]? = some (.cells cs 46 (0, 0)) ∧ w.grownBy w1 (some X.q)))) : RbV X j v w1 := by
  unfold RbV at h ⊢
  split at h
  all_goals first
    | exact h
    | (obtain ⟨g', h1, h2, h3⟩ := h
       refine ⟨g', h1, ?_, h3⟩
       rcases g with g | ⟨_, g⟩ | ⟨cs, hc, g⟩
       · exact (g.block _ (lt_of_block h2) (by simp)).trans h2
       · exact (g.block _ (lt_of_block h2) (fun e => h3 e.symm)).trans h2
       · refine (g.block _ (lt_of_block h2) (fun e => ?_)).trans h2
         injection e with e
         rw [e, hc] at h2
         injection h2 with h2
         injection h2 with _ h2
         exact absurd h2 (by decide))
    | (obtain ⟨g', c, h1, h2⟩ := h
       refine ⟨g', c, h1, ?_⟩
       rcases hg (hij rfl) with g | ⟨cs, hc, g⟩
       · exact own_keep0 h2 g
       · exact own_keep h2 g (.inr (own_ne h2 hc (by decide))))
def RbGi (X : RbC) (i : Nat) (w w' : World) : Prop := RbG X w w' ∧ (i ≠ 22 → (w.grownBy w' none ∨ (∃ cs, w.heap[X.q]? = some (.cells cs 46 (0, 0)) ∧ w.grownBy w' (some X.q))))
theorem RbGi.none {X : RbC} {i : Nat} {w w' : World} (g : w.grownBy w' none) : RbGi X i w w' := ⟨.inl g, fun _ => .inl g⟩
set_option maxRecDepth 100000 in
set_option maxHeartbeats 4000000 in
theorem refAudit_any (c : Cfg) (esc : List Int) (base M : Nat) (tv kv sv ev : Value) (b1 b2 : Nat) (w : World) (h : RefV w base M c esc tv kv sv ev b1 b2) (hT1 : c.tubes.length ≤ 1000) (hS1 : c.slots.length ≤ 1000) (he : esc.length ≤ 1000) (heb : ∀ y ∈ esc, 0 ≤ y ∧ y ≤ 1000000) :
    Calls Tryd.prog 20 #[.pointer (some ⟨M, 0, none⟩)] w fun e w' => ∃ v, e = .returned v ∧ AuditIs w' v (c.slots.map fun s => ⟨s.key, 0, 0⟩) c.tubes 0 0 0 0 0 esc.sum ∧ w.grownBy w' none := by
  obtain ⟨dt, hd1⟩ := und_struct (P := Tryd.prog) (t := 46) (by kernel_rfl)
  obtain ⟨ta, tc, rfl, _, _, hct, _⟩ := own_shape h.t
  obtain ⟨ea, ec, rfl, _, _, hec, _⟩ := own_shape h.e
  have hnT := own_nil h.t
  have H := Lib.hid h
  have HCT := Lib.hid hct
  have HEC := Lib.hid hec
  have hMl := lt_of_block h.blk
  have HEB := Lib.hid heb
  clear h hct hec heb
  go_enter Tryd.func20, Tryd.ntmps20
  go_wp2_with (fail)
  have hR1 := heap_alloc_new w (.cells #[.slice none 0 0, .int .i64 0, .int .i64 0, .int .i64 0, .int .i64 0, .int .i64 0, .int .i64 0, .slice none 0 0] 46)
  have g1 := gr_alloc (gr_refl w none) (.cells #[.slice none 0 0, .int .i64 0, .int .i64 0, .int .i64 0, .int .i64 0, .int .i64 0, .int .i64 0, .slice none 0 0] 46)
  obtain ⟨w1, hw1⟩ : ∃ w1, w1 = w.alloc (.cells #[.slice none 0 0, .int .i64 0, .int .i64 0, .int .i64 0, .int .i64 0, .int .i64 0, .int .i64 0, .slice none 0 0] 46) := ⟨_, rfl⟩
  obtain ⟨A, hA⟩ : ∃ A, A = w.heap.size := ⟨_, rfl⟩
  rw [← hw1] at hR1 g1
  rw [← hA] at hR1
  rw [← hw1, ← hA]
  have HA := Lib.hid hA
  have HR1 := Lib.hid hR1
  have G1 := Lib.hid g1
  have hz1 : A < w1.heap.size := lt_of_block hR1
  clear hw1 hA hR1
  have H1 := Lib.hid (H.out.keep0 g1)
  obtain ⟨S, hS⟩ : ∃ S, S = esc.sum := ⟨_, rfl⟩
  have HSE := Lib.hid hS
  have SUMX : Hid (∀ w', w1.grownBy w' none → Calls Tryd.prog 84 #[.slice ea esc.length ec] w' fun e w'' => e = .returned (.int .i64 S) ∧ w'' = w') := by
    show ∀ w', _ → _
    intro w' hg'
    rw [hS]
    exact refSum_same esc ea ec w' (HEC.out.keep0 (gr_trans G1.out hg')) (by omega) (fun y hy => by have := HEB.out y hy; omega)
  have SUM0 : Hid (∀ w', Calls Tryd.prog 84 #[.slice none 0 0] w' fun e w'' => e = .returned (.int .i64 0) ∧ w'' = w') := by
    show ∀ w', _
    intro w'
    exact refSum_same [] none 0 w' (CellsAt.nil _ _) (by simp) (fun y hy => by simp at hy)
  clear hS g1
  refine wp_region_planA (by kernel_rfl) (by kernel_rfl) (by kernel_rfl) (by decide) (by kernel_rfl) 12 (fun _ w w' => RaG w w') (RaV M (.slice ta c.tubes.length tc) (.slice ea esc.length ec) S c.tubes w.heap.size) (fun i j v wx wy _ _ _ _ h g => h.keep g) (RaS w1 78 S c.tubes w.heap.size) ⟨gr_drew (gr_refl _ _), rfl, fun h => by simp at h⟩ ?_ ?_
  · intro i o listed a wx ho hls hun hpre hde hld hS hout hval
    have hi : i < 38 := (List.getElem?_eq_some_iff.1 ho).1
    have e1 : a.eval (.tmp 0) = .pointer (some ⟨M, 0, none⟩) := hout 0 (by decide)
    have e1' : a.tmps[0]?.getD undef = .pointer (some ⟨M, 0, none⟩) := (Array.getD_eq_getD_getElem? ..).symm.trans e1
    have hb := (H1.out.keep0 hS.gr).blk
    obtain rfl | rfl | rfl | rfl | rfl | rfl | rfl | rfl | rfl | rfl | rfl | rfl | rfl | rfl | rfl | rfl | rfl | rfl | rfl | rfl | rfl | rfl | rfl | rfl | rfl | rfl | rfl | rfl | rfl | rfl | rfl | rfl | rfl | rfl | rfl | rfl | rfl | rfl : i = 0 ∨ i = 1 ∨ i = 2 ∨ i = 3 ∨ i = 4 ∨ i = 5 ∨ i = 6 ∨ i = 7 ∨ i = 8 ∨ i = 9 ∨ i = 10 ∨ i = 11 ∨ i = 12 ∨ i = 13 ∨ i = 14 ∨ i = 15 ∨ i = 16 ∨ i = 17 ∨ i = 18 ∨ i = 19 ∨ i = 20 ∨ i = 21 ∨ i = 22 ∨ i = 23 ∨ i = 24 ∨ i = 25 ∨ i = 26 ∨ i = 27 ∨ i = 28 ∨ i = 29 ∨ i = 30 ∨ i = 31 ∨ i = 32 ∨ i = 33 ∨ i = 34 ∨ i = 35 ∨ i = 36 ∨ i = 37 := by omega
    · (change some _ = some o at ho; injection ho with ho; subst ho)
      go_simp
      exact ⟨_, rfl, .inl (gr_refl _ _), rfl, hS.skip _ (by decide) (by decide) (by decide) (gr_refl _ _)⟩
    · (change some _ = some o at ho; injection ho with ho; subst ho)
      have v6 : a.eval (.tmp 6) = .pointer (some ⟨M, 0, none⟩) := hval 0 _ 6 rfl rfl (hld 0 (by kernel_rfl))
      have v6' : a.tmps[6]?.getD undef = .pointer (some ⟨M, 0, none⟩) := (Array.getD_eq_getD_getElem? ..).symm.trans v6
      have c0 := blkC hb 0 rfl
      go_simp
      exact ⟨_, rfl, .inl (gr_refl _ _), rfl, hS.skip _ (by decide) (by decide) (by decide) (gr_refl _ _)⟩
    · (change some _ = some o at ho; injection ho with ho; subst ho)
      have v7 : a.eval (.tmp 7) = .pointer (some ⟨M, 0, none⟩) := hval 1 _ 7 rfl rfl (hld 1 (by kernel_rfl))
      have v7' : a.tmps[7]?.getD undef = .pointer (some ⟨M, 0, none⟩) := (Array.getD_eq_getD_getElem? ..).symm.trans v7
      go_simp
      exact ⟨_, rfl, .inl (gr_refl _ _), rfl, hS.skip _ (by decide) (by decide) (by decide) (gr_refl _ _)⟩
    · (change some _ = some o at ho; injection ho with ho; subst ho)
      have v8 : a.eval (.tmp 8) = .pointer (some ⟨M, 8, none⟩) := hval 2 _ 8 rfl rfl (hld 2 (by kernel_rfl))
      have v8' : a.tmps[8]?.getD undef = .pointer (some ⟨M, 8, none⟩) := (Array.getD_eq_getD_getElem? ..).symm.trans v8
      have c0 := blkC hb 8 rfl
      go_simp
      exact ⟨_, rfl, .inl (gr_refl _ _), rfl, hS.skip _ (by decide) (by decide) (by decide) (gr_refl _ _)⟩
    · (change some _ = some o at ho; injection ho with ho; subst ho)
      have v9 : a.eval (.tmp 9) = .slice none 0 0 := hval 3 _ 9 rfl rfl (hld 3 (by kernel_rfl))
      have v9' : a.tmps[9]?.getD undef = .slice none 0 0 := (Array.getD_eq_getD_getElem? ..).symm.trans v9
      go_simp
      refine (SUM0.out wx).mono ?_
      rintro e wy ⟨rfl, rfl⟩
      exact ⟨_, rfl, .inl (gr_refl _ _), rfl, hS.skip _ (by decide) (by decide) (by decide) (gr_refl _ _)⟩
    · (change some _ = some o at ho; injection ho with ho; subst ho)
      go_simp
      exact ⟨_, rfl, .inl (gr_refl _ _), rfl, hS.skip _ (by decide) (by decide) (by decide) (gr_refl _ _)⟩
    · (change some _ = some o at ho; injection ho with ho; subst ho)
      have v11 : a.eval (.tmp 11) = .pointer (some ⟨M, 0, none⟩) := hval 5 _ 11 rfl rfl (hld 5 (by kernel_rfl))
      have v11' : a.tmps[11]?.getD undef = .pointer (some ⟨M, 0, none⟩) := (Array.getD_eq_getD_getElem? ..).symm.trans v11
      have c0 := blkC hb 0 rfl
      go_simp
      exact ⟨_, rfl, .inl (gr_refl _ _), rfl, hS.skip _ (by decide) (by decide) (by decide) (gr_refl _ _)⟩
    · (change some _ = some o at ho; injection ho with ho; subst ho)
      have v12 : a.eval (.tmp 12) = .pointer (some ⟨M, 0, none⟩) := hval 6 _ 12 rfl rfl (hld 6 (by kernel_rfl))
      have v12' : a.tmps[12]?.getD undef = .pointer (some ⟨M, 0, none⟩) := (Array.getD_eq_getD_getElem? ..).symm.trans v12
      go_simp
      exact ⟨_, rfl, .inl (gr_refl _ _), rfl, hS.skip _ (by decide) (by decide) (by decide) (gr_refl _ _)⟩
    · (change some _ = some o at ho; injection ho with ho; subst ho)
      have v13 : a.eval (.tmp 13) = .pointer (some ⟨M, 9, none⟩) := hval 7 _ 13 rfl rfl (hld 7 (by kernel_rfl))
      have v13' : a.tmps[13]?.getD undef = .pointer (some ⟨M, 9, none⟩) := (Array.getD_eq_getD_getElem? ..).symm.trans v13
      have c0 := blkC hb 9 rfl
      go_simp
      exact ⟨_, rfl, .inl (gr_refl _ _), rfl, hS.skip _ (by decide) (by decide) (by decide) (gr_refl _ _)⟩
    · (change some _ = some o at ho; injection ho with ho; subst ho)
      have v14 : a.eval (.tmp 14) = .slice none 0 0 := hval 8 _ 14 rfl rfl (hld 8 (by kernel_rfl))
      have v14' : a.tmps[14]?.getD undef = .slice none 0 0 := (Array.getD_eq_getD_getElem? ..).symm.trans v14
      go_simp
      refine (SUM0.out wx).mono ?_
      rintro e wy ⟨rfl, rfl⟩
      exact ⟨_, rfl, .inl (gr_refl _ _), rfl, hS.skip _ (by decide) (by decide) (by decide) (gr_refl _ _)⟩
    · (change some _ = some o at ho; injection ho with ho; subst ho)
      go_simp
      exact ⟨_, rfl, .inl (gr_refl _ _), rfl, hS.skip _ (by decide) (by decide) (by decide) (gr_refl _ _)⟩
    · (change some _ = some o at ho; injection ho with ho; subst ho)
      have v16 : a.eval (.tmp 16) = .pointer (some ⟨M, 0, none⟩) := hval 10 _ 16 rfl rfl (hld 10 (by kernel_rfl))
      have v16' : a.tmps[16]?.getD undef = .pointer (some ⟨M, 0, none⟩) := (Array.getD_eq_getD_getElem? ..).symm.trans v16
      have c0 := blkC hb 0 rfl
      go_simp
      exact ⟨_, rfl, .inl (gr_refl _ _), rfl, hS.skip _ (by decide) (by decide) (by decide) (gr_refl _ _)⟩
    · (change some _ = some o at ho; injection ho with ho; subst ho)
      have v17 : a.eval (.tmp 17) = .pointer (some ⟨M, 0, none⟩) := hval 11 _ 17 rfl rfl (hld 11 (by kernel_rfl))
      have v17' : a.tmps[17]?.getD undef = .pointer (some ⟨M, 0, none⟩) := (Array.getD_eq_getD_getElem? ..).symm.trans v17
      go_simp
      exact ⟨_, rfl, .inl (gr_refl _ _), rfl, hS.skip _ (by decide) (by decide) (by decide) (gr_refl _ _)⟩
    · (change some _ = some o at ho; injection ho with ho; subst ho)
      have v18 : a.eval (.tmp 18) = .pointer (some ⟨M, 10, none⟩) := hval 12 _ 18 rfl rfl (hld 12 (by kernel_rfl))
      have v18' : a.tmps[18]?.getD undef = .pointer (some ⟨M, 10, none⟩) := (Array.getD_eq_getD_getElem? ..).symm.trans v18
      have c0 := blkC hb 10 rfl
      go_simp
      exact ⟨_, rfl, .inl (gr_refl _ _), rfl, hS.skip _ (by decide) (by decide) (by decide) (gr_refl _ _)⟩
    · (change some _ = some o at ho; injection ho with ho; subst ho)
      have v19 : a.eval (.tmp 19) = .slice none 0 0 := hval 13 _ 19 rfl rfl (hld 13 (by kernel_rfl))
      have v19' : a.tmps[19]?.getD undef = .slice none 0 0 := (Array.getD_eq_getD_getElem? ..).symm.trans v19
      go_simp
      refine (SUM0.out wx).mono ?_
      rintro e wy ⟨rfl, rfl⟩
      exact ⟨_, rfl, .inl (gr_refl _ _), rfl, hS.skip _ (by decide) (by decide) (by decide) (gr_refl _ _)⟩
    · (change some _ = some o at ho; injection ho with ho; subst ho)
      go_simp
      exact ⟨_, rfl, .inl (gr_refl _ _), rfl, hS.skip _ (by decide) (by decide) (by decide) (gr_refl _ _)⟩
    · (change some _ = some o at ho; injection ho with ho; subst ho)
      have v21 : a.eval (.tmp 21) = .pointer (some ⟨M, 0, none⟩) := hval 15 _ 21 rfl rfl (hld 15 (by kernel_rfl))
      have v21' : a.tmps[21]?.getD undef = .pointer (some ⟨M, 0, none⟩) := (Array.getD_eq_getD_getElem? ..).symm.trans v21
      have c0 := blkC hb 0 rfl
      go_simp
      exact ⟨_, rfl, .inl (gr_refl _ _), rfl, hS.skip _ (by decide) (by decide) (by decide) (gr_refl _ _)⟩
    · (change some _ = some o at ho; injection ho with ho; subst ho)
      have v22 : a.eval (.tmp 22) = .pointer (some ⟨M, 0, none⟩) := hval 16 _ 22 rfl rfl (hld 16 (by kernel_rfl))
      have v22' : a.tmps[22]?.getD undef = .pointer (some ⟨M, 0, none⟩) := (Array.getD_eq_getD_getElem? ..).symm.trans v22
      go_simp
      exact ⟨_, rfl, .inl (gr_refl _ _), rfl, hS.skip _ (by decide) (by decide) (by decide) (gr_refl _ _)⟩
    · (change some _ = some o at ho; injection ho with ho; subst ho)
      have v23 : a.eval (.tmp 23) = .pointer (some ⟨M, 11, none⟩) := hval 17 _ 23 rfl rfl (hld 17 (by kernel_rfl))
      have v23' : a.tmps[23]?.getD undef = .pointer (some ⟨M, 11, none⟩) := (Array.getD_eq_getD_getElem? ..).symm.trans v23
      have c0 := blkC hb 11 rfl
      go_simp
      exact ⟨_, rfl, .inl (gr_refl _ _), rfl, hS.skip _ (by decide) (by decide) (by decide) (gr_refl _ _)⟩
    · (change some _ = some o at ho; injection ho with ho; subst ho)
      have v24 : a.eval (.tmp 24) = .slice none 0 0 := hval 18 _ 24 rfl rfl (hld 18 (by kernel_rfl))
      have v24' : a.tmps[24]?.getD undef = .slice none 0 0 := (Array.getD_eq_getD_getElem? ..).symm.trans v24
      go_simp
      refine (SUM0.out wx).mono ?_
      rintro e wy ⟨rfl, rfl⟩
      exact ⟨_, rfl, .inl (gr_refl _ _), rfl, hS.skip _ (by decide) (by decide) (by decide) (gr_refl _ _)⟩
    · (change some _ = some o at ho; injection ho with ho; subst ho)
      go_simp
      exact ⟨_, rfl, .inl (gr_refl _ _), rfl, hS.skip _ (by decide) (by decide) (by decide) (gr_refl _ _)⟩
    · (change some _ = some o at ho; injection ho with ho; subst ho)
      have v26 : a.eval (.tmp 26) = .pointer (some ⟨M, 0, none⟩) := hval 20 _ 26 rfl rfl (hld 20 (by kernel_rfl))
      have v26' : a.tmps[26]?.getD undef = .pointer (some ⟨M, 0, none⟩) := (Array.getD_eq_getD_getElem? ..).symm.trans v26
      have c0 := blkC hb 0 rfl
      go_simp
      exact ⟨_, rfl, .inl (gr_refl _ _), rfl, hS.skip _ (by decide) (by decide) (by decide) (gr_refl _ _)⟩
    · (change some _ = some o at ho; injection ho with ho; subst ho)
      have v27 : a.eval (.tmp 27) = .pointer (some ⟨M, 0, none⟩) := hval 21 _ 27 rfl rfl (hld 21 (by kernel_rfl))
      have v27' : a.tmps[27]?.getD undef = .pointer (some ⟨M, 0, none⟩) := (Array.getD_eq_getD_getElem? ..).symm.trans v27
      go_simp
      exact ⟨_, rfl, .inl (gr_refl _ _), rfl, hS.skip _ (by decide) (by decide) (by decide) (gr_refl _ _)⟩
    · (change some _ = some o at ho; injection ho with ho; subst ho)
      have v28 : a.eval (.tmp 28) = .pointer (some ⟨M, 6, none⟩) := hval 22 _ 28 rfl rfl (hld 22 (by kernel_rfl))
      have v28' : a.tmps[28]?.getD undef = .pointer (some ⟨M, 6, none⟩) := (Array.getD_eq_getD_getElem? ..).symm.trans v28
      have c0 := blkC hb 6 rfl
      go_simp
      exact ⟨_, rfl, .inl (gr_refl _ _), rfl, hS.skip _ (by decide) (by decide) (by decide) (gr_refl _ _)⟩
    · (change some _ = some o at ho; injection ho with ho; subst ho)
      go_simp
      exact ⟨_, rfl, .inl (gr_refl _ _), rfl, hS.skip _ (by decide) (by decide) (by decide) (gr_refl _ _)⟩
    · (change some _ = some o at ho; injection ho with ho; subst ho)
      have v30 : a.eval (.tmp 30) = .pointer (some ⟨M, 0, none⟩) := hval 24 _ 30 rfl rfl (hld 24 (by kernel_rfl))
      have v30' : a.tmps[30]?.getD undef = .pointer (some ⟨M, 0, none⟩) := (Array.getD_eq_getD_getElem? ..).symm.trans v30
      have c0 := blkC hb 0 rfl
      go_simp
      exact ⟨_, rfl, .inl (gr_refl _ _), rfl, hS.skip _ (by decide) (by decide) (by decide) (gr_refl _ _)⟩
    · (change some _ = some o at ho; injection ho with ho; subst ho)
      have v31 : a.eval (.tmp 31) = .pointer (some ⟨M, 0, none⟩) := hval 25 _ 31 rfl rfl (hld 25 (by kernel_rfl))
      have v31' : a.tmps[31]?.getD undef = .pointer (some ⟨M, 0, none⟩) := (Array.getD_eq_getD_getElem? ..).symm.trans v31
      go_simp
      exact ⟨_, rfl, .inl (gr_refl _ _), rfl, hS.skip _ (by decide) (by decide) (by decide) (gr_refl _ _)⟩
    · (change some _ = some o at ho; injection ho with ho; subst ho)
      have v32 : a.eval (.tmp 32) = .pointer (some ⟨M, 5, none⟩) := hval 26 _ 32 rfl rfl (hld 26 (by kernel_rfl))
      have v32' : a.tmps[32]?.getD undef = .pointer (some ⟨M, 5, none⟩) := (Array.getD_eq_getD_getElem? ..).symm.trans v32
      have c0 := blkC hb 5 rfl
      go_simp
      exact ⟨_, rfl, .inl (gr_refl _ _), rfl, hS.skip _ (by decide) (by decide) (by decide) (gr_refl _ _)⟩
    · (change some _ = some o at ho; injection ho with ho; subst ho)
      have v33 : a.eval (.tmp 33) = .slice ea esc.length ec := hval 27 _ 33 rfl rfl (hld 27 (by kernel_rfl))
      have v33' : a.tmps[33]?.getD undef = .slice ea esc.length ec := (Array.getD_eq_getD_getElem? ..).symm.trans v33
      go_simp
      refine (SUMX.out wx hS.gr).mono ?_
      rintro e wy ⟨rfl, rfl⟩
      exact ⟨_, rfl, .inl (gr_refl _ _), rfl, hS.skip _ (by decide) (by decide) (by decide) (gr_refl _ _)⟩
    · (change some _ = some o at ho; injection ho with ho; subst ho)
      go_simp
      exact ⟨_, rfl, .inl (gr_refl _ _), rfl, hS.skip _ (by decide) (by decide) (by decide) (gr_refl _ _)⟩
    · (change some _ = some o at ho; injection ho with ho; subst ho)
      have v35 : a.eval (.tmp 35) = .pointer (some ⟨M, 0, none⟩) := hval 29 _ 35 rfl rfl (hld 29 (by kernel_rfl))
      have v35' : a.tmps[35]?.getD undef = .pointer (some ⟨M, 0, none⟩) := (Array.getD_eq_getD_getElem? ..).symm.trans v35
      have c0 := blkC hb 0 rfl
      go_simp
      exact ⟨_, rfl, .inl (gr_refl _ _), rfl, hS.skip _ (by decide) (by decide) (by decide) (gr_refl _ _)⟩
    · (change some _ = some o at ho; injection ho with ho; subst ho)
      have v36 : a.eval (.tmp 36) = .pointer (some ⟨M, 0, none⟩) := hval 30 _ 36 rfl rfl (hld 30 (by kernel_rfl))
      have v36' : a.tmps[36]?.getD undef = .pointer (some ⟨M, 0, none⟩) := (Array.getD_eq_getD_getElem? ..).symm.trans v36
      go_simp
      exact ⟨_, rfl, .inl (gr_refl _ _), rfl, hS.skip _ (by decide) (by decide) (by decide) (gr_refl _ _)⟩
    · (change some _ = some o at ho; injection ho with ho; subst ho)
      have v37 : a.eval (.tmp 37) = .pointer (some ⟨M, 0, none⟩) := hval 31 _ 37 rfl rfl (hld 31 (by kernel_rfl))
      have v37' : a.tmps[37]?.getD undef = .pointer (some ⟨M, 0, none⟩) := (Array.getD_eq_getD_getElem? ..).symm.trans v37
      go_simp
      exact ⟨_, rfl, .inl (gr_refl _ _), rfl, hS.skip _ (by decide) (by decide) (by decide) (gr_refl _ _)⟩
    · (change some _ = some o at ho; injection ho with ho; subst ho)
      have v38 : a.eval (.tmp 38) = .pointer (some ⟨M, 0, none⟩) := hval 32 _ 38 rfl rfl (hld 32 (by kernel_rfl))
      have v38' : a.tmps[38]?.getD undef = .pointer (some ⟨M, 0, none⟩) := (Array.getD_eq_getD_getElem? ..).symm.trans v38
      have c0 := blkC hb 0 rfl
      go_simp
      exact ⟨_, rfl, .inl (gr_refl _ _), rfl, hS.skip _ (by decide) (by decide) (by decide) (gr_refl _ _)⟩
    · (change some _ = some o at ho; injection ho with ho; subst ho)
      have v39 : a.eval (.tmp 39) = .slice ta c.tubes.length tc := hval 33 _ 39 rfl rfl (hld 33 (by kernel_rfl))
      have v39' : a.tmps[39]?.getD undef = .slice ta c.tubes.length tc := (Array.getD_eq_getD_getElem? ..).symm.trans v39
      go_simp
      refine (cloneTube_any ta c.tubes.length tc (tubes c.tubes) wx (flat_length encTube_len _) (HCT.out.keep0 (gr_trans G1.out hS.gr)) hnT (flat_ones encTube_one _) (by omega)).mono ?_
      rintro e wy ⟨v, rfl, ho, hg⟩
      exact ⟨v, rfl, .inl hg, own_base ho (Nat.le_trans G1.out.size hS.gr.size), hS.skip _ (by decide) (by decide) (by decide) hg⟩
    · (change some _ = some o at ho; injection ho with ho; subst ho)
      have v10 : a.eval (.tmp 10) = .int .i64 0 := hval 4 _ 10 rfl rfl (hld 4 (by kernel_rfl))
      have v10' : a.tmps[10]?.getD undef = .int .i64 0 := (Array.getD_eq_getD_getElem? ..).symm.trans v10
      have v15 : a.eval (.tmp 15) = .int .i64 0 := hval 9 _ 15 rfl rfl (hld 9 (by kernel_rfl))
      have v15' : a.tmps[15]?.getD undef = .int .i64 0 := (Array.getD_eq_getD_getElem? ..).symm.trans v15
      have v20 : a.eval (.tmp 20) = .int .i64 0 := hval 14 _ 20 rfl rfl (hld 14 (by kernel_rfl))
      have v20' : a.tmps[20]?.getD undef = .int .i64 0 := (Array.getD_eq_getD_getElem? ..).symm.trans v20
      have v25 : a.eval (.tmp 25) = .int .i64 0 := hval 19 _ 25 rfl rfl (hld 19 (by kernel_rfl))
      have v25' : a.tmps[25]?.getD undef = .int .i64 0 := (Array.getD_eq_getD_getElem? ..).symm.trans v25
      have v29 : a.eval (.tmp 29) = .int .i64 0 := hval 23 _ 29 rfl rfl (hld 23 (by kernel_rfl))
      have v29' : a.tmps[29]?.getD undef = .int .i64 0 := (Array.getD_eq_getD_getElem? ..).symm.trans v29
      have v34 : a.eval (.tmp 34) = .int .i64 S := hval 28 _ 34 rfl rfl (hld 28 (by kernel_rfl))
      have v34' : a.tmps[34]?.getD undef = .int .i64 S := (Array.getD_eq_getD_getElem? ..).symm.trans v34
      obtain ⟨x1, hx1⟩ : ∃ x, a.eval (.tmp 40) = x := ⟨_, rfl⟩
      have ox1 : wx.ownsRow w.heap.size 41 3 x1 c.tubes.length (tubes c.tubes) := hx1 ▸ hval 34 _ 40 rfl rfl (hld 34 (by kernel_rfl))
      have hx1' : a.tmps[40]?.getD undef = x1 := (Array.getD_eq_getD_getElem? ..).symm.trans hx1
      obtain ⟨sx1, sc1, rfl, _⟩ := own_shape ox1
      go_simp
      exact ⟨_, rfl, .inl (gr_refl _ _), ⟨_, rfl, ox1⟩, hS.skip _ (by decide) (by decide) (by decide) (gr_refl _ _)⟩
    · (change some _ = some o at ho; injection ho with ho; subst ho)
      go_simp
      have ga := gr_alloc (gr_refl wx none) (.cells #[.slice none 0 0, .int .i64 0, .int .i64 0, .int .i64 0, .int .i64 0, .int .i64 0, .int .i64 0, .slice none 0 0] 46)
      have h37 : listed.getD 37 false = false := hde 37 (by kernel_rfl)
      refine ⟨_, rfl, .inl ga, trivial, ⟨gr_trans hS.gr ga, (put_size _ _ _).trans hS.sz, fun _ => ⟨wx.heap.size, ?_, hS.gr.size, .inl ⟨by rw [getD_set_off (by decide)]; exact h37, heap_alloc_new _ _⟩⟩⟩⟩
      rw [put_get, if_pos ⟨rfl, by rw [hS.sz]; decide⟩]
    · (change some _ = some o at ho; injection ho with ho; subst ho)
      obtain ⟨q, hq, hqR, hc⟩ := hS.st (hld 36 (by kernel_rfl))
      have h37 : listed.getD 37 false = false := by
        have := hun
        rw [Array.getD_eq_getD_getElem?, Array.getElem?_eq_getElem (by rw [hls]; decide)] at this ⊢
        exact this
      have hz : wx.heap[q]? = some (.cells audit0 46 (0, 0)) := by
        rcases hc with ⟨_, h⟩ | ⟨h, _⟩
        · exact h
        · rw [h37] at h; cases h
      have v3 : a.eval (.tmp 3) = .pointer (some ⟨q, 0, none⟩) := hq
      have v3' : a.tmps[3]?.getD undef = .pointer (some ⟨q, 0, none⟩) := (Array.getD_eq_getD_getElem? ..).symm.trans hq
      obtain ⟨sl, hsl, osl⟩ : ∃ sl, a.eval (.tmp 41) = .agg (auditF S sl) ∧ wx.ownsRow w.heap.size 41 3 sl c.tubes.length (tubes c.tubes) := hval 35 _ 41 rfl rfl (hld 35 (by kernel_rfl))
      obtain ⟨sx1, sc1, rfl, _⟩ := own_shape osl
      have v41 : a.eval (.tmp 41) = .agg #[.slice none 0 0, .int .i64 0, .int .i64 0, .int .i64 0, .int .i64 0, .int .i64 0, .int .i64 S, .slice sx1 c.tubes.length sc1] := hsl
      have v41' : a.tmps[41]?.getD undef = .agg #[.slice none 0 0, .int .i64 0, .int .i64 0, .int .i64 0, .int .i64 0, .int .i64 0, .int .i64 S, .slice sx1 c.tubes.length sc1] := (Array.getD_eq_getD_getElem? ..).symm.trans v41
      have c0 := blkC hz 0 rfl
      have z0 := blkF hz 0
      have c1 := blkC hz 1 rfl
      have z1 := blkF hz 1
      have c2 := blkC hz 2 rfl
      have z2 := blkF hz 2
      have c3 := blkC hz 3 rfl
      have z3 := blkF hz 3
      have c4 := blkC hz 4 rfl
      have z4 := blkF hz 4
      have c5 := blkC hz 5 rfl
      have z5 := blkF hz 5
      have c6 := blkC hz 6 rfl
      have z6 := blkF hz 6
      have c7 := blkC hz 7 rfl
      have z7 := blkF hz 7
      go_simp
      have gs := gr_set (q := ⟨q, 7, none⟩) (gr_set (q := ⟨q, 6, none⟩) (gr_set (q := ⟨q, 5, none⟩) (gr_set (q := ⟨q, 4, none⟩) (gr_set (q := ⟨q, 3, none⟩) (gr_set (q := ⟨q, 2, none⟩) (gr_set (q := ⟨q, 1, none⟩) (gr_set (q := ⟨q, 0, none⟩) (gr_refl wx (some q)) rfl (.slice none 0 0)) rfl (.int .i64 0)) rfl (.int .i64 0)) rfl (.int .i64 0)) rfl (.int .i64 0)) rfl (.int .i64 0)) rfl (.int .i64 S)) rfl (.slice sx1 c.tubes.length sc1)
      have hs8 := heap_setCell_same _ q 7 _ _ (.slice sx1 c.tubes.length sc1) (heap_setCell_same _ q 6 _ _ (.int .i64 S) (heap_setCell_same _ q 5 _ _ (.int .i64 0) (heap_setCell_same _ q 4 _ _ (.int .i64 0) (heap_setCell_same _ q 3 _ _ (.int .i64 0) (heap_setCell_same _ q 2 _ _ (.int .i64 0) (heap_setCell_same _ q 1 _ _ (.int .i64 0) (heap_setCell_same _ q 0 _ _ (.slice none 0 0) (hz))))))))
      exact ⟨undef, rfl, .inr ⟨q, _, hz, gs⟩, trivial, ⟨gr_grown hS.gr gs (fun z hz2 => by injection hz2 with hz2; rw [← hz2]; exact hqR), hS.sz, fun _ => ⟨q, hq, hqR, .inr ⟨getD_set_eq (by rw [hls]; decide), _, hs8, own_keep osl gs (.inr (own_ne osl hz (by decide)))⟩⟩⟩⟩
  · intro vs listed wx hls hall hS hval
    obtain ⟨q, hq, hqR, hc⟩ := hS.st (getD_tf (by rw [hls]; decide) (hall 36 (by decide)))
    have hv3 : vs 36 = .pointer (some ⟨q, 0, none⟩) := (hval 36 _ 3 rfl rfl).2.symm.trans hq
    have h37 := getD_tf (by rw [hls]; decide) (hall 37 (by decide))
    obtain ⟨sl, hqb, osl⟩ : ∃ sl, wx.heap[q]? = some (.cells (auditF S sl) 46 (0, 0)) ∧ wx.ownsRow w.heap.size 41 3 sl c.tubes.length (tubes c.tubes) := by
      rcases hc with ⟨h, _⟩ | ⟨_, h⟩
      · rw [h37] at h; cases h
      · exact h
    obtain ⟨xa, xc, rfl, _⟩ := own_shape osl
    have hgx := gr_trans G1.out hS.gr
    have HRX := Lib.hid ((hS.gr.block A hz1 (by simp)).trans HR1.out)
    have HX := Lib.hid (H1.out.keep0 hS.gr)
    have HQB := Lib.hid hqb
    have HOSL := Lib.hid osl
    have hgx1 := hS.gr
    clear hc hq hS hval hqb osl h37 hall
    simp only [putAll]
    obtain ⟨sa, sc, rfl, _, _, hsc, _⟩ := own_shape HX.out.s
    have hHX := HX.out.blk
    have d2 := blkC hHX 2 rfl
    have HSC := Lib.hid hsc
    have HS1 := Lib.hid (show CellsAt w1 sa (flat encSlot c.slots) by obtain ⟨_, _, he, _, _, hc, _⟩ := own_shape H1.out.s; cases he; exact hc)
    clear hHX hsc
    go_wp2_with (fail)
    clear d2
    obtain ⟨TL, hTL⟩ : ∃ TL : List Tally, TL = c.slots.map fun s => ⟨s.key, 0, 0⟩ := ⟨_, rfl⟩
    have hTLl : TL.length = c.slots.length := by rw [hTL]; simp
    have HTL := Lib.hid hTL
    clear hTL
    go_loopw [48] (fun ix wr => ∃ (k : Nat) (dv : Value), k ≤ c.slots.length ∧ ix = .int .i64 k ∧ wr.heap[q]? = some (.cells #[dv, .int .i64 0, .int .i64 0, .int .i64 0, .int .i64 0, .int .i64 0, .int .i64 S, .slice xa c.tubes.length xc] 46 (0, 0)) ∧
        wr.ownsRow w1.heap.size 79 3 dv k (flat encTally (TL.take k)) ∧ wr.ownsRow w.heap.size 41 3 (.slice xa c.tubes.length xc) c.tubes.length (tubes c.tubes) ∧ w1.grownBy wr none)
      (fun ix _ => c.slots.length - (intOf ix).toNat)
    case atStart => exact ⟨0, .slice none 0 0, Nat.zero_le _, rfl, HQB.out, World.ownsRow_nil _ _ _ _, HOSL.out, hgx1⟩
    case round =>
      obtain ⟨k, dv, hk, rfl, hqr, hdv, hslr, hgr⟩ := hrel
      obtain ⟨wo, rfl⟩ : ∃ wo : World, wo = wr := ⟨_, rfl⟩
      have HR := Lib.hid (H1.out.keep0 hgr)
      have HQ := Lib.hid hqr; have HDV := Lib.hid hdv; have HSL := Lib.hid hslr
      clear hqr hdv hslr
      by_cases hlt : k < c.slots.length
      · obtain ⟨b, off, rfl, hcs⟩ := slot_cells (HS1.out.keep0 hgr) k hlt
        obtain ⟨c0, c1, c2, c3, c4⟩ := hcs k hlt
        obtain ⟨x, hx⟩ : ∃ x, x = slotAt c.slots k := ⟨_, rfl⟩
        rw [← hx] at c0 c1 c2 c3 c4
        have HX3 := Lib.hid hx
        clear hx hcs
        go_upto_region 5 with (fail)
        have hq3 := heap_alloc_new wo (.cells #[.string x.key, .string x.prod, .int .i64 x.price, .int .i64 x.most, .int .i64 x.count] 43)
        have hg3 := gr_alloc (gr_refl wo none) (.cells #[.string x.key, .string x.prod, .int .i64 x.price, .int .i64 x.most, .int .i64 x.count] 43)
        obtain ⟨w3, hw3⟩ : ∃ w3, w3 = wo.alloc (.cells #[.string x.key, .string x.prod, .int .i64 x.price, .int .i64 x.most, .int .i64 x.count] 43) := ⟨_, rfl⟩
        rw [← hw3] at hq3 hg3
        rw [← hw3]
        obtain ⟨sb, hse⟩ : ∃ sb, sb = wo.heap.size := ⟨_, rfl⟩
        rw [← hse] at hq3
        rw [← hse]
        clear hw3 hse c0 c1 c2 c3 c4
        have e0 : w3.cell? ⟨sb, 0, none⟩ = some (.string x.key) := blkC hq3 0 rfl
        have hgr3 := gr_trans hgr hg3
        have h3 := HR.out.keep0 hg3
        have m7 : w3.cell? ⟨M, 7, none⟩ = some (.map (some b2)) := blkC h3.blk 7 rfl
        have hqd := (hg3.block q (lt_of_block HQ.out) (by simp)).trans HQ.out
        have h6d := own_keep0 HDV.out hg3
        have hsl3 := own_keep0 HSL.out hg3
        obtain ⟨da, dc, rfl, _⟩ := own_shape h6d
        have gd := gr_drew (gr_refl w3 none)
        obtain ⟨X, hX⟩ : ∃ X : RbC, X = ⟨q, sb, M, b2, x.key, x.prod, x.price, x.most, x.count, .slice da k dc, k, flat encTally (TL.take k), w1.heap.size, w.heap.size, S, .slice xa c.tubes.length xc, c.tubes.length, tubes c.tubes⟩ := ⟨_, rfl⟩
        have hS0 : RbS w1 X (Array.replicate 25 false) w3.drew := by
          rw [hX]
          exact ⟨gr_trans hgr3 gd, hq3, own_keep0 hsl3 gd, fun _ => own_keep0 h6d gd, fun _ => hqd, fun h => by simp at h⟩
        clear h6d hsl3 hqd hq3 e0 m7 h3
        have HMX := Lib.hid hX
        refine wp_region_plan (by kernel_rfl) (by kernel_rfl) (by kernel_rfl) (by decide) (by kernel_rfl) 12 (fun i w w' => RbGi X i w w') (RbV X) (fun i j v wx wy _ _ hne _ h g => h.keep (fun e => by omega) g.1 g.2) (RbS w1 X) hS0 ?_ ?_
        · subst hX
          intro i o listed a wx ho hls hun hpre hde hld hS hout hval
          have hi : i < 25 := (List.getElem?_eq_some_iff.1 ho).1
          have e0 : a.eval (.tmp 0) = .pointer (some ⟨M, 0, none⟩) := hout 0 (by decide)
          have e0' : a.tmps[0]?.getD undef = .pointer (some ⟨M, 0, none⟩) := (Array.getD_eq_getD_getElem? ..).symm.trans e0
          have e3 : a.eval (.tmp 3) = .pointer (some ⟨q, 0, none⟩) := hout 3 (by decide)
          have e3' : a.tmps[3]?.getD undef = .pointer (some ⟨q, 0, none⟩) := (Array.getD_eq_getD_getElem? ..).symm.trans e3
          have e5 : a.eval (.tmp 5) = .pointer (some ⟨sb, 0, none⟩) := hout 5 (by decide)
          have e5' : a.tmps[5]?.getD undef = .pointer (some ⟨sb, 0, none⟩) := (Array.getD_eq_getD_getElem? ..).symm.trans e5
          have hHx := H1.out.keep0 hS.gr
          obtain rfl | rfl | rfl | rfl | rfl | rfl | rfl | rfl | rfl | rfl | rfl | rfl | rfl | rfl | rfl | rfl | rfl | rfl | rfl | rfl | rfl | rfl | rfl | rfl | rfl : i = 0 ∨ i = 1 ∨ i = 2 ∨ i = 3 ∨ i = 4 ∨ i = 5 ∨ i = 6 ∨ i = 7 ∨ i = 8 ∨ i = 9 ∨ i = 10 ∨ i = 11 ∨ i = 12 ∨ i = 13 ∨ i = 14 ∨ i = 15 ∨ i = 16 ∨ i = 17 ∨ i = 18 ∨ i = 19 ∨ i = 20 ∨ i = 21 ∨ i = 22 ∨ i = 23 ∨ i = 24 := by omega
          · (change some _ = some o at ho; injection ho with ho; subst ho)
            go_simp
            exact ⟨_, rfl, .none (gr_refl _ _), rfl, hS.skip (by decide) (by decide) (gr_refl _ _)⟩
          · (change some _ = some o at ho; injection ho with ho; subst ho)
            have v52 : a.eval (.tmp 52) = .pointer (some ⟨q, 0, none⟩) := hval 0 _ 52 rfl rfl (hld 0 (by kernel_rfl))
            have v52' : a.tmps[52]?.getD undef = .pointer (some ⟨q, 0, none⟩) := (Array.getD_eq_getD_getElem? ..).symm.trans v52
            have c0 := blkC (hS.q0 (hde 24 (by kernel_rfl))) 0 rfl
            go_simp
            exact ⟨_, rfl, .none (gr_refl _ _), rfl, hS.skip (by decide) (by decide) (gr_refl _ _)⟩
          · (change some _ = some o at ho; injection ho with ho; subst ho)
            go_simp
            exact ⟨_, rfl, .none (gr_refl _ _), rfl, hS.skip (by decide) (by decide) (gr_refl _ _)⟩
          · (change some _ = some o at ho; injection ho with ho; subst ho)
            have v54 : a.eval (.tmp 54) = .pointer (some ⟨sb, 0, none⟩) := hval 2 _ 54 rfl rfl (hld 2 (by kernel_rfl))
            have v54' : a.tmps[54]?.getD undef = .pointer (some ⟨sb, 0, none⟩) := (Array.getD_eq_getD_getElem? ..).symm.trans v54
            have c0 := blkC hS.sb 0 rfl
            go_simp
            exact ⟨_, rfl, .none (gr_refl _ _), rfl, hS.skip (by decide) (by decide) (gr_refl _ _)⟩
          · (change some _ = some o at ho; injection ho with ho; subst ho)
            go_simp
            exact ⟨_, rfl, .none (gr_refl _ _), rfl, hS.skip (by decide) (by decide) (gr_refl _ _)⟩
          · (change some _ = some o at ho; injection ho with ho; subst ho)
            have v56 : a.eval (.tmp 56) = .pointer (some ⟨M, 0, none⟩) := hval 4 _ 56 rfl rfl (hld 4 (by kernel_rfl))
            have v56' : a.tmps[56]?.getD undef = .pointer (some ⟨M, 0, none⟩) := (Array.getD_eq_getD_getElem? ..).symm.trans v56
            have c0 := blkC hHx.blk 0 rfl
            go_simp
            exact ⟨_, rfl, .none (gr_refl _ _), rfl, hS.skip (by decide) (by decide) (gr_refl _ _)⟩
          · (change some _ = some o at ho; injection ho with ho; subst ho)
            have v57 : a.eval (.tmp 57) = .pointer (some ⟨M, 0, none⟩) := hval 5 _ 57 rfl rfl (hld 5 (by kernel_rfl))
            have v57' : a.tmps[57]?.getD undef = .pointer (some ⟨M, 0, none⟩) := (Array.getD_eq_getD_getElem? ..).symm.trans v57
            go_simp
            exact ⟨_, rfl, .none (gr_refl _ _), rfl, hS.skip (by decide) (by decide) (gr_refl _ _)⟩
          · (change some _ = some o at ho; injection ho with ho; subst ho)
            have v58 : a.eval (.tmp 58) = .pointer (some ⟨M, 7, none⟩) := hval 6 _ 58 rfl rfl (hld 6 (by kernel_rfl))
            have v58' : a.tmps[58]?.getD undef = .pointer (some ⟨M, 7, none⟩) := (Array.getD_eq_getD_getElem? ..).symm.trans v58
            have c0 := blkC hHx.blk 7 rfl
            go_simp
            exact ⟨_, rfl, .none (gr_refl _ _), rfl, hS.skip (by decide) (by decide) (gr_refl _ _)⟩
          · (change some _ = some o at ho; injection ho with ho; subst ho)
            go_simp
            exact ⟨_, rfl, .none (gr_refl _ _), rfl, hS.skip (by decide) (by decide) (gr_refl _ _)⟩
          · (change some _ = some o at ho; injection ho with ho; subst ho)
            have v60 : a.eval (.tmp 60) = .pointer (some ⟨sb, 0, none⟩) := hval 8 _ 60 rfl rfl (hld 8 (by kernel_rfl))
            have v60' : a.tmps[60]?.getD undef = .pointer (some ⟨sb, 0, none⟩) := (Array.getD_eq_getD_getElem? ..).symm.trans v60
            have c0 := blkC hS.sb 0 rfl
            go_simp
            exact ⟨_, rfl, .none (gr_refl _ _), rfl, hS.skip (by decide) (by decide) (gr_refl _ _)⟩
          · (change some _ = some o at ho; injection ho with ho; subst ho)
            have v59 : a.eval (.tmp 59) = .map (some b2) := hval 7 _ 59 rfl rfl (hld 7 (by kernel_rfl))
            have v59' : a.tmps[59]?.getD undef = .map (some b2) := (Array.getD_eq_getD_getElem? ..).symm.trans v59
            have v61 : a.eval (.tmp 61) = .string x.key := hval 9 _ 61 rfl rfl (hld 9 (by kernel_rfl))
            have v61' : a.tmps[61]?.getD undef = .string x.key := (Array.getD_eq_getD_getElem? ..).symm.trans v61
            have hlk := lookup_empty wx b2 x.key hHx.m2
            go_simp
            exact ⟨_, rfl, .none (gr_refl _ _), rfl, hS.skip (by decide) (by decide) (gr_refl _ _)⟩
          · (change some _ = some o at ho; injection ho with ho; subst ho)
            have v62 : a.eval (.tmp 62) = .slice none 0 0 := hval 10 _ 62 rfl rfl (hld 10 (by kernel_rfl))
            have v62' : a.tmps[62]?.getD undef = .slice none 0 0 := (Array.getD_eq_getD_getElem? ..).symm.trans v62
            go_simp
            exact ⟨_, rfl, .none (gr_refl _ _), rfl, hS.skip (by decide) (by decide) (gr_refl _ _)⟩
          · (change some _ = some o at ho; injection ho with ho; subst ho)
            go_simp
            exact ⟨_, rfl, .none (gr_refl _ _), rfl, hS.skip (by decide) (by decide) (gr_refl _ _)⟩
          · (change some _ = some o at ho; injection ho with ho; subst ho)
            have v64 : a.eval (.tmp 64) = .pointer (some ⟨M, 0, none⟩) := hval 12 _ 64 rfl rfl (hld 12 (by kernel_rfl))
            have v64' : a.tmps[64]?.getD undef = .pointer (some ⟨M, 0, none⟩) := (Array.getD_eq_getD_getElem? ..).symm.trans v64
            have c0 := blkC hHx.blk 0 rfl
            go_simp
            exact ⟨_, rfl, .none (gr_refl _ _), rfl, hS.skip (by decide) (by decide) (gr_refl _ _)⟩
          · (change some _ = some o at ho; injection ho with ho; subst ho)
            have v65 : a.eval (.tmp 65) = .pointer (some ⟨M, 0, none⟩) := hval 13 _ 65 rfl rfl (hld 13 (by kernel_rfl))
            have v65' : a.tmps[65]?.getD undef = .pointer (some ⟨M, 0, none⟩) := (Array.getD_eq_getD_getElem? ..).symm.trans v65
            go_simp
            exact ⟨_, rfl, .none (gr_refl _ _), rfl, hS.skip (by decide) (by decide) (gr_refl _ _)⟩
          · (change some _ = some o at ho; injection ho with ho; subst ho)
            have v66 : a.eval (.tmp 66) = .pointer (some ⟨M, 7, none⟩) := hval 14 _ 66 rfl rfl (hld 14 (by kernel_rfl))
            have v66' : a.tmps[66]?.getD undef = .pointer (some ⟨M, 7, none⟩) := (Array.getD_eq_getD_getElem? ..).symm.trans v66
            have c0 := blkC hHx.blk 7 rfl
            go_simp
            exact ⟨_, rfl, .none (gr_refl _ _), rfl, hS.skip (by decide) (by decide) (gr_refl _ _)⟩
          · (change some _ = some o at ho; injection ho with ho; subst ho)
            go_simp
            exact ⟨_, rfl, .none (gr_refl _ _), rfl, hS.skip (by decide) (by decide) (gr_refl _ _)⟩
          · (change some _ = some o at ho; injection ho with ho; subst ho)
            have v68 : a.eval (.tmp 68) = .pointer (some ⟨sb, 0, none⟩) := hval 16 _ 68 rfl rfl (hld 16 (by kernel_rfl))
            have v68' : a.tmps[68]?.getD undef = .pointer (some ⟨sb, 0, none⟩) := (Array.getD_eq_getD_getElem? ..).symm.trans v68
            have c0 := blkC hS.sb 0 rfl
            go_simp
            exact ⟨_, rfl, .none (gr_refl _ _), rfl, hS.skip (by decide) (by decide) (gr_refl _ _)⟩
          · (change some _ = some o at ho; injection ho with ho; subst ho)
            have v67 : a.eval (.tmp 67) = .map (some b2) := hval 15 _ 67 rfl rfl (hld 15 (by kernel_rfl))
            have v67' : a.tmps[67]?.getD undef = .map (some b2) := (Array.getD_eq_getD_getElem? ..).symm.trans v67
            have v69 : a.eval (.tmp 69) = .string x.key := hval 17 _ 69 rfl rfl (hld 17 (by kernel_rfl))
            have v69' : a.tmps[69]?.getD undef = .string x.key := (Array.getD_eq_getD_getElem? ..).symm.trans v69
            have hlk := lookup_empty wx b2 x.key hHx.m2
            go_simp
            exact ⟨_, rfl, .none (gr_refl _ _), rfl, hS.skip (by decide) (by decide) (gr_refl _ _)⟩
          · (change some _ = some o at ho; injection ho with ho; subst ho)
            have v70 : a.eval (.tmp 70) = .slice none 0 0 := hval 18 _ 70 rfl rfl (hld 18 (by kernel_rfl))
            have v70' : a.tmps[70]?.getD undef = .slice none 0 0 := (Array.getD_eq_getD_getElem? ..).symm.trans v70
            go_simp
            refine (SUM0.out wx).mono ?_
            rintro e wy ⟨rfl, rfl⟩
            exact ⟨_, rfl, .none (gr_refl _ _), rfl, hS.skip (by decide) (by decide) (gr_refl _ _)⟩
          · (change some _ = some o at ho; injection ho with ho; subst ho)
            have v55 : a.eval (.tmp 55) = .string x.key := hval 3 _ 55 rfl rfl (hld 3 (by kernel_rfl))
            have v55' : a.tmps[55]?.getD undef = .string x.key := (Array.getD_eq_getD_getElem? ..).symm.trans v55
            have v63 : a.eval (.tmp 63) = .int .i64 0 := hval 11 _ 63 rfl rfl (hld 11 (by kernel_rfl))
            have v63' : a.tmps[63]?.getD undef = .int .i64 0 := (Array.getD_eq_getD_getElem? ..).symm.trans v63
            have v71 : a.eval (.tmp 71) = .int .i64 0 := hval 19 _ 71 rfl rfl (hld 19 (by kernel_rfl))
            have v71' : a.tmps[71]?.getD undef = .int .i64 0 := (Array.getD_eq_getD_getElem? ..).symm.trans v71
            go_simp
            exact ⟨_, rfl, .none (gr_refl _ _), rfl, hS.skip (by decide) (by decide) (gr_refl _ _)⟩
          · (change some _ = some o at ho; injection ho with ho; subst ho)
            have v72 : a.eval (.tmp 72) = .agg #[.string x.key, .int .i64 0, .int .i64 0] := hval 20 _ 72 rfl rfl (hld 20 (by kernel_rfl))
            have v72' : a.tmps[72]?.getD undef = .agg #[.string x.key, .int .i64 0, .int .i64 0] := (Array.getD_eq_getD_getElem? ..).symm.trans v72
            go_simp
            have ga := gr_alloc (gr_refl wx none) (.cells #[.string x.key, .int .i64 0, .int .i64 0] 79)
            refine ⟨_, rfl, .none ga, ⟨wx.heap.size, rfl, heap_alloc_new _ _, fun e => ?_⟩, hS.skip (by decide) (by decide) ga⟩
            have h22 : listed.getD 22 false = false := hde 22 (by kernel_rfl)
            obtain ⟨cs, hcs⟩ := own_blk (hS.own h22) e
            have := lt_of_block hcs
            omega
          · (change some _ = some o at ho; injection ho with ho; subst ho)
            have v53 : a.eval (.tmp 53) = .slice da k dc := hval 1 _ 53 rfl rfl (hld 1 (by kernel_rfl))
            have v53' : a.tmps[53]?.getD undef = .slice da k dc := (Array.getD_eq_getD_getElem? ..).symm.trans v53
            have h22 : listed.getD 22 false = false := by
              rw [Array.getD_eq_getD_getElem?, Array.getElem?_eq_getElem (by rw [hls]; decide)] at hun ⊢
              exact hun
            obtain ⟨g, hgv, hgb, hgn⟩ : ∃ g, a.eval (.tmp 73) = .slice (some ⟨g, 0, none⟩) 1 1 ∧ wx.heap[g]? = some (.cells #[.string x.key, .int .i64 0, .int .i64 0] 79 (0, 0)) ∧ (Value.slice da k dc).ownBlock ≠ some g := hval 21 _ 73 rfl rfl (hld 21 (by kernel_rfl))
            have hown := hS.own h22
            have h24 : listed.getD 24 false = false := hde 24 (by kernel_rfl)
            have hq := hS.q0 h24
            have hsz := hS.gr.size
            refine oper_app eTally (.tmp 53) (.tmp 73) rfl w1.heap.size _ k (flat encTally (TL.take k)) v53 #[.string x.key, .int .i64 0, .int .i64 0] g hgv hgb hown rfl rfl (by omega) hsz ?_
            intro v' w' ho' hg'
            obtain ⟨g', c', rfl, _⟩ := own_some ho' (by omega)
            refine ⟨_, rfl, ⟨.inr (.inl ⟨hown, hg'⟩), fun h => absurd rfl h⟩, ⟨g', c', rfl, ho'⟩, ⟨gr_grown hS.gr hg' (fun z hz => own_ge hown hz), ?_, own_keepU hS.sl hown (by decide) hg', ?_, ?_, ?_⟩⟩
            · exact (hg'.block _ (lt_of_block hS.sb) (fun e => own_ne hown hS.sb (by decide) e.symm)).trans hS.sb
            · rw [getD_set_eq (by rw [hls]; decide)]; intro h; cases h
            · intro _; exact (hg'.block _ (lt_of_block hq) (fun e => own_ne hown hq (by decide) e.symm)).trans hq
            · rw [getD_set_off (by decide), h24]; intro h; cases h
          · (change some _ = some o at ho; injection ho with ho; subst ho)
            go_simp
            exact ⟨_, rfl, .none (gr_refl _ _), rfl, hS.skip (by decide) (by decide) (gr_refl _ _)⟩
          · (change some _ = some o at ho; injection ho with ho; subst ho)
            have v75 : a.eval (.tmp 75) = .pointer (some ⟨q, 0, none⟩) := hval 23 _ 75 rfl rfl (hld 23 (by kernel_rfl))
            have v75' : a.tmps[75]?.getD undef = .pointer (some ⟨q, 0, none⟩) := (Array.getD_eq_getD_getElem? ..).symm.trans v75
            have hv22 : RbV _ 22 (a.tmps.getD 74 undef) wx := hval 22 _ 74 rfl rfl (hld 22 (by kernel_rfl))
            obtain ⟨g, c', hgv0, ho'⟩ := hv22
            rw [hgv0] at ho'
            have hgv : a.eval (.tmp 74) = .slice (some ⟨g, 0, none⟩) (k + 1) c' := hgv0
            have hgv' : a.tmps[74]?.getD undef = .slice (some ⟨g, 0, none⟩) (k + 1) c' := (Array.getD_eq_getD_getElem? ..).symm.trans hgv
            have h24 : listed.getD 24 false = false := by
              rw [Array.getD_eq_getD_getElem?, Array.getElem?_eq_getElem (by rw [hls]; decide)] at hun ⊢
              exact hun
            have hq := hS.q0 h24
            have h22 : listed.getD 22 false = true := hld 22 (by kernel_rfl)
            have c0 := blkC hq 0 rfl
            have z0 := blkF hq 0
            go_simp
            have gs := gr_set (q := ⟨q, 0, none⟩) (gr_refl wx (some q)) rfl (.slice (some ⟨g, 0, none⟩) (k + 1) c')
            have hs := heap_setCell_same wx q 0 _ _ (.slice (some ⟨g, 0, none⟩) (k + 1) c') hq
            refine ⟨undef, rfl, ⟨.inr (.inr ⟨_, hq, gs⟩), fun _ => .inr ⟨_, hq, gs⟩⟩, trivial, ⟨gr_grown hS.gr gs (fun z hz => by injection hz with hz; rw [← hz]; exact hqR), ?_, own_keep hS.sl gs (.inr (own_ne hS.sl hq (by decide))), ?_, ?_, ?_⟩⟩
            · refine (gs.block _ (lt_of_block hS.sb) (fun e => ?_)).trans hS.sb
              injection e with e
              have h1 := hS.sb
              rw [e, hq] at h1
              injection h1 with h1
              injection h1 with _ h1
              exact absurd h1 (by decide)
            · rw [getD_set_off (by decide), h22]; intro h; cases h
            · rw [getD_set_eq (by rw [hls]; decide)]; intro h; cases h
            · intro _; exact ⟨_, hs, own_keep ho' gs (.inr (own_ne ho' hq (by decide)))⟩
        · intro vs5 listed wx5 hls hall hS hval
          obtain ⟨v5, hq5, ho5⟩ := hS.q1 (getD_tf (by rw [hls]; decide) (hall 24 (by decide)))
          have hgr5 := hS.gr
          have hsl5 := hS.sl
          rw [HMX.out] at hq5 ho5 hsl5
          clear hS hval hall hls
          simp only [putAll]
          have hxk : TL.take (k + 1) = TL.take k ++ [⟨x.key, 0, 0⟩] := by
            rw [List.take_add_one, HTL.out, List.getElem?_map, List.getElem?_eq_getElem hlt, HX3.out]
            simp [slotAt, List.getD_eq_getElem?_getD, List.getElem?_eq_getElem hlt]
          have HQ5 := Lib.hid hq5; have HO5 := Lib.hid ho5; have HS5 := Lib.hid hsl5; have HXK := Lib.hid hxk
          clear hq5 ho5 hsl5 hxk hX
          go_wp2_with (fail)
          go_roundw
          case rel =>
            refine ⟨k + 1, v5, by omega, by go_num, HQ5.out, ?_, HS5.out, hgr5⟩
            rw [HXK.out, flat_append]
            exact HO5.out
          case measure => simp [intOf]; omega
      · obtain rfl : k = c.slots.length := by omega
        have htk : TL.take c.slots.length = TL := List.take_of_length_le (by omega)
        have hd0 := HDV.out
        rw [htk] at hd0
        obtain ⟨da, dc, rfl, _⟩ := own_shape hd0
        have HD0 := Lib.hid hd0
        have hqo := HQ.out
        have hAo := (hgr.block A hz1 (by simp)).trans HR1.out
        have HAO := Lib.hid hAo
        have o0 := blkC hqo 0 rfl
        have o1 := blkC hqo 1 rfl
        have o2 := blkC hqo 2 rfl
        have o3 := blkC hqo 3 rfl
        have o4 := blkC hqo 4 rfl
        have o5 := blkC hqo 5 rfl
        have o6 := blkC hqo 6 rfl
        have o7 := blkC hqo 7 rfl
        have r0 := blkC hAo 0 rfl
        have s0 := blkF hAo 0
        have r1 := blkC hAo 1 rfl
        have s1 := blkF hAo 1
        have r2 := blkC hAo 2 rfl
        have s2 := blkF hAo 2
        have r3 := blkC hAo 3 rfl
        have s3 := blkF hAo 3
        have r4 := blkC hAo 4 rfl
        have s4 := blkF hAo 4
        have r5 := blkC hAo 5 rfl
        have s5 := blkF hAo 5
        have r6 := blkC hAo 6 rfl
        have s6 := blkF hAo 6
        have r7 := blkC hAo 7 rfl
        have s7 := blkF hAo 7
        clear hqo hAo hd0 htk
        go_wp2_with (fail)
        have hAo := HAO.out
        have gA := fun (a0 a1 a2 a3 a4 a5 a6 a7 : Value) => (show wo.grownBy ((((((((wo.setCell ⟨A, 0, none⟩ a0).setCell ⟨A, 1, none⟩ a1).setCell ⟨A, 2, none⟩ a2).setCell ⟨A, 3, none⟩ a3).setCell ⟨A, 4, none⟩ a4).setCell ⟨A, 5, none⟩ a5).setCell ⟨A, 6, none⟩ a6).setCell ⟨A, 7, none⟩ a7) (some A) from gr_set (q := ⟨A, 7, none⟩) (gr_set (q := ⟨A, 6, none⟩) (gr_set (q := ⟨A, 5, none⟩) (gr_set (q := ⟨A, 4, none⟩) (gr_set (q := ⟨A, 3, none⟩) (gr_set (q := ⟨A, 2, none⟩) (gr_set (q := ⟨A, 1, none⟩) (gr_set (q := ⟨A, 0, none⟩) (gr_refl wo (some A)) rfl _) rfl _) rfl _) rfl _) rfl _) rfl _) rfl _) rfl _)
        have keyD : ∀ w', wo.grownBy w' (some A) → CellsAt w' da (flat encTally TL) := by
          intro w' g
          have h1 := own_keep HD0.out g (.inr (own_ne HD0.out hAo (by decide)))
          obtain ⟨_, _, he, _, _, hcc, _⟩ := own_shape h1
          cases he
          exact hcc
        have keyT : ∀ w', wo.grownBy w' (some A) → CellsAt w' xa (flat encTube c.tubes) := by
          intro w' g
          have h1 := own_keep HSL.out g (.inr (own_ne HSL.out hAo (by decide)))
          obtain ⟨_, _, he, _, _, hcc, _⟩ := own_shape h1
          cases he
          exact hcc
        refine bodyPost_ret (results_cell_row (p := 2) (by kernel_rfl) _ _ A _ #[_, _, _, _, _, _, _, _] _ (.struct dt) rfl (heap_setCell_same _ A 7 _ _ _ (heap_setCell_same _ A 6 _ _ _ (heap_setCell_same _ A 5 _ _ _ (heap_setCell_same _ A 4 _ _ _ (heap_setCell_same _ A 3 _ _ _ (heap_setCell_same _ A 2 _ _ _ (heap_setCell_same _ A 1 _ _ _ (heap_setCell_same _ A 0 _ _ _ (hAo))))))))) hd1 rfl (by kernel_rfl)) rfl ⟨_, rfl, ⟨⟨da, dc, xa, xc, ?_, ?_, ?_⟩⟩, ?_⟩
        · rw [← HSE.out, List.length_map]
        · rw [← HTL.out]
          exact keyD _ (gA _ _ _ _ _ _ _ _)
        · exact keyT _ (gA _ _ _ _ _ _ _ _)
        · exact gr_grown (gr_trans G1.out hgr) (gA _ _ _ _ _ _ _ _) (fun z hz => by injection hz with hz; rw [← hz, HA.out]; exact Nat.le_refl _)
end Go.Proofs.YtdjnomeabadbnaaDoor
