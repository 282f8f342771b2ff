/- What a basket costs, and that deals never make it dearer: plain laws, no program in sight. -/
import Derived.Test.YthikknnadmebgaaGreatDoorPkSAc
namespace Go.Proofs.YthikknnadmebgaaGreatDoor

/-- An item of a basket: its price, its group, how many. -/
structure Itm where
  price : Int
  group : ByteArray
  many : Int
def dlSame (a b : ByteArray) : Bool := a.toList == b.toList
def dlTot (I : List Itm) : Int := (I.map fun x => x.price * x.many).sum
def dlUn (g : ByteArray) (I : List Itm) : List Int := I.flatMap fun x => if dlSame x.group g then List.replicate x.many.toNat x.price else []
def sortD (u : List Int) : List Int := u.mergeSort (fun a b => decide (b ≤ a))
theorem sortD_perm (u : List Int) : (sortD u).Perm u := List.mergeSort_perm _ _
theorem sortD_desc (u : List Int) : Desc (sortD u) := by
  have h := List.pairwise_mergeSort (le := fun (a b : Int) => decide (b ≤ a)) (fun a b c h1 h2 => by simp at *; omega) (fun a b => by simp; omega) u
  exact h.imp (fun hab => by simpa using hab)
theorem sortD_of {u O : List Int} (hp : O.Perm u) (hd : Desc O) : O = sortD u := desc_perm hd (sortD_desc u) (hp.trans (sortD_perm u).symm)
/-- A deal, as the price sees it. -/
structure Dl where
  group : ByteArray
  many : Nat
  free : Nat
def dlFree (I : List Itm) (d : Dl) : Int := freeSum d.many d.free (sortD (dlUn d.group I))
def dlOff (I : List Itm) (D : List Dl) : Int := (D.map (dlFree I)).sum
structure ItOk (I : List Itm) : Prop where
  price : ∀ x ∈ I, 0 ≤ x.price
  many : ∀ x ∈ I, 0 ≤ x.many
def DlOk (D : List Dl) : Prop := D.Pairwise (fun a b => dlSame a.group b.group = false)
theorem ItOk.tail {x : Itm} {I : List Itm} (h : ItOk (x :: I)) : ItOk I := ⟨fun y hy => h.price y (by simp [hy]), fun y hy => h.many y (by simp [hy])⟩
theorem dlUn_pos {I : List Itm} (h : ItOk I) (g : ByteArray) : ∀ z ∈ dlUn g I, 0 ≤ z := by
  intro z hz
  simp only [dlUn, List.mem_flatMap] at hz
  obtain ⟨x, hx, hz⟩ := hz
  split at hz
  · have := (List.mem_replicate.1 hz).2
    subst this
    exact h.price x hx
  · cases hz
theorem rep_sum (n : Nat) (c : Int) : (List.replicate n c).sum = c * n := by
  induction n with
  | zero => simp
  | succ n ih => rw [List.replicate_succ, List.sum_cons, ih]; push_cast; rw [Int.mul_add]; omega
theorem dlUn_cons (g : ByteArray) (x : Itm) (I : List Itm) (h : 0 ≤ x.many) : (dlUn g (x :: I)).sum = (if dlSame x.group g then x.price * x.many else 0) + (dlUn g I).sum := by
  have e : dlUn g (x :: I) = (if dlSame x.group g then List.replicate x.many.toNat x.price else []) ++ dlUn g I := by simp [dlUn]
  rw [e, List.sum_append]
  split
  · rw [rep_sum]
    rw [show ((x.many.toNat : Nat) : Int) = x.many by omega]
  · rfl
theorem dlSame_trans {a b c : ByteArray} (h1 : dlSame a b = true) (h2 : dlSame a c = true) : dlSame b c = true := by
  simp only [dlSame, beq_iff_eq] at *
  rw [← h1, h2]
theorem sum_zero (L : List Int) (h : ∀ x ∈ L, x = 0) : L.sum = 0 := by
  induction L with
  | nil => rfl
  | cons y L ih => rw [List.sum_cons, h y (by simp), ih (fun x hx => h x (by simp [hx]))]; rfl
theorem perm_sumI {u v : List Int} (h : u.Perm v) : u.sum = v.sum := by
  induction h with
  | nil => rfl
  | cons x _ ih => simp [ih]
  | swap x y l => simp; omega
  | trans _ _ ih1 ih2 => exact ih1.trans ih2
/-- At most one deal is of a group. -/
theorem oneHit (D : List Dl) (hD : DlOk D) (g : ByteArray) (c : Int) (hc : 0 ≤ c) : (D.map fun d => if dlSame g d.group then c else 0).sum ≤ c := by
  induction D with
  | nil => simpa using hc
  | cons d D ih =>
    have hd := List.pairwise_cons.1 hD
    by_cases h : dlSame g d.group = true
    · have h0 : (D.map fun d => if dlSame g d.group then c else 0).sum = 0 := by
        have : ∀ x ∈ D.map (fun d => if dlSame g d.group then c else 0), x = 0 := by
          intro x hx
          obtain ⟨y, hy, rfl⟩ := List.mem_map.1 hx
          have h1 := hd.1 y hy
          rw [if_neg]
          intro h2
          rw [dlSame_trans h h2] at h1
          cases h1
        exact sum_zero _ this
      rw [List.map_cons, List.sum_cons, h0, if_pos h]
      omega
    · rw [List.map_cons, List.sum_cons, if_neg h]
      have := ih hd.2
      omega
theorem map_sum_le {α : Type} (D : List α) (f g : α → Int) (h : ∀ d ∈ D, f d ≤ g d) : (D.map f).sum ≤ (D.map g).sum := by
  induction D with
  | nil => exact Int.le_refl _
  | cons d D ih =>
    rw [List.map_cons, List.sum_cons, List.map_cons, List.sum_cons]
    have := h d (by simp)
    have := ih (fun x hx => h x (by simp [hx]))
    omega
theorem map_sum_add {α : Type} (D : List α) (f g : α → Int) : (D.map fun d => f d + g d).sum = (D.map f).sum + (D.map g).sum := by
  induction D with
  | nil => rfl
  | cons d D ih =>
    rw [List.map_cons, List.sum_cons, List.map_cons, List.sum_cons, List.map_cons, List.sum_cons, ih]
    omega
theorem units_tot (D : List Dl) (hD : DlOk D) (I : List Itm) (hI : ItOk I) : (D.map fun d => (dlUn d.group I).sum).sum ≤ dlTot I := by
  induction I with
  | nil =>
    have : (D.map fun d => (dlUn d.group []).sum).sum = 0 := by
      clear hD
      induction D with
      | nil => rfl
      | cons d D ih => rw [List.map_cons, List.sum_cons, ih]; rfl
    rw [this]
    exact Int.le_refl _
  | cons x I ih =>
    have h1 := ih hI.tail
    have hx := hI.many x (by simp)
    have hp := hI.price x (by simp)
    have e : (D.map fun d => (dlUn d.group (x :: I)).sum) = D.map fun d => (if dlSame x.group d.group then x.price * x.many else 0) + (dlUn d.group I).sum := by
      apply List.map_congr_left
      intro d _
      exact dlUn_cons d.group x I hx
    rw [e, map_sum_add]
    have h2 := oneHit D hD x.group (x.price * x.many) (Int.mul_nonneg hp hx)
    have h3 : dlTot (x :: I) = x.price * x.many + dlTot I := by simp [dlTot]
    omega
theorem dlFree_bd (I : List Itm) (hI : ItOk I) (d : Dl) : 0 ≤ dlFree I d ∧ dlFree I d ≤ (dlUn d.group I).sum := by
  have h := freeSum_bd d.many d.free _ (sortD (dlUn d.group I)) rfl (fun x hx => dlUn_pos hI d.group x ((sortD_perm _).mem_iff.1 hx))
  have e : (sortD (dlUn d.group I)).sum = (dlUn d.group I).sum := perm_sumI (sortD_perm _)
  unfold dlFree
  omega
theorem dlOff_bd (I : List Itm) (hI : ItOk I) (D : List Dl) (hD : DlOk D) : 0 ≤ dlOff I D ∧ dlOff I D ≤ dlTot I := by
  constructor
  · unfold dlOff
    have := map_sum_le D (fun _ => 0) (dlFree I) (fun d _ => (dlFree_bd I hI d).1)
    have e : (D.map fun _ => (0 : Int)).sum = 0 := by
      clear hD this
      induction D with
      | nil => rfl
      | cons d D ih => rw [List.map_cons, List.sum_cons, ih]; rfl
    omega
  · have h1 := map_sum_le D (dlFree I) (fun d => (dlUn d.group I).sum) (fun d _ => (dlFree_bd I hI d).2)
    have h2 := units_tot D hD I hI
    unfold dlOff
    omega
/-- One more of an item. -/
def dlMore (I : List Itm) (i : Nat) : List Itm := I.take i ++ (match I[i]? with | some x => [⟨x.price, x.group, x.many + 1⟩] | none => []) ++ I.drop (i + 1)
theorem more_cons (x : Itm) (I : List Itm) (i : Nat) : dlMore (x :: I) (i + 1) = x :: dlMore I i := by simp [dlMore]
theorem more_zero (x : Itm) (I : List Itm) : dlMore (x :: I) 0 = ⟨x.price, x.group, x.many + 1⟩ :: I := by simp [dlMore]
theorem more_tot (I : List Itm) (i : Nat) (h : i < I.length) : dlTot (dlMore I i) = dlTot I + I[i].price := by
  induction I generalizing i with
  | nil => cases h
  | cons x I ih =>
    cases i with
    | zero =>
      rw [more_zero]
      simp only [dlTot, List.map_cons, List.sum_cons, List.getElem_cons_zero]
      rw [Int.mul_add]
      omega
    | succ i =>
      have := ih i (by simpa using h)
      rw [more_cons]
      simp only [dlTot, List.map_cons, List.sum_cons, List.getElem_cons_succ] at this ⊢
      omega
theorem more_un (I : List Itm) (hI : ItOk I) (i : Nat) (h : i < I.length) (g : ByteArray) : (dlUn g (dlMore I i)).Perm (if dlSame I[i].group g then I[i].price :: dlUn g I else dlUn g I) := by
  induction I generalizing i with
  | nil => cases h
  | cons x I ih =>
    have hx := hI.many x (by simp)
    cases i with
    | zero =>
      rw [more_zero]
      have e : ∀ y : Itm, dlUn g (y :: I) = (if dlSame y.group g then List.replicate y.many.toNat y.price else []) ++ dlUn g I := fun y => by simp [dlUn]
      rw [e, e]
      show List.Perm ((if dlSame x.group g then List.replicate (x.many + 1).toNat x.price else []) ++ dlUn g I) (if dlSame x.group g then x.price :: ((if dlSame x.group g then List.replicate x.many.toNat x.price else []) ++ dlUn g I) else ((if dlSame x.group g then List.replicate x.many.toNat x.price else []) ++ dlUn g I))
      by_cases hg : dlSame x.group g = true
      · rw [if_pos hg, if_pos hg, if_pos hg, show (x.many + 1).toNat = x.many.toNat + 1 by omega, List.replicate_succ]
        exact List.Perm.refl _
      · rw [if_neg hg, if_neg hg, if_neg hg]
    | succ i =>
      have hil : i < I.length := by simpa using h
      have hp := ih hI.tail i hil
      rw [more_cons]
      have e : ∀ J : List Itm, dlUn g (x :: J) = (if dlSame x.group g then List.replicate x.many.toNat x.price else []) ++ dlUn g J := fun J => by simp [dlUn]
      rw [e, e]
      show List.Perm _ (if dlSame I[i].group g then I[i].price :: _ else _)
      by_cases hg : dlSame I[i].group g = true
      · rw [if_pos hg] at hp ⊢
        exact (List.Perm.append_left _ hp).trans List.perm_middle
      · rw [if_neg hg] at hp ⊢
        exact List.Perm.append_left _ hp
theorem more_ok (I : List Itm) (hI : ItOk I) (i : Nat) : ItOk (dlMore I i) := by
  have key : ∀ y ∈ dlMore I i, 0 ≤ y.price ∧ 0 ≤ y.many := by
    intro y hy
    simp only [dlMore, List.mem_append] at hy
    rcases hy with (hy | hy) | hy
    · have := List.mem_of_mem_take hy
      exact ⟨hI.price y this, hI.many y this⟩
    · split at hy
      · rename_i x hx
        have hm := List.mem_of_getElem? hx
        have : y = ⟨x.price, x.group, x.many + 1⟩ := by simpa using hy
        subst this
        have := hI.many x hm
        exact ⟨hI.price x hm, by show 0 ≤ x.many + 1; omega⟩
      · cases hy
    · have := List.mem_of_mem_drop hy
      exact ⟨hI.price y this, hI.many y this⟩
  exact ⟨fun y hy => (key y hy).1, fun y hy => (key y hy).2⟩
/-- With one free unit in a set, a further unit does not make a basket cheaper. -/
theorem more_price (I : List Itm) (hI : ItOk I) (D : List Dl) (hD : DlOk D) (h1 : ∀ d ∈ D, d.free = 1 ∧ 0 < d.many) (i : Nat) (h : i < I.length) : dlTot I - dlOff I D ≤ dlTot (dlMore I i) - dlOff (dlMore I i) D := by
  have hpr := hI.price _ (List.getElem_mem h)
  have key : ∀ d ∈ D, dlFree (dlMore I i) d ≤ dlFree I d + if dlSame I[i].group d.group then I[i].price else 0 := by
    intro d hd
    obtain ⟨e1, e2⟩ := h1 d hd
    have hp := more_un I hI i h d.group
    unfold dlFree
    rw [e1]
    by_cases hg : dlSame I[i].group d.group = true
    · rw [if_pos hg] at hp ⊢
      refine free_unit d.many e2 _ _ I[i].price (sortD_desc _) (sortD_desc _) ?_ (fun z hz => dlUn_pos (more_ok I hI i) d.group z ((sortD_perm _).mem_iff.1 hz))
      exact (sortD_perm _).trans (hp.trans ((List.perm_cons _).2 (sortD_perm _).symm))
    · rw [if_neg hg] at hp ⊢
      have e : sortD (dlUn d.group (dlMore I i)) = sortD (dlUn d.group I) := sortD_of ((sortD_perm _).trans hp) (sortD_desc _)
      rw [e]
      omega
  have h2 := map_sum_le D _ _ key
  rw [map_sum_add] at h2
  have h3 := oneHit D hD I[i].group I[i].price hpr
  rw [more_tot I i h]
  unfold dlOff
  omega
end Go.Proofs.YthikknnadmebgaaGreatDoor

/-! Package slices at ints: with a function value. -/
namespace Go.Proofs.YthikknnadmebgaaGreatDoor
open Go.RowKit

/-- A function of the program's own text. -/
def IsFn (F : FuncId) : Prop := ∀ (args : Array Value) (w : World), (callFunc F args).run Tryz.prog w = .ok (.enter F args) w
/-- What is asked of a function value: it answers P of each element, and writes nothing that was there. -/
def Answers (F : FuncId) (caps : Array Value) (P : Int → Bool) (xs : List Int) (w : World) : Prop :=
  ∀ x ∈ xs, ∀ w1, w.grownBy w1 none → Calls Tryz.prog F (#[.int .i64 x] ++ caps) w1 fun e w2 => e = .returned (.bool (P x)) ∧ w1.grownBy w2 none
theorem getD_eq' (l : List Int) (k : Nat) (d : Int) (h : k < l.length) : l.getD k d = l[k] := by
  rw [List.getD_eq_getElem?_getD, List.getElem?_eq_getElem h]; rfl
def findM (P : Int → Bool) (xs : List Int) : Int := if xs.findIdx P < xs.length then (xs.findIdx P : Nat) else -1

set_option maxRecDepth 100000 in
theorem indexFunc_int (F : FuncId) (P : Int → Bool) (xs : List Int) (a : Option Addr) (c : Nat) (w : World) (hc : CellsAt w a (ints xs)) (hl : xs.length ≤ 137438953472) (hE : IsFn F) (hF : Answers F #[] P xs w) :
    Calls Tryz.prog 146 #[.slice a xs.length c, .func (.func F) #[] #[]] w fun e w' => e = .returned (.int .i64 (findM P xs)) ∧ w.grownBy w' none := by
  have HF := Lib.hid hF; clear hF
  have hE' : ∀ (args : Array Value) (w : World), (callFunc F args).run Tryz.prog w = .ok (.enter F args) w := hE
  clear hE
  go_enter Tryz.func146, Tryz.ntmps146
  go_wp2_with (fail)
  go_loopw [8] (fun i wr => ∃ k : Nat, k ≤ xs.length ∧ i = .int .i64 k ∧ (∀ j, j < k → P (xs.getD j 0) = false) ∧ w.grownBy wr none) (fun i _ => xs.length - (intOf i).toNat)
  case atStart => exact ⟨0, Nat.zero_le _, rfl, fun j hj => by omega, gr_refl _ _⟩
  case round =>
    obtain ⟨k, hk, rfl, hno, hgr⟩ := hrel
    obtain ⟨wo, rfl⟩ : ∃ wo : World, wo = wr := ⟨_, rfl⟩
    have HNO := Lib.hid hno; clear hno
    by_cases hlt : k < xs.length
    · obtain ⟨b, off, rfl, d0⟩ := (hc.keep0 hgr) k _ (ints_get xs k hlt)
      have hmem : xs.getD k 0 ∈ xs := by rw [List.getD_eq_getElem?_getD, List.getElem?_eq_getElem hlt]; exact List.getElem_mem hlt
      obtain ⟨x, hx⟩ : ∃ x, x = xs.getD k 0 := ⟨_, rfl⟩
      rw [← hx] at d0 hmem
      have HX := Lib.hid hx; clear hx
      have HM := Lib.hid hmem; clear hmem
      go_wp2_with (fail)
      refine (HF.out x HM.out wo hgr).mono ?_
      rintro e w1 ⟨rfl, hg1⟩
      cases hp : P x with
      | true =>
        have HP := Lib.hid hp; clear hp
        go_wp2_with (fail)
        go_ret
        refine ⟨ret_int ?_, gr_trans hgr hg1⟩
        have : xs.findIdx P = k := by
          rw [List.findIdx_eq hlt]
          refine ⟨by rw [← getD_eq' xs k 0 hlt, ← HX.out]; exact HP.out, fun j hj => ?_⟩
          have := HNO.out j hj
          rwa [getD_eq' xs j 0 (by omega)] at this
        unfold findM
        rw [this, if_pos hlt]
      | false =>
        have HP := Lib.hid hp; clear hp
        go_wp2_with (fail)
        go_roundw
        case rel =>
          refine ⟨k + 1, by omega, by go_num, fun j hj => ?_, gr_trans hgr hg1⟩
          by_cases hjk : j = k
          · subst hjk; rw [← HX.out]; exact HP.out
          · exact HNO.out j (by omega)
        case measure => simp [intOf]; omega
    · have hkl : k = xs.length := by omega
      have HK := Lib.hid hkl; clear hkl
      go_wp2_with (fail)
      go_ret
      refine ⟨ret_int ?_, hgr⟩
      have : ¬ xs.findIdx P < xs.length := by
        rw [List.findIdx_lt_length]
        rintro ⟨y, hy, hpy⟩
        obtain ⟨j, hj, rfl⟩ := List.getElem_of_mem hy
        have := HNO.out j (by rw [HK.out]; exact hj)
        rw [getD_eq' xs j 0 hj] at this
        rw [this] at hpy
        cases hpy
      unfold findM
      rw [if_neg this]

theorem containsFunc_int (F : FuncId) (P : Int → Bool) (xs : List Int) (a : Option Addr) (c : Nat) (w : World) (hc : CellsAt w a (ints xs)) (hl : xs.length ≤ 137438953472) (hE : IsFn F) (hF : Answers F #[] P xs w) :
    Calls Tryz.prog 102 #[.slice a xs.length c, .func (.func F) #[] #[]] w fun e w' => e = .returned (.bool (xs.any P)) ∧ w.grownBy w' none := by
  have hany : xs.any P = decide (0 ≤ findM P xs) := by
    unfold findM
    by_cases h : xs.findIdx P < xs.length
    · rw [if_pos h, List.any_eq_true.2 (List.findIdx_lt_length.1 h)]; simp
    · rw [if_neg h]
      have : xs.any P = false := by
        rw [List.any_eq_false]
        intro x hx hp
        exact h (List.findIdx_lt_length.2 ⟨x, hx, hp⟩)
      rw [this]; rfl
  have HA := Lib.hid hany; clear hany
  go_enter Tryz.func102, Tryz.ntmps102
  go_wp2_with (fail)
  refine (indexFunc_int F P xs a c _ hc hl hE hF).mono ?_
  rintro e w1 ⟨rfl, hg1⟩
  go_wp2_with (fail)
  go_ret
  exact ⟨ret_bool (by rw [HA.out]), hg1⟩
end Go.Proofs.YthikknnadmebgaaGreatDoor

/-! Package slices at ints: with a function value that has one capture. -/
namespace Go.Proofs.YthikknnadmebgaaGreatDoor
open Go.RowKit

set_option maxRecDepth 100000 in
theorem indexFuncP_int (F : FuncId) (q : Nat) (P : Int → Bool) (xs : List Int) (a : Option Addr) (c : Nat) (w : World) (hc : CellsAt w a (ints xs)) (hl : xs.length ≤ 137438953472) (hE : IsFn F) (hF : Answers F #[.pointer (some ⟨q, 0, none⟩)] P xs w) :
    Calls Tryz.prog 146 #[.slice a xs.length c, .func (.func F) #[] #[.pointer (some ⟨q, 0, none⟩)]] w fun e w' => e = .returned (.int .i64 (findM P xs)) ∧ w.grownBy w' none := by
  have HF := Lib.hid hF; clear hF
  have hE' : ∀ (args : Array Value) (w : World), (callFunc F args).run Tryz.prog w = .ok (.enter F args) w := hE
  clear hE
  go_enter Tryz.func146, Tryz.ntmps146
  go_wp2_with (fail)
  go_loopw [8] (fun i wr => ∃ k : Nat, k ≤ xs.length ∧ i = .int .i64 k ∧ (∀ j, j < k → P (xs.getD j 0) = false) ∧ w.grownBy wr none) (fun i _ => xs.length - (intOf i).toNat)
  case atStart => exact ⟨0, Nat.zero_le _, rfl, fun j hj => by omega, gr_refl _ _⟩
  case round =>
    obtain ⟨k, hk, rfl, hno, hgr⟩ := hrel
    obtain ⟨wo, rfl⟩ : ∃ wo : World, wo = wr := ⟨_, rfl⟩
    have HNO := Lib.hid hno; clear hno
    by_cases hlt : k < xs.length
    · obtain ⟨b, off, rfl, d0⟩ := (hc.keep0 hgr) k _ (ints_get xs k hlt)
      have hmem : xs.getD k 0 ∈ xs := by rw [List.getD_eq_getElem?_getD, List.getElem?_eq_getElem hlt]; exact List.getElem_mem hlt
      obtain ⟨x, hx⟩ : ∃ x, x = xs.getD k 0 := ⟨_, rfl⟩
      rw [← hx] at d0 hmem
      have HX := Lib.hid hx; clear hx
      have HM := Lib.hid hmem; clear hmem
      go_wp2_with (fail)
      refine (HF.out x HM.out wo hgr).mono ?_
      rintro e w1 ⟨rfl, hg1⟩
      cases hp : P x with
      | true =>
        have HP := Lib.hid hp; clear hp
        go_wp2_with (fail)
        go_ret
        refine ⟨ret_int ?_, gr_trans hgr hg1⟩
        have : xs.findIdx P = k := by
          rw [List.findIdx_eq hlt]
          refine ⟨by rw [← getD_eq' xs k 0 hlt, ← HX.out]; exact HP.out, fun j hj => ?_⟩
          have := HNO.out j hj
          rwa [getD_eq' xs j 0 (by omega)] at this
        unfold findM
        rw [this, if_pos hlt]
      | false =>
        have HP := Lib.hid hp; clear hp
        go_wp2_with (fail)
        go_roundw
        case rel =>
          refine ⟨k + 1, by omega, by go_num, fun j hj => ?_, gr_trans hgr hg1⟩
          by_cases hjk : j = k
          · subst hjk; rw [← HX.out]; exact HP.out
          · exact HNO.out j (by omega)
        case measure => simp [intOf]; omega
    · have hkl : k = xs.length := by omega
      have HK := Lib.hid hkl; clear hkl
      go_wp2_with (fail)
      go_ret
      refine ⟨ret_int ?_, hgr⟩
      have : ¬ xs.findIdx P < xs.length := by
        rw [List.findIdx_lt_length]
        rintro ⟨y, hy, hpy⟩
        obtain ⟨j, hj, rfl⟩ := List.getElem_of_mem hy
        have := HNO.out j (by rw [HK.out]; exact hj)
        rw [getD_eq' xs j 0 hj] at this
        rw [this] at hpy
        cases hpy
      unfold findM
      rw [if_neg this]

theorem containsFuncP_int (F : FuncId) (q : Nat) (P : Int → Bool) (xs : List Int) (a : Option Addr) (c : Nat) (w : World) (hc : CellsAt w a (ints xs)) (hl : xs.length ≤ 137438953472) (hE : IsFn F) (hF : Answers F #[.pointer (some ⟨q, 0, none⟩)] P xs w) :
    Calls Tryz.prog 102 #[.slice a xs.length c, .func (.func F) #[] #[.pointer (some ⟨q, 0, none⟩)]] w fun e w' => e = .returned (.bool (xs.any P)) ∧ w.grownBy w' none := by
  have hany : xs.any P = decide (0 ≤ findM P xs) := by
    unfold findM
    by_cases h : xs.findIdx P < xs.length
    · rw [if_pos h, List.any_eq_true.2 (List.findIdx_lt_length.1 h)]; simp
    · rw [if_neg h]
      have : xs.any P = false := by
        rw [List.any_eq_false]
        intro x hx hp
        exact h (List.findIdx_lt_length.2 ⟨x, hx, hp⟩)
      rw [this]; rfl
  have HA := Lib.hid hany; clear hany
  go_enter Tryz.func102, Tryz.ntmps102
  go_wp2_with (fail)
  refine (indexFuncP_int F q P xs a c _ hc hl hE hF).mono ?_
  rintro e w1 ⟨rfl, hg1⟩
  go_wp2_with (fail)
  go_ret
  exact ⟨ret_bool (by rw [HA.out]), hg1⟩
end Go.Proofs.YthikknnadmebgaaGreatDoor
