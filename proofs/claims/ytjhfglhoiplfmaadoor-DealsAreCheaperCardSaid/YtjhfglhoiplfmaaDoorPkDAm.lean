/- Plain: sums of lists of ints, taken step by step. -/

namespace Go.Proofs.YtjhfglhoiplfmaaDoor

theorem sum_next (L : List Int) (k : Nat) (h : k < L.length) : (L.take (k + 1)).sum = (L.take k).sum + L.getD k 0 := by
  rw [List.take_succ_eq_append_getElem h, List.sum_append, List.getD_eq_getElem?_getD, List.getElem?_eq_getElem h]
  simp
theorem sum_bound (L : List Int) (A B : Int) (hA : A ≤ 0) (hB : 0 ≤ B) (h : ∀ x ∈ L, A ≤ x ∧ x ≤ B) (k : Nat) : A * k ≤ (L.take k).sum ∧ (L.take k).sum ≤ B * k := by
  induction k with
  | zero => simp
  | succ k ih =>
    rcases Nat.lt_or_ge k L.length with hk | hk
    · rw [sum_next L k hk]
      have hm : L.getD k 0 ∈ L := by
        rw [List.getD_eq_getElem?_getD, List.getElem?_eq_getElem hk]
        exact List.getElem_mem hk
      have := h _ hm
      have e1 : A * ((k + 1 : Nat) : Int) = A * k + A := by rw [Int.natCast_add, Int.mul_add]; simp
      have e2 : B * ((k + 1 : Nat) : Int) = B * k + B := by rw [Int.natCast_add, Int.mul_add]; simp
      omega
    · have e : L.take (k + 1) = L.take k := by rw [List.take_of_length_le (by omega), List.take_of_length_le hk]
      have e1 : A * ((k + 1 : Nat) : Int) = A * k + A := by rw [Int.natCast_add, Int.mul_add]; simp
      have e2 : B * ((k + 1 : Nat) : Int) = B * k + B := by rw [Int.natCast_add, Int.mul_add]; simp
      rw [e]
      omega
theorem sum_bound_all (L : List Int) (A B : Int) (hA : A ≤ 0) (hB : 0 ≤ B) (h : ∀ x ∈ L, A ≤ x ∧ x ≤ B) : A * L.length ≤ L.sum ∧ L.sum ≤ B * L.length := by
  have := sum_bound L A B hA hB h L.length
  rwa [List.take_length] at this
end Go.Proofs.YtjhfglhoiplfmaaDoor

/-! Wallets of three kiosks, which only their own kiosks change: the plain law. No program in sight. -/
namespace Go.Proofs.YtjhfglhoiplfmaaDoor

structure Wal where
  T : List (List Int)
  U : List Int
def Wal.r (A : Wal) (i j : Nat) : Int := (A.T.getD i []).getD j 0
def Wal.u (A : Wal) (i : Nat) : Int := A.U.getD i 0
/-- The rights of site i, behind m of the other ones. -/
def rightsTo (A : Wal) (i : Nat) : Nat → Int
  | 0 => A.r i i - A.u i
  | m + 1 => if m = i then rightsTo A i m else rightsTo A i m + (A.r m i - A.r i m)
structure WForm (A : Wal) : Prop where
  lenT : A.T.length = 3
  lenR : ∀ i, i < 3 → (A.T.getD i []).length = 3
  lenU : A.U.length = 3
structure WOk (A : Wal) (B : Int) : Prop where
  form : WForm A
  r0 : ∀ i j, i < 3 → j < 3 → 0 ≤ A.r i j ∧ A.r i j ≤ B
  u0 : ∀ i, i < 3 → 0 ≤ A.u i ∧ A.u i ≤ B
  ge : ∀ i, i < 3 → 0 ≤ rightsTo A i 3
def RowLe (A B : Wal) (i : Nat) : Prop := (∀ j, j < 3 → A.r i j ≤ B.r i j) ∧ A.u i ≤ B.u i
def IsMax (A B C : Wal) : Prop := ∀ i, i < 3 → (∀ j, j < 3 → C.r i j = max (A.r i j) (B.r i j)) ∧ C.u i = max (A.u i) (B.u i)
theorem three (P : Nat → Prop) (h0 : P 0) (h1 : P 1) (h2 : P 2) : ∀ i, i < 3 → P i := by
  intro i hi
  obtain rfl | rfl | rfl : i = 0 ∨ i = 1 ∨ i = 2 := by omega
  · exact h0
  · exact h1
  · exact h2
theorem rights0 (A : Wal) : rightsTo A 0 3 = A.r 0 0 - A.u 0 + (A.r 1 0 - A.r 0 1) + (A.r 2 0 - A.r 0 2) := by simp [rightsTo]
theorem rights1 (A : Wal) : rightsTo A 1 3 = A.r 1 1 - A.u 1 + (A.r 0 1 - A.r 1 0) + (A.r 2 1 - A.r 1 2) := by simp [rightsTo]
theorem rights2 (A : Wal) : rightsTo A 2 3 = A.r 2 2 - A.u 2 + (A.r 0 2 - A.r 2 0) + (A.r 1 2 - A.r 2 1) := by simp [rightsTo]
theorem rights_mono {A C : Wal} {i : Nat} (hi : i < 3) (hr : ∀ j, j < 3 → C.r i j = A.r i j) (hu : C.u i = A.u i) (hc : ∀ j, j < 3 → A.r j i ≤ C.r j i) : rightsTo A i 3 ≤ rightsTo C i 3 := by
  have a0 := hr 0 (by omega)
  have a1 := hr 1 (by omega)
  have a2 := hr 2 (by omega)
  have b0 := hc 0 (by omega)
  have b1 := hc 1 (by omega)
  have b2 := hc 2 (by omega)
  obtain rfl | rfl | rfl : i = 0 ∨ i = 1 ∨ i = 2 := by omega
  · rw [rights0, rights0]; omega
  · rw [rights1, rights1]; omega
  · rw [rights2, rights2]; omega
theorem rights_sum (A : Wal) : rightsTo A 0 3 + rightsTo A 1 3 + rightsTo A 2 3 = A.r 0 0 + A.r 1 1 + A.r 2 2 - (A.u 0 + A.u 1 + A.u 2) := by
  rw [rights0, rights1, rights2]; omega
theorem WOk.more {A : Wal} {B B' : Int} (h : WOk A B) (hb : B ≤ B') : WOk A B' :=
  ⟨h.form, fun i j hi hj => by have := h.r0 i j hi hj; omega, fun i hi => by have := h.u0 i hi; omega, h.ge⟩
theorem IsMax.row {A B C : Wal} (h : IsMax A B C) {i : Nat} (hi : i < 3) (hc : RowLe A B i ∨ RowLe B A i) :
    ((RowLe A B i ∧ (∀ j, j < 3 → C.r i j = B.r i j) ∧ C.u i = B.u i) ∨ (RowLe B A i ∧ (∀ j, j < 3 → C.r i j = A.r i j) ∧ C.u i = A.u i)) := by
  obtain ⟨h1, h2⟩ := h i hi
  rcases hc with hc | hc
  · exact .inl ⟨hc, fun j hj => by have := h1 j hj; have := hc.1 j hj; omega, by have := hc.2; omega⟩
  · exact .inr ⟨hc, fun j hj => by have := h1 j hj; have := hc.1 j hj; omega, by have := hc.2; omega⟩
theorem merge_ok {A B C : Wal} {X : Int} (hA : WOk A X) (hB : WOk B X) (hc : ∀ i, i < 3 → RowLe A B i ∨ RowLe B A i) (hm : IsMax A B C) (hf : WForm C) : WOk C X := by
  refine ⟨hf, fun i j hi hj => ?_, fun i hi => ?_, fun i hi => ?_⟩
  · have := (hm i hi).1 j hj; have := hA.r0 i j hi hj; have := hB.r0 i j hi hj; omega
  · have := (hm i hi).2; have := hA.u0 i hi; have := hB.u0 i hi; omega
  · rcases hm.row hi (hc i hi) with ⟨_, h1, h2⟩ | ⟨_, h1, h2⟩
    · have := rights_mono hi h1 h2 (fun j hj => by have := (hm j hj).1 i hi; omega)
      have := hB.ge i hi
      omega
    · have := rights_mono hi h1 h2 (fun j hj => by have := (hm j hj).1 i hi; omega)
      have := hA.ge i hi
      omega

structure Sys (W : Nat → Wal) (B paid spent : Int) : Prop where
  ok : ∀ k, k < 3 → WOk (W k) B
  cmp : ∀ a b i, a < 3 → b < 3 → i < 3 → RowLe (W a) (W b) i ∨ RowLe (W b) (W a) i
  own : ∀ a i, a < 3 → i < 3 → RowLe (W a) (W i) i
  paid : paid = (W 0).r 0 0 + (W 1).r 1 1 + (W 2).r 2 2
  spent : spent = (W 0).u 0 + (W 1).u 1 + (W 2).u 2
def upd (W : Nat → Wal) (k : Nat) (A : Wal) : Nat → Wal := fun i => if i = k then A else W i
theorem upd_self (W : Nat → Wal) (k : Nat) (A : Wal) : upd W k A k = A := by simp [upd]
theorem upd_ne (W : Nat → Wal) (k : Nat) (A : Wal) {i : Nat} (h : i ≠ k) : upd W k A i = W i := by simp [upd, h]
theorem RowLe.refl (A : Wal) (i : Nat) : RowLe A A i := ⟨fun _ _ => Int.le_refl _, Int.le_refl _⟩
theorem RowLe.trans {A B C : Wal} {i : Nat} (h : RowLe A B i) (g : RowLe B C i) : RowLe A C i := ⟨fun j hj => Int.le_trans (h.1 j hj) (g.1 j hj), Int.le_trans h.2 g.2⟩
theorem RowLe.of_eq {A B : Wal} {i : Nat} (h : ∀ j, j < 3 → A.r i j = B.r i j) (g : A.u i = B.u i) : RowLe A B i := ⟨fun j hj => Int.le_of_eq (h j hj), Int.le_of_eq g⟩
/-- A kiosk changes its own row. -/
theorem sys_local {W : Nat → Wal} {B B' paid spent : Int} {k : Nat} {A : Wal} (h : Sys W B paid spent) (hk : k < 3) (hok : WOk A B') (hb : B ≤ B') (hsame : ∀ i, i < 3 → i ≠ k → (∀ j, j < 3 → A.r i j = (W k).r i j) ∧ A.u i = (W k).u i) (hle : RowLe (W k) A k) :
    Sys (upd W k A) B' (paid + (A.r k k - (W k).r k k)) (spent + (A.u k - (W k).u k)) := by
  have ha : ∀ b i, b < 3 → i < 3 → RowLe A (upd W k A b) i ∨ RowLe (upd W k A b) A i := by
    intro b i hb hi
    by_cases e : b = k
    · subst e; rw [upd_self]; exact .inl (RowLe.refl _ _)
    · rw [upd_ne _ _ _ e]
      by_cases e2 : i = k
      · subst e2; exact .inr ((h.own b i hb hi).trans hle)
      · have hs := hsame i hi e2
        rcases h.cmp k b i hk hb hi with c | c
        · exact .inl ((RowLe.of_eq hs.1 hs.2).trans c)
        · exact .inr (c.trans (RowLe.of_eq (fun j hj => (hs.1 j hj).symm) hs.2.symm))
  refine ⟨fun i hi => ?_, fun a b i h1 h2 h3 => ?_, fun a i h1 h2 => ?_, ?_, ?_⟩
  · by_cases e : i = k
    · subst e; rw [upd_self]; exact hok
    · rw [upd_ne _ _ _ e]; exact (h.ok i hi).more hb
  · by_cases e : a = k
    · subst e; rw [upd_self]; exact ha b i h2 h3
    · by_cases e2 : b = k
      · subst e2; rw [upd_self]; exact (ha a i h1 h3).symm
      · rw [upd_ne _ _ _ e, upd_ne _ _ _ e2]; exact h.cmp a b i h1 h2 h3
  · by_cases e : a = k
    · subst e
      rw [upd_self]
      by_cases e2 : i = a
      · subst e2; rw [upd_self]; exact RowLe.refl _ _
      · rw [upd_ne _ _ _ e2]
        have hs := hsame i h2 e2
        exact (RowLe.of_eq hs.1 hs.2).trans (h.own a i hk h2)
    · rw [upd_ne _ _ _ e]
      by_cases e2 : i = k
      · subst e2; rw [upd_self]; exact (h.own a i h1 h2).trans hle
      · rw [upd_ne _ _ _ e2]; exact h.own a i h1 h2
  · have := h.paid
    obtain rfl | rfl | rfl : k = 0 ∨ k = 1 ∨ k = 2 := by omega
    all_goals simp [upd]; omega
  · have := h.spent
    obtain rfl | rfl | rfl : k = 0 ∨ k = 1 ∨ k = 2 := by omega
    all_goals simp [upd]; omega
theorem sys_merge {W : Nat → Wal} {B paid spent : Int} {k m : Nat} {A : Wal} (h : Sys W B paid spent) (hk : k < 3) (hm : m < 3) (hx : IsMax (W k) (W m) A) (hf : WForm A) : Sys (upd W k A) B paid spent := by
  have hok := merge_ok (h.ok k hk) (h.ok m hm) (fun i hi => h.cmp k m i hk hm hi) hx hf
  have hrow : ∀ i, i < 3 → ((∀ j, j < 3 → A.r i j = (W m).r i j) ∧ A.u i = (W m).u i) ∨ ((∀ j, j < 3 → A.r i j = (W k).r i j) ∧ A.u i = (W k).u i) := by
    intro i hi
    rcases hx.row hi (h.cmp k m i hk hm hi) with ⟨_, h1⟩ | ⟨_, h1⟩
    · exact .inl h1
    · exact .inr h1
  have hkk : (∀ j, j < 3 → A.r k j = (W k).r k j) ∧ A.u k = (W k).u k := by
    have ho := h.own m k hm hk
    have h1 := hx k hk
    exact ⟨fun j hj => by have := h1.1 j hj; have := ho.1 j hj; omega, by have := h1.2; have := ho.2; omega⟩
  have hle : ∀ i b, i < 3 → b < 3 → RowLe A (W b) i ∨ RowLe (W b) A i := by
    intro i b hi hb
    rcases hrow i hi with ⟨h1, h2⟩ | ⟨h1, h2⟩
    · rcases h.cmp m b i hm hb hi with c | c
      · exact .inl ((RowLe.of_eq h1 h2).trans c)
      · exact .inr (c.trans (RowLe.of_eq (fun j hj => (h1 j hj).symm) h2.symm))
    · rcases h.cmp k b i hk hb hi with c | c
      · exact .inl ((RowLe.of_eq h1 h2).trans c)
      · exact .inr (c.trans (RowLe.of_eq (fun j hj => (h1 j hj).symm) h2.symm))
  have hown : ∀ i, i < 3 → RowLe A (W i) i := by
    intro i hi
    rcases hrow i hi with ⟨h1, h2⟩ | ⟨h1, h2⟩
    · exact (RowLe.of_eq h1 h2).trans (h.own m i hm hi)
    · exact (RowLe.of_eq h1 h2).trans (h.own k i hk hi)
  refine ⟨fun i hi => ?_, fun a b i h1 h2 h3 => ?_, fun a i h1 h2 => ?_, ?_, ?_⟩
  · by_cases e : i = k
    · subst e; rw [upd_self]; exact hok
    · rw [upd_ne _ _ _ e]; exact h.ok i hi
  · by_cases e : a = k
    · subst e
      rw [upd_self]
      by_cases e2 : b = a
      · subst e2; rw [upd_self]; exact .inl (RowLe.refl _ _)
      · rw [upd_ne _ _ _ e2]; exact hle i b h3 h2
    · rw [upd_ne _ _ _ e]
      by_cases e2 : b = k
      · subst e2; rw [upd_self]; exact (hle i a h3 h1).symm
      · rw [upd_ne _ _ _ e2]; exact h.cmp a b i h1 h2 h3
  · by_cases e2 : i = k
    · subst e2
      rw [upd_self]
      by_cases e : a = i
      · subst e; rw [upd_self]; exact RowLe.refl _ _
      · rw [upd_ne _ _ _ e]
        exact (h.own a i h1 h2).trans (RowLe.of_eq (fun j hj => (hkk.1 j hj).symm) hkk.2.symm)
    · rw [upd_ne _ _ _ e2]
      by_cases e : a = k
      · subst e; rw [upd_self]; exact hown i h2
      · rw [upd_ne _ _ _ e]; exact h.own a i h1 h2
  · have := h.paid
    have := hkk.1 k hk
    obtain rfl | rfl | rfl : k = 0 ∨ k = 1 ∨ k = 2 := by omega
    all_goals simp [upd]; omega
  · have := h.spent
    have := hkk.2
    obtain rfl | rfl | rfl : k = 0 ∨ k = 1 ∨ k = 2 := by omega
    all_goals simp [upd]; omega

/-- A wallet into which some of the kiosks' wallets have been merged. -/
structure Mid (W : Nat → Wal) (B : Int) (x : Wal) (V : Nat → Prop) : Prop where
  ok : WOk x B
  own : ∀ i, i < 3 → RowLe x (W i) i
  cmp : ∀ a i, a < 3 → i < 3 → RowLe (W a) x i ∨ RowLe x (W a) i
  seen : ∀ a, a < 3 → V a → ∀ i, i < 3 → RowLe (W a) x i
theorem Mid.next {W : Nat → Wal} {B paid spent : Int} {x y : Wal} {V : Nat → Prop} {k : Nat} (hs : Sys W B paid spent) (h : Mid W B x V) (hk : k < 3) (hx : IsMax x (W k) y) (hf : WForm y) : Mid W B y (fun a => V a ∨ a = k) := by
  have hc : ∀ i, i < 3 → RowLe x (W k) i ∨ RowLe (W k) x i := fun i hi => (h.cmp k i hk hi).symm
  have hge : ∀ i, i < 3 → RowLe x y i ∧ RowLe (W k) y i := fun i hi =>
    ⟨⟨fun j hj => by have := (hx i hi).1 j hj; omega, by have := (hx i hi).2; omega⟩, ⟨fun j hj => by have := (hx i hi).1 j hj; omega, by have := (hx i hi).2; omega⟩⟩
  refine ⟨merge_ok h.ok (hs.ok k hk) hc hx hf, fun i hi => ?_, fun a i ha hi => ?_, fun a ha hV i hi => ?_⟩
  · rcases hx.row hi (hc i hi) with ⟨_, h1, h2⟩ | ⟨_, h1, h2⟩
    · exact (RowLe.of_eq h1 h2).trans (hs.own k i hk hi)
    · exact (RowLe.of_eq h1 h2).trans (h.own i hi)
  · rcases hx.row hi (hc i hi) with ⟨_, h1, h2⟩ | ⟨_, h1, h2⟩
    · rcases hs.cmp a k i ha hk hi with c | c
      · exact .inl (c.trans (RowLe.of_eq (fun j hj => (h1 j hj).symm) h2.symm))
      · exact .inr ((RowLe.of_eq h1 h2).trans c)
    · rcases h.cmp a i ha hi with c | c
      · exact .inl (c.trans (RowLe.of_eq (fun j hj => (h1 j hj).symm) h2.symm))
      · exact .inr ((RowLe.of_eq h1 h2).trans c)
  · rcases hV with hV | rfl
    · exact (h.seen a ha hV i hi).trans (hge i hi).1
    · exact (hge i hi).2
/-- In the end: each row is that of its kiosk. -/
theorem Mid.last {W : Nat → Wal} {B : Int} {x : Wal} {V : Nat → Prop} (h : Mid W B x V) (hV : ∀ a, a < 3 → V a) (i : Nat) (hi : i < 3) : (∀ j, j < 3 → x.r i j = (W i).r i j) ∧ x.u i = (W i).u i := by
  have h1 := h.own i hi
  have h2 := h.seen i hi (hV i hi) i hi
  exact ⟨fun j hj => Int.le_antisymm (h1.1 j hj) (h2.1 j hj), Int.le_antisymm h1.2 h2.2⟩
theorem list3 {L M : List Int} (hL : L.length = 3) (hM : M.length = 3) (h : ∀ j, j < 3 → L.getD j 0 = M.getD j 0) : L = M := by
  apply List.ext_getElem (by omega)
  intro j h1 h2
  have := h j (by omega)
  rw [List.getD_eq_getElem?_getD, List.getD_eq_getElem?_getD, List.getElem?_eq_getElem h1, List.getElem?_eq_getElem h2] at this
  exact this
theorem wal_eq {A B : Wal} (hA : WForm A) (hB : WForm B) (h : ∀ i, i < 3 → (∀ j, j < 3 → A.r i j = B.r i j) ∧ A.u i = B.u i) : A = B := by
  have h1 : A.U = B.U := list3 hA.lenU hB.lenU (fun j hj => (h j hj).2)
  have h2 : A.T = B.T := by
    apply List.ext_getElem (by rw [hA.lenT, hB.lenT])
    intro i hi1 hi2
    have hi : i < 3 := by have := hA.lenT; omega
    have e1 := hA.lenR i hi
    have e2 := hB.lenR i hi
    have e3 := (h i hi).1
    unfold Wal.r at e3
    rw [List.getD_eq_getElem?_getD, List.getElem?_eq_getElem hi1] at e1 e3
    rw [List.getD_eq_getElem?_getD, List.getElem?_eq_getElem hi2] at e2 e3
    exact list3 e1 e2 e3
  cases A; cases B; simp_all
def zeroW : Wal := ⟨[[0, 0, 0], [0, 0, 0], [0, 0, 0]], [0, 0, 0]⟩
theorem zero_r (i j : Nat) (hi : i < 3) (hj : j < 3) : zeroW.r i j = 0 := by
  obtain rfl | rfl | rfl : i = 0 ∨ i = 1 ∨ i = 2 := by omega
  all_goals (obtain rfl | rfl | rfl : j = 0 ∨ j = 1 ∨ j = 2 := by omega) <;> rfl
theorem zero_u (i : Nat) (hi : i < 3) : zeroW.u i = 0 := by
  obtain rfl | rfl | rfl : i = 0 ∨ i = 1 ∨ i = 2 := by omega
  all_goals rfl
theorem zero_ok {B : Int} (hB : 0 ≤ B) : WOk zeroW B := by
  refine ⟨⟨rfl, three _ rfl rfl rfl, rfl⟩, fun i j hi hj => by rw [zero_r i j hi hj]; omega, fun i hi => by rw [zero_u i hi]; omega, three _ ?_ ?_ ?_⟩
  · rw [rights0]; decide
  · rw [rights1]; decide
  · rw [rights2]; decide
theorem sys_start : Sys (fun _ => zeroW) 0 0 0 :=
  ⟨fun _ _ => zero_ok (Int.le_refl _), fun _ _ _ _ _ _ => .inl (RowLe.refl _ _), fun _ _ _ _ => RowLe.refl _ _, by decide, by decide⟩
theorem mid_start {W : Nat → Wal} {B paid spent : Int} (hB : 0 ≤ B) (hs : Sys W B paid spent) : Mid W B zeroW (fun _ => False) := by
  have hle : ∀ a i, a < 3 → i < 3 → RowLe zeroW (W a) i := fun a i ha hi =>
    ⟨fun j hj => by rw [zero_r i j hi hj]; exact ((hs.ok a ha).r0 i j hi hj).1, by rw [zero_u i hi]; exact ((hs.ok a ha).u0 i hi).1⟩
  exact ⟨zero_ok hB, fun i hi => hle i i hi hi, fun a i ha hi => .inr (hle a i ha hi), fun _ _ h => h.elim⟩
/-- The balance of what all know. -/
theorem balance_last {W : Nat → Wal} {B paid spent : Int} {x : Wal} {V : Nat → Prop} (hs : Sys W B paid spent) (h : Mid W B x V) (hV : ∀ a, a < 3 → V a) :
    rightsTo x 0 3 + rightsTo x 1 3 + rightsTo x 2 3 = paid - spent ∧ 0 ≤ paid - spent := by
  have h0 := h.last hV 0 (by omega)
  have h1 := h.last hV 1 (by omega)
  have h2 := h.last hV 2 (by omega)
  have := rights_sum x
  have := hs.paid
  have := hs.spent
  have := h.ok.ge 0 (by omega)
  have := h.ok.ge 1 (by omega)
  have := h.ok.ge 2 (by omega)
  have := h0.1 0 (by omega)
  have := h1.1 1 (by omega)
  have := h2.1 2 (by omega)
  have := h0.2
  have := h1.2
  have := h2.2
  omega
end Go.Proofs.YtjhfglhoiplfmaaDoor
