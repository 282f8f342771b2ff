/- What TopGoods counts: units by lots, in a map, and the order of what is sold. No program in sight. -/
import Derived.Test.YtdminjijhpemkaaGreatDoorPkSAw
import Derived.Test.YtdminjijhpemkaaGreatDoorPkSBc
import Derived.Test.YtdminjijhpemkaaGreatDoorPkSAv
import Derived.Test.YtdminjijhpemkaaGreatDoorPkSAq
namespace Go.Proofs.YtdminjijhpemkaaGreatDoor
open Go.RowKit

theorem cntN_cntP (ps : List Piece) (hp : ∀ p ∈ ps, 1 ≤ p.many) (k : ByteArray) : ((cntN (unitsL ps) k : Nat) : Int) = cntP ps k := by
  induction ps with
  | nil => rfl
  | cons p qs ih =>
    have h1 := ih (fun q hq => hp q (by simp [hq]))
    have h2 := hp p (by simp)
    have e := cntP_app [p] qs k
    rw [cntP_one] at e
    have e2 : cntP (p :: qs) k = (if p.lot = k then p.many else 0) + cntP qs k := e
    rw [e2, unitsL_cons, cntN_app, cntN_rep, Int.natCast_add, h1]
    by_cases hk : p.lot = k
    · rw [if_pos hk, if_pos hk.symm]; omega
    · rw [if_neg hk, if_neg (fun e => hk e.symm)]; rfl
def inM (f : ByteArray → Option Int) (k : ByteArray) (m : Int) : ByteArray → Option Int := fun t => if t = k then some ((f k).getD 0 + m) else f t
def addPs (f : ByteArray → Option Int) (ps : List Piece) : ByteArray → Option Int := ps.foldl (fun g p => inM g p.lot p.many) f
theorem addPs_snoc (f : ByteArray → Option Int) (ps : List Piece) (p : Piece) : addPs f (ps ++ [p]) = inM (addPs f ps) p.lot p.many := by simp [addPs]
theorem inM_val (f : ByteArray → Option Int) (k : ByteArray) (m : Int) (s : ByteArray) : (inM f k m s).getD 0 = (f s).getD 0 + (if k = s then m else 0) := by
  unfold inM
  by_cases h : s = k
  · rw [if_pos h, if_pos h.symm, h]; rfl
  · rw [if_neg h, if_neg (fun e => h e.symm)]; omega
theorem addPs_val (ps : List Piece) : ∀ (f : ByteArray → Option Int) (s : ByteArray), (addPs f ps s).getD 0 = (f s).getD 0 + cntP ps s := by
  induction ps with
  | nil => intro f s; simp [addPs, cntP]
  | cons p ps ih =>
    intro f s
    show (addPs (inM f p.lot p.many) ps s).getD 0 = _
    have h := cntP_app [p] ps s
    rw [cntP_one] at h
    rw [ih, inM_val, show p :: ps = [p] ++ ps from rfl, h]
    omega
/-- The values of a map are small. -/
def BndM (f : ByteArray → Option Int) (n : Nat) : Prop := ∀ s, 0 ≤ (f s).getD 0 ∧ (f s).getD 0 ≤ 1000000 * (n : Int)
theorem BndM.start : BndM (fun _ => none) 0 := fun _ => ⟨by simp, by simp⟩
theorem BndM.step {f : ByteArray → Option Int} {n : Nat} (h : BndM f n) (k : ByteArray) (m : Int) (h0 : 0 ≤ m) (h1 : m ≤ 1000000) : BndM (inM f k m) (n + 1) := fun s => by
  have := h s
  rw [inM_val]
  split <;> omega
theorem BndM.mono {f : ByteArray → Option Int} {n m : Nat} (h : BndM f n) (hm : n ≤ m) : BndM f m := fun s => by
  have := h s
  omega
def lotsP (L : List Lot) : List Piece := L.map fun o => ⟨o.id, o.many⟩
theorem lotsP_take (L : List Lot) (k : Nat) (h : k < L.length) : lotsP (L.take (k + 1)) = lotsP (L.take k) ++ [⟨(lotN L k).id, (lotN L k).many⟩] := by
  rw [List.take_succ_eq_append_getElem h, lotN_get h]
  show ((L.take k ++ [L[k]]).map _) = _
  rw [List.map_append]
  rfl
theorem lotsP_cnt (L : List Lot) : ∀ (i : Nat), i < L.length → (∀ a b, a < L.length → b < L.length → (lotN L a).id = (lotN L b).id → a = b) → cntP (lotsP L) (lotN L i).id = (lotN L i).many := by
  have key : ∀ k, k ≤ L.length → ∀ i, i < L.length → (∀ a b, a < L.length → b < L.length → (lotN L a).id = (lotN L b).id → a = b) → cntP (lotsP (L.take k)) (lotN L i).id = if i < k then (lotN L i).many else 0 := by
    intro k
    induction k with
    | zero => intro _ i _ _; simp [lotsP, cntP]
    | succ k ih =>
      intro hk i hi ha
      rw [lotsP_take L k hk, cntP_app, ih (by omega) i hi ha, cntP_one]
      by_cases e : i = k
      · subst e
        simp
      · have hne : ¬ (lotN L k).id = (lotN L i).id := fun h => e (ha k i hk hi h).symm
        simp only [if_neg hne]
        by_cases h2 : i < k
        · rw [if_pos h2, if_pos (by omega)]; omega
        · rw [if_neg h2, if_neg (by omega)]; omega
  intro i hi ha
  have := key L.length (Nat.le_refl _) i hi ha
  rw [List.take_length, if_pos hi] at this
  exact this
/-- What is in store, in the coils and sold is what there was. -/
theorem goods_sum {x L : List Lot} {ks : List KitV} {S : List Piece} (hk : Keeps x L (allPs ks) 100000) (ha : Apart x) (hS : ∀ s, cntP S s = cntP (allPs ks) s) (i : Nat) (hi : i < x.length) : (addPs (fun _ => none) (lotsP L ++ S) (lotN x i).id).getD 0 = (lotN x i).many := by
  have hl := hk.len
  have e := (hk.same i hi).1
  rw [addPs_val, cntP_app, hS]
  have h1 := lotsP_cnt L i (by omega) (fun a b h1 h2 h => ha a b (by omega) (by omega) (by
    rw [(hk.same a (by omega)).1, (hk.same b (by omega)).1] at h
    exact h))
  rw [e] at h1
  rw [h1]
  have := hk.sum i hi
  show (0 : Int) + _ = _
  omega
/-! Selling splits a piece at most. -/
theorem sell_cnt (ps : List Piece) (s : ByteArray) : ∀ n : Int, cntP (sellL ps n).1 s + cntP (sellL ps n).2 s = cntP ps s := by
  induction ps with
  | nil => intro n; simp [sellL, cntP]
  | cons p ps ih =>
    intro n
    have hc : ∀ (q : Piece) (l : List Piece), cntP (q :: l) s = (if q.lot = s then q.many else 0) + cntP l s := fun q l => by
      have h := cntP_app [q] l s
      rw [cntP_one] at h
      exact h
    unfold sellL
    split
    · simp [cntP]
    · split
      · simp only [hc]
        have : cntP [] s = 0 := by simp [cntP]
        rw [this]
        by_cases e : p.lot = s
        · simp only [if_pos e]; omega
        · simp only [if_neg e]; omega
      · simp only [hc]
        have := ih (n - p.many)
        omega
theorem sell_mem (ps : List Piece) : ∀ n : Int, ∀ x ∈ (sellL ps n).1 ++ (sellL ps n).2, ∃ y ∈ ps, x.lot = y.lot := by
  induction ps with
  | nil => intro n x hx; simp [sellL] at hx
  | cons p ps ih =>
    intro n x hx
    unfold sellL at hx
    split at hx
    · exact ⟨x, by simpa using hx, rfl⟩
    · split at hx
      · simp only [List.cons_append, List.nil_append, List.mem_cons] at hx
        rcases hx with rfl | rfl | hx
        · exact ⟨p, List.mem_cons_self .., rfl⟩
        · exact ⟨p, List.mem_cons_self .., rfl⟩
        · exact ⟨x, List.mem_cons_of_mem _ hx, rfl⟩
      · simp only [List.cons_append, List.mem_cons] at hx
        rcases hx with rfl | hx
        · exact ⟨p, List.mem_cons_self .., rfl⟩
        · obtain ⟨y, hy, e⟩ := ih _ x hx
          exact ⟨y, List.mem_cons_of_mem _ hy, e⟩
theorem sell_pos (ps : List Piece) (h : ∀ x ∈ ps, 1 ≤ x.many) : ∀ n : Int, ∀ x ∈ (sellL ps n).1 ++ (sellL ps n).2, 1 ≤ x.many := by
  induction ps with
  | nil => intro n x hx; simp [sellL] at hx
  | cons p ps ih =>
    intro n x hx
    have hp := h p (List.mem_cons_self ..)
    have ht := ih (fun y hy => h y (List.mem_cons_of_mem _ hy))
    unfold sellL at hx
    split at hx
    · exact h x (by simpa using hx)
    · split at hx
      · simp only [List.cons_append, List.nil_append, List.mem_cons] at hx
        rcases hx with rfl | rfl | hx
        · show 1 ≤ n; omega
        · show 1 ≤ p.many - n; omega
        · exact h x (List.mem_cons_of_mem _ hx)
      · simp only [List.cons_append, List.mem_cons] at hx
        rcases hx with rfl | hx
        · exact hp
        · exact ht _ x hx
theorem sell_up (e : ByteArray → Int) (ps : List Piece) (h : ps.Pairwise fun a b => e a.lot ≤ e b.lot) : ∀ n : Int, ((sellL ps n).1 ++ (sellL ps n).2).Pairwise fun a b => e a.lot ≤ e b.lot := by
  induction ps with
  | nil => intro n; simp [sellL]
  | cons p ps ih =>
    intro n
    obtain ⟨h1, h2⟩ := List.pairwise_cons.1 h
    unfold sellL
    split
    · simpa using ⟨h1, h2⟩
    · split
      · simp only [List.cons_append, List.nil_append]
        refine List.pairwise_cons.2 ⟨fun x hx => ?_, List.pairwise_cons.2 ⟨fun x hx => h1 x hx, h2⟩⟩
        rcases List.mem_cons.1 hx with rfl | hx
        · exact Int.le_refl _
        · exact h1 x hx
      · simp only [List.cons_append]
        refine List.pairwise_cons.2 ⟨fun x hx => ?_, ih h2 _⟩
        obtain ⟨y, hy, e2⟩ := sell_mem ps _ x hx
        show e p.lot ≤ e x.lot
        rw [e2]
        exact h1 y hy
theorem sell_len (ps : List Piece) : ∀ n : Int, ((sellL ps n).1 ++ (sellL ps n).2).length ≤ ps.length + 1 := by
  induction ps with
  | nil => intro n; simp [sellL]
  | cons p ps ih =>
    intro n
    unfold sellL
    split
    · simp
    · split
      · simp
      · have := ih (n - p.many)
        simp only [List.cons_append, List.length_cons]
        omega
theorem mono_pair (e : ByteArray → Int) (l : List Piece) (h : ∀ i, i + 1 < l.length → e (l.getD i ⟨⟨#[]⟩, 0⟩).lot ≤ e (l.getD (i + 1) ⟨⟨#[]⟩, 0⟩).lot) : l.Pairwise fun a b => e a.lot ≤ e b.lot := by
  have key : ∀ d i, i + d < l.length → e (l.getD i ⟨⟨#[]⟩, 0⟩).lot ≤ e (l.getD (i + d) ⟨⟨#[]⟩, 0⟩).lot := by
    intro d
    induction d with
    | zero => intro i _; exact Int.le_refl _
    | succ d ih =>
      intro i hi
      have h1 := ih i (by omega)
      have h2 := h (i + d) (by omega)
      exact Int.le_trans h1 h2
  rw [List.pairwise_iff_getElem]
  intro i j hi hj hij
  have := key (j - i) i (by omega)
  rw [show i + (j - i) = j by omega, getD_eq l i _ hi, getD_eq l j _ hj] at this
  exact this
/-- What a kit becomes: put into a coil, sorted, and some of it sold. -/
theorem kit_sold {xs : List Lot} {W O : List Piece} (hp : O.Perm W) (hs : Srt (rotCm xs) ⟨⟨#[]⟩, 0⟩ O W.length) (hW : ∀ x ∈ W, 1 ≤ x.many ∧ x.lot.size ≤ 1000) (hsum : pcSum W ≤ 1000) (n : Int) :
    (∀ s, cntP ((sellL (joinL O) n).1 ++ (sellL (joinL O) n).2) s = cntP W s) ∧ ((sellL (joinL O) n).1 ++ (sellL (joinL O) n).2).Pairwise (fun a b => (lotGet xs a.lot).exp ≤ (lotGet xs b.lot).exp) ∧
      (∀ x ∈ (sellL (joinL O) n).1 ++ (sellL (joinL O) n).2, 1 ≤ x.many ∧ ∃ y ∈ W, x.lot = y.lot) := by
  obtain ⟨f1, f2, f3⟩ := rot_fine hp hs hW hsum
  have hO : ∀ x ∈ O, 1 ≤ x.many := fun x hx => (hW x (hp.mem_iff.1 hx)).1
  obtain ⟨j1, j2, j3, j4⟩ := joinL_law O hO
  refine ⟨fun s => ?_, sell_up (fun k => (lotGet xs k).exp) (joinL O) (mono_pair (fun k => (lotGet xs k).exp) _ (fun i hi => by have := f3 i hi; omega)) n, fun x hx => ⟨sell_pos _ (fun y hy => (f1.all y hy).1) n x hx, ?_⟩⟩
  · rw [cntP_app, sell_cnt, ← cntN_cntP _ (fun y hy => (f1.all y hy).1), ← cntN_cntP W (fun y hy => (hW y hy).1), j2]
    have hpm := unitsL_perm hp
    unfold cntN
    rw [(hpm.filter _).length_eq]
  · obtain ⟨y, hy, e⟩ := sell_mem _ n x hx
    obtain ⟨z, hz, e2⟩ := j4 y hy
    exact ⟨z, hp.mem_iff.1 hz, e.trans e2⟩
end Go.Proofs.YtdminjijhpemkaaGreatDoor

/-! What TopGoods asks for: three needs of cans; that what was picked can be put into a coil. No program in sight. -/
namespace Go.Proofs.YtdminjijhpemkaaGreatDoor
open Go.RowKit

def canB : ByteArray := ⟨#[99, 97, 110]⟩
def placeG (k : Nat) : ByteArray := ([⟨#[109, 97]⟩, ⟨#[109, 98]⟩, ⟨#[109, 99]⟩] : List ByteArray).getD k ⟨#[]⟩
/-- The needs of the first places. -/
structure NeedsG (N : List Need) (k : Nat) : Prop where
  len : N.length = k
  k3 : k ≤ 3
  all : ∀ i (h : i < N.length), N[i].place = placeG i ∧ N[i].prod = canB ∧ 0 ≤ N[i].many ∧ N[i].many ≤ 6
theorem NeedsG.start : NeedsG [] 0 := ⟨rfl, by omega, fun i h => absurd h (Nat.not_lt_zero _)⟩
theorem NeedsG.next {N : List Need} {k : Nat} (h : NeedsG N k) (hk : k < 3) (m : Int) (h0 : 0 ≤ m) (h1 : m ≤ 6) : NeedsG (N ++ [⟨placeG k, canB, m⟩]) (k + 1) := by
  refine ⟨by rw [List.length_append, h.len]; rfl, hk, fun i hi => ?_⟩
  by_cases e : i < N.length
  · rw [List.getElem_append_left e]
    exact h.all i e
  · have e2 : i = N.length := by rw [List.length_append] at hi; simp at hi; omega
    subst e2
    rw [List.getElem_append_right (Nat.le_refl _)]
    simp only [Nat.sub_self, List.getElem_cons_zero]
    refine ⟨?_, ?_, h0, h1⟩
    · simp [h.len]
    · simp
theorem placeG_sm : ∀ i, i < 3 → (placeG i).size ≤ 3 ∧ keyB (placeG i) = true := by
  have h : ∀ i : Fin 3, (placeG i.1).size ≤ 3 ∧ keyB (placeG i.1) = true := by decide
  exact fun i hi => h ⟨i, hi⟩
theorem placeG_up : ∀ i, i < 2 → orI (cmpB (placeG i) (placeG (i + 1))) (cmpB canB canB) < 0 := by
  intro i hi
  have : i = 0 ∨ i = 1 := by omega
  have h0 : orI (cmpB (placeG 0) (placeG 1)) (cmpB canB canB) = -1 := by kernel_rfl
  have h1 : orI (cmpB (placeG 1) (placeG 2)) (cmpB canB canB) = -1 := by kernel_rfl
  rcases this with rfl | rfl
  · rw [h0]; decide
  · rw [h1]; decide
theorem NeedsG.sm {N : List Need} {k : Nat} (h : NeedsG N k) : NeedsSm N := by
  have h3 := h.k3
  have hl := h.len
  refine ⟨by omega, fun x hx => ?_⟩
  obtain ⟨i, hi, rfl⟩ := List.mem_iff_getElem.1 hx
  obtain ⟨e1, e2, e3, e4⟩ := h.all i hi
  exact ⟨by rw [e1]; exact (placeG_sm i (by omega)).1, by rw [e2]; decide, by omega, by omega⟩
theorem NeedsG.ok {N : List Need} {k : Nat} (h : NeedsG N k) : NeedsOk N := fun i hi => by
  have h3 := h.k3
  have hl := h.len
  obtain ⟨e1, e2, e3, e4⟩ := h.all i hi
  refine ⟨by rw [e1]; exact (placeG_sm i (by omega)).2, by rw [e2]; kernel_rfl, fun h0 => ?_, e3, by omega⟩
  obtain ⟨f1, f2, _⟩ := h.all (i - 1) (by omega)
  rw [e1, e2, f1, f2]
  have := placeG_up (i - 1) (by omega)
  rw [show i - 1 + 1 = i by omega] at this
  exact this
theorem NeedsG.sum {N : List Need} {k : Nat} (h : NeedsG N k) (s : ByteArray) : needSum N s ≤ 18 := by
  have h3 := h.k3
  have key : ∀ j, j ≤ N.length → needSum (N.take j) s ≤ 6 * (j : Int) := by
    intro j
    induction j with
    | zero => intro _; simp [needSum]
    | succ j ih =>
      intro hj
      have h1 := needSum_next N j hj s
      have h2 := ih (by omega)
      obtain ⟨_, _, _, e4⟩ := h.all j hj
      rw [h1]
      split <;> omega
  have := key N.length (Nat.le_refl _)
  rw [List.take_length] at this
  have hl := h.len
  omega
/-- A kit of cans can be put into an empty coil. -/
structure KitFit (x : List Lot) (p : List Piece) : Prop where
  push : PushOk ⟨canB, 30, []⟩ x p
  sm : PcsSm p
  l20 : p.length < 20
  all : ∀ y ∈ p, 1 ≤ y.many ∧ y.lot.size ≤ 1000
  known : ∀ y ∈ p, ∃ i, i < x.length ∧ y.lot = (lotN x i).id
  sum : pcSum p ≤ 18
theorem coil_empty : CoilOk ⟨canB, 30, []⟩ := coilOk_mk canB 30 [] (by kernel_rfl) (by decide) (by decide) (fun x hx => by cases hx) (fun x hx => by cases hx) (by decide) (fun i _ hi => by simp at hi)
theorem kit_fit {x : List Lot} (hx : LotsOk x) {N : List Need} {j : Nat} (hN : NeedsG N j) {q : KitV} (h : KitGood x N 18 q) : KitFit x q.ps := by
  have ha := lots_apart hx
  obtain ⟨i, hi, hp⟩ := h.prod
  have hcan : q.prod = canB := by rw [hp, (hN.all i hi).2.1]
  have hpos : ∀ y ∈ q.ps, 0 ≤ y.many := fun y hy => by have := (h.fit y hy).1; omega
  have hle := many_le_sum q.ps hpos
  have hs := h.sum
  have hlen : (q.ps.length : Int) ≤ pcSum q.ps := by
    have key : ∀ l : List Piece, (∀ y ∈ l, 1 ≤ y.many) → (l.length : Int) ≤ pcSum l := by
      intro l
      induction l with
      | nil => intro _; simp [pcSum]
      | cons y l ih =>
        intro hl
        rw [pcSum_cons]
        have := hl y (List.mem_cons_self ..)
        have := ih (fun z hz => hl z (List.mem_cons_of_mem _ hz))
        simp only [List.length_cons]
        omega
    exact key q.ps (fun y hy => (h.fit y hy).1)
  have hkey : ∀ y ∈ q.ps, y.lot.size ≤ 1000 := fun y hy => by
    obtain ⟨_, k, hk, e, _⟩ := h.fit y hy
    rw [e]
    have := hx.all _ (show lotN x k ∈ x by rw [lotN_get hk]; exact List.getElem_mem hk)
    exact this.ids
  refine ⟨⟨coil_empty, fun k hk => ?_, ?_⟩, ⟨by omega, fun y hy => ⟨hkey y hy, by have := hpos y hy; omega, by have := hle y hy; omega⟩⟩, by omega, fun y hy => ⟨(h.fit y hy).1, hkey y hy⟩, fun y hy => ?_, hs⟩
  · have hm := List.getElem_mem hk
    have e := pc_get q.ps k hk
    obtain ⟨f1, t, ht, f2, f3⟩ := h.fit _ hm
    have hl := hle _ hm
    rw [e] at f1 f2 hl
    simp only at f1 f2 hl
    refine ⟨?_, ?_, f1, by omega⟩
    · rw [f2]
      unfold lotHas
      rw [List.any_eq_true]
      exact ⟨lotN x t, by rw [lotN_get ht]; exact List.getElem_mem ht, by unfold idIs; simp⟩
    · rw [f2, lotGet_of ha t ht, f3, hcan]
      simp
  · show pcSum [] + pcSum q.ps ≤ 30
    have : pcSum [] = 0 := rfl
    omega
  · obtain ⟨_, t, ht, f2, _⟩ := h.fit y hy
    exact ⟨t, ht, f2⟩
theorem coil_rot {x : List Lot} {W O : List Piece} (hx : LotsOk x) (hf : KitFit x W) (hp : O.Perm W) : CoilOk ⟨canB, 30, joinL O⟩ ∧ CoilSm ⟨canB, 30, joinL O⟩ ∧ pcSum (joinL O) = pcSum W ∧ 0 ≤ pcSum (joinL O) ∧ pcSum (joinL O) ≤ 18 := by
  have hO : ∀ y ∈ O, 1 ≤ y.many ∧ y.lot.size ≤ 1000 := fun y hy => hf.all y (hp.mem_iff.1 hy)
  obtain ⟨j1, j2, j3, j4⟩ := joinL_law O (fun y hy => (hO y hy).1)
  have hsum : pcSum (joinL O) = pcSum W := by rw [j3, pcSum_perm hp]
  have hs18 := hf.sum
  have h0 : 0 ≤ pcSum (joinL O) := pcSum_nonneg _ (fun y hy => by have := j1.lo y hy; omega)
  have hfine := pcsFine_of (ps := joinL O) (fun y hy => ⟨j1.lo y hy, by
    obtain ⟨z, hz, e⟩ := j4 y hy
    rw [e]
    exact (hO z hz).2⟩) (by omega)
  refine ⟨coilOk_mk canB 30 (joinL O) (by kernel_rfl) (by decide) (by decide) (fun y hy => ?_) (fun y hy => j1.lo y hy) (by omega) j1.ne, ⟨(by show canB.size ≤ 1000; decide), hfine.len, fun y hy => ⟨(hfine.all y hy).2.2, by have := (hfine.all y hy).1; omega, (hfine.all y hy).2.1⟩⟩, hsum, h0, by omega⟩
  obtain ⟨z, hz, e⟩ := j4 y hy
  obtain ⟨i, hi, e2⟩ := hf.known z (hp.mem_iff.1 hz)
  rw [e, e2, lotN_get hi]
  exact (hx.all _ (List.getElem_mem hi)).id
end Go.Proofs.YtdminjijhpemkaaGreatDoor

/-! What stands in TopGoods behind the selling of a kit, whatever the order of its steps. -/
namespace Go.Proofs.YtdminjijhpemkaaGreatDoor
open Go.RowKit

theorem MapIs.monoG {w : World} {b n m : Nat} {f : ByteArray → Option Int} (h : MapIs w b n f) (hm : n ≤ m) : MapIs w b m f := by
  obtain ⟨D, h1, h2⟩ := h
  exact ⟨D, h1.mono hm, h2⟩
theorem sell_le (B : Int) (ps : List Piece) (h : ∀ x ∈ ps, x.many ≤ B) : ∀ n : Int, ∀ x ∈ (sellL ps n).1 ++ (sellL ps n).2, x.many ≤ B := by
  induction ps with
  | nil => intro n x hx; simp [sellL] at hx
  | cons p ps ih =>
    intro n x hx
    have hp := h p (List.mem_cons_self ..)
    have ht := ih (fun y hy => h y (List.mem_cons_of_mem _ hy))
    unfold sellL at hx
    split at hx
    · exact h x (by simpa using hx)
    · split at hx
      · simp only [List.cons_append, List.nil_append, List.mem_cons] at hx
        rcases hx with rfl | rfl | hx
        · show n ≤ B; omega
        · show p.many - n ≤ B; omega
        · exact h x (List.mem_cons_of_mem _ hx)
      · simp only [List.cons_append, List.mem_cons] at hx
        rcases hx with rfl | hx
        · exact hp
        · exact ht _ x hx
def coil0 : Obj := .cells #[.string ⟨#[]⟩, .int .i64 0, .slice none 0 0] 44
def GoodsCut (w9 wx : World) (p : Nat) (l : List Int) (q : Nat) (J : List Piece) (T : Int) (s u e : Value) : Prop :=
  ∃ (n : Int) (RB : Nat) (ra : Option Addr) (rc : Nat), 0 ≤ n ∧ n ≤ T ∧ s = .pointer (some ⟨RB, 0, none⟩) ∧ e = .int .i64 0 ∧ w9.heap.size ≤ RB ∧ wx.heap[RB]? = some (.cells #[.string canB, .int .i64 30, .slice ra (sellL J n).2.length rc] 44 (0, 0)) ∧ (ra = none → rc = 0) ∧ CellsAt wx ra (flat encPc (sellL J n).2) ∧
    wx.ownsRow w9.heap.size 53 2 u (sellL J n).1.length (flat encPc (sellL J n).1) ∧ StreamAt wx p p l q ∧ w9.grownBy wx (some p)
theorem goodsCut_a {w9 wn ws : World} {p q : Nat} {l : List Int} {J : List Piece} {T n : Int} {u : Value} {ra : Option Addr} {rc : Nat} (hn0 : 0 ≤ n) (hnT : n ≤ T) (gn : w9.grownBy wn (some p)) (sn : StreamAt wn p p l q)
    (orr : RowAt ws wn.heap.size ws.heap.size (.slice ra (sellL J n).2.length rc) (sellL J n).2.length (flat encPc (sellL J n).2)) (ou : ws.ownsRow wn.heap.size 53 2 u (sellL J n).1.length (flat encPc (sellL J n).1)) (gs : wn.grownBy ws none) :
    GoodsCut w9 (ws.alloc (.cells #[.string canB, .int .i64 30, .slice ra (sellL J n).2.length rc] 44)) p l q J T (.pointer (some ⟨ws.heap.size, 0, none⟩)) u (.int .i64 0) := by
  have ga := gr_alloc (gr_refl ws none) (.cells #[.string canB, .int .i64 30, .slice ra (sellL J n).2.length rc] 44)
  obtain ⟨_, _, e, -, -, hn, cR, -⟩ := orr.shape
  cases e
  exact ⟨n, ws.heap.size, ra, rc, hn0, hnT, rfl, rfl, Nat.le_trans gn.size gs.size, heap_alloc_new ws _, fun e => (hn e).2, cR.keep0 ga, own_base (own_keep0 ou ga) gn.size, (sn.keep0 gs).keep0 ga, gr_trans gn (gr_weak (gr_trans gs ga) (some p))⟩
theorem coil_stored {W : World} {B : Nat} {a b c : Value} (h : W.heap[B]? = some (.cells #[.string ⟨#[]⟩, .int .i64 0, .slice none 0 0] 44 (0, 0))) :
    (((W.setCell ⟨B, 0, none⟩ a).setCell ⟨B, 1, none⟩ b).setCell ⟨B, 2, none⟩ c).heap[B]? = some (.cells #[a, b, c] 44 (0, 0)) := by
  have h1 := heap_setCell_same W B 0 _ _ a h
  have h2 := heap_setCell_same (W.setCell ⟨B, 0, none⟩ a) B 1 _ _ b h1
  exact heap_setCell_same ((W.setCell ⟨B, 0, none⟩ a).setCell ⟨B, 1, none⟩ b) B 2 _ _ c h2
theorem gr_three (W : World) (B : Nat) (a b c : Value) : W.grownBy (((W.setCell ⟨B, 0, none⟩ a).setCell ⟨B, 1, none⟩ b).setCell ⟨B, 2, none⟩ c) (some B) :=
  gr_set (q := ⟨B, 2, none⟩) (gr_set (q := ⟨B, 1, none⟩) (gr_set (q := ⟨B, 0, none⟩) (gr_refl W (some B)) rfl a) rfl b) rfl c
theorem goodsCut_b {w9 wm ws : World} {p q B : Nat} {l : List Int} {J : List Piece} {T n : Int} {u : Value} {ra : Option Addr} {rc : Nat} (hn0 : 0 ≤ n) (hnT : n ≤ T) (gn : w9.grownBy wm (some p)) (sn : StreamAt wm p p l q) (hB : w9.heap.size ≤ B) (hp : p < w9.heap.size)
    (hZ : wm.heap[B]? = some (.cells #[.string ⟨#[]⟩, .int .i64 0, .slice none 0 0] 44 (0, 0)))
    (orr : RowAt ws wm.heap.size ws.heap.size (.slice ra (sellL J n).2.length rc) (sellL J n).2.length (flat encPc (sellL J n).2)) (ou : ws.ownsRow wm.heap.size 53 2 u (sellL J n).1.length (flat encPc (sellL J n).1)) (gs : wm.grownBy ws none) :
    GoodsCut w9 (((ws.setCell ⟨B, 0, none⟩ (.string canB)).setCell ⟨B, 1, none⟩ (.int .i64 30)).setCell ⟨B, 2, none⟩ (.slice ra (sellL J n).2.length rc)) p l q J T (.pointer (some ⟨B, 0, none⟩)) u (.int .i64 0) := by
  have hBl := lt_of_block hZ
  have hZs := (gs.block B hBl (by simp)).trans hZ
  have g3 := gr_three ws B (.string canB) (.int .i64 30) (.slice ra (sellL J n).2.length rc)
  obtain ⟨_, _, e, -, -, hn, cR, hb⟩ := orr.shape
  cases e
  refine ⟨n, B, ra, rc, hn0, hnT, rfl, rfl, hB, coil_stored hZs, fun e => (hn e).2, cR.keep g3 (fun b off e e2 => ?_), own_base (own_keep ou g3 (.inr (own_ne ou hZs (by decide)))) gn.size, (sn.keep0 gs).keepNe g3 (fun b e => ?_), gr_grown (gr_trans gn (gr_weak gs (some p))) g3 (fun b e => by cases e; exact hB)⟩
  · have := (hb b off e).1
    simp at e2
    omega
  · cases e
    omega
end Go.Proofs.YtdminjijhpemkaaGreatDoor
