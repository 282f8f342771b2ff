/- The comparison by which a coil is rotated. -/
import Derived.Test.YthikknnadmebgaaGreatDoorPkSAu
import Derived.Test.YthikknnadmebgaaGreatDoorPkSAw
import Derived.Test.YthikknnadmebgaaGreatDoorPkSAy
import Derived.Test.YthikknnadmebgaaGreatDoorPkSAz
namespace Go.Proofs.YthikknnadmebgaaGreatDoor
open Go.RowKit
attribute [local go_sem ↓] Go.wp_at_zero Go.wp_at_succ

def cmpN (a b : Int) : Int := if a < b then -1 else if b < a then 1 else 0
def orI (a b : Int) : Int := if a = 0 then b else a
def rotCm (xs : List Lot) (x y : Piece) : Int := orI (cmpN (lotGet xs x.lot).exp (lotGet xs y.lot).exp) (cmpB x.lot y.lot)
theorem rotCm_bd (xs : List Lot) (x y : Piece) : -1 ≤ rotCm xs x y ∧ rotCm xs x y ≤ 1 := by
  have := cmpB_bd x.lot y.lot
  unfold rotCm orI cmpN
  split <;> split at * <;> (try split at *) <;> omega
theorem rotCm_neg {xs : List Lot} {x y : Piece} : rotCm xs x y < 0 ↔ (lotGet xs x.lot).exp < (lotGet xs y.lot).exp ∨ ((lotGet xs x.lot).exp = (lotGet xs y.lot).exp ∧ x.lot.data.toList < y.lot.data.toList) := by
  rw [← cmpB_neg]
  unfold rotCm orI cmpN
  by_cases h1 : (lotGet xs x.lot).exp < (lotGet xs y.lot).exp
  · rw [if_pos h1]; simp [h1]
  · rw [if_neg h1]
    by_cases h2 : (lotGet xs y.lot).exp < (lotGet xs x.lot).exp
    · rw [if_pos h2]; simp; omega
    · rw [if_neg h2]; simp; omega
theorem rotCm_ok (xs : List Lot) : CmpOk (rotCm xs) := by
  refine ⟨fun a b h => ?_, fun a b c h1 h2 h3 => ?_⟩
  · rw [rotCm_neg] at h ⊢
    rintro (g | ⟨g, g2⟩)
    · rcases h with h | ⟨h, _⟩ <;> omega
    · rcases h with h | ⟨_, h2⟩
      · omega
      · exact ltL_irrefl _ (ltL_trans h2 g2)
  · rw [rotCm_neg] at h1 h2 h3
    have tri := fun (x y : ByteArray) => compareBytes_sign x.data.toList y.data.toList
    rcases h3 with h3 | ⟨h3, h4⟩
    · have a1 : ¬ (lotGet xs b.lot).exp < (lotGet xs a.lot).exp := fun h => h1 (.inl h)
      have a2 : ¬ (lotGet xs c.lot).exp < (lotGet xs b.lot).exp := fun h => h2 (.inl h)
      omega
    · have a1 : ¬ (lotGet xs b.lot).exp < (lotGet xs a.lot).exp := fun h => h1 (.inl h)
      have a2 : ¬ (lotGet xs c.lot).exp < (lotGet xs b.lot).exp := fun h => h2 (.inl h)
      have e1 : (lotGet xs b.lot).exp = (lotGet xs a.lot).exp := by omega
      have e2 : (lotGet xs c.lot).exp = (lotGet xs b.lot).exp := by omega
      have n1 : ¬ b.lot.data.toList < a.lot.data.toList := fun h => h1 (.inr ⟨e1, h⟩)
      have n2 : ¬ c.lot.data.toList < b.lot.data.toList := fun h => h2 (.inr ⟨e2, h⟩)
      rcases tri a.lot b.lot with ⟨_, h⟩ | ⟨_, h⟩ | ⟨_, h⟩
      · exact n2 (ltL_trans h4 h)
      · rw [h] at h4; exact n2 h4
      · exact n1 h
end Go.Proofs.YthikknnadmebgaaGreatDoor

/-! A total divided among weights: no program in sight. -/
namespace Go.Proofs.YthikknnadmebgaaGreatDoor
open Go.RowKit

def quoT (tot sum w : Int) : Int := (tot * w).tdiv sum
def remT (tot sum w : Int) : Int := (tot * w).tmod sum
theorem quo_rem {tot sum w : Int} (h0 : 0 ≤ tot) (hs : 0 < sum) (hw : 0 ≤ w) : sum * quoT tot sum w + remT tot sum w = tot * w ∧ 0 ≤ remT tot sum w ∧ remT tot sum w < sum ∧ 0 ≤ quoT tot sum w := by
  have hn : 0 ≤ tot * w := Int.mul_nonneg h0 hw
  unfold quoT remT
  refine ⟨Int.mul_tdiv_add_tmod _ _, ?_, Int.tmod_lt_of_pos _ hs, ?_⟩
  · rw [Int.tmod_eq_emod_of_nonneg hn]; exact Int.emod_nonneg _ (by omega)
  · rw [Int.tdiv_eq_ediv_of_nonneg hn]; exact Int.ediv_nonneg hn (by omega)
theorem quoT_le {tot sum w : Int} (h0 : 0 ≤ tot) (hs : 0 < sum) (hw : 0 ≤ w) (hws : w ≤ sum) : quoT tot sum w ≤ tot := by
  have hn : 0 ≤ tot * w := Int.mul_nonneg h0 hw
  unfold quoT
  rw [Int.tdiv_eq_ediv_of_nonneg hn]
  exact Int.ediv_le_of_le_mul hs (Int.mul_le_mul_of_nonneg_left hws h0)
def quoL (tot sum : Int) (ws : List Int) : List Int := ws.map (quoT tot sum)
theorem sumI_app (a b : List Int) : (a ++ b).sum = a.sum + b.sum := by simp
theorem share_bd (tot sum : Int) (h0 : 0 ≤ tot) (hs : 0 < sum) (ws : List Int) (h : ∀ w ∈ ws, 0 ≤ w) : sum * (quoL tot sum ws).sum ≤ tot * ws.sum ∧ tot * ws.sum ≤ sum * (quoL tot sum ws).sum + sum * ws.length := by
  induction ws with
  | nil => simp [quoL]
  | cons w ws ih =>
    obtain ⟨i1, i2⟩ := ih (fun x hx => h x (by simp [hx]))
    obtain ⟨e, r0, r1, -⟩ := quo_rem h0 hs (h w (by simp))
    have e1 : (quoL tot sum (w :: ws)).sum = quoT tot sum w + (quoL tot sum ws).sum := by simp [quoL]
    have e2 : (w :: ws).sum = w + ws.sum := by simp
    have e3 : ((w :: ws).length : Int) = ws.length + 1 := by simp
    rw [e1, e2, e3, Int.mul_add, Int.mul_add, Int.mul_add, Int.mul_one]
    omega
theorem share_left (tot sum : Int) (h0 : 0 ≤ tot) (hs : 0 < sum) (ws : List Int) (h : ∀ w ∈ ws, 0 ≤ w) (he : ws.sum = sum) : 0 ≤ tot - (quoL tot sum ws).sum ∧ tot - (quoL tot sum ws).sum ≤ ws.length := by
  obtain ⟨h1, h2⟩ := share_bd tot sum h0 hs ws h
  rw [he] at h1 h2
  constructor
  · have : sum * (quoL tot sum ws).sum ≤ sum * tot := by rw [Int.mul_comm sum tot]; exact h1
    have := Int.le_of_mul_le_mul_left this hs
    omega
  · have : sum * tot ≤ sum * ((quoL tot sum ws).sum + ws.length) := by rw [Int.mul_add, Int.mul_comm sum tot]; exact h2
    have := Int.le_of_mul_le_mul_left this hs
    omega
/-- The comparison of two places by what their parts leave. -/
def shareCm (tot sum : Int) (ws : List Int) (a b : Int) : Int := cmpN (remT tot sum (ws.getD b.toNat 0)) (remT tot sum (ws.getD a.toNat 0))
theorem shareCm_neg {tot sum : Int} {ws : List Int} {a b : Int} : shareCm tot sum ws a b < 0 ↔ remT tot sum (ws.getD b.toNat 0) < remT tot sum (ws.getD a.toNat 0) := by
  unfold shareCm cmpN
  generalize remT tot sum (ws.getD b.toNat 0) = u
  generalize remT tot sum (ws.getD a.toNat 0) = v
  split
  · simp [*]
  · split <;> simp <;> omega
theorem shareCm_ok (tot sum : Int) (ws : List Int) : CmpOk (shareCm tot sum ws) := ⟨fun a b h => by rw [shareCm_neg] at *; omega, fun a b c h1 h2 => by rw [shareCm_neg] at *; omega⟩
/-- What stands while the rest is given out, one to each of the first in order. -/
structure Given (Q : List Int) (O : List Int) (t : Nat) (L : List Int) : Prop where
  len : L.length = Q.length
  sum : L.sum = Q.sum + t
  at_ : ∀ j, j < Q.length → L.getD j 0 = Q.getD j 0 + if (j : Int) ∈ O.take t then 1 else 0
theorem Given.start (Q O : List Int) : Given Q O 0 Q := ⟨rfl, by simp, fun j _ => by simp⟩
theorem sum_setS (L : List Int) (i : Nat) (h : i < L.length) (x : Int) : (L.set i x).sum = L.sum - L.getD i 0 + x := by
  induction L generalizing i with
  | nil => simp at h
  | cons y L ih =>
    cases i with
    | zero => simp; omega
    | succ i =>
      have := ih i (by simpa using h)
      simp only [List.set_cons_succ, List.sum_cons, List.getD_cons_succ]
      omega
theorem Given.next {Q O L : List Int} {t i : Nat} (h : Given Q O t L) (hnd : O.Nodup) (ht : t < O.length) (hi : O[t] = (i : Int)) (hil : i < Q.length) : Given Q O (t + 1) (L.set i (L.getD i 0 + 1)) ∧ L.getD i 0 = Q.getD i 0 := by
  have hni : (i : Int) ∉ O.take t := fun hm => by
    rw [← hi] at hm
    obtain ⟨j, hj, e⟩ := List.getElem_of_mem hm
    rw [List.getElem_take] at e
    have hjt : j < t := by rw [List.length_take] at hj; omega
    have := (List.pairwise_iff_getElem.1 hnd) j t (by omega) ht hjt
    exact this e
  have hlen := h.len
  have hq : L.getD i 0 = Q.getD i 0 := by rw [h.at_ i hil, if_neg hni, Int.add_zero]
  refine ⟨⟨by simp [hlen], ?_, fun j hj => ?_⟩, hq⟩
  · rw [sum_setS L i (by omega), h.sum]; omega
  · have hg : (L.set i (L.getD i 0 + 1)).getD j 0 = if i = j then L.getD i 0 + 1 else L.getD j 0 := by
      rw [List.getD_eq_getElem?_getD, List.getElem?_set]
      by_cases e : i = j
      · subst e; simp [show i < L.length by omega]
      · rw [if_neg e, if_neg e, ← List.getD_eq_getElem?_getD]
    rw [hg, List.take_succ_eq_append_getElem ht, hi]
    by_cases e : i = j
    · subst e
      rw [if_pos rfl, if_pos (List.mem_append_right _ (by simp)), hq]
    · rw [if_neg e, h.at_ j hj]
      have e2 : ¬ (j : Int) = (i : Int) := by omega
      have e3 : ((j : Int) ∈ O.take t ++ [(i : Int)]) ↔ (j : Int) ∈ O.take t := by simp [e2]
      by_cases e4 : (j : Int) ∈ O.take t
      · rw [if_pos e4, if_pos (e3.2 e4)]
      · rw [if_neg e4, if_neg (fun h => e4 (e3.1 h))]
def placesL (n : Nat) : List Int := (List.range n).map Int.ofNat
/-- What a division has: the quotients, and one more at the first places in order. -/
structure ShareOk (tot sum : Int) (ws P : List Int) : Prop where
  len : P.length = ws.length
  all : P.sum = tot
  ex : ∃ O : List Int, O.Perm (placesL ws.length) ∧ Srt (shareCm tot sum ws) 0 O ws.length ∧ StbC3 (shareCm tot sum ws) O ws.length ∧ ∀ j, j < ws.length → P.getD j 0 = (quoL tot sum ws).getD j 0 + if (j : Int) ∈ O.take (tot - (quoL tot sum ws).sum).toNat then 1 else 0
theorem ShareOk.each {tot sum : Int} {ws P : List Int} (h : ShareOk tot sum ws P) (j : Nat) (hj : j < ws.length) : (quoL tot sum ws).getD j 0 ≤ P.getD j 0 ∧ P.getD j 0 ≤ (quoL tot sum ws).getD j 0 + 1 := by
  obtain ⟨O, -, -, -, h⟩ := h.ex
  rw [h j hj]
  split <;> omega
def sortT (cm : Int → Int → Int) (a b : Int) : Prop := cm a b < 0 ∨ (¬ cm b a < 0 ∧ a < b)
theorem sort_unique {cm : Int → Int → Int} (hc : CmpOk cm) {O O' : List Int} {n : Nat} (hl : O.length = n) (hl' : O'.length = n) (hp : O.Perm O') (h1 : Srt cm 0 O n) (h2 : StbC3 cm O n) (h1' : Srt cm 0 O' n) (h2' : StbC3 cm O' n) : O = O' := by
  have pw : ∀ {O : List Int}, O.length = n → Srt cm 0 O n → StbC3 cm O n → O.Pairwise (sortT cm) := fun {O} hl h1 h2 => by
    rw [List.pairwise_iff_getElem]
    intro p q hp hq hpq
    have a1 := h1 p q hpq (by omega)
    have a2 := h2 p q hpq (by omega) a1
    rw [getD_eq O q 0 hq, getD_eq O p 0 hp] at a1 a2
    by_cases h : cm O[p] O[q] < 0
    · exact .inl h
    · exact .inr ⟨a1, a2 h⟩
  refine List.Perm.eq_of_pairwise (le := sortT cm) (fun a b _ _ hab hba => ?_) (pw hl h1 h2) (pw hl' h1' h2') hp
  rcases hab with hab | ⟨hab, hlt⟩
  · rcases hba with hba | ⟨hba, _⟩
    · exact absurd hba (hc.1 _ _ hab)
    · exact absurd hab hba
  · rcases hba with hba | ⟨_, hlt2⟩
    · exact absurd hba hab
    · omega
theorem ShareOk.unique {tot sum : Int} {ws P P' : List Int} (h : ShareOk tot sum ws P) (h' : ShareOk tot sum ws P') : P = P' := by
  obtain ⟨O, p1, p2, p3, p4⟩ := h.ex
  obtain ⟨O', q1, q2, q3, q4⟩ := h'.ex
  have hl : (placesL ws.length).length = ws.length := by simp [placesL]
  have e := sort_unique (shareCm_ok tot sum ws) (by rw [p1.length_eq, hl]) (by rw [q1.length_eq, hl]) (p1.trans q1.symm) p2 p3 q2 q3
  subst e
  refine List.ext_getElem (by rw [h.len, h'.len]) (fun j h1 h2 => ?_)
  have hj : j < ws.length := by rw [← h.len]; exact h1
  have a := p4 j hj
  rw [← q4 j hj, getD_eq P j 0 h1, getD_eq P' j 0 h2] at a
  exact a
theorem places_stb (cm : Int → Int → Int) (n : Nat) : StbC3 cm (placesL n) n := fun p q h1 h2 _ _ => by
  have e : ∀ i, i < n → (placesL n).getD i 0 = (i : Int) := fun i hi => by
    unfold placesL
    rw [List.getD_eq_getElem?_getD, List.getElem?_map, List.getElem?_range hi]; rfl
  rw [e p (by omega), e q h2]; omega
theorem places_nodup (n : Nat) : (placesL n).Nodup := by
  unfold placesL
  have := List.nodup_range (n := n)
  unfold List.Nodup at *
  rw [List.pairwise_map]
  exact this.imp (fun h e => h (Int.ofNat.inj e))
theorem places_mem {n : Nat} {x : Int} (h : x ∈ placesL n) : ∃ i : Nat, i < n ∧ x = (i : Int) := by
  obtain ⟨i, hi, rfl⟩ := List.mem_map.1 h
  exact ⟨i, List.mem_range.1 hi, rfl⟩

/-! A total divided among weights: the program. -/
attribute [local go_sem ↓] Go.wp_at_zero Go.wp_at_succ

theorem sum_bd (M : Int) (l : List Int) (h : ∀ x ∈ l, 0 ≤ x ∧ x ≤ M) : 0 ≤ l.sum ∧ l.sum ≤ M * l.length := by
  induction l with
  | nil => simp
  | cons x l ih =>
    have h1 := ih (fun y hy => h y (by simp [hy]))
    have h2 := h x (by simp)
    have e3 : ((x :: l).length : Int) = l.length + 1 := by simp
    rw [e3, Int.mul_add, List.sum_cons]
    omega
theorem mem_le_sum (l : List Int) (h : ∀ x ∈ l, 0 ≤ x) : ∀ x ∈ l, x ≤ l.sum := by
  induction l with
  | nil => intro x hx; cases hx
  | cons y l ih =>
    have h1 : 0 ≤ l.sum := by
      clear ih
      induction l with
      | nil => simp
      | cons z l ih => have := h z (by simp); have := ih (fun x hx => h x (by simp at hx ⊢; rcases hx with hx | hx <;> simp [hx])); simp only [List.sum_cons]; omega
    intro x hx
    have hy := h y (by simp)
    rw [List.sum_cons]
    rcases List.mem_cons.1 hx with rfl | hx
    · omega
    · have := ih (fun x hx => h x (by simp [hx])) x hx; omega
theorem quoL_bd (tot sum : Int) (ws : List Int) (ht0 : 0 ≤ tot) (ht1 : tot ≤ 1000000000) (hs0 : 0 < sum) (hw : ∀ x ∈ ws, 0 ≤ x) (hsum : ws.sum = sum) (k : Nat) : 0 ≤ (quoL tot sum (ws.take k)).sum ∧ (quoL tot sum (ws.take k)).sum ≤ 1000000000 * k := by
  have h := sum_bd 1000000000 (quoL tot sum (ws.take k)) (fun x hx => by
    obtain ⟨y, hy, rfl⟩ := List.mem_map.1 hx
    have hy2 := List.mem_of_mem_take hy
    have := quo_rem ht0 hs0 (hw y hy2)
    have := quoT_le ht0 hs0 (hw y hy2) (by rw [← hsum]; exact mem_le_sum ws hw y hy2)
    omega)
  have hl : (quoL tot sum (ws.take k)).length ≤ k := by simp [quoL]; omega
  omega
theorem fill_next (A : List Int) (n k : Nat) (x : Int) (hA : A.length = k) (hk : k < n) : (A ++ List.replicate (n - k) 0).set k x = (A ++ [x]) ++ List.replicate (n - (k + 1)) 0 := by
  rw [List.set_append_right _ _ (by omega), hA, Nat.sub_self, show n - k = (n - (k + 1)) + 1 by omega, List.replicate_succ, List.set_cons_zero]
  simp
theorem take_snoc (ws : List Int) (k : Nat) (h : k < ws.length) : ws.take (k + 1) = ws.take k ++ [ws[k]] := by simp
theorem places_next (k : Nat) : placesL (k + 1) = placesL k ++ [(k : Int)] := by unfold placesL; rw [List.range_succ, List.map_append]; rfl
theorem places_len (k : Nat) : (placesL k).length = k := by simp [placesL]
structure ShareW (wr w1 : World) (G1 G2 n : Nat) (L O : List Int) : Prop where
  out : wr.ownsRow G1 3 1 (.slice (some ⟨G1, 0, none⟩) n n) n (ints L)
  ord : wr.ownsRow G2 3 1 (.slice (some ⟨G2, 0, none⟩) n n) n (ints O)
  gr : w1.grownBy wr none
theorem ShareW.setOut {wr w1 : World} {G1 G2 n : Nat} {L O : List Int} (h : ShareW wr w1 G1 G2 n L O) (h12 : G1 < G2) (hz : w1.heap.size ≤ G1) (k : Nat) (hk : k < n) (x : Int) : ShareW (wr.setCell ⟨G1, k, none⟩ (.int .i64 x)) w1 G1 G2 n (L.set k x) O :=
  ⟨(own_int h.out k hk).2.2 x, own_keepS h.ord (gr_set (gr_refl _ _) rfl _) h12, gr_new h.gr hz _⟩
theorem ShareW.setOrd {wr w1 : World} {G1 G2 n : Nat} {L O : List Int} (h : ShareW wr w1 G1 G2 n L O) (h12 : G1 < G2) (hz : w1.heap.size ≤ G1) (k : Nat) (hk : k < n) (x : Int) : ShareW (wr.setCell ⟨G2, k, none⟩ (.int .i64 x)) w1 G1 G2 n L (O.set k x) :=
  ⟨own_keep h.out (gr_set (q := ⟨G2, k, none⟩) (gr_refl wr (some G2)) rfl _) (.inr (fun e => by simp [Value.ownBlock] at e; omega)), (own_int h.ord k hk).2.2 x, gr_new h.gr (Nat.le_trans hz (Nat.le_of_lt h12)) _⟩
def SharePost (tot sum : Int) (ws : List Int) (w : World) (e : Ending) (w' : World) : Prop := ∃ v P, e = .returned v ∧ w'.ownsRow w.heap.size 3 1 v ws.length (ints P) ∧ ShareOk tot sum ws P ∧ w.grownBy w' none
end Go.Proofs.YthikknnadmebgaaGreatDoor

/-! Shares of named partners: whoever comes first. No program in sight. -/
namespace Go.Proofs.YthikknnadmebgaaGreatDoor
open Go.RowKit

structure Nm where
  key : ByteArray
  many : Int
/-- What may be divided among. -/
structure FitW (ws : List Int) : Prop where
  pos : 0 < ws.length
  each : ∀ x ∈ ws, 0 ≤ x ∧ x ≤ 1000000
  sum : 0 < ws.sum
structure FitN (p : List Nm) : Prop where
  keys : ∀ x ∈ p, keyB x.key = true
  apart : p.Pairwise (fun a b => a.key ≠ b.key)
  fit : FitW (p.map Nm.many)
theorem sum_perm {a b : List Int} (h : a.Perm b) : a.sum = b.sum := by
  induction h with
  | nil => rfl
  | cons x _ ih => simp only [List.sum_cons]; omega
  | swap x y l => simp only [List.sum_cons]; omega
  | trans _ _ h1 h2 => omega
theorem FitW.perm {a b : List Int} (h : FitW a) (hp : a.Perm b) : FitW b :=
  ⟨by rw [← hp.length_eq]; exact h.pos, fun x hx => h.each x (hp.mem_iff.2 hx), by rw [← sum_perm hp]; exact h.sum⟩
theorem FitN.perm {a b : List Nm} (h : FitN a) (hp : a.Perm b) : FitN b :=
  ⟨fun x hx => h.keys x (hp.mem_iff.2 hx), (hp.pairwise_iff (fun hxy e => hxy e.symm)).1 h.apart, h.fit.perm (hp.map _)⟩
def keyLt (a b : Nm) : Prop := cmpB a.key b.key < 0
/-- What each partner gets: by key. -/
structure SharesOf (tot : Int) (p : List Nm) (P : List Int) : Prop where
  len : P.length = p.length
  all : P.sum = tot
  ex : ∃ (Z : List Nm) (Q : List Int), Z.Perm p ∧ Z.Pairwise keyLt ∧ ShareOk tot (Z.map Nm.many).sum (Z.map Nm.many) Q ∧ ∀ i k (hi : i < p.length) (hk : k < Z.length), Z[k] = p[i] → P.getD i 0 = Q.getD k 0
theorem SharesOf.same {tot : Int} {p p' : List Nm} {P P' : List Int} (h : SharesOf tot p P) (h' : SharesOf tot p' P') (hp : p'.Perm p) (i j : Nat) (hi : i < p'.length) (hj : j < p.length) (e : p'[i] = p[j]) : P'.getD i 0 = P.getD j 0 := by
  obtain ⟨Z, Q, z1, z2, z3, z4⟩ := h.ex
  obtain ⟨Z', Q', y1, y2, y3, y4⟩ := h'.ex
  have ez : Z = Z' := by
    refine List.Perm.eq_of_pairwise (le := keyLt) (fun a b _ _ hab hba => ?_) z2 y2 (z1.trans (hp.symm.trans y1.symm))
    unfold keyLt at hab hba
    rw [cmpB_anti a.key b.key] at hba
    omega
  subst ez
  have eq := z3.unique y3
  subst eq
  have hm : p[j] ∈ Z := z1.mem_iff.2 (List.getElem_mem hj)
  obtain ⟨k, hk, ek⟩ := List.getElem_of_mem hm
  rw [y4 i k hi hk (by rw [ek, e]), z4 j k hj hk ek]
end Go.Proofs.YthikknnadmebgaaGreatDoor
