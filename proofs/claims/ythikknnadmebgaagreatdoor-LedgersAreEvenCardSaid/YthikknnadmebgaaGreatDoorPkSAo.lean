/- The comparison by which a coil is rotated. -/
import Derived.Test.YthikknnadmebgaaGreatDoorPkSAd
import Derived.Test.YthikknnadmebgaaGreatDoorPkSAf
import Derived.Test.YthikknnadmebgaaGreatDoorPkSAm
import Derived.Test.YthikknnadmebgaaGreatDoorPkSAn
namespace Go.Proofs.YthikknnadmebgaaGreatDoor
open Go.RowKit
attribute [local go_sem ↓] Go.wp_at_zero Go.wp_at_succ

def cmpN (a b : Int) : Int := if a < b then -1 else if b < a then 1 else 0
def orI (a b : Int) : Int := if a = 0 then b else a
def rotCm (xs : List Lot) (x y : Piece) : Int := orI (cmpN (lotGet xs x.lot).exp (lotGet xs y.lot).exp) (cmpB x.lot y.lot)
theorem rotCm_bd (xs : List Lot) (x y : Piece) : -1 ≤ rotCm xs x y ∧ rotCm xs x y ≤ 1 := by
  have := cmpB_bd x.lot y.lot
  unfold rotCm orI cmpN
  split <;> split at * <;> (try split at *) <;> omega
theorem rotCm_neg {xs : List Lot} {x y : Piece} : rotCm xs x y < 0 ↔ (lotGet xs x.lot).exp < (lotGet xs y.lot).exp ∨ ((lotGet xs x.lot).exp = (lotGet xs y.lot).exp ∧ x.lot.data.toList < y.lot.data.toList) := by
  rw [← cmpB_neg]
  unfold rotCm orI cmpN
  by_cases h1 : (lotGet xs x.lot).exp < (lotGet xs y.lot).exp
  · rw [if_pos h1]; simp [h1]
  · rw [if_neg h1]
    by_cases h2 : (lotGet xs y.lot).exp < (lotGet xs x.lot).exp
    · rw [if_pos h2]; simp; omega
    · rw [if_neg h2]; simp; omega
theorem rotCm_ok (xs : List Lot) : CmpOk (rotCm xs) := by
  refine ⟨fun a b h => ?_, fun a b c h1 h2 h3 => ?_⟩
  · rw [rotCm_neg] at h ⊢
    rintro (g | ⟨g, g2⟩)
    · rcases h with h | ⟨h, _⟩ <;> omega
    · rcases h with h | ⟨_, h2⟩
      · omega
      · exact ltL_irrefl _ (ltL_trans h2 g2)
  · rw [rotCm_neg] at h1 h2 h3
    have tri := fun (x y : ByteArray) => compareBytes_sign x.data.toList y.data.toList
    rcases h3 with h3 | ⟨h3, h4⟩
    · have a1 : ¬ (lotGet xs b.lot).exp < (lotGet xs a.lot).exp := fun h => h1 (.inl h)
      have a2 : ¬ (lotGet xs c.lot).exp < (lotGet xs b.lot).exp := fun h => h2 (.inl h)
      omega
    · have a1 : ¬ (lotGet xs b.lot).exp < (lotGet xs a.lot).exp := fun h => h1 (.inl h)
      have a2 : ¬ (lotGet xs c.lot).exp < (lotGet xs b.lot).exp := fun h => h2 (.inl h)
      have e1 : (lotGet xs b.lot).exp = (lotGet xs a.lot).exp := by omega
      have e2 : (lotGet xs c.lot).exp = (lotGet xs b.lot).exp := by omega
      have n1 : ¬ b.lot.data.toList < a.lot.data.toList := fun h => h1 (.inr ⟨e1, h⟩)
      have n2 : ¬ c.lot.data.toList < b.lot.data.toList := fun h => h2 (.inr ⟨e2, h⟩)
      rcases tri a.lot b.lot with ⟨_, h⟩ | ⟨_, h⟩ | ⟨_, h⟩
      · exact n2 (ltL_trans h4 h)
      · rw [h] at h4; exact n2 h4
      · exact n1 h
end Go.Proofs.YthikknnadmebgaaGreatDoor

/-! A total divided among weights: no program in sight. -/
namespace Go.Proofs.YthikknnadmebgaaGreatDoor
open Go.RowKit

def quoT (tot sum w : Int) : Int := (tot * w).tdiv sum
def remT (tot sum w : Int) : Int := (tot * w).tmod sum
theorem quo_rem {tot sum w : Int} (h0 : 0 ≤ tot) (hs : 0 < sum) (hw : 0 ≤ w) : sum * quoT tot sum w + remT tot sum w = tot * w ∧ 0 ≤ remT tot sum w ∧ remT tot sum w < sum ∧ 0 ≤ quoT tot sum w := by
  have hn : 0 ≤ tot * w := Int.mul_nonneg h0 hw
  unfold quoT remT
  refine ⟨Int.mul_tdiv_add_tmod _ _, ?_, Int.tmod_lt_of_pos _ hs, ?_⟩
  · rw [Int.tmod_eq_emod_of_nonneg hn]; exact Int.emod_nonneg _ (by omega)
  · rw [Int.tdiv_eq_ediv_of_nonneg hn]; exact Int.ediv_nonneg hn (by omega)
theorem quoT_le {tot sum w : Int} (h0 : 0 ≤ tot) (hs : 0 < sum) (hw : 0 ≤ w) (hws : w ≤ sum) : quoT tot sum w ≤ tot := by
  have hn : 0 ≤ tot * w := Int.mul_nonneg h0 hw
  unfold quoT
  rw [Int.tdiv_eq_ediv_of_nonneg hn]
  exact Int.ediv_le_of_le_mul hs (Int.mul_le_mul_of_nonneg_left hws h0)
def quoL (tot sum : Int) (ws : List Int) : List Int := ws.map (quoT tot sum)
theorem sumI_app (a b : List Int) : (a ++ b).sum = a.sum + b.sum := by simp
theorem share_bd (tot sum : Int) (h0 : 0 ≤ tot) (hs : 0 < sum) (ws : List Int) (h : ∀ w ∈ ws, 0 ≤ w) : sum * (quoL tot sum ws).sum ≤ tot * ws.sum ∧ tot * ws.sum ≤ sum * (quoL tot sum ws).sum + sum * ws.length := by
  induction ws with
  | nil => simp [quoL]
  | cons w ws ih =>
    obtain ⟨i1, i2⟩ := ih (fun x hx => h x (by simp [hx]))
    obtain ⟨e, r0, r1, -⟩ := quo_rem h0 hs (h w (by simp))
    have e1 : (quoL tot sum (w :: ws)).sum = quoT tot sum w + (quoL tot sum ws).sum := by simp [quoL]
    have e2 : (w :: ws).sum = w + ws.sum := by simp
    have e3 : ((w :: ws).length : Int) = ws.length + 1 := by simp
    rw [e1, e2, e3, Int.mul_add, Int.mul_add, Int.mul_add, Int.mul_one]
    omega
theorem share_left (tot sum : Int) (h0 : 0 ≤ tot) (hs : 0 < sum) (ws : List Int) (h : ∀ w ∈ ws, 0 ≤ w) (he : ws.sum = sum) : 0 ≤ tot - (quoL tot sum ws).sum ∧ tot - (quoL tot sum ws).sum ≤ ws.length := by
  obtain ⟨h1, h2⟩ := share_bd tot sum h0 hs ws h
  rw [he] at h1 h2
  constructor
  · have : sum * (quoL tot sum ws).sum ≤ sum * tot := by rw [Int.mul_comm sum tot]; exact h1
    have := Int.le_of_mul_le_mul_left this hs
    omega
  · have : sum * tot ≤ sum * ((quoL tot sum ws).sum + ws.length) := by rw [Int.mul_add, Int.mul_comm sum tot]; exact h2
    have := Int.le_of_mul_le_mul_left this hs
    omega
/-- The comparison of two places by what their parts leave. -/
def shareCm (tot sum : Int) (ws : List Int) (a b : Int) : Int := cmpN (remT tot sum (ws.getD b.toNat 0)) (remT tot sum (ws.getD a.toNat 0))
theorem shareCm_neg {tot sum : Int} {ws : List Int} {a b : Int} : shareCm tot sum ws a b < 0 ↔ remT tot sum (ws.getD b.toNat 0) < remT tot sum (ws.getD a.toNat 0) := by
  unfold shareCm cmpN
  generalize remT tot sum (ws.getD b.toNat 0) = u
  generalize remT tot sum (ws.getD a.toNat 0) = v
  split
  · simp [*]
  · split <;> simp <;> omega
theorem shareCm_ok (tot sum : Int) (ws : List Int) : CmpOk (shareCm tot sum ws) := ⟨fun a b h => by rw [shareCm_neg] at *; omega, fun a b c h1 h2 => by rw [shareCm_neg] at *; omega⟩
/-- What stands while the rest is given out, one to each of the first in order. -/
structure Given (Q : List Int) (O : List Int) (t : Nat) (L : List Int) : Prop where
  len : L.length = Q.length
  sum : L.sum = Q.sum + t
  at_ : ∀ j, j < Q.length → L.getD j 0 = Q.getD j 0 + if (j : Int) ∈ O.take t then 1 else 0
theorem Given.start (Q O : List Int) : Given Q O 0 Q := ⟨rfl, by simp, fun j _ => by simp⟩
theorem sum_setS (L : List Int) (i : Nat) (h : i < L.length) (x : Int) : (L.set i x).sum = L.sum - L.getD i 0 + x := by
  induction L generalizing i with
  | nil => simp at h
  | cons y L ih =>
    cases i with
    | zero => simp; omega
    | succ i =>
      have := ih i (by simpa using h)
      simp only [List.set_cons_succ, List.sum_cons, List.getD_cons_succ]
      omega
theorem Given.next {Q O L : List Int} {t i : Nat} (h : Given Q O t L) (hnd : O.Nodup) (ht : t < O.length) (hi : O[t] = (i : Int)) (hil : i < Q.length) : Given Q O (t + 1) (L.set i (L.getD i 0 + 1)) ∧ L.getD i 0 = Q.getD i 0 := by
  have hni : (i : Int) ∉ O.take t := fun hm => by
    rw [← hi] at hm
    obtain ⟨j, hj, e⟩ := List.getElem_of_mem hm
    rw [List.getElem_take] at e
    have hjt : j < t := by rw [List.length_take] at hj; omega
    have := (List.pairwise_iff_getElem.1 hnd) j t (by omega) ht hjt
    exact this e
  have hlen := h.len
  have hq : L.getD i 0 = Q.getD i 0 := by rw [h.at_ i hil, if_neg hni, Int.add_zero]
  refine ⟨⟨by simp [hlen], ?_, fun j hj => ?_⟩, hq⟩
  · rw [sum_setS L i (by omega), h.sum]; omega
  · have hg : (L.set i (L.getD i 0 + 1)).getD j 0 = if i = j then L.getD i 0 + 1 else L.getD j 0 := by
      rw [List.getD_eq_getElem?_getD, List.getElem?_set]
      by_cases e : i = j
      · subst e; simp [show i < L.length by omega]
      · rw [if_neg e, if_neg e, ← List.getD_eq_getElem?_getD]
    rw [hg, List.take_succ_eq_append_getElem ht, hi]
    by_cases e : i = j
    · subst e
      rw [if_pos rfl, if_pos (List.mem_append_right _ (by simp)), hq]
    · rw [if_neg e, h.at_ j hj]
      have e2 : ¬ (j : Int) = (i : Int) := by omega
      have e3 : ((j : Int) ∈ O.take t ++ [(i : Int)]) ↔ (j : Int) ∈ O.take t := by simp [e2]
      by_cases e4 : (j : Int) ∈ O.take t
      · rw [if_pos e4, if_pos (e3.2 e4)]
      · rw [if_neg e4, if_neg (fun h => e4 (e3.1 h))]
def placesL (n : Nat) : List Int := (List.range n).map Int.ofNat
/-- What a division has: the quotients, and one more at the first places in order. -/
structure ShareOk (tot sum : Int) (ws P : List Int) : Prop where
  len : P.length = ws.length
  all : P.sum = tot
  ex : ∃ O : List Int, O.Perm (placesL ws.length) ∧ Srt (shareCm tot sum ws) 0 O ws.length ∧ StbC3 (shareCm tot sum ws) O ws.length ∧ ∀ j, j < ws.length → P.getD j 0 = (quoL tot sum ws).getD j 0 + if (j : Int) ∈ O.take (tot - (quoL tot sum ws).sum).toNat then 1 else 0
theorem ShareOk.each {tot sum : Int} {ws P : List Int} (h : ShareOk tot sum ws P) (j : Nat) (hj : j < ws.length) : (quoL tot sum ws).getD j 0 ≤ P.getD j 0 ∧ P.getD j 0 ≤ (quoL tot sum ws).getD j 0 + 1 := by
  obtain ⟨O, -, -, -, h⟩ := h.ex
  rw [h j hj]
  split <;> omega
def sortT (cm : Int → Int → Int) (a b : Int) : Prop := cm a b < 0 ∨ (¬ cm b a < 0 ∧ a < b)
theorem sort_unique {cm : Int → Int → Int} (hc : CmpOk cm) {O O' : List Int} {n : Nat} (hl : O.length = n) (hl' : O'.length = n) (hp : O.Perm O') (h1 : Srt cm 0 O n) (h2 : StbC3 cm O n) (h1' : Srt cm 0 O' n) (h2' : StbC3 cm O' n) : O = O' := by
  have pw : ∀ {O : List Int}, O.length = n → Srt cm 0 O n → StbC3 cm O n → O.Pairwise (sortT cm) := fun {O} hl h1 h2 => by
    rw [List.pairwise_iff_getElem]
    intro p q hp hq hpq
    have a1 := h1 p q hpq (by omega)
    have a2 := h2 p q hpq (by omega) a1
    rw [getD_eq O q 0 hq, getD_eq O p 0 hp] at a1 a2
    by_cases h : cm O[p] O[q] < 0
    · exact .inl h
    · exact .inr ⟨a1, a2 h⟩
  refine List.Perm.eq_of_pairwise (le := sortT cm) (fun a b _ _ hab hba => ?_) (pw hl h1 h2) (pw hl' h1' h2') hp
  rcases hab with hab | ⟨hab, hlt⟩
  · rcases hba with hba | ⟨hba, _⟩
    · exact absurd hba (hc.1 _ _ hab)
    · exact absurd hab hba
  · rcases hba with hba | ⟨_, hlt2⟩
    · exact absurd hba hab
    · omega
theorem ShareOk.unique {tot sum : Int} {ws P P' : List Int} (h : ShareOk tot sum ws P) (h' : ShareOk tot sum ws P') : P = P' := by
  obtain ⟨O, p1, p2, p3, p4⟩ := h.ex
  obtain ⟨O', q1, q2, q3, q4⟩ := h'.ex
  have hl : (placesL ws.length).length = ws.length := by simp [placesL]
  have e := sort_unique (shareCm_ok tot sum ws) (by rw [p1.length_eq, hl]) (by rw [q1.length_eq, hl]) (p1.trans q1.symm) p2 p3 q2 q3
  subst e
  refine List.ext_getElem (by rw [h.len, h'.len]) (fun j h1 h2 => ?_)
  have hj : j < ws.length := by rw [← h.len]; exact h1
  have a := p4 j hj
  rw [← q4 j hj, getD_eq P j 0 h1, getD_eq P' j 0 h2] at a
  exact a
theorem places_stb (cm : Int → Int → Int) (n : Nat) : StbC3 cm (placesL n) n := fun p q h1 h2 _ _ => by
  have e : ∀ i, i < n → (placesL n).getD i 0 = (i : Int) := fun i hi => by
    unfold placesL
    rw [List.getD_eq_getElem?_getD, List.getElem?_map, List.getElem?_range hi]; rfl
  rw [e p (by omega), e q h2]; omega
theorem places_nodup (n : Nat) : (placesL n).Nodup := by
  unfold placesL
  have := List.nodup_range (n := n)
  unfold List.Nodup at *
  rw [List.pairwise_map]
  exact this.imp (fun h e => h (Int.ofNat.inj e))
theorem places_mem {n : Nat} {x : Int} (h : x ∈ placesL n) : ∃ i : Nat, i < n ∧ x = (i : Int) := by
  obtain ⟨i, hi, rfl⟩ := List.mem_map.1 h
  exact ⟨i, List.mem_range.1 hi, rfl⟩

/-! A total divided among weights: the program. -/
attribute [local go_sem ↓] Go.wp_at_zero Go.wp_at_succ

theorem sum_bd (M : Int) (l : List Int) (h : ∀ x ∈ l, 0 ≤ x ∧ x ≤ M) : 0 ≤ l.sum ∧ l.sum ≤ M * l.length := by
  induction l with
  | nil => simp
  | cons x l ih =>
    have h1 := ih (fun y hy => h y (by simp [hy]))
    have h2 := h x (by simp)
    have e3 : ((x :: l).length : Int) = l.length + 1 := by simp
    rw [e3, Int.mul_add, List.sum_cons]
    omega
theorem mem_le_sum (l : List Int) (h : ∀ x ∈ l, 0 ≤ x) : ∀ x ∈ l, x ≤ l.sum := by
  induction l with
  | nil => intro x hx; cases hx
  | cons y l ih =>
    have h1 : 0 ≤ l.sum := by
      clear ih
      induction l with
      | nil => simp
      | cons z l ih => have := h z (by simp); have := ih (fun x hx => h x (by simp at hx ⊢; rcases hx with hx | hx <;> simp [hx])); simp only [List.sum_cons]; omega
    intro x hx
    have hy := h y (by simp)
    rw [List.sum_cons]
    rcases List.mem_cons.1 hx with rfl | hx
    · omega
    · have := ih (fun x hx => h x (by simp [hx])) x hx; omega
theorem quoL_bd (tot sum : Int) (ws : List Int) (ht0 : 0 ≤ tot) (ht1 : tot ≤ 1000000000) (hs0 : 0 < sum) (hw : ∀ x ∈ ws, 0 ≤ x) (hsum : ws.sum = sum) (k : Nat) : 0 ≤ (quoL tot sum (ws.take k)).sum ∧ (quoL tot sum (ws.take k)).sum ≤ 1000000000 * k := by
  have h := sum_bd 1000000000 (quoL tot sum (ws.take k)) (fun x hx => by
    obtain ⟨y, hy, rfl⟩ := List.mem_map.1 hx
    have hy2 := List.mem_of_mem_take hy
    have := quo_rem ht0 hs0 (hw y hy2)
    have := quoT_le ht0 hs0 (hw y hy2) (by rw [← hsum]; exact mem_le_sum ws hw y hy2)
    omega)
  have hl : (quoL tot sum (ws.take k)).length ≤ k := by simp [quoL]; omega
  omega
theorem fill_next (A : List Int) (n k : Nat) (x : Int) (hA : A.length = k) (hk : k < n) : (A ++ List.replicate (n - k) 0).set k x = (A ++ [x]) ++ List.replicate (n - (k + 1)) 0 := by
  rw [List.set_append_right _ _ (by omega), hA, Nat.sub_self, show n - k = (n - (k + 1)) + 1 by omega, List.replicate_succ, List.set_cons_zero]
  simp
theorem take_snoc (ws : List Int) (k : Nat) (h : k < ws.length) : ws.take (k + 1) = ws.take k ++ [ws[k]] := by simp
theorem places_next (k : Nat) : placesL (k + 1) = placesL k ++ [(k : Int)] := by unfold placesL; rw [List.range_succ, List.map_append]; rfl
theorem places_len (k : Nat) : (placesL k).length = k := by simp [placesL]
structure ShareW (wr w1 : World) (G1 G2 n : Nat) (L O : List Int) : Prop where
  out : wr.ownsRow G1 3 1 (.slice (some ⟨G1, 0, none⟩) n n) n (ints L)
  ord : wr.ownsRow G2 3 1 (.slice (some ⟨G2, 0, none⟩) n n) n (ints O)
  gr : w1.grownBy wr none
theorem ShareW.setOut {wr w1 : World} {G1 G2 n : Nat} {L O : List Int} (h : ShareW wr w1 G1 G2 n L O) (h12 : G1 < G2) (hz : w1.heap.size ≤ G1) (k : Nat) (hk : k < n) (x : Int) : ShareW (wr.setCell ⟨G1, k, none⟩ (.int .i64 x)) w1 G1 G2 n (L.set k x) O :=
  ⟨(own_int h.out k hk).2.2 x, own_keepS h.ord (gr_set (gr_refl _ _) rfl _) h12, gr_new h.gr hz _⟩
theorem ShareW.setOrd {wr w1 : World} {G1 G2 n : Nat} {L O : List Int} (h : ShareW wr w1 G1 G2 n L O) (h12 : G1 < G2) (hz : w1.heap.size ≤ G1) (k : Nat) (hk : k < n) (x : Int) : ShareW (wr.setCell ⟨G2, k, none⟩ (.int .i64 x)) w1 G1 G2 n L (O.set k x) :=
  ⟨own_keep h.out (gr_set (q := ⟨G2, k, none⟩) (gr_refl wr (some G2)) rfl _) (.inr (fun e => by simp [Value.ownBlock] at e; omega)), (own_int h.ord k hk).2.2 x, gr_new h.gr (Nat.le_trans hz (Nat.le_of_lt h12)) _⟩
def SharePost (tot sum : Int) (ws : List Int) (w : World) (e : Ending) (w' : World) : Prop := ∃ v P, e = .returned v ∧ w'.ownsRow w.heap.size 3 1 v ws.length (ints P) ∧ ShareOk tot sum ws P ∧ w.grownBy w' none
end Go.Proofs.YthikknnadmebgaaGreatDoor

/-! Shares of named partners: whoever comes first. No program in sight. -/
namespace Go.Proofs.YthikknnadmebgaaGreatDoor
open Go.RowKit

structure Nm where
  key : ByteArray
  many : Int
/-- What may be divided among. -/
structure FitW (ws : List Int) : Prop where
  pos : 0 < ws.length
  each : ∀ x ∈ ws, 0 ≤ x ∧ x ≤ 1000000
  sum : 0 < ws.sum
structure FitN (p : List Nm) : Prop where
  keys : ∀ x ∈ p, keyB x.key = true
  apart : p.Pairwise (fun a b => a.key ≠ b.key)
  fit : FitW (p.map Nm.many)
theorem sum_perm {a b : List Int} (h : a.Perm b) : a.sum = b.sum := by
  induction h with
  | nil => rfl
  | cons x _ ih => simp only [List.sum_cons]; omega
  | swap x y l => simp only [List.sum_cons]; omega
  | trans _ _ h1 h2 => omega
theorem FitW.perm {a b : List Int} (h : FitW a) (hp : a.Perm b) : FitW b :=
  ⟨by rw [← hp.length_eq]; exact h.pos, fun x hx => h.each x (hp.mem_iff.2 hx), by rw [← sum_perm hp]; exact h.sum⟩
theorem FitN.perm {a b : List Nm} (h : FitN a) (hp : a.Perm b) : FitN b :=
  ⟨fun x hx => h.keys x (hp.mem_iff.2 hx), (hp.pairwise_iff (fun hxy e => hxy e.symm)).1 h.apart, h.fit.perm (hp.map _)⟩
def keyLt (a b : Nm) : Prop := cmpB a.key b.key < 0
/-- What each partner gets: by key. -/
structure SharesOf (tot : Int) (p : List Nm) (P : List Int) : Prop where
  len : P.length = p.length
  all : P.sum = tot
  ex : ∃ (Z : List Nm) (Q : List Int), Z.Perm p ∧ Z.Pairwise keyLt ∧ ShareOk tot (Z.map Nm.many).sum (Z.map Nm.many) Q ∧ ∀ i k (hi : i < p.length) (hk : k < Z.length), Z[k] = p[i] → P.getD i 0 = Q.getD k 0
theorem SharesOf.same {tot : Int} {p p' : List Nm} {P P' : List Int} (h : SharesOf tot p P) (h' : SharesOf tot p' P') (hp : p'.Perm p) (i j : Nat) (hi : i < p'.length) (hj : j < p.length) (e : p'[i] = p[j]) : P'.getD i 0 = P.getD j 0 := by
  obtain ⟨Z, Q, z1, z2, z3, z4⟩ := h.ex
  obtain ⟨Z', Q', y1, y2, y3, y4⟩ := h'.ex
  have ez : Z = Z' := by
    refine List.Perm.eq_of_pairwise (le := keyLt) (fun a b _ _ hab hba => ?_) z2 y2 (z1.trans (hp.symm.trans y1.symm))
    unfold keyLt at hab hba
    rw [cmpB_anti a.key b.key] at hba
    omega
  subst ez
  have eq := z3.unique y3
  subst eq
  have hm : p[j] ∈ Z := z1.mem_iff.2 (List.getElem_mem hj)
  obtain ⟨k, hk, ek⟩ := List.getElem_of_mem hm
  rw [y4 i k hi hk (by rw [ek, e]), z4 j k hj hk ek]
end Go.Proofs.YthikknnadmebgaaGreatDoor

/-! Shares by key: the order, the weights, what is laid where. No program in sight. -/
namespace Go.Proofs.YthikknnadmebgaaGreatDoor
open Go.RowKit

theorem bytesN_of {a b : ByteArray} (h : a.toList = b.toList) : a = b := by
  rw [ByteArray.toList_eq, ByteArray.toList_eq] at h
  cases a; cases b
  simp at h
  rw [h]
def nmD : Nm := ⟨⟨#[]⟩, 0⟩
def nmN (p : List Nm) (i : Nat) : Nm := p.getD i nmD
theorem nmN_get {p : List Nm} {i : Nat} (h : i < p.length) : nmN p i = p[i] := by
  unfold nmN
  rw [List.getD_eq_getElem?_getD, List.getElem?_eq_getElem h]; rfl
def nmCm (p : List Nm) (a b : Int) : Int := cmpB (nmN p a.toNat).key (nmN p b.toNat).key
theorem nmCm_ok (p : List Nm) : CmpOk (nmCm p) := by
  refine ⟨fun a b h => ?_, fun a b c h1 h2 h3 => ?_⟩
  · unfold nmCm at *
    rw [cmpB_anti (nmN p a.toNat).key (nmN p b.toNat).key]; omega
  · unfold nmCm at *
    rw [cmpB_neg] at h1 h2 h3
    rcases compareBytes_sign (nmN p b.toNat).key.data.toList (nmN p a.toNat).key.data.toList with ⟨_, g⟩ | ⟨_, g⟩ | ⟨_, g⟩
    · exact h1 g
    · rw [g] at h2; exact h2 h3
    · exact h2 (ltL_trans h3 g)
def sortedN (p : List Nm) (O : List Int) : List Nm := O.map (fun i => nmN p i.toNat)
theorem places_map (p : List Nm) : (placesL p.length).map (fun i => nmN p i.toNat) = p := by
  refine List.ext_getElem (by simp [placesL]) (fun i h1 h2 => ?_)
  simp [placesL, nmN_get h2]
theorem sortedN_perm {p : List Nm} {O : List Int} (h : O.Perm (placesL p.length)) : (sortedN p O).Perm p := by
  have := h.map (fun i => nmN p i.toNat)
  rw [places_map] at this
  exact this
theorem order_at {p : List Nm} {O : List Int} (h : O.Perm (placesL p.length)) (t : Nat) (ht : t < O.length) : ∃ i : Nat, i < p.length ∧ O[t] = (i : Int) := places_mem (h.mem_iff.1 (List.getElem_mem ht))
theorem apart_ne {p : List Nm} (h : p.Pairwise (fun a b => a.key ≠ b.key)) {i j : Nat} (hi : i < p.length) (hj : j < p.length) (e : p[i].key = p[j].key) : i = j := by
  rcases Nat.lt_trichotomy i j with g | g | g
  · exact absurd e ((List.pairwise_iff_getElem.1 h) i j hi hj g)
  · exact g
  · exact absurd e.symm ((List.pairwise_iff_getElem.1 h) j i hj hi g)
theorem sortedN_lt {p : List Nm} {O : List Int} (h : O.Perm (placesL p.length)) (hs : Srt (nmCm p) 0 O p.length) (ha : p.Pairwise (fun a b => a.key ≠ b.key)) : (sortedN p O).Pairwise keyLt := by
  have hl : O.length = p.length := by rw [h.length_eq, places_len]
  have hnd := h.nodup_iff.2 (places_nodup p.length)
  rw [List.pairwise_iff_getElem]
  intro i j hi hj hij
  have hi2 : i < O.length := by simpa [sortedN] using hi
  have hj2 : j < O.length := by simpa [sortedN] using hj
  have h1 := hs i j hij (by omega)
  rw [getD_eq O i 0 hi2, getD_eq O j 0 hj2] at h1
  obtain ⟨a, ha2, ea⟩ := order_at h i hi2
  obtain ⟨b, hb2, eb⟩ := order_at h j hj2
  have hne := (List.pairwise_iff_getElem.1 hnd) i j hi2 hj2 hij
  rw [ea, eb] at hne h1
  unfold keyLt
  simp only [sortedN, List.getElem_map, ea, eb, Int.toNat_natCast, nmN_get ha2, nmN_get hb2]
  unfold nmCm at h1
  simp only [Int.toNat_natCast, nmN_get ha2, nmN_get hb2] at h1
  have h3 : ¬ cmpB p[a].key p[b].key = 0 := fun e => hne (by rw [apart_ne ha ha2 hb2 (cmpB_zero.1 e)])
  rw [cmpB_anti p[a].key p[b].key] at h1
  omega
theorem set_getD (L : List Int) (i : Nat) (x : Int) (h : i < L.length) (j : Nat) : (L.set i x).getD j 0 = if i = j then x else L.getD j 0 := by
  rw [List.getD_eq_getElem?_getD, List.getElem?_set]
  by_cases e : i = j
  · subst e; simp [h]
  · rw [if_neg e, if_neg e, ← List.getD_eq_getElem?_getD]
/-- What stands while the parts are laid in the places of the order. -/
structure LaidAt (O Q : List Int) (n k : Nat) (L : List Int) : Prop where
  len : L.length = n
  sum : L.sum = (Q.take k).sum
  at_ : ∀ j (_ : j < O.length), j < k → L.getD (O.getD j 0).toNat 0 = Q.getD j 0
  zero : ∀ i : Nat, i < n → (i : Int) ∉ O.take k → L.getD i 0 = 0
theorem LaidAt.start (O Q : List Int) (n : Nat) : LaidAt O Q n 0 (List.replicate n 0) :=
  ⟨by simp, by induction n with
    | zero => rfl
    | succ n ih => rw [List.replicate_succ, List.sum_cons, ih]; simp, fun j _ h => absurd h (Nat.not_lt_zero _), fun i hi _ => by rw [getD_eq _ _ _ (by simpa using hi), List.getElem_replicate]⟩
theorem LaidAt.next {O Q L : List Int} {n k i : Nat} (h : LaidAt O Q n k L) (hnd : O.Nodup) (hm : ∀ t (ht : t < O.length), ∃ i : Nat, i < n ∧ O[t] = (i : Int)) (hk : k < O.length) (hq : Q.length = O.length) (hi : O[k] = (i : Int)) (hin : i < n) : LaidAt O Q n (k + 1) (L.set i (Q.getD k 0)) := by
  have hlen := h.len
  have hni : (i : Int) ∉ O.take k := fun hmm => by
    rw [← hi] at hmm
    obtain ⟨j, hj, e⟩ := List.getElem_of_mem hmm
    rw [List.getElem_take] at e
    have hjt : j < k := by rw [List.length_take] at hj; omega
    exact (List.pairwise_iff_getElem.1 hnd) j k (by omega) hk hjt e
  refine ⟨by simp [hlen], ?_, fun j hj hjk => ?_, fun j hj hjm => ?_⟩
  · rw [sum_setS L i (by omega), h.zero i hin hni, h.sum, take_snoc Q k (by omega), sumI_app, getD_eq Q k 0 (by omega)]
    simp
  · rw [set_getD L i _ (by omega)]
    by_cases e : j = k
    · subst e
      rw [getD_eq O j 0 hj, hi, if_pos (by simp)]
    · obtain ⟨b, hb, eb⟩ := hm j hj
      have hne := (List.pairwise_iff_getElem.1 hnd) j k hj hk (by omega)
      rw [eb, hi] at hne
      have := h.at_ j hj (by omega)
      rw [getD_eq O j 0 hj, eb] at this ⊢
      rw [if_neg (by simp; omega)]
      exact this
  · rw [set_getD L i _ (by omega)]
    have h1 : (j : Int) ∉ O.take k := fun hmm => hjm (by rw [take_snoc O k hk]; exact List.mem_append_left _ hmm)
    have h2 : ¬ i = j := fun e => hjm (by rw [take_snoc O k hk, hi, e]; exact List.mem_append_right _ (by simp))
    rw [if_neg h2]
    exact h.zero j hj h1
theorem shares_end {tot : Int} {p : List Nm} {O Q P : List Int} (hO : O.Perm (placesL p.length)) (hS : Srt (nmCm p) 0 O p.length) (ha : p.Pairwise (fun a b => a.key ≠ b.key)) (hQ : ShareOk tot ((sortedN p O).map Nm.many).sum ((sortedN p O).map Nm.many) Q) (hL : LaidAt O Q p.length p.length P) : SharesOf tot p P := by
  have hl : O.length = p.length := by rw [hO.length_eq, places_len]
  have hq : Q.length = p.length := by rw [hQ.len]; simp [sortedN, hl]
  refine ⟨hL.len, ?_, sortedN p O, Q, sortedN_perm hO, sortedN_lt hO hS ha, hQ, fun i k hi hk e => ?_⟩
  · rw [hL.sum, ← hq, List.take_length]; exact hQ.all
  · have hk2 : k < O.length := by simpa [sortedN] using hk
    obtain ⟨b, hb, eb⟩ := order_at hO k hk2
    have e1 : p[b] = p[i] := by
      rw [← e]
      simp only [sortedN, List.getElem_map, eb, Int.toNat_natCast, nmN_get hb]
    have e2 := apart_ne ha hb hi (by rw [e1])
    have := hL.at_ k hk2 (by omega)
    rw [getD_eq O k 0 hk2, eb, Int.toNat_natCast, e2] at this
    exact this
/-- The first ones are right. -/
structure GoodTo (p : List Nm) (k : Nat) : Prop where
  keys : ∀ x ∈ p.take k, keyB x.key = true
  apart : (p.take k).Pairwise (fun a b => a.key ≠ b.key)
theorem GoodTo.zero (p : List Nm) : GoodTo p 0 := ⟨fun x hx => by simp at hx, by simp⟩
theorem nm_snoc (p : List Nm) (k : Nat) (h : k < p.length) : p.take (k + 1) = p.take k ++ [p[k]] := by simp
theorem GoodTo.next {p : List Nm} {k : Nat} (h : GoodTo p k) (hk : k < p.length) (h1 : keyB p[k].key = true) (h2 : (p.take k).any (fun q => q.key.toList == p[k].key.toList) = false) : GoodTo p (k + 1) := by
  constructor
  · intro x hx
    rw [nm_snoc p k hk] at hx
    rcases List.mem_append.1 hx with hx | hx
    · exact h.keys x hx
    · have : x = p[k] := by simpa using hx
      rw [this]; exact h1
  · rw [nm_snoc p k hk, List.pairwise_append]
    refine ⟨h.apart, by simp, fun a ha b hb e => ?_⟩
    have : b = p[k] := by simpa using hb
    subst this
    have := List.any_eq_false.1 h2 a ha
    rw [e] at this
    simp at this
theorem fit_keys {p : List Nm} (h : FitN p) {k : Nat} (hk : k < p.length) : keyB p[k].key = true := h.keys _ (List.getElem_mem hk)
theorem fit_apart {p : List Nm} (h : FitN p) {k : Nat} (hk : k < p.length) : (p.take k).any (fun q => q.key.toList == p[k].key.toList) = false := by
  rw [List.any_eq_false]
  intro q hq e
  obtain ⟨j, hj, e2⟩ := List.getElem_of_mem hq
  have hj2 : j < k := by rw [List.length_take] at hj; omega
  rw [List.getElem_take] at e2
  have e3 : p[j].key = p[k].key := by rw [e2]; exact bytesN_of (by simpa using e)
  have := apart_ne h.apart (by omega) hk e3
  omega
theorem GoodTo.fit {p : List Nm} (h : GoodTo p p.length) {O : List Int} (hO : O.Perm (placesL p.length)) (hf : FitW ((sortedN p O).map Nm.many)) : FitN p := by
  refine ⟨fun x hx => h.keys x (by rw [List.take_length]; exact hx), by have := h.apart; rw [List.take_length] at this; exact this, hf.perm ((sortedN_perm hO).map _)⟩
theorem FitN.sorted {p : List Nm} (h : FitN p) {O : List Int} (hO : O.Perm (placesL p.length)) : FitW ((sortedN p O).map Nm.many) := h.fit.perm ((sortedN_perm hO).symm.map _)
end Go.Proofs.YthikknnadmebgaaGreatDoor

/-! Package slices at ints: SortFunc of few, by a comparison with a capture. -/
namespace Go.Proofs.YthikknnadmebgaaGreatDoor
open Go.RowKit
attribute [local go_sem ↓] Go.wp_at_zero Go.wp_at_succ

set_option maxRecDepth 100000 in
theorem len64_few (n : Nat) (hn : n ≤ 12) (w : World) : Calls Tryz.prog 134 #[.int .u64 n] w fun e w' => ∃ r : Int, e = .returned (.int .i64 r) ∧ w = w' := by
  have d1 : decide ((4294967296 : Int) ≤ (n : Int)) = false := decide_eq_false (by omega)
  have d2 : decide ((65536 : Int) ≤ (n : Int)) = false := decide_eq_false (by omega)
  have d3 : decide ((256 : Int) ≤ (n : Int)) = false := decide_eq_false (by omega)
  go_enter Tryz.func134, Tryz.ntmps134
  go_wp2_with (fail)
  go_ret
  exact ⟨_, rfl, rfl⟩
set_option maxRecDepth 100000 in
theorem len_few (n : Nat) (hn : n ≤ 12) (w : World) : Calls Tryz.prog 91 #[.int .u64 n] w fun e w' => ∃ r : Int, e = .returned (.int .i64 r) ∧ w = w' := by
  have L := Lib.hid (len64_few n hn)
  go_enter Tryz.func91, Tryz.ntmps91
  go_wp2_with (fail)
  refine (L.out _).mono ?_
  rintro e w1 ⟨r, rfl, rfl⟩
  go_wp2_with (fail)
  go_ret
  exact ⟨_, rfl, rfl⟩
end Go.Proofs.YthikknnadmebgaaGreatDoor
