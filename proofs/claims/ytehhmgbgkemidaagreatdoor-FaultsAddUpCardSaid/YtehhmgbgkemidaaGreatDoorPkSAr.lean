/- The comparison by which a coil is rotated. -/
import Derived.Test.YtehhmgbgkemidaaGreatDoorPkSAh
import Derived.Test.YtehhmgbgkemidaaGreatDoorPkSAi
import Derived.Test.YtehhmgbgkemidaaGreatDoorPkSAp
import Derived.Test.YtehhmgbgkemidaaGreatDoorPkSAq
import Derived.Test.YtehhmgbgkemidaaGreatDoorPkSAf
import Derived.Test.YtehhmgbgkemidaaGreatDoorPkSAd
import Derived.Test.YtehhmgbgkemidaaGreatDoorPkSAa
import Derived.Test.YtehhmgbgkemidaaGreatDoorPkSAe
import Derived.Test.YtehhmgbgkemidaaGreatDoorPkSAb
namespace Go.Proofs.YtehhmgbgkemidaaGreatDoor
open Go.RowKit
attribute [local go_sem ↓] Go.wp_at_zero Go.wp_at_succ

def cmpN (a b : Int) : Int := if a < b then -1 else if b < a then 1 else 0
theorem nanInt_any (x : Int) (w : World) : Calls Tryz.prog 113 #[.int .i64 x] w fun e w' => e = .returned (.bool false) ∧ w = w' := by
  go_enter Tryz.func113, Tryz.ntmps113
  go_wp2_with (fail)
  go_ret
  exact ⟨ret_bool (by simp), rfl⟩
theorem cmpInt_any (a b : Int) (w : World) : Calls Tryz.prog 52 #[.int .i64 a, .int .i64 b] w fun e w' => e = .returned (.int .i64 (cmpN a b)) ∧ w = w' := by
  go_enter Tryz.func52, Tryz.ntmps52
  go_wp2_with (fail)
  refine (nanInt_any a w).mono ?_
  rintro e w1 ⟨rfl, rfl⟩
  go_wp2_with (fail)
  refine (nanInt_any b w).mono ?_
  rintro e w1 ⟨rfl, rfl⟩
  by_cases h1 : a < b
  · have HC : Hid (cmpN a b = -1) := by show _ = _; unfold cmpN; rw [if_pos h1]
    go_wp2_with (fail)
    go_ret
    exact ⟨ret_int HC.out.symm, rfl⟩
  · by_cases h2 : b < a
    · have HC : Hid (cmpN a b = 1) := by show _ = _; unfold cmpN; rw [if_neg h1, if_pos h2]
      go_wp2_with (fail)
      go_ret
      exact ⟨ret_int HC.out.symm, rfl⟩
    · have HC : Hid (cmpN a b = 0) := by show _ = _; unfold cmpN; rw [if_neg h1, if_neg h2]
      go_wp2_with (fail)
      go_ret
      exact ⟨ret_int HC.out.symm, rfl⟩
def orI (a b : Int) : Int := if a = 0 then b else a
set_option maxRecDepth 100000 in
theorem orInt_any (a b : Int) (g c : Nat) (w : World) (h0 : w.cell? ⟨g, 0, none⟩ = some (.int .i64 a)) (h1 : w.cell? ⟨g, 1, none⟩ = some (.int .i64 b)) :
    Calls Tryz.prog 51 #[.slice (some ⟨g, 0, none⟩) 2 c] w fun e w' => e = .returned (.int .i64 (orI a b)) ∧ w = w' := by
  unfold orI
  go_enter Tryz.func51, Tryz.ntmps51
  go_wp2_with (fail)
  go_loop [8] (fun i => (i = .int .i64 0 ∨ (i = .int .i64 1 ∧ a = 0) ∨ (i = .int .i64 2 ∧ a = 0 ∧ b = 0))) (fun i => 2 - (intOf i).toNat)
  case atStart => exact .inl rfl
  case round =>
    rcases hrel with rfl | ⟨rfl, rfl⟩ | ⟨rfl, rfl, rfl⟩
    · by_cases ha : a = 0
      · subst ha
        go_wp2_with (fail)
        go_round
        case rel => exact .inr (.inl (by simp))
        case measure => simp [intOf]
      · have ha2 : (a != 0) = true := by simpa using ha
        go_wp2_with (fail)
        go_ret
        exact ⟨rfl, rfl⟩
    · by_cases hb : b = 0
      · subst hb
        go_wp2_with (fail)
        go_round
        case rel => exact .inr (.inr (by simp))
        case measure => simp [intOf]
      · have hb2 : (b != 0) = true := by simpa using hb
        go_wp2_with (fail)
        go_ret
        exact ⟨rfl, rfl⟩
    · go_wp2_with (fail)
      go_ret
      exact ⟨rfl, rfl⟩
def rotCm (xs : List Lot) (x y : Piece) : Int := orI (cmpN (lotGet xs x.lot).exp (lotGet xs y.lot).exp) (cmpB x.lot y.lot)
theorem rotCm_bd (xs : List Lot) (x y : Piece) : -1 ≤ rotCm xs x y ∧ rotCm xs x y ≤ 1 := by
  have := cmpB_bd x.lot y.lot
  unfold rotCm orI cmpN
  split <;> split at * <;> (try split at *) <;> omega
theorem rotCm_neg {xs : List Lot} {x y : Piece} : rotCm xs x y < 0 ↔ (lotGet xs x.lot).exp < (lotGet xs y.lot).exp ∨ ((lotGet xs x.lot).exp = (lotGet xs y.lot).exp ∧ x.lot.data.toList < y.lot.data.toList) := by
  rw [← cmpB_neg]
  unfold rotCm orI cmpN
  by_cases h1 : (lotGet xs x.lot).exp < (lotGet xs y.lot).exp
  · rw [if_pos h1]; simp [h1]
  · rw [if_neg h1]
    by_cases h2 : (lotGet xs y.lot).exp < (lotGet xs x.lot).exp
    · rw [if_pos h2]; simp; omega
    · rw [if_neg h2]; simp; omega
theorem rotCm_ok (xs : List Lot) : CmpOk (rotCm xs) := by
  refine ⟨fun a b h => ?_, fun a b c h1 h2 h3 => ?_⟩
  · rw [rotCm_neg] at h ⊢
    rintro (g | ⟨g, g2⟩)
    · rcases h with h | ⟨h, _⟩ <;> omega
    · rcases h with h | ⟨_, h2⟩
      · omega
      · exact ltL_irrefl _ (ltL_trans h2 g2)
  · rw [rotCm_neg] at h1 h2 h3
    have tri := fun (x y : ByteArray) => compareBytes_sign x.data.toList y.data.toList
    rcases h3 with h3 | ⟨h3, h4⟩
    · have a1 : ¬ (lotGet xs b.lot).exp < (lotGet xs a.lot).exp := fun h => h1 (.inl h)
      have a2 : ¬ (lotGet xs c.lot).exp < (lotGet xs b.lot).exp := fun h => h2 (.inl h)
      omega
    · have a1 : ¬ (lotGet xs b.lot).exp < (lotGet xs a.lot).exp := fun h => h1 (.inl h)
      have a2 : ¬ (lotGet xs c.lot).exp < (lotGet xs b.lot).exp := fun h => h2 (.inl h)
      have e1 : (lotGet xs b.lot).exp = (lotGet xs a.lot).exp := by omega
      have e2 : (lotGet xs c.lot).exp = (lotGet xs b.lot).exp := by omega
      have n1 : ¬ b.lot.data.toList < a.lot.data.toList := fun h => h1 (.inr ⟨e1, h⟩)
      have n2 : ¬ c.lot.data.toList < b.lot.data.toList := fun h => h2 (.inr ⟨e2, h⟩)
      rcases tri a.lot b.lot with ⟨_, h⟩ | ⟨_, h⟩ | ⟨_, h⟩
      · exact n2 (ltL_trans h4 h)
      · rw [h] at h4; exact n2 h4
      · exact n1 h
end Go.Proofs.YtehhmgbgkemidaaGreatDoor

/-! A total divided among weights: no program in sight. -/
namespace Go.Proofs.YtehhmgbgkemidaaGreatDoor
open Go.RowKit

def quoT (tot sum w : Int) : Int := (tot * w).tdiv sum
def remT (tot sum w : Int) : Int := (tot * w).tmod sum
theorem quo_rem {tot sum w : Int} (h0 : 0 ≤ tot) (hs : 0 < sum) (hw : 0 ≤ w) : sum * quoT tot sum w + remT tot sum w = tot * w ∧ 0 ≤ remT tot sum w ∧ remT tot sum w < sum ∧ 0 ≤ quoT tot sum w := by
  have hn : 0 ≤ tot * w := Int.mul_nonneg h0 hw
  unfold quoT remT
  refine ⟨Int.mul_tdiv_add_tmod _ _, ?_, Int.tmod_lt_of_pos _ hs, ?_⟩
  · rw [Int.tmod_eq_emod_of_nonneg hn]; exact Int.emod_nonneg _ (by omega)
  · rw [Int.tdiv_eq_ediv_of_nonneg hn]; exact Int.ediv_nonneg hn (by omega)
theorem quoT_le {tot sum w : Int} (h0 : 0 ≤ tot) (hs : 0 < sum) (hw : 0 ≤ w) (hws : w ≤ sum) : quoT tot sum w ≤ tot := by
  have hn : 0 ≤ tot * w := Int.mul_nonneg h0 hw
  unfold quoT
  rw [Int.tdiv_eq_ediv_of_nonneg hn]
  exact Int.ediv_le_of_le_mul hs (Int.mul_le_mul_of_nonneg_left hws h0)
def quoL (tot sum : Int) (ws : List Int) : List Int := ws.map (quoT tot sum)
theorem sumI_app (a b : List Int) : (a ++ b).sum = a.sum + b.sum := by simp
theorem share_bd (tot sum : Int) (h0 : 0 ≤ tot) (hs : 0 < sum) (ws : List Int) (h : ∀ w ∈ ws, 0 ≤ w) : sum * (quoL tot sum ws).sum ≤ tot * ws.sum ∧ tot * ws.sum ≤ sum * (quoL tot sum ws).sum + sum * ws.length := by
  induction ws with
  | nil => simp [quoL]
  | cons w ws ih =>
    obtain ⟨i1, i2⟩ := ih (fun x hx => h x (by simp [hx]))
    obtain ⟨e, r0, r1, -⟩ := quo_rem h0 hs (h w (by simp))
    have e1 : (quoL tot sum (w :: ws)).sum = quoT tot sum w + (quoL tot sum ws).sum := by simp [quoL]
    have e2 : (w :: ws).sum = w + ws.sum := by simp
    have e3 : ((w :: ws).length : Int) = ws.length + 1 := by simp
    rw [e1, e2, e3, Int.mul_add, Int.mul_add, Int.mul_add, Int.mul_one]
    omega
theorem share_left (tot sum : Int) (h0 : 0 ≤ tot) (hs : 0 < sum) (ws : List Int) (h : ∀ w ∈ ws, 0 ≤ w) (he : ws.sum = sum) : 0 ≤ tot - (quoL tot sum ws).sum ∧ tot - (quoL tot sum ws).sum ≤ ws.length := by
  obtain ⟨h1, h2⟩ := share_bd tot sum h0 hs ws h
  rw [he] at h1 h2
  constructor
  · have : sum * (quoL tot sum ws).sum ≤ sum * tot := by rw [Int.mul_comm sum tot]; exact h1
    have := Int.le_of_mul_le_mul_left this hs
    omega
  · have : sum * tot ≤ sum * ((quoL tot sum ws).sum + ws.length) := by rw [Int.mul_add, Int.mul_comm sum tot]; exact h2
    have := Int.le_of_mul_le_mul_left this hs
    omega
/-- The comparison of two places by what their parts leave. -/
def shareCm (tot sum : Int) (ws : List Int) (a b : Int) : Int := cmpN (remT tot sum (ws.getD b.toNat 0)) (remT tot sum (ws.getD a.toNat 0))
theorem shareCm_neg {tot sum : Int} {ws : List Int} {a b : Int} : shareCm tot sum ws a b < 0 ↔ remT tot sum (ws.getD b.toNat 0) < remT tot sum (ws.getD a.toNat 0) := by
  unfold shareCm cmpN
  generalize remT tot sum (ws.getD b.toNat 0) = u
  generalize remT tot sum (ws.getD a.toNat 0) = v
  split
  · simp [*]
  · split <;> simp <;> omega
theorem shareCm_ok (tot sum : Int) (ws : List Int) : CmpOk (shareCm tot sum ws) := ⟨fun a b h => by rw [shareCm_neg] at *; omega, fun a b c h1 h2 => by rw [shareCm_neg] at *; omega⟩
/-- What stands while the rest is given out, one to each of the first in order. -/
structure Given (Q : List Int) (O : List Int) (t : Nat) (L : List Int) : Prop where
  len : L.length = Q.length
  sum : L.sum = Q.sum + t
  at_ : ∀ j, j < Q.length → L.getD j 0 = Q.getD j 0 + if (j : Int) ∈ O.take t then 1 else 0
theorem Given.start (Q O : List Int) : Given Q O 0 Q := ⟨rfl, by simp, fun j _ => by simp⟩
theorem sum_setS (L : List Int) (i : Nat) (h : i < L.length) (x : Int) : (L.set i x).sum = L.sum - L.getD i 0 + x := by
  induction L generalizing i with
  | nil => simp at h
  | cons y L ih =>
    cases i with
    | zero => simp; omega
    | succ i =>
      have := ih i (by simpa using h)
      simp only [List.set_cons_succ, List.sum_cons, List.getD_cons_succ]
      omega
theorem Given.next {Q O L : List Int} {t i : Nat} (h : Given Q O t L) (hnd : O.Nodup) (ht : t < O.length) (hi : O[t] = (i : Int)) (hil : i < Q.length) : Given Q O (t + 1) (L.set i (L.getD i 0 + 1)) ∧ L.getD i 0 = Q.getD i 0 := by
  have hni : (i : Int) ∉ O.take t := fun hm => by
    rw [← hi] at hm
    obtain ⟨j, hj, e⟩ := List.getElem_of_mem hm
    rw [List.getElem_take] at e
    have hjt : j < t := by rw [List.length_take] at hj; omega
    have := (List.pairwise_iff_getElem.1 hnd) j t (by omega) ht hjt
    exact this e
  have hlen := h.len
  have hq : L.getD i 0 = Q.getD i 0 := by rw [h.at_ i hil, if_neg hni, Int.add_zero]
  refine ⟨⟨by simp [hlen], ?_, fun j hj => ?_⟩, hq⟩
  · rw [sum_setS L i (by omega), h.sum]; omega
  · have hg : (L.set i (L.getD i 0 + 1)).getD j 0 = if i = j then L.getD i 0 + 1 else L.getD j 0 := by
      rw [List.getD_eq_getElem?_getD, List.getElem?_set]
      by_cases e : i = j
      · subst e; simp [show i < L.length by omega]
      · rw [if_neg e, if_neg e, ← List.getD_eq_getElem?_getD]
    rw [hg, List.take_succ_eq_append_getElem ht, hi]
    by_cases e : i = j
    · subst e
      rw [if_pos rfl, if_pos (List.mem_append_right _ (by simp)), hq]
    · rw [if_neg e, h.at_ j hj]
      have e2 : ¬ (j : Int) = (i : Int) := by omega
      have e3 : ((j : Int) ∈ O.take t ++ [(i : Int)]) ↔ (j : Int) ∈ O.take t := by simp [e2]
      by_cases e4 : (j : Int) ∈ O.take t
      · rw [if_pos e4, if_pos (e3.2 e4)]
      · rw [if_neg e4, if_neg (fun h => e4 (e3.1 h))]
def placesL (n : Nat) : List Int := (List.range n).map Int.ofNat
/-- What a division has: the quotients, and one more at the first places in order. -/
structure ShareOk (tot sum : Int) (ws P : List Int) : Prop where
  len : P.length = ws.length
  all : P.sum = tot
  ex : ∃ O : List Int, O.Perm (placesL ws.length) ∧ Srt (shareCm tot sum ws) 0 O ws.length ∧ StbC3 (shareCm tot sum ws) O ws.length ∧ ∀ j, j < ws.length → P.getD j 0 = (quoL tot sum ws).getD j 0 + if (j : Int) ∈ O.take (tot - (quoL tot sum ws).sum).toNat then 1 else 0
theorem ShareOk.each {tot sum : Int} {ws P : List Int} (h : ShareOk tot sum ws P) (j : Nat) (hj : j < ws.length) : (quoL tot sum ws).getD j 0 ≤ P.getD j 0 ∧ P.getD j 0 ≤ (quoL tot sum ws).getD j 0 + 1 := by
  obtain ⟨O, -, -, -, h⟩ := h.ex
  rw [h j hj]
  split <;> omega
def sortT (cm : Int → Int → Int) (a b : Int) : Prop := cm a b < 0 ∨ (¬ cm b a < 0 ∧ a < b)
theorem sort_unique {cm : Int → Int → Int} (hc : CmpOk cm) {O O' : List Int} {n : Nat} (hl : O.length = n) (hl' : O'.length = n) (hp : O.Perm O') (h1 : Srt cm 0 O n) (h2 : StbC3 cm O n) (h1' : Srt cm 0 O' n) (h2' : StbC3 cm O' n) : O = O' := by
  have pw : ∀ {O : List Int}, O.length = n → Srt cm 0 O n → StbC3 cm O n → O.Pairwise (sortT cm) := fun {O} hl h1 h2 => by
    rw [List.pairwise_iff_getElem]
    intro p q hp hq hpq
    have a1 := h1 p q hpq (by omega)
    have a2 := h2 p q hpq (by omega) a1
    rw [getD_eq O q 0 hq, getD_eq O p 0 hp] at a1 a2
    by_cases h : cm O[p] O[q] < 0
    · exact .inl h
    · exact .inr ⟨a1, a2 h⟩
  refine List.Perm.eq_of_pairwise (le := sortT cm) (fun a b _ _ hab hba => ?_) (pw hl h1 h2) (pw hl' h1' h2') hp
  rcases hab with hab | ⟨hab, hlt⟩
  · rcases hba with hba | ⟨hba, _⟩
    · exact absurd hba (hc.1 _ _ hab)
    · exact absurd hab hba
  · rcases hba with hba | ⟨_, hlt2⟩
    · exact absurd hba hab
    · omega
theorem ShareOk.unique {tot sum : Int} {ws P P' : List Int} (h : ShareOk tot sum ws P) (h' : ShareOk tot sum ws P') : P = P' := by
  obtain ⟨O, p1, p2, p3, p4⟩ := h.ex
  obtain ⟨O', q1, q2, q3, q4⟩ := h'.ex
  have hl : (placesL ws.length).length = ws.length := by simp [placesL]
  have e := sort_unique (shareCm_ok tot sum ws) (by rw [p1.length_eq, hl]) (by rw [q1.length_eq, hl]) (p1.trans q1.symm) p2 p3 q2 q3
  subst e
  refine List.ext_getElem (by rw [h.len, h'.len]) (fun j h1 h2 => ?_)
  have hj : j < ws.length := by rw [← h.len]; exact h1
  have a := p4 j hj
  rw [← q4 j hj, getD_eq P j 0 h1, getD_eq P' j 0 h2] at a
  exact a
theorem places_stb (cm : Int → Int → Int) (n : Nat) : StbC3 cm (placesL n) n := fun p q h1 h2 _ _ => by
  have e : ∀ i, i < n → (placesL n).getD i 0 = (i : Int) := fun i hi => by
    unfold placesL
    rw [List.getD_eq_getElem?_getD, List.getElem?_map, List.getElem?_range hi]; rfl
  rw [e p (by omega), e q h2]; omega
theorem places_nodup (n : Nat) : (placesL n).Nodup := by
  unfold placesL
  have := List.nodup_range (n := n)
  unfold List.Nodup at *
  rw [List.pairwise_map]
  exact this.imp (fun h e => h (Int.ofNat.inj e))
theorem places_mem {n : Nat} {x : Int} (h : x ∈ placesL n) : ∃ i : Nat, i < n ∧ x = (i : Int) := by
  obtain ⟨i, hi, rfl⟩ := List.mem_map.1 h
  exact ⟨i, List.mem_range.1 hi, rfl⟩

/-! A total divided among weights: the program. -/
attribute [local go_sem ↓] Go.wp_at_zero Go.wp_at_succ

theorem sum_bd (M : Int) (l : List Int) (h : ∀ x ∈ l, 0 ≤ x ∧ x ≤ M) : 0 ≤ l.sum ∧ l.sum ≤ M * l.length := by
  induction l with
  | nil => simp
  | cons x l ih =>
    have h1 := ih (fun y hy => h y (by simp [hy]))
    have h2 := h x (by simp)
    have e3 : ((x :: l).length : Int) = l.length + 1 := by simp
    rw [e3, Int.mul_add, List.sum_cons]
    omega
theorem mem_le_sum (l : List Int) (h : ∀ x ∈ l, 0 ≤ x) : ∀ x ∈ l, x ≤ l.sum := by
  induction l with
  | nil => intro x hx; cases hx
  | cons y l ih =>
    have h1 : 0 ≤ l.sum := by
      clear ih
      induction l with
      | nil => simp
      | cons z l ih => have := h z (by simp); have := ih (fun x hx => h x (by simp at hx ⊢; rcases hx with hx | hx <;> simp [hx])); simp only [List.sum_cons]; omega
    intro x hx
    have hy := h y (by simp)
    rw [List.sum_cons]
    rcases List.mem_cons.1 hx with rfl | hx
    · omega
    · have := ih (fun x hx => h x (by simp [hx])) x hx; omega
theorem quoL_bd (tot sum : Int) (ws : List Int) (ht0 : 0 ≤ tot) (ht1 : tot ≤ 1000000000) (hs0 : 0 < sum) (hw : ∀ x ∈ ws, 0 ≤ x) (hsum : ws.sum = sum) (k : Nat) : 0 ≤ (quoL tot sum (ws.take k)).sum ∧ (quoL tot sum (ws.take k)).sum ≤ 1000000000 * k := by
  have h := sum_bd 1000000000 (quoL tot sum (ws.take k)) (fun x hx => by
    obtain ⟨y, hy, rfl⟩ := List.mem_map.1 hx
    have hy2 := List.mem_of_mem_take hy
    have := quo_rem ht0 hs0 (hw y hy2)
    have := quoT_le ht0 hs0 (hw y hy2) (by rw [← hsum]; exact mem_le_sum ws hw y hy2)
    omega)
  have hl : (quoL tot sum (ws.take k)).length ≤ k := by simp [quoL]; omega
  omega
theorem fill_next (A : List Int) (n k : Nat) (x : Int) (hA : A.length = k) (hk : k < n) : (A ++ List.replicate (n - k) 0).set k x = (A ++ [x]) ++ List.replicate (n - (k + 1)) 0 := by
  rw [List.set_append_right _ _ (by omega), hA, Nat.sub_self, show n - k = (n - (k + 1)) + 1 by omega, List.replicate_succ, List.set_cons_zero]
  simp
theorem take_snoc (ws : List Int) (k : Nat) (h : k < ws.length) : ws.take (k + 1) = ws.take k ++ [ws[k]] := by simp
theorem places_next (k : Nat) : placesL (k + 1) = placesL k ++ [(k : Int)] := by unfold placesL; rw [List.range_succ, List.map_append]; rfl
theorem places_len (k : Nat) : (placesL k).length = k := by simp [placesL]
theorem shareCmp_fn : ∀ (args : Array Value) (w : World), (callFunc 159 args).run Tryz.prog w = .ok (.enter 159 args) w := fun _ _ => by kernel_rfl
set_option maxRecDepth 100000 in
set_option maxHeartbeats 2000000 in
theorem shareCmp_any (tot sum : Int) (ws : List Int) (i j : Nat) (hi : i < ws.length) (hj : j < ws.length) (a : Option Addr) (c q0 q1 q2 : Nat) (w : World) (h0 : w.cell? ⟨q0, 0, none⟩ = some (.int .i64 tot)) (h1 : w.cell? ⟨q1, 0, none⟩ = some (.slice a ws.length c)) (h2 : w.cell? ⟨q2, 0, none⟩ = some (.int .i64 sum)) (hc : CellsAt w a (ints ws))
    (ht0 : 0 ≤ tot) (ht1 : tot ≤ 1000000000) (hs0 : 0 < sum) (hs1 : sum ≤ 1000000000000) (hw : ∀ x ∈ ws, 0 ≤ x ∧ x ≤ 1000000) :
    Calls Tryz.prog 159 #[.int .i64 i, .int .i64 j, .pointer (some ⟨q0, 0, none⟩), .pointer (some ⟨q1, 0, none⟩), .pointer (some ⟨q2, 0, none⟩)] w fun e w' => e = .returned (.int .i64 (shareCm tot sum ws i j)) ∧ w.grownBy w' none := by
  obtain ⟨b, off, rfl, d0⟩ := hc i _ (by rw [show (ints ws)[i]? = _ from ints_at ws i hi])
  obtain ⟨_, _, e, d1⟩ := hc j _ (by rw [show (ints ws)[j]? = _ from ints_at ws j hj])
  cases e
  have hwi := hw _ (List.getElem_mem hi)
  have hwj := hw _ (List.getElem_mem hj)
  rw [getD_eq ws i 0 hi] at d0
  rw [getD_eq ws j 0 hj] at d1
  have hE : shareCm tot sum ws i j = cmpN (remT tot sum ws[j]) (remT tot sum ws[i]) := by unfold shareCm; rw [Int.toNat_natCast, Int.toNat_natCast, getD_eq ws i 0 hi, getD_eq ws j 0 hj]
  rw [hE]
  obtain ⟨u, hu⟩ : ∃ u, u = ws[i] := ⟨_, rfl⟩
  obtain ⟨v, hv⟩ : ∃ v, v = ws[j] := ⟨_, rfl⟩
  rw [← hu] at d0 hwi
  rw [← hv] at d1 hwj
  rw [← hu, ← hv]
  obtain ⟨-, ru0, ru1, -⟩ := quo_rem ht0 hs0 hwi.1
  obtain ⟨-, rv0, rv1, -⟩ := quo_rem ht0 hs0 hwj.1
  have mu0 : 0 ≤ tot * u := Int.mul_nonneg ht0 hwi.1
  have mu1 : tot * u ≤ 1000000000 * 1000000 := Int.mul_le_mul ht1 hwi.2 hwi.1 (by omega)
  have mv0 : 0 ≤ tot * v := Int.mul_nonneg ht0 hwj.1
  have mv1 : tot * v ≤ 1000000000 * 1000000 := Int.mul_le_mul ht1 hwj.2 hwj.1 (by omega)
  unfold remT at ru0 ru1 rv0 rv1 ⊢
  obtain ⟨pu, hpu⟩ : ∃ p, tot * u = p := ⟨_, rfl⟩
  obtain ⟨pv, hpv⟩ : ∃ p, tot * v = p := ⟨_, rfl⟩
  rw [hpu] at ru0 ru1 mu0 mu1
  rw [hpv] at rv0 rv1 mv0 mv1
  rw [hpu, hpv]
  obtain ⟨ru, hru⟩ : ∃ r, pu.tmod sum = r := ⟨_, rfl⟩
  obtain ⟨rv, hrv⟩ : ∃ r, pv.tmod sum = r := ⟨_, rfl⟩
  rw [hru] at ru0 ru1
  rw [hrv] at rv0 rv1
  rw [hru, hrv]
  have hsz : (sum == 0) = false := beq_eq_false_iff_ne.2 (by omega)
  have g0 := grew_cell h0
  have g1 := grew_cell h1
  have g2 := grew_cell h2
  have gd := grew_cell d0
  have ge := grew_cell d1
  have i1 : (i : Int) < (ws.length : Int) := by omega
  have j1 : (j : Int) < (ws.length : Int) := by omega
  have i0 : (0 : Int) ≤ (i : Int) := by omega
  have j0 : (0 : Int) ≤ (j : Int) := by omega
  clear hc hw hu hv hE h0 h1 h2 d0 d1 hwi hwj
  go_enter Tryz.func159, Tryz.ntmps159
  go_wp2_with (fail)
  refine wp_region_grew (by kernel_rfl) (by kernel_rfl) ?_
  repeat (go_big_quiet_step (first
    | (go_at_call 52; exact Calls.grew_of (fun W g => (cmpInt_any _ _ W).mono fun _ _ h => ⟨h.1, by rw [← h.2]; exact gr_refl _ _⟩))))
  refine wpQuiet_nil ?_
  rintro wq ⟨nn, rfl⟩
  have g := nn.gr
  go_wp2_with (fail)
  go_ret
  exact ⟨rfl, g⟩
structure ShareW (wr w1 : World) (G1 G2 n : Nat) (L O : List Int) : Prop where
  out : wr.ownsRow G1 3 1 (.slice (some ⟨G1, 0, none⟩) n n) n (ints L)
  ord : wr.ownsRow G2 3 1 (.slice (some ⟨G2, 0, none⟩) n n) n (ints O)
  gr : w1.grownBy wr none
theorem ShareW.setOut {wr w1 : World} {G1 G2 n : Nat} {L O : List Int} (h : ShareW wr w1 G1 G2 n L O) (h12 : G1 < G2) (hz : w1.heap.size ≤ G1) (k : Nat) (hk : k < n) (x : Int) : ShareW (wr.setCell ⟨G1, k, none⟩ (.int .i64 x)) w1 G1 G2 n (L.set k x) O :=
  ⟨(own_int h.out k hk).2.2 x, own_keepS h.ord (gr_set (gr_refl _ _) rfl _) h12, gr_new h.gr hz _⟩
theorem ShareW.setOrd {wr w1 : World} {G1 G2 n : Nat} {L O : List Int} (h : ShareW wr w1 G1 G2 n L O) (h12 : G1 < G2) (hz : w1.heap.size ≤ G1) (k : Nat) (hk : k < n) (x : Int) : ShareW (wr.setCell ⟨G2, k, none⟩ (.int .i64 x)) w1 G1 G2 n L (O.set k x) :=
  ⟨own_keep h.out (gr_set (q := ⟨G2, k, none⟩) (gr_refl wr (some G2)) rfl _) (.inr (fun e => by simp [Value.ownBlock] at e; omega)), (own_int h.ord k hk).2.2 x, gr_new h.gr (Nat.le_trans hz (Nat.le_of_lt h12)) _⟩
def SharePost (tot sum : Int) (ws : List Int) (w : World) (e : Ending) (w' : World) : Prop := ∃ v P, e = .returned v ∧ w'.ownsRow w.heap.size 3 1 v ws.length (ints P) ∧ ShareOk tot sum ws P ∧ w.grownBy w' none
set_option maxRecDepth 100000 in
set_option maxHeartbeats 4000000 in
theorem shared_any (tot sum : Int) (ws : List Int) (a : Option Addr) (c : Nat) (w : World) (hc : CellsAt w a (ints ws)) (hn : ws.length < 20)
    (ht0 : 0 ≤ tot) (ht1 : tot ≤ 1000000000) (hs0 : 0 < sum) (hw : ∀ x ∈ ws, 0 ≤ x ∧ x ≤ 1000000) (hsum : ws.sum = sum) :
    Calls Tryz.prog 117 #[.int .i64 tot, .slice a ws.length c, .int .i64 sum] w (SharePost tot sum ws w) := by
  have hs1 : sum ≤ 1000000 * ws.length := by rw [← hsum]; exact (sum_bd 1000000 ws hw).2
  have hLF := share_left tot sum ht0 hs0 ws (fun x hx => (hw x hx).1) hsum
  obtain ⟨hA, hB, hC⟩ := heap_3 w (.cells #[.int .i64 tot] 3) (.cells #[.slice a ws.length c] 22) (.cells #[.int .i64 sum] 3)
  have hg := gr_alloc (gr_alloc (gr_alloc (gr_refl w none) (.cells #[.int .i64 tot] 3)) (.cells #[.slice a ws.length c] 22)) (.cells #[.int .i64 sum] 3)
  obtain ⟨w1, hw1⟩ : ∃ w1, w1 = ((w.alloc (.cells #[.int .i64 tot] 3)).alloc (.cells #[.slice a ws.length c] 22)).alloc (.cells #[.int .i64 sum] 3) := ⟨_, rfl⟩
  rw [← hw1] at hA hB hC hg
  have hz1 : w.heap.size + 2 < w1.heap.size := lt_of_block hC
  obtain ⟨B, hBe⟩ : ∃ B, B = w.heap.size := ⟨_, rfl⟩
  rw [← hBe] at hA hB hC hz1
  have HC1 := Lib.hid (hc.keep0 hg)
  have HA := Lib.hid hA
  have HB := Lib.hid hB
  have HCc := Lib.hid hC
  have HG1 := Lib.hid hg
  have HW1 := Lib.hid hw1
  have HBE := Lib.hid hBe
  have HWS := Lib.hid hw
  have HLF := Lib.hid hLF
  have HSUM := Lib.hid hsum
  have l0 := blkC HA.out 0 rfl
  have l1 := blkC HB.out 0 rfl
  have l2 := blkC HCc.out 0 rfl
  clear hc hA hB hC hg hw1 hBe hw hsum
  go_enter Tryz.func117, Tryz.ntmps117
  go_upto_region 1 with (fail)
  rw [← HW1.out, ← HBE.out]
  go_upto_region 2 with (at_make; refine wpList_mk _ eInt rfl _ _ rfl w1.heap.size _ ws.length rfl rfl rfl ?_ ?_ ?_; (· omega); (· omega); intro w2 o2 g2; have hz2 := g2.size; have l1 := (gr_cell g2 (lt_of_cell l1)).trans l1; have l0 := (gr_cell g2 (lt_of_cell l0)).trans l0)
  obtain ⟨G1, hG1⟩ : ∃ G, G = w1.heap.size := ⟨_, rfl⟩
  have HG1e := Lib.hid hG1
  rw [← hG1] at o2
  rw [← hG1]
  have HG2 := Lib.hid g2
  have HO2 := Lib.hid o2
  clear hG1 g2 o2
  go_wp2_with (at_make; refine wpList_mk _ eInt rfl _ _ rfl w2.heap.size _ ws.length rfl rfl rfl ?_ ?_ ?_; (· omega); (· omega); intro w3 o3 g3; have hz3 := g3.size; have l1 := (gr_cell g3 (lt_of_cell l1)).trans l1; have l0 := (gr_cell g3 (lt_of_cell l0)).trans l0)
  obtain ⟨G2, hG2⟩ : ∃ G, G = w2.heap.size := ⟨_, rfl⟩
  have HG2e := Lib.hid hG2
  rw [← hG2] at o3
  rw [← hG2]
  have hG12 : G1 < G2 := by rw [hG2]; exact (HO2.out.lt G1 rfl).2
  have HG3 := Lib.hid (gr_trans HG2.out g3)
  have HO3 := Lib.hid o3
  have HP3 := Lib.hid (own_keep0 HO2.out g3)
  have W3 : Hid (ShareW w3 w1 G1 G2 ws.length (List.replicate ws.length 0) (List.replicate ws.length 0)) := ⟨HP3.out, HO3.out, HG3.out⟩
  have hzG : w1.heap.size ≤ G1 := by rw [HG1e.out]; exact Nat.le_refl _
  clear hG2 g3 o3 HO2 l2 hz2 hz3 HP3 HO3 HG3 HG2 HG1e HG2e
  go_wp2_with (fail)
  clear l0 l1
  go_loopw [9, 23] (fun lf i wr => ∃ k : Nat, k ≤ ws.length ∧ i = .int .i64 k ∧ lf = .int .i64 (tot - (quoL tot sum (ws.take k)).sum) ∧ ShareW wr w1 G1 G2 ws.length (quoL tot sum (ws.take k) ++ List.replicate (ws.length - k) 0) (placesL k ++ List.replicate (ws.length - k) 0)) (fun _ i _ => ws.length - (intOf i).toNat)
  case atStart => exact ⟨0, Nat.zero_le _, rfl, by simp [quoL], by simpa [quoL, placesL] using W3.out⟩
  case round =>
    clear W3
    obtain ⟨k, hk, rfl, rfl, hW⟩ := hrel
    obtain ⟨wo, rfl⟩ : ∃ wo : World, wo = wr := ⟨_, rfl⟩
    have hl0 := (gr_cell hW.gr (lt_of_block HA.out)).trans (blkC HA.out 0 rfl)
    have hl1 := (gr_cell hW.gr (lt_of_block HB.out)).trans (blkC HB.out 0 rfl)
    have hl2 := (gr_cell hW.gr (lt_of_block HCc.out)).trans (blkC HCc.out 0 rfl)
    by_cases hlt : k < ws.length
    · obtain ⟨b, off, rfl, d0⟩ := (HC1.out.keep0 hW.gr) k _ (by rw [show (ints ws)[k]? = _ from ints_at ws k hlt])
      rw [getD_eq ws k 0 hlt] at d0
      have hwk := HWS.out _ (List.getElem_mem hlt)
      have hsk : ws[k] ≤ sum := by rw [← HSUM.out]; exact mem_le_sum ws (fun x hx => (HWS.out x hx).1) _ (List.getElem_mem hlt)
      have hq := quo_rem ht0 hs0 hwk.1
      have hqm := quoT_le ht0 hs0 hwk.1 hsk
      have hS := quoL_bd tot sum ws ht0 ht1 hs0 (fun x hx => (HWS.out x hx).1) HSUM.out k
      have hQl : (quoL tot sum (ws.take k)).length = k := by simp [quoL]; omega
      have mu0 : 0 ≤ tot * ws[k] := Int.mul_nonneg ht0 hwk.1
      have mu1 : tot * ws[k] ≤ 1000000000 * 1000000 := Int.mul_le_mul ht1 hwk.2 hwk.1 (by omega)
      have NX : Hid (quoL tot sum (ws.take (k + 1)) = quoL tot sum (ws.take k) ++ [quoT tot sum ws[k]]) := by show _ = _; rw [take_snoc ws k hlt]; unfold quoL; rw [List.map_append]; rfl
      obtain ⟨x, hx⟩ : ∃ x, x = ws[k] := ⟨_, rfl⟩
      rw [← hx] at d0 hwk hsk hq hqm mu0 mu1 NX
      obtain ⟨QL, hQL⟩ : ∃ Q, Q = quoL tot sum (ws.take k) := ⟨_, rfl⟩
      rw [← hQL] at hW hS hQl NX
      rw [← hQL]
      obtain ⟨S, hSe⟩ : ∃ S, S = QL.sum := ⟨_, rfl⟩
      rw [← hSe] at hS
      rw [← hSe]
      obtain ⟨p, hp⟩ : ∃ p, tot * x = p := ⟨_, rfl⟩
      have hqt : p.tdiv sum = quoT tot sum x := by rw [← hp]; rfl
      rw [hp] at mu0 mu1
      have hq0 := hq.2.2.2
      obtain ⟨q, hqe⟩ : ∃ q, q = quoT tot sum x := ⟨_, rfl⟩
      rw [← hqe] at hqm hqt hq0 NX
      have hsz : (sum == 0) = false := beq_eq_false_iff_ne.2 (by omega)
      have o1 := (own_int hW.out k hlt)
      have HQL := Lib.hid hQl
      have HSE := Lib.hid hSe
      have hW2 := hW.setOut hG12 hzG k hlt q
      rw [fill_next QL ws.length k q hQl hlt] at hW2
      have o2 := own_int hW2.ord k hlt
      have o2b := (own_int hW2.out k hlt)
      have hgq : (QL ++ [q] ++ List.replicate (ws.length - (k + 1)) 0).getD k 0 = q := by
        rw [List.getD_eq_getElem?_getD, List.append_assoc, List.getElem?_append_right (by omega), hQl, Nat.sub_self]; rfl
      rw [hgq] at o2b
      have hW3 := hW2.setOrd hG12 hzG k hlt (k : Int)
      rw [fill_next (placesL k) ws.length k (k : Int) (places_len k) hlt, ← places_next] at hW3
      have o3b := (own_int hW3.out k hlt)
      rw [hgq] at o3b
      have e1 := o1.1
      have f1 := o1.2.1
      have e2 := o2.1
      have f2 := o2.2.1
      have e3 := o3b.1
      have HW3 := Lib.hid hW3
      clear hx hQL hSe hW hW2 hW3 o1 o2 o2b o3b hq hqe hgq hQl
      go_wp2_with (fail)
      go_roundw
      case rel =>
        refine ⟨k + 1, by omega, by go_num, congrArg (Value.int .i64) ?_, by rw [NX.out]; exact HW3.out⟩
        rw [NX.out, sumI_app, ← HSE.out]
        simp
        omega
      case measure => simp [intOf]; omega
    · obtain rfl : k = ws.length := by omega
      rw [List.take_length, Nat.sub_self, List.replicate_zero, List.append_nil, List.append_nil] at hW
      rw [List.take_length]
      obtain ⟨hm0, hm1⟩ := HLF.out
      obtain ⟨QL, hQL⟩ : ∃ Q, Q = quoL tot sum ws := ⟨_, rfl⟩
      rw [← hQL] at hW hm0 hm1
      rw [← hQL]
      have hQl : QL.length = ws.length := by rw [hQL]; simp [quoL]
      obtain ⟨m, hm⟩ : ∃ m : Nat, tot - QL.sum = (m : Int) := ⟨(tot - QL.sum).toNat, by omega⟩
      rw [hm]
      have hQe : ∀ j, j < ws.length → 0 ≤ QL.getD j 0 ∧ QL.getD j 0 ≤ 1000000000 := fun j hj => by
        have hj2 : j < QL.length := by omega
        rw [getD_eq QL j 0 hj2]
        have : QL[j] ∈ quoL tot sum ws := by rw [← hQL]; exact List.getElem_mem _
        obtain ⟨y, hy, e⟩ := List.mem_map.1 this
        rw [← e]
        have h1 := quo_rem ht0 hs0 (HWS.out y hy).1
        have h2 := quoT_le ht0 hs0 (HWS.out y hy).1 (by rw [← HSUM.out]; exact mem_le_sum ws (fun x hx => (HWS.out x hx).1) y hy)
        omega
      have SF := sortC3_any 159 B (B + 1) (B + 2) ws.length (shareCm tot sum ws) (.slice (some ⟨G2, 0, none⟩) ws.length ws.length) G2 (placesL ws.length) wo hW.ord (places_len _) hn shareCmp_fn (shareCm_ok tot sum ws) (fun x y W hx hy gW => by
        obtain ⟨i, hi, rfl⟩ := places_mem hx
        obtain ⟨j, hj, rfl⟩ := places_mem hy
        have hlow : ∀ b, b < w1.heap.size → some b ≠ some G2 := fun b hb e => by injection e with e; omega
        have hbk : ∀ (b : Nat) (cs : Array Value) (t : TypeId), w1.heap[b]? = some (Obj.cells cs t (0, 0)) → W.heap[b]? = some (Obj.cells cs t (0, 0)) := fun b cs t h => by
          have hb := lt_of_block h
          exact (gW.block b (Nat.lt_of_lt_of_le hb hW.gr.size) (hlow b hb)).trans ((hW.gr.block b hb (by simp)).trans h)
        exact shareCmp_any tot sum ws i j hi hj a c B (B + 1) (B + 2) W (blkC (hbk _ _ _ HA.out) 0 rfl) (blkC (hbk _ _ _ HB.out) 0 rfl) (blkC (hbk _ _ _ HCc.out) 0 rfl) (fun j v hv => by
          obtain ⟨b, off, e, hcell⟩ := HC1.out j v hv
          have hb := lt_of_cell hcell
          exact ⟨b, off, e, (World.cell?_of_block (w := w1) ((gW.block b (Nat.lt_of_lt_of_le hb hW.gr.size) (hlow b hb)).trans (hW.gr.block b hb (by simp)))).trans hcell⟩) ht0 ht1 hs0 (by omega) HWS.out)
      have SF := Lib.hid SF
      have HW := Lib.hid hW
      have HQE := Lib.hid hQe
      have HQL := Lib.hid hQL
      have HQl := Lib.hid hQl
      have HM := Lib.hid hm
      have hmn : m ≤ ws.length := by omega
      clear hW hQe hQL hQl hm hl0 hl1 hl2 hm0 hm1
      go_wp2_with (fail)
      refine SF.out.mono ?_
      rintro e w5 ⟨O, rfl, o5, hperm, hsrt, hstb, g5⟩
      have HSRT := Lib.hid hsrt
      have HSTB := Lib.hid (hstb (places_stb _ _))
      have HPERM := Lib.hid hperm
      have g5 : wo.grownBy w5 (some G2) := g5
      have W5 : Hid (ShareW w5 w1 G1 G2 ws.length QL O) := ⟨own_keep HW.out.out g5 (.inr (fun e => by simp [Value.ownBlock] at e; omega)), o5, gr_grown HW.out.gr g5 (fun k hk => by cases hk; omega)⟩
      have HND := Lib.hid (hperm.nodup_iff.2 (places_nodup ws.length))
      have hOl : O.length = ws.length := by rw [hperm.length_eq, places_len]
      have HOM : Hid (∀ t (ht : t < O.length), ∃ i : Nat, i < ws.length ∧ O[t] = (i : Int)) := fun t ht => places_mem (hperm.mem_iff.1 (List.getElem_mem ht))
      have HOl := Lib.hid hOl
      clear g5 o5 hperm HW SF hOl hsrt hstb
      go_wp2_with (fail)
      go_loopw [54] (fun i wr => ∃ (t : Nat) (L : List Int), t ≤ m ∧ i = .int .i64 t ∧ Given QL O t L ∧ ShareW wr w1 G1 G2 ws.length L O) (fun i _ => m - (intOf i).toNat)
      case atStart => exact ⟨0, QL, Nat.zero_le _, rfl, Given.start _ _, W5.out⟩
      case round =>
        clear W5
        obtain ⟨t, L, ht, rfl, hG, hW⟩ := hrel
        obtain ⟨wi, rfl⟩ : ∃ wi : World, wi = wr := ⟨_, rfl⟩
        by_cases htm : t < m
        · have htO : t < O.length := by rw [HOl.out]; omega
          obtain ⟨i, hi, hOt⟩ := HOM.out t htO
          have d0 := (own_int hW.ord t (by omega)).1
          rw [getD_eq O t 0 htO, hOt] at d0
          obtain ⟨e1, f1, -⟩ := own_int hW.out i hi
          obtain ⟨hGn, hLq⟩ := hG.next HND.out htO hOt (by rw [HQl.out]; exact hi)
          have hWn := hW.setOut hG12 hzG i hi (L.getD i 0 + 1)
          have hb := HQE.out i hi
          rw [← hLq] at hb
          obtain ⟨y, hy⟩ : ∃ y, y = L.getD i 0 := ⟨_, rfl⟩
          rw [← hy] at e1 hGn hWn hb
          have hii : (i : Int) < (ws.length : Int) := by omega
          have hi0 : (0 : Int) ≤ (i : Int) := by omega
          have HGN := Lib.hid hGn
          have HWN := Lib.hid hWn
          clear hG hW hGn hWn hLq hy hOt
          go_wp2_with (fail)
          go_roundw
          case rel => exact ⟨t + 1, _, by omega, by go_num, HGN.out, HWN.out⟩
          case measure => simp [intOf]; omega
        · obtain rfl : t = m := by omega
          have HG := Lib.hid hG
          have HW := Lib.hid hW
          clear hG hW
          go_wp2_with (fail)
          go_ret
          refine ⟨_, L, rfl, own_base HW.out.out (by have := HG1.out.size; omega), ⟨by rw [HG.out.len, HQl.out], by rw [HG.out.sum]; have := HM.out; omega, O, HPERM.out, HSRT.out, HSTB.out, fun j hj => ?_⟩, gr_trans HG1.out HW.out.gr⟩
          have := HG.out.at_ j (by rw [HQl.out]; exact hj)
          rw [← HQL.out, show (tot - QL.sum).toNat = t by have := HM.out; omega]
          exact this
set_option maxRecDepth 100000 in
set_option maxHeartbeats 2000000 in
theorem meterShare_ok (tot : Int) (ws : List Int) (a : Option Addr) (c : Nat) (w : World) (hc : CellsAt w a (ints ws)) (hn : ws.length < 20)
    (ht0 : 0 ≤ tot) (ht1 : tot ≤ 1000000000) (hs0 : 0 < ws.sum) (hw : ∀ x ∈ ws, 0 ≤ x ∧ x ≤ 1000000) :
    Calls Tryz.prog 57 #[.int .i64 tot, .slice a ws.length c] w fun e w' => ∃ v P, e = .returned (.tuple #[v, .int .i64 0]) ∧ w'.ownsRow w.heap.size 3 1 v ws.length (ints P) ∧ ShareOk tot ws.sum ws P ∧ w.grownBy w' none := by
  have hpos : 0 < ws.length := by
    cases ws with
    | nil => simp at hs0
    | cons x ws => simp
  have SH := Lib.hid (fun (W : World) (g : w.grownBy W none) => shared_any tot ws.sum ws a c W (hc.keep0 g) hn ht0 ht1 hs0 hw rfl)
  have H := Lib.hid hc
  have HWS := Lib.hid hw
  have d1 : (decide (tot < 0) || decide (1000000000 < tot)) = false := by simp; omega
  have hbs := (sum_bd 1000000 ws hw).2
  have F0 : Hid ((0 : Int) = (ws.take 0).sum) := by show _ = _; simp
  have HS0 := Lib.hid hs0
  clear hc hw hs0
  go_enter Tryz.func57, Tryz.ntmps57
  go_wp2_with (fail)
  refine (out_any tot 0 1000000000 w).mono ?_
  rintro e w1 ⟨rfl, rfl⟩
  rw [d1]
  have hz : ((ws.length : Int) == 0) = false := beq_eq_false_iff_ne.2 (by omega)
  have hz5 : decide ((5000 : Int) < (ws.length : Int)) = false := decide_eq_false (by omega)
  go_wp2_with (fail)
  go_loopw [6, 22] (fun s i wr => ∃ k : Nat, k ≤ ws.length ∧ i = .int .i64 k ∧ s = .int .i64 (ws.take k).sum ∧ w = wr) (fun _ i _ => ws.length - (intOf i).toNat)
  case atStart => exact ⟨0, Nat.zero_le _, rfl, congrArg _ F0.out, rfl⟩
  case round =>
    obtain ⟨k, hk, rfl, rfl, rfl⟩ := hrel
    by_cases hlt : k < ws.length
    · obtain ⟨b, off, rfl, d0⟩ := H.out k _ (by rw [show (ints ws)[k]? = _ from ints_at ws k hlt])
      rw [getD_eq ws k 0 hlt] at d0
      have hwk := HWS.out _ (List.getElem_mem hlt)
      have hS := sum_bd 1000000 (ws.take k) (fun x hx => HWS.out x (List.mem_of_mem_take hx))
      have hSl : (ws.take k).length = k := by simp; omega
      rw [hSl] at hS
      have NX : Hid ((ws.take (k + 1)).sum = (ws.take k).sum + ws[k]) := by show _ = _; rw [take_snoc ws k hlt, sumI_app]; simp
      obtain ⟨x, hx⟩ : ∃ x, x = ws[k] := ⟨_, rfl⟩
      rw [← hx] at d0 hwk NX
      obtain ⟨S, hSe⟩ : ∃ S, S = (ws.take k).sum := ⟨_, rfl⟩
      rw [← hSe] at hS NX
      rw [← hSe]
      have d2 : (decide (x < 0) || decide (1000000 < x)) = false := by simp; omega
      clear hx hSe hSl
      go_wp2_with (fail)
      refine (out_any x 0 1000000 w).mono ?_
      rintro e w1 ⟨rfl, rfl⟩
      rw [d2]
      go_wp2_with (fail)
      go_roundw
      case rel => exact ⟨k + 1, by omega, by go_num, by rw [NX.out], trivial⟩
      case measure => simp [intOf]; omega
    · obtain rfl : k = ws.length := by omega
      rw [List.take_length]
      have hs0 := HS0.out
      obtain ⟨S, hSe⟩ : ∃ S, S = ws.sum := ⟨_, rfl⟩
      rw [← hSe] at SH hs0
      rw [← hSe]
      have hsz : (S == 0) = false := beq_eq_false_iff_ne.2 (by omega)
      have hsz2 : ¬ S = 0 := by omega
      have HSE := Lib.hid hSe
      clear hSe HS0
      go_wp2_with (fail)
      refine (SH.out w (gr_refl _ _)).mono ?_
      rintro e w2 ⟨v, P, rfl, o2, hP, g2⟩
      have HO := Lib.hid o2
      have HP := Lib.hid hP
      have HG := Lib.hid g2
      obtain ⟨va, vc, rfl, -, -, -, -⟩ := own_shape o2
      clear o2 hP g2
      go_wp2_with (fail)
      go_ret2
      exact ⟨_, P, rfl, HO.out, by rw [← HSE.out]; exact HP.out, HG.out⟩
end Go.Proofs.YtehhmgbgkemidaaGreatDoor

/-! Shares of named partners: whoever comes first. No program in sight. -/
namespace Go.Proofs.YtehhmgbgkemidaaGreatDoor
open Go.RowKit

structure Nm where
  key : ByteArray
  many : Int
/-- What may be divided among. -/
structure FitW (ws : List Int) : Prop where
  pos : 0 < ws.length
  each : ∀ x ∈ ws, 0 ≤ x ∧ x ≤ 1000000
  sum : 0 < ws.sum
structure FitN (p : List Nm) : Prop where
  keys : ∀ x ∈ p, keyB x.key = true
  apart : p.Pairwise (fun a b => a.key ≠ b.key)
  fit : FitW (p.map Nm.many)
theorem sum_perm {a b : List Int} (h : a.Perm b) : a.sum = b.sum := by
  induction h with
  | nil => rfl
  | cons x _ ih => simp only [List.sum_cons]; omega
  | swap x y l => simp only [List.sum_cons]; omega
  | trans _ _ h1 h2 => omega
theorem FitW.perm {a b : List Int} (h : FitW a) (hp : a.Perm b) : FitW b :=
  ⟨by rw [← hp.length_eq]; exact h.pos, fun x hx => h.each x (hp.mem_iff.2 hx), by rw [← sum_perm hp]; exact h.sum⟩
theorem FitN.perm {a b : List Nm} (h : FitN a) (hp : a.Perm b) : FitN b :=
  ⟨fun x hx => h.keys x (hp.mem_iff.2 hx), (hp.pairwise_iff (fun hxy e => hxy e.symm)).1 h.apart, h.fit.perm (hp.map _)⟩
def keyLt (a b : Nm) : Prop := cmpB a.key b.key < 0
/-- What each partner gets: by key. -/
structure SharesOf (tot : Int) (p : List Nm) (P : List Int) : Prop where
  len : P.length = p.length
  all : P.sum = tot
  ex : ∃ (Z : List Nm) (Q : List Int), Z.Perm p ∧ Z.Pairwise keyLt ∧ ShareOk tot (Z.map Nm.many).sum (Z.map Nm.many) Q ∧ ∀ i k (hi : i < p.length) (hk : k < Z.length), Z[k] = p[i] → P.getD i 0 = Q.getD k 0
theorem SharesOf.same {tot : Int} {p p' : List Nm} {P P' : List Int} (h : SharesOf tot p P) (h' : SharesOf tot p' P') (hp : p'.Perm p) (i j : Nat) (hi : i < p'.length) (hj : j < p.length) (e : p'[i] = p[j]) : P'.getD i 0 = P.getD j 0 := by
  obtain ⟨Z, Q, z1, z2, z3, z4⟩ := h.ex
  obtain ⟨Z', Q', y1, y2, y3, y4⟩ := h'.ex
  have ez : Z = Z' := by
    refine List.Perm.eq_of_pairwise (le := keyLt) (fun a b _ _ hab hba => ?_) z2 y2 (z1.trans (hp.symm.trans y1.symm))
    unfold keyLt at hab hba
    rw [cmpB_anti a.key b.key] at hba
    omega
  subst ez
  have eq := z3.unique y3
  subst eq
  have hm : p[j] ∈ Z := z1.mem_iff.2 (List.getElem_mem hj)
  obtain ⟨k, hk, ek⟩ := List.getElem_of_mem hm
  rw [y4 i k hi hk (by rw [ek, e]), z4 j k hj hk ek]
end Go.Proofs.YtehhmgbgkemidaaGreatDoor

/-! Shares by key: the order, the weights, what is laid where. No program in sight. -/
namespace Go.Proofs.YtehhmgbgkemidaaGreatDoor
open Go.RowKit

theorem bytesN_of {a b : ByteArray} (h : a.toList = b.toList) : a = b := by
  rw [ByteArray.toList_eq, ByteArray.toList_eq] at h
  cases a; cases b
  simp at h
  rw [h]
def nmD : Nm := ⟨⟨#[]⟩, 0⟩
def nmN (p : List Nm) (i : Nat) : Nm := p.getD i nmD
theorem nmN_get {p : List Nm} {i : Nat} (h : i < p.length) : nmN p i = p[i] := by
  unfold nmN
  rw [List.getD_eq_getElem?_getD, List.getElem?_eq_getElem h]; rfl
def nmCm (p : List Nm) (a b : Int) : Int := cmpB (nmN p a.toNat).key (nmN p b.toNat).key
theorem nmCm_ok (p : List Nm) : CmpOk (nmCm p) := by
  refine ⟨fun a b h => ?_, fun a b c h1 h2 h3 => ?_⟩
  · unfold nmCm at *
    rw [cmpB_anti (nmN p a.toNat).key (nmN p b.toNat).key]; omega
  · unfold nmCm at *
    rw [cmpB_neg] at h1 h2 h3
    rcases compareBytes_sign (nmN p b.toNat).key.data.toList (nmN p a.toNat).key.data.toList with ⟨_, g⟩ | ⟨_, g⟩ | ⟨_, g⟩
    · exact h1 g
    · rw [g] at h2; exact h2 h3
    · exact h2 (ltL_trans h3 g)
def sortedN (p : List Nm) (O : List Int) : List Nm := O.map (fun i => nmN p i.toNat)
theorem places_map (p : List Nm) : (placesL p.length).map (fun i => nmN p i.toNat) = p := by
  refine List.ext_getElem (by simp [placesL]) (fun i h1 h2 => ?_)
  simp [placesL, nmN_get h2]
theorem sortedN_perm {p : List Nm} {O : List Int} (h : O.Perm (placesL p.length)) : (sortedN p O).Perm p := by
  have := h.map (fun i => nmN p i.toNat)
  rw [places_map] at this
  exact this
theorem order_at {p : List Nm} {O : List Int} (h : O.Perm (placesL p.length)) (t : Nat) (ht : t < O.length) : ∃ i : Nat, i < p.length ∧ O[t] = (i : Int) := places_mem (h.mem_iff.1 (List.getElem_mem ht))
theorem apart_ne {p : List Nm} (h : p.Pairwise (fun a b => a.key ≠ b.key)) {i j : Nat} (hi : i < p.length) (hj : j < p.length) (e : p[i].key = p[j].key) : i = j := by
  rcases Nat.lt_trichotomy i j with g | g | g
  · exact absurd e ((List.pairwise_iff_getElem.1 h) i j hi hj g)
  · exact g
  · exact absurd e.symm ((List.pairwise_iff_getElem.1 h) j i hj hi g)
theorem sortedN_lt {p : List Nm} {O : List Int} (h : O.Perm (placesL p.length)) (hs : Srt (nmCm p) 0 O p.length) (ha : p.Pairwise (fun a b => a.key ≠ b.key)) : (sortedN p O).Pairwise keyLt := by
  have hl : O.length = p.length := by rw [h.length_eq, places_len]
  have hnd := h.nodup_iff.2 (places_nodup p.length)
  rw [List.pairwise_iff_getElem]
  intro i j hi hj hij
  have hi2 : i < O.length := by simpa [sortedN] using hi
  have hj2 : j < O.length := by simpa [sortedN] using hj
  have h1 := hs i j hij (by omega)
  rw [getD_eq O i 0 hi2, getD_eq O j 0 hj2] at h1
  obtain ⟨a, ha2, ea⟩ := order_at h i hi2
  obtain ⟨b, hb2, eb⟩ := order_at h j hj2
  have hne := (List.pairwise_iff_getElem.1 hnd) i j hi2 hj2 hij
  rw [ea, eb] at hne h1
  unfold keyLt
  simp only [sortedN, List.getElem_map, ea, eb, Int.toNat_natCast, nmN_get ha2, nmN_get hb2]
  unfold nmCm at h1
  simp only [Int.toNat_natCast, nmN_get ha2, nmN_get hb2] at h1
  have h3 : ¬ cmpB p[a].key p[b].key = 0 := fun e => hne (by rw [apart_ne ha ha2 hb2 (cmpB_zero.1 e)])
  rw [cmpB_anti p[a].key p[b].key] at h1
  omega
theorem set_getD (L : List Int) (i : Nat) (x : Int) (h : i < L.length) (j : Nat) : (L.set i x).getD j 0 = if i = j then x else L.getD j 0 := by
  rw [List.getD_eq_getElem?_getD, List.getElem?_set]
  by_cases e : i = j
  · subst e; simp [h]
  · rw [if_neg e, if_neg e, ← List.getD_eq_getElem?_getD]
/-- What stands while the parts are laid in the places of the order. -/
structure LaidAt (O Q : List Int) (n k : Nat) (L : List Int) : Prop where
  len : L.length = n
  sum : L.sum = (Q.take k).sum
  at_ : ∀ j (_ : j < O.length), j < k → L.getD (O.getD j 0).toNat 0 = Q.getD j 0
  zero : ∀ i : Nat, i < n → (i : Int) ∉ O.take k → L.getD i 0 = 0
theorem LaidAt.start (O Q : List Int) (n : Nat) : LaidAt O Q n 0 (List.replicate n 0) :=
  ⟨by simp, by induction n with
    | zero => rfl
    | succ n ih => rw [List.replicate_succ, List.sum_cons, ih]; simp, fun j _ h => absurd h (Nat.not_lt_zero _), fun i hi _ => by rw [getD_eq _ _ _ (by simpa using hi), List.getElem_replicate]⟩
theorem LaidAt.next {O Q L : List Int} {n k i : Nat} (h : LaidAt O Q n k L) (hnd : O.Nodup) (hm : ∀ t (ht : t < O.length), ∃ i : Nat, i < n ∧ O[t] = (i : Int)) (hk : k < O.length) (hq : Q.length = O.length) (hi : O[k] = (i : Int)) (hin : i < n) : LaidAt O Q n (k + 1) (L.set i (Q.getD k 0)) := by
  have hlen := h.len
  have hni : (i : Int) ∉ O.take k := fun hmm => by
    rw [← hi] at hmm
    obtain ⟨j, hj, e⟩ := List.getElem_of_mem hmm
    rw [List.getElem_take] at e
    have hjt : j < k := by rw [List.length_take] at hj; omega
    exact (List.pairwise_iff_getElem.1 hnd) j k (by omega) hk hjt e
  refine ⟨by simp [hlen], ?_, fun j hj hjk => ?_, fun j hj hjm => ?_⟩
  · rw [sum_setS L i (by omega), h.zero i hin hni, h.sum, take_snoc Q k (by omega), sumI_app, getD_eq Q k 0 (by omega)]
    simp
  · rw [set_getD L i _ (by omega)]
    by_cases e : j = k
    · subst e
      rw [getD_eq O j 0 hj, hi, if_pos (by simp)]
    · obtain ⟨b, hb, eb⟩ := hm j hj
      have hne := (List.pairwise_iff_getElem.1 hnd) j k hj hk (by omega)
      rw [eb, hi] at hne
      have := h.at_ j hj (by omega)
      rw [getD_eq O j 0 hj, eb] at this ⊢
      rw [if_neg (by simp; omega)]
      exact this
  · rw [set_getD L i _ (by omega)]
    have h1 : (j : Int) ∉ O.take k := fun hmm => hjm (by rw [take_snoc O k hk]; exact List.mem_append_left _ hmm)
    have h2 : ¬ i = j := fun e => hjm (by rw [take_snoc O k hk, hi, e]; exact List.mem_append_right _ (by simp))
    rw [if_neg h2]
    exact h.zero j hj h1
theorem shares_end {tot : Int} {p : List Nm} {O Q P : List Int} (hO : O.Perm (placesL p.length)) (hS : Srt (nmCm p) 0 O p.length) (ha : p.Pairwise (fun a b => a.key ≠ b.key)) (hQ : ShareOk tot ((sortedN p O).map Nm.many).sum ((sortedN p O).map Nm.many) Q) (hL : LaidAt O Q p.length p.length P) : SharesOf tot p P := by
  have hl : O.length = p.length := by rw [hO.length_eq, places_len]
  have hq : Q.length = p.length := by rw [hQ.len]; simp [sortedN, hl]
  refine ⟨hL.len, ?_, sortedN p O, Q, sortedN_perm hO, sortedN_lt hO hS ha, hQ, fun i k hi hk e => ?_⟩
  · rw [hL.sum, ← hq, List.take_length]; exact hQ.all
  · have hk2 : k < O.length := by simpa [sortedN] using hk
    obtain ⟨b, hb, eb⟩ := order_at hO k hk2
    have e1 : p[b] = p[i] := by
      rw [← e]
      simp only [sortedN, List.getElem_map, eb, Int.toNat_natCast, nmN_get hb]
    have e2 := apart_ne ha hb hi (by rw [e1])
    have := hL.at_ k hk2 (by omega)
    rw [getD_eq O k 0 hk2, eb, Int.toNat_natCast, e2] at this
    exact this
/-- The first ones are right. -/
structure GoodTo (p : List Nm) (k : Nat) : Prop where
  keys : ∀ x ∈ p.take k, keyB x.key = true
  apart : (p.take k).Pairwise (fun a b => a.key ≠ b.key)
theorem GoodTo.zero (p : List Nm) : GoodTo p 0 := ⟨fun x hx => by simp at hx, by simp⟩
theorem nm_snoc (p : List Nm) (k : Nat) (h : k < p.length) : p.take (k + 1) = p.take k ++ [p[k]] := by simp
theorem GoodTo.next {p : List Nm} {k : Nat} (h : GoodTo p k) (hk : k < p.length) (h1 : keyB p[k].key = true) (h2 : (p.take k).any (fun q => q.key.toList == p[k].key.toList) = false) : GoodTo p (k + 1) := by
  constructor
  · intro x hx
    rw [nm_snoc p k hk] at hx
    rcases List.mem_append.1 hx with hx | hx
    · exact h.keys x hx
    · have : x = p[k] := by simpa using hx
      rw [this]; exact h1
  · rw [nm_snoc p k hk, List.pairwise_append]
    refine ⟨h.apart, by simp, fun a ha b hb e => ?_⟩
    have : b = p[k] := by simpa using hb
    subst this
    have := List.any_eq_false.1 h2 a ha
    rw [e] at this
    simp at this
theorem fit_keys {p : List Nm} (h : FitN p) {k : Nat} (hk : k < p.length) : keyB p[k].key = true := h.keys _ (List.getElem_mem hk)
theorem fit_apart {p : List Nm} (h : FitN p) {k : Nat} (hk : k < p.length) : (p.take k).any (fun q => q.key.toList == p[k].key.toList) = false := by
  rw [List.any_eq_false]
  intro q hq e
  obtain ⟨j, hj, e2⟩ := List.getElem_of_mem hq
  have hj2 : j < k := by rw [List.length_take] at hj; omega
  rw [List.getElem_take] at e2
  have e3 : p[j].key = p[k].key := by rw [e2]; exact bytesN_of (by simpa using e)
  have := apart_ne h.apart (by omega) hk e3
  omega
theorem GoodTo.fit {p : List Nm} (h : GoodTo p p.length) {O : List Int} (hO : O.Perm (placesL p.length)) (hf : FitW ((sortedN p O).map Nm.many)) : FitN p := by
  refine ⟨fun x hx => h.keys x (by rw [List.take_length]; exact hx), by have := h.apart; rw [List.take_length] at this; exact this, hf.perm ((sortedN_perm hO).map _)⟩
theorem FitN.sorted {p : List Nm} (h : FitN p) {O : List Int} (hO : O.Perm (placesL p.length)) : FitW ((sortedN p O).map Nm.many) := h.fit.perm ((sortedN_perm hO).symm.map _)
end Go.Proofs.YtehhmgbgkemidaaGreatDoor

/-! Package slices at ints: SortFunc of few, by a comparison with a capture. -/
namespace Go.Proofs.YtehhmgbgkemidaaGreatDoor
open Go.RowKit
attribute [local go_sem ↓] Go.wp_at_zero Go.wp_at_succ

set_option maxRecDepth 100000 in
theorem len64_few (n : Nat) (hn : n ≤ 12) (w : World) : Calls Tryz.prog 170 #[.int .u64 n] w fun e w' => ∃ r : Int, e = .returned (.int .i64 r) ∧ w = w' := by
  have d1 : decide ((4294967296 : Int) ≤ (n : Int)) = false := decide_eq_false (by omega)
  have d2 : decide ((65536 : Int) ≤ (n : Int)) = false := decide_eq_false (by omega)
  have d3 : decide ((256 : Int) ≤ (n : Int)) = false := decide_eq_false (by omega)
  go_enter Tryz.func170, Tryz.ntmps170
  go_wp2_with (fail)
  go_ret
  exact ⟨_, rfl, rfl⟩
set_option maxRecDepth 100000 in
theorem len_few (n : Nat) (hn : n ≤ 12) (w : World) : Calls Tryz.prog 124 #[.int .u64 n] w fun e w' => ∃ r : Int, e = .returned (.int .i64 r) ∧ w = w' := by
  have L := Lib.hid (len64_few n hn)
  go_enter Tryz.func124, Tryz.ntmps124
  go_wp2_with (fail)
  refine (L.out _).mono ?_
  rintro e w1 ⟨r, rfl, rfl⟩
  go_wp2_with (fail)
  go_ret
  exact ⟨_, rfl, rfl⟩
end Go.Proofs.YtehhmgbgkemidaaGreatDoor

/-! Package slices at elements coilrack/api.Window: sorting of few. Written by mksortn.py. -/
namespace Go.Proofs.YtehhmgbgkemidaaGreatDoor
open Go.RowKit

theorem own_of_heapWi {w w1 : World} {base e size n : Nat} {v : Value} {xs : List Value} (h : w.ownsRow base e size v n xs) (e1 : w1.heap = w.heap) : w1.ownsRow base e size v n xs := by
  rcases h.2 with h2 | ⟨g, cap, cur, hv, hb, hg, r⟩
  · exact ⟨h.1, .inl h2⟩
  · exact ⟨h.1, .inr ⟨g, cap, cur, hv, hb, by rw [e1]; exact hg, r⟩⟩
theorem flat_rowWi (l : List Win) (i : Nat) (h : i < l.length) (y : Win) : (((flat encWin l).set (i * 2) (.int .i64 (y.fr))).set (i * 2 + 1) (.int .i64 (y.to))) = flat encWin (l.set i y) := by
  have e0 := flat_set (enc := encWin) (m := 2) (fun _ => rfl) l i h 0 (by decide) (.int .i64 (y.fr)) (⟨y.fr, l[i].to⟩ : Win) rfl
  have g1 : (l.set i (⟨y.fr, l[i].to⟩ : Win))[i]'(by simp; omega) = (⟨y.fr, l[i].to⟩ : Win) := by rw [List.getElem_set_self]
  have e1 := flat_set (enc := encWin) (m := 2) (fun _ => rfl) (l.set i (⟨y.fr, l[i].to⟩ : Win)) i (by simp; omega) 1 (by decide) (.int .i64 (y.to)) (⟨y.fr, y.to⟩ : Win) (by rw [g1]; rfl)
  rw [List.set_set] at e1
  rw [show i * 2 + 0 = i * 2 from rfl] at e0
  rw [e0, e1]
/-- A comparison of elements of a list, in worlds that differ from w at one block at most. -/
def CmpWi (F : FuncId) (cm : Win → Win → Int) (L : List Win) (r : Option Nat) (w : World) : Prop :=
  ∀ (x y : Win) (w1 : World), x ∈ L → y ∈ L → w.grownBy w1 r → Calls Tryz.prog F #[.agg #[.int .i64 (x.fr), .int .i64 (x.to)], .agg #[.int .i64 (y.fr), .int .i64 (y.to)]] w1 fun e w2 => e = .returned (.int .i64 (cm x y)) ∧ w1.grownBy w2 none
def SortWiPost (cm : Win → Win → Int) (L : List Win) (v : Value) (n base : Nat) (w : World) (e : Ending) (w' : World) : Prop := ∃ O, e = .returned (.tuple #[]) ∧ w'.ownsRow base 39 2 v n (flat encWin O) ∧ O.Perm L ∧ Srt cm w0W O n ∧ w.grownBy w' v.ownBlock
set_option maxRecDepth 100000 in
set_option maxHeartbeats 2000000 in
theorem insertionWi_any (F : FuncId) (n : Nat) (cm : Win → Win → Int) (v : Value) (base : Nat) (L : List Win) (w : World) (hown : w.ownsRow base 39 2 v n (flat encWin L)) (hL : L.length = n) (hn : n ≤ 1000)
    (hE : ∀ (args : Array Value) (w : World), (callFunc F args).run Tryz.prog w = .ok (.enter F args) w) (hc : CmpOk cm) (hF : CmpWi F cm L v.ownBlock w) :
    Calls Tryz.prog 204 #[v, .int .i64 0, .int .i64 n, .func (.func F) #[] #[]] w (SortWiPost cm L v n base w) := by
  have HF := Lib.hid hF
  have HC := Lib.hid hc
  have HL := Lib.hid hL
  obtain ⟨va, vc, rfl, _, _, _, _⟩ := own_shape hown
  clear hF hc hL
  go_enter Tryz.func204, Tryz.ntmps204
  go_wp2_with (fail)
  go_loopw [8] (fun i wr => ∃ (k : Nat) (O' : List Win), 1 ≤ k ∧ (k ≤ n ∨ n = 0) ∧ i = .int .i64 k ∧ wr.ownsRow base 39 2 (.slice va n vc) n (flat encWin O') ∧ O'.Perm L ∧ Srt cm w0W O' k ∧ w.grownBy wr (Value.slice va n vc).ownBlock) (fun i _ => n - (intOf i).toNat)
  case atStart => exact ⟨1, L, by omega, by omega, rfl, hown, List.Perm.refl _, srt_one, gr_refl _ _⟩
  case round =>
    obtain ⟨k, O', hk, hkn1, rfl, hown', hO', hs, hgr⟩ := hrel
    obtain ⟨wo, rfl⟩ : ∃ wo : World, wo = wr := ⟨_, rfl⟩
    have HO' := Lib.hid hO'
    have HS := Lib.hid hs
    clear hO' hs
    by_cases hkn : k < n
    · obtain ⟨g, gc, hge, hgb, _, _, _⟩ := own_some hown' (by omega)
      cases hge
      go_wp2_with (fail)
      go_loopw [9] (fun i wr => ∃ (j : Nat) (O2 : List Win), j ≤ k ∧ i = .int .i64 j ∧ wr.ownsRow base 39 2 (.slice (some ⟨g, 0, none⟩) n vc) n (flat encWin O2) ∧ O2.Perm L ∧ SrtBut cm w0W O2 k j ∧ w.grownBy wr (some g)) (fun i _ => (intOf i).toNat)
      case atStart => exact ⟨k, O', by omega, rfl, hown', HO'.out, srt_start HS.out, hgr⟩
      case round =>
        clear hgr
        obtain ⟨j, O2, hj, rfl, hown2, hO2, hb2, hgr2⟩ := hrel
        obtain ⟨wi, rfl⟩ : ∃ wi : World, wi = wr := ⟨_, rfl⟩
        have hlen := hO2.length_eq.trans HL.out
        by_cases hj0 : 0 < j
        · have hd0 : decide (0 < j) = true := decide_eq_true hj0
          obtain ⟨i, hi⟩ : ∃ i, i = j - 1 := ⟨_, rfl⟩
          have hij : i + 1 = j := by omega
          subst hij
          have hjl : i + 1 < O2.length := by omega
          have hil : i < O2.length := by omega
          have a0 := own_cellE (enc := encWin) (m := 2) (fun _ => rfl) hown2 (i + 1) hjl 0 (by decide) _ rfl hlen
          have a1 := own_cellE (enc := encWin) (m := 2) (fun _ => rfl) hown2 (i + 1) hjl 1 (by decide) _ rfl hlen
          have b0 := own_cellE (enc := encWin) (m := 2) (fun _ => rfl) hown2 (i) hil 0 (by decide) _ rfl hlen
          have b1 := own_cellE (enc := encWin) (m := 2) (fun _ => rfl) hown2 (i) hil 1 (by decide) _ rfl hlen
          have hmx : O2[i + 1] ∈ L := hO2.mem_iff.1 (List.getElem_mem _)
          have hmy : O2[i] ∈ L := hO2.mem_iff.1 (List.getElem_mem _)
          have ex : O2.getD (i + 1) w0W = O2[i + 1] := getD_eq O2 _ _ hjl
          have ey : O2.getD i w0W = O2[i] := getD_eq O2 _ _ hil
          have SW : Hid (cm O2[i + 1] O2[i] < 0 → SrtBut cm w0W (swapAt w0W O2 i) k i) := fun h => srt_swap HC.out hjl (by omega) hb2 (by rw [ex, ey]; exact h)
          have ST : Hid (¬ cm O2[i + 1] O2[i] < 0 → Srt cm w0W O2 (k + 1)) := fun h => srt_stop HC.out hb2 (by rw [ex, ey]; exact h)
          have PM : Hid ((swapAt w0W O2 i).Perm L) := (swapAt_perm i hjl).trans hO2
          have WR : Hid (∀ W : World, W.ownsRow base 39 2 (.slice (some ⟨g, 0, none⟩) n vc) n (flat encWin O2) → w.grownBy W (some g) → (((((W.setCell ⟨g, (i + 1) * 2, none⟩ (.int .i64 (O2[i].fr))).setCell ⟨g, (i + 1) * 2 + 1, none⟩ (.int .i64 (O2[i].to))).setCell ⟨g, i * 2, none⟩ (.int .i64 (O2[i + 1].fr))).setCell ⟨g, i * 2 + 1, none⟩ (.int .i64 (O2[i + 1].to)))).ownsRow base 39 2 (.slice (some ⟨g, 0, none⟩) n vc) n (flat encWin (swapAt w0W O2 i)) ∧ w.grownBy (((((W.setCell ⟨g, (i + 1) * 2, none⟩ (.int .i64 (O2[i].fr))).setCell ⟨g, (i + 1) * 2 + 1, none⟩ (.int .i64 (O2[i].to))).setCell ⟨g, i * 2, none⟩ (.int .i64 (O2[i + 1].fr))).setCell ⟨g, i * 2 + 1, none⟩ (.int .i64 (O2[i + 1].to)))) (some g)) := fun W hW gW => by
            refine ⟨?_, (gr_set (gr_set (gr_set (gr_set gW rfl _) rfl _) rfl _) rfl _)⟩
            have h5 := ((((hW.stored ((i + 1) * 2) (.int .i64 (O2[i].fr))).1.stored ((i + 1) * 2 + 1) (.int .i64 (O2[i].to))).1.stored (i * 2) (.int .i64 (O2[i + 1].fr))).1.stored (i * 2 + 1) (.int .i64 (O2[i + 1].to))).1
            rw [flat_rowWi O2 (i + 1) hjl O2[i], flat_rowWi (O2.set (i + 1) O2[i]) i (by simp; omega) O2[i + 1]] at h5
            unfold swapAt
            rw [ex, ey]
            exact h5
          have CC : Hid (∀ W, wi.grownBy W none → Calls Tryz.prog F #[.agg #[.int .i64 (O2[i + 1].fr), .int .i64 (O2[i + 1].to)], .agg #[.int .i64 (O2[i].fr), .int .i64 (O2[i].to)]] W fun e w2 => e = .returned (.int .i64 (cm O2[i + 1] O2[i])) ∧ W.grownBy w2 none) := fun W hW => HF.out _ _ W hmx hmy (gr_trans hgr2 (gr_weak hW _))
          obtain ⟨x, hx⟩ : ∃ x, x = O2[i + 1] := ⟨_, rfl⟩
          obtain ⟨y, hy⟩ : ∃ y, y = O2[i] := ⟨_, rfl⟩
          rw [← hx, ← hy] at SW ST CC WR
          rw [← hx] at a0 a1
          rw [← hy] at b0 b1
          obtain ⟨x0, x1⟩ := x
          obtain ⟨y0, y1⟩ := y
          simp only at CC WR
          obtain ⟨c, hcv⟩ : ∃ c, c = cm ⟨x0, x1⟩ ⟨y0, y1⟩ := ⟨_, rfl⟩
          rw [← hcv] at SW ST CC
          obtain ⟨a0, fa0, -⟩ := a0
          obtain ⟨a1, fa1, -⟩ := a1
          obtain ⟨b0, fb0, -⟩ := b0
          obtain ⟨b1, fb1, -⟩ := b1
          have a0 : wi.cell? ⟨g, (i + 1) * 2, none⟩ = some (.int .i64 (x0)) := a0
          have a1 : wi.cell? ⟨g, (i + 1) * 2 + 1, none⟩ = some (.int .i64 (x1)) := a1
          have b0 : wi.cell? ⟨g, i * 2, none⟩ = some (.int .i64 (y0)) := b0
          have b1 : wi.cell? ⟨g, i * 2 + 1, none⟩ = some (.int .i64 (y1)) := b1
          have ga0 := grew_cell a0
          have ga1 := grew_cell a1
          have gb0 := grew_cell b0
          have gb1 := grew_cell b1
          have FA0 := Lib.hid fa0
          have FA1 := Lib.hid fa1
          have FB0 := Lib.hid fb0
          have FB1 := Lib.hid fb1
          have HOW := Lib.hid hown2
          have HGR2 := Lib.hid hgr2
          have hgl := lt_of_cell a0
          have HPM2 := Lib.hid hO2
          have hi1 : ((i : Int) + 1 - 1) = i := by omega
          have hwi : IntKind.i64.wrap (((i : Int) + 1) - 1) = i := by rw [hi1]; exact IntWalk.i64_in _ (by omega)
          have hq0 : (0 : Int) ≤ (i : Int) := by omega
          have hq1 : (i : Int) < (n : Int) := by omega
          have hq2 : (0 : Int) ≤ (i : Int) + 1 := by omega
          have hq3 : (i : Int) + 1 < (n : Int) := by omega
          have hq4 : ((i : Int) + 1).toNat = i + 1 := by omega
          have hq5 : decide ((0 : Int) < (i : Int) + 1) = true := decide_eq_true (by omega)
          clear hown2 hgr2 hO2 hb2 hmx hmy ex ey hx hy hcv fa0 fa1 fb0 fb1 hlen hi hown' hi1
          by_cases hc0 : c < 0
          · have hdc : decide (c < 0) = true := decide_eq_true hc0
            go_wp2_with (fail)
            refine wp_region_grew (by kernel_rfl) (by kernel_rfl) ?_
            repeat (go_big_quiet_step (first | (exact Calls.grew_of (fun W h => CC.out W h))))
            refine wpQuiet_nil ?_
            rintro wq ⟨nn, rfl⟩
            have gq := nn.gr
            have A0 := ga0 nn
            have A1 := ga1 nn
            have B0 := gb0 nn
            have B1 := gb1 nn
            have Fa0 := (gr_free gq hgl (o := (i + 1) * 2)).trans FA0.out
            have Fa1 := (gr_free gq hgl (o := (i + 1) * 2 + 1)).trans FA1.out
            have Fb0 := (gr_free gq hgl (o := i * 2)).trans FB0.out
            have Fb1 := (gr_free gq hgl (o := i * 2 + 1)).trans FB1.out
            have HOQ := Lib.hid (own_keep0 HOW.out gq)
            have HGQ := Lib.hid (gr_trans HGR2.out (gr_weak gq _))
            obtain ⟨wn, hwn⟩ : ∃ wn, wn = nn.w := ⟨_, rfl⟩
            rw [← hwn] at A0 A1 B0 B1 Fa0 Fa1 Fb0 Fb1 HOQ HGQ
            rw [← hwn]
            clear gq hwn ga0 ga1 gb0 gb1 a0 a1 b0 b1 hwi hq2 hq3 hq4 hq5 FA0 FA1 FB0 FB1
            go_wp2_with (fail)
            go_region
            all_goals (go_wp2_with (fail))
            all_goals go_roundw
            all_goals first | (simp [intOf]; done) | skip
            all_goals
              refine ⟨i, swapAt w0W O2 i, by omega, by go_num, ?_, PM.out, SW.out hc0, ?_⟩
            all_goals first
              | (with_reducible refine (WR.out _ ?_ ?_).1; (· exact own_keep0 HOQ.out (gr_drew (gr_refl _ _))); exact gr_drew HGQ.out)
              | (with_reducible refine (WR.out _ ?_ ?_).2; (· exact own_keep0 HOQ.out (gr_drew (gr_refl _ _))); exact gr_drew HGQ.out)
              | (with_reducible refine own_keep0 (WR.out _ ?_ ?_).1 (gr_drew (gr_refl _ _)); (· exact HOQ.out); exact HGQ.out)
              | (with_reducible refine gr_drew (WR.out _ ?_ ?_).2; (· exact HOQ.out); exact HGQ.out)
              | fail
          · have hdc : decide (c < 0) = false := decide_eq_false hc0
            go_wp2_with (fail)
            refine wp_region_grew (by kernel_rfl) (by kernel_rfl) ?_
            repeat (go_big_quiet_step (first | (exact Calls.grew_of (fun W h => CC.out W h))))
            refine wpQuiet_nil ?_
            rintro wq ⟨nn, rfl⟩
            have HGQ := Lib.hid (gr_trans HGR2.out (gr_weak nn.gr _))
            have HW := Lib.hid (own_keep0 HOW.out nn.gr)
            clear ga0 ga1 gb0 gb1 a0 a1 b0 b1
            go_wp2_with (fail)
            go_roundw
            case rel => exact ⟨k + 1, O2, by omega, by omega, by go_num, HW.out, HPM2.out, ST.out hc0, HGQ.out⟩
            case measure => simp [intOf]; omega
        · have hd0 : decide (0 < j) = false := decide_eq_false hj0
          obtain rfl : j = 0 := by omega
          have HOWN2 := Lib.hid hown2
          have HGR2 := Lib.hid hgr2
          have HPM2 := Lib.hid hO2
          have HZ := Lib.hid (srt_zero hb2)
          have hq5 : decide ((0 : Int) < 0) = false := by decide
          clear hown2 hgr2 hO2 hb2 hlen
          go_wp2_with (fail)
          go_quiet (fail)
          go_wp2_with (fail)
          go_roundw
          case rel => exact ⟨k + 1, O2, by omega, by omega, by go_num, own_keep0 HOWN2.out (gr_drewN (gr_refl _ _) _), HPM2.out, HZ.out, gr_drewN HGR2.out _⟩
          case measure => simp [intOf]; omega
    · have HW := Lib.hid hown'
      clear hown'
      go_wp2_with (fail)
      go_end0
      have hS : Srt cm w0W O' n := fun p q h1 h2 => HS.out p q h1 (by omega)
      exact ⟨O', rfl, HW.out, HO'.out, hS, hgr⟩
set_option maxRecDepth 100000 in
theorem pdqWi_few (F : FuncId) (n : Nat) (cm : Win → Win → Int) (v : Value) (base : Nat) (L : List Win) (w : World) (hown : w.ownsRow base 39 2 v n (flat encWin L)) (hL : L.length = n) (hn : n ≤ 12) (lim : Int)
    (hE : ∀ (args : Array Value) (w : World), (callFunc F args).run Tryz.prog w = .ok (.enter F args) w) (hc : CmpOk cm) (hF : CmpWi F cm L v.ownBlock w) :
    Calls Tryz.prog 160 #[v, .int .i64 0, .int .i64 n, .int .i64 lim, .func (.func F) #[] #[]] w (SortWiPost cm L v n base w) := by
  have IS := Lib.hid (insertionWi_any F n cm v base L w hown hL (by omega) hE hc hF)
  obtain ⟨va, vc, rfl, _, _, _, _⟩ := own_shape hown
  clear hF hE hown hL hc
  have d12 : decide ((n : Int) ≤ 12) = true := decide_eq_true (by omega)
  go_enter Tryz.func160, Tryz.ntmps160
  go_wp2_with (fail)
  go_loopw [1, 2, 3, 10, 11] (fun b c d g h wr => b = .int .i64 0 ∧ c = .int .i64 n ∧ d = .int .i64 lim ∧ g = .bool true ∧ h = .bool true ∧ wr = w) (fun _ _ _ _ _ _ => 0)
  case atStart => exact ⟨rfl, rfl, rfl, rfl, rfl, rfl⟩
  case round =>
    obtain ⟨rfl, rfl, rfl, rfl, rfl, rfl⟩ := hrel
    go_wp2_with (fail)
    refine IS.out.mono ?_
    rintro e w2 ⟨O2, rfl, h1, h2, h3, h4⟩
    have H1 := Lib.hid h1
    have H2 := Lib.hid h2
    have H3 := Lib.hid h3
    clear h1 h2 h3
    go_wp2_with (fail)
    go_end0
    exact ⟨O2, rfl, H1.out, H2.out, H3.out, h4⟩
theorem sortFWi_few (F : FuncId) (n : Nat) (cm : Win → Win → Int) (v : Value) (base : Nat) (L : List Win) (w : World) (hown : w.ownsRow base 39 2 v n (flat encWin L)) (hL : L.length = n) (hn : n ≤ 12)
    (hE : ∀ (args : Array Value) (w : World), (callFunc F args).run Tryz.prog w = .ok (.enter F args) w) (hc : CmpOk cm) (hF : CmpWi F cm L v.ownBlock w) :
    Calls Tryz.prog 121 #[v, .func (.func F) #[] #[]] w (SortWiPost cm L v n base w) := by
  have IS := Lib.hid (fun lim => pdqWi_few F n cm v base L w hown hL hn lim hE hc hF)
  have LN := Lib.hid (len_few n hn)
  obtain ⟨va, vc, rfl, _, _, _, _⟩ := own_shape hown
  clear hF hE hown hL hc
  go_enter Tryz.func121, Tryz.ntmps121
  go_wp2_with (fail)
  refine (LN.out _).mono ?_
  rintro e w1 ⟨r, rfl, rfl⟩
  go_wp2_with (fail)
  refine (IS.out r).mono ?_
  rintro e w2 ⟨O2, rfl, h1, h2, h3, h4⟩
  have H1 := Lib.hid h1
  have H2 := Lib.hid h2
  have H3 := Lib.hid h3
  clear h1 h2 h3
  go_wp2_with (fail)
  go_end0
  exact ⟨O2, rfl, H1.out, H2.out, H3.out, h4⟩
end Go.Proofs.YtehhmgbgkemidaaGreatDoor
