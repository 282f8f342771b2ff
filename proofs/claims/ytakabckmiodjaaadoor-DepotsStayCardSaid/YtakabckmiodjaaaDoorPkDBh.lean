/- The comparison by which a coil is rotated. -/
import Derived.Test.YtakabckmiodjaaaDoorPkDBc
import Derived.Test.YtakabckmiodjaaaDoorPkDBd
import Derived.Test.YtakabckmiodjaaaDoorPkDBg
import Derived.Test.YtakabckmiodjaaaDoorPkDAs
import Derived.Test.YtakabckmiodjaaaDoorPkDAb
import Derived.Test.YtakabckmiodjaaaDoorPkDBa
import Derived.Test.YtakabckmiodjaaaDoorPkDAm
namespace Go.Proofs.YtakabckmiodjaaaDoor
open Go.RowKit
attribute [local go_sem ↓] Go.wp_at_zero Go.wp_at_succ

def cmpN (a b : Int) : Int := if a < b then -1 else if b < a then 1 else 0
theorem nanInt_any (x : Int) (w : World) : Calls Tryd.prog 88 #[.int .i64 x] w fun e w' => e = .returned (.bool false) ∧ w = w' := by
  go_enter Tryd.func88, Tryd.ntmps88
  go_wp2_with (fail)
  go_ret
  exact ⟨ret_bool (by simp), rfl⟩
theorem cmpInt_any (a b : Int) (w : World) : Calls Tryd.prog 56 #[.int .i64 a, .int .i64 b] w fun e w' => e = .returned (.int .i64 (cmpN a b)) ∧ w = w' := by
  go_enter Tryd.func56, Tryd.ntmps56
  go_wp2_with (fail)
  refine (nanInt_any a w).mono ?_
  rintro e w1 ⟨rfl, rfl⟩
  go_wp2_with (fail)
  refine (nanInt_any b w).mono ?_
  rintro e w1 ⟨rfl, rfl⟩
  by_cases h1 : a < b
  · have HC : Hid (cmpN a b = -1) := by show _ = _; unfold cmpN; rw [if_pos h1]
    go_wp2_with (fail)
    go_ret
    exact ⟨ret_int HC.out.symm, rfl⟩
  · by_cases h2 : b < a
    · have HC : Hid (cmpN a b = 1) := by show _ = _; unfold cmpN; rw [if_neg h1, if_pos h2]
      go_wp2_with (fail)
      go_ret
      exact ⟨ret_int HC.out.symm, rfl⟩
    · have HC : Hid (cmpN a b = 0) := by show _ = _; unfold cmpN; rw [if_neg h1, if_neg h2]
      go_wp2_with (fail)
      go_ret
      exact ⟨ret_int HC.out.symm, rfl⟩
def orI (a b : Int) : Int := if a = 0 then b else a
set_option maxRecDepth 100000 in
theorem orInt_any (a b : Int) (g c : Nat) (w : World) (h0 : w.cell? ⟨g, 0, none⟩ = some (.int .i64 a)) (h1 : w.cell? ⟨g, 1, none⟩ = some (.int .i64 b)) :
    Calls Tryd.prog 77 #[.slice (some ⟨g, 0, none⟩) 2 c] w fun e w' => e = .returned (.int .i64 (orI a b)) ∧ w = w' := by
  unfold orI
  go_enter Tryd.func77, Tryd.ntmps77
  go_wp2_with (fail)
  go_loop [8] (fun i => (i = .int .i64 0 ∨ (i = .int .i64 1 ∧ a = 0) ∨ (i = .int .i64 2 ∧ a = 0 ∧ b = 0))) (fun i => 2 - (intOf i).toNat)
  case atStart => exact .inl rfl
  case round =>
    rcases hrel with rfl | ⟨rfl, rfl⟩ | ⟨rfl, rfl, rfl⟩
    · by_cases ha : a = 0
      · subst ha
        go_wp2_with (fail)
        go_round
        case rel => exact .inr (.inl (by simp))
        case measure => simp [intOf]
      · have ha2 : (a != 0) = true := by simpa using ha
        go_wp2_with (fail)
        go_ret
        exact ⟨rfl, rfl⟩
    · by_cases hb : b = 0
      · subst hb
        go_wp2_with (fail)
        go_round
        case rel => exact .inr (.inr (by simp))
        case measure => simp [intOf]
      · have hb2 : (b != 0) = true := by simpa using hb
        go_wp2_with (fail)
        go_ret
        exact ⟨rfl, rfl⟩
    · go_wp2_with (fail)
      go_ret
      exact ⟨rfl, rfl⟩
def rotCm (xs : List Lot) (x y : Piece) : Int := orI (cmpN (lotGet xs x.lot).exp (lotGet xs y.lot).exp) (cmpB x.lot y.lot)
theorem rotCm_bd (xs : List Lot) (x y : Piece) : -1 ≤ rotCm xs x y ∧ rotCm xs x y ≤ 1 := by
  have := cmpB_bd x.lot y.lot
  unfold rotCm orI cmpN
  split <;> split at * <;> (try split at *) <;> omega
theorem rotCm_neg {xs : List Lot} {x y : Piece} : rotCm xs x y < 0 ↔ (lotGet xs x.lot).exp < (lotGet xs y.lot).exp ∨ ((lotGet xs x.lot).exp = (lotGet xs y.lot).exp ∧ x.lot.data.toList < y.lot.data.toList) := by
  rw [← cmpB_neg]
  unfold rotCm orI cmpN
  by_cases h1 : (lotGet xs x.lot).exp < (lotGet xs y.lot).exp
  · rw [if_pos h1]; simp [h1]
  · rw [if_neg h1]
    by_cases h2 : (lotGet xs y.lot).exp < (lotGet xs x.lot).exp
    · rw [if_pos h2]; simp; omega
    · rw [if_neg h2]; simp; omega
theorem rotCm_ok (xs : List Lot) : CmpOk (rotCm xs) := by
  refine ⟨fun a b h => ?_, fun a b c h1 h2 h3 => ?_⟩
  · rw [rotCm_neg] at h ⊢
    rintro (g | ⟨g, g2⟩)
    · rcases h with h | ⟨h, _⟩ <;> omega
    · rcases h with h | ⟨_, h2⟩
      · omega
      · exact ltL_irrefl _ (ltL_trans h2 g2)
  · rw [rotCm_neg] at h1 h2 h3
    have tri := fun (x y : ByteArray) => compareBytes_sign x.data.toList y.data.toList
    rcases h3 with h3 | ⟨h3, h4⟩
    · have a1 : ¬ (lotGet xs b.lot).exp < (lotGet xs a.lot).exp := fun h => h1 (.inl h)
      have a2 : ¬ (lotGet xs c.lot).exp < (lotGet xs b.lot).exp := fun h => h2 (.inl h)
      omega
    · have a1 : ¬ (lotGet xs b.lot).exp < (lotGet xs a.lot).exp := fun h => h1 (.inl h)
      have a2 : ¬ (lotGet xs c.lot).exp < (lotGet xs b.lot).exp := fun h => h2 (.inl h)
      have e1 : (lotGet xs b.lot).exp = (lotGet xs a.lot).exp := by omega
      have e2 : (lotGet xs c.lot).exp = (lotGet xs b.lot).exp := by omega
      have n1 : ¬ b.lot.data.toList < a.lot.data.toList := fun h => h1 (.inr ⟨e1, h⟩)
      have n2 : ¬ c.lot.data.toList < b.lot.data.toList := fun h => h2 (.inr ⟨e2, h⟩)
      rcases tri a.lot b.lot with ⟨_, h⟩ | ⟨_, h⟩ | ⟨_, h⟩
      · exact n2 (ltL_trans h4 h)
      · rw [h] at h4; exact n2 h4
      · exact n1 h
end Go.Proofs.YtakabckmiodjaaaDoor

/-! Moves of markets: their order, what a right list is, what putting two together gives. No program in sight. -/
namespace Go.Proofs.YtakabckmiodjaaaDoor
open Go.RowKit

structure Mv where
  site : ByteArray
  no : Int
  day : Int
  ware : ByteArray
  many : Int
def mvD : Mv := ⟨⟨#[]⟩, 0, 0, ⟨#[]⟩, 0⟩
def mvN (L : List Mv) (i : Nat) : Mv := L.getD i mvD
theorem mvN_get {L : List Mv} {i : Nat} (h : i < L.length) : mvN L i = L[i] := by
  unfold mvN
  rw [List.getD_eq_getElem?_getD, List.getElem?_eq_getElem h]; rfl
def mvCm (a b : Mv) : Int := orI (cmpB a.site b.site) (cmpN a.no b.no)
def mvLt (a b : Mv) : Prop := mvCm a b < 0
theorem cmpN_neg {a b : Int} : cmpN a b < 0 ↔ a < b := by
  unfold cmpN
  split
  · simp [*]
  · split <;> simp <;> omega
theorem cmpN_zero {a b : Int} : cmpN a b = 0 ↔ a = b := by
  unfold cmpN
  split
  · simp; omega
  · split <;> simp <;> omega
theorem mvCm_neg {a b : Mv} : mvCm a b < 0 ↔ a.site.data.toList < b.site.data.toList ∨ (a.site = b.site ∧ a.no < b.no) := by
  unfold mvCm orI
  split
  · rename_i h
    rw [cmpB_zero] at h
    rw [cmpN_neg]
    refine ⟨fun g => .inr ⟨h, g⟩, ?_⟩
    rintro (g | ⟨_, g⟩)
    · rw [h] at g; exact absurd g (ltL_irrefl _)
    · exact g
  · rename_i h
    rw [cmpB_neg]
    refine ⟨fun g => .inl g, ?_⟩
    rintro (g | ⟨g, _⟩)
    · exact g
    · exact absurd (cmpB_zero.2 g) h
theorem mvCm_zero {a b : Mv} : mvCm a b = 0 ↔ a.site = b.site ∧ a.no = b.no := by
  unfold mvCm orI
  split
  · rename_i h
    rw [cmpB_zero] at h
    rw [cmpN_zero]
    exact ⟨fun g => ⟨h, g⟩, fun g => g.2⟩
  · rename_i h
    rw [cmpB_zero] at h ⊢
    exact ⟨fun g => absurd g h, fun g => g.1⟩
theorem mvLt_irrefl (a : Mv) : ¬ mvLt a a := fun h => by
  have := (mvCm_zero (a := a) (b := a)).2 ⟨rfl, rfl⟩
  unfold mvLt at h
  omega
theorem mvLt_trans {a b c : Mv} (h : mvLt a b) (g : mvLt b c) : mvLt a c := by
  unfold mvLt at *
  rw [mvCm_neg] at *
  rcases h with h | ⟨h, h2⟩ <;> rcases g with g | ⟨g, g2⟩
  · exact .inl (ltL_trans h g)
  · rw [← g]; exact .inl h
  · rw [h]; exact .inl g
  · exact .inr ⟨h.trans g, by omega⟩
theorem mvLt_asymm {a b : Mv} (h : mvLt a b) : ¬ mvLt b a := fun g => mvLt_irrefl a (mvLt_trans h g)
theorem mv_tri (a b : Mv) : mvLt a b ∨ mvCm a b = 0 ∨ mvLt b a := by
  unfold mvLt
  rw [mvCm_neg, mvCm_neg, mvCm_zero]
  rcases compareBytes_sign a.site.data.toList b.site.data.toList with ⟨_, g⟩ | ⟨_, g⟩ | ⟨_, g⟩
  · exact .inl (.inl g)
  · have e : a.site = b.site := by
      rw [← cmpB_zero]
      rcases compareBytes_sign a.site.data.toList b.site.data.toList with ⟨_, h⟩ | ⟨h, _⟩ | ⟨_, h⟩
      · rw [g] at h; exact absurd h (ltL_irrefl _)
      · exact h
      · rw [g] at h; exact absurd h (ltL_irrefl _)
    rcases Int.lt_trichotomy a.no b.no with h | h | h
    · exact .inl (.inr ⟨e, h⟩)
    · exact .inr (.inl ⟨e, h⟩)
    · exact .inr (.inr (.inr ⟨e.symm, h⟩))
  · exact .inr (.inr (.inl g))
theorem mvCm_ok : CmpOk mvCm := by
  refine ⟨fun a b h => mvLt_asymm h, fun a b c h1 h2 h3 => ?_⟩
  rcases mv_tri b a with g | g | g
  · exact h1 g
  · -- b and a stand alike
    rw [mvCm_zero] at g
    have : mvCm c b < 0 := by rw [mvCm_neg] at h3 ⊢; rw [g.1, g.2]; exact h3
    exact h2 this
  · exact h2 (mvLt_trans h3 g)
theorem mvCm_pos {a b : Mv} (h : mvLt a b) : 0 < mvCm b a := by
  have h1 := mvLt_asymm h
  have h2 : ¬ mvCm b a = 0 := fun e => by
    rw [mvCm_zero] at e
    exact mvLt_irrefl a (by unfold mvLt at *; rw [mvCm_neg] at *; rw [e.1, e.2] at h; exact h)
  unfold mvLt at h1
  omega
theorem cmpN_bd (a b : Int) : -1 ≤ cmpN a b ∧ cmpN a b ≤ 1 := by unfold cmpN; split <;> (try split) <;> omega
theorem mvCm_bd (a b : Mv) : -1 ≤ mvCm a b ∧ mvCm a b ≤ 1 := by
  unfold mvCm orI
  split
  · exact cmpN_bd _ _
  · exact cmpB_bd _ _
structure MvSm (x : Mv) : Prop where
  site : keyB x.site = true ∧ x.site.size ≤ 4
  no : 1 ≤ x.no ∧ x.no ≤ 10
  day : 0 ≤ x.day ∧ x.day ≤ 8
  ware : keyB x.ware = true ∧ x.ware.size ≤ 4
  many : x.many ≠ 0 ∧ -4 ≤ x.many ∧ x.many ≤ 10
/-- A right list of moves. -/
structure MvsOk (L : List Mv) : Prop where
  all : ∀ x ∈ L, MvSm x
  srt : L.Pairwise mvLt
  down : ∀ x ∈ L, 1 < x.no → ∃ y ∈ L, y.site = x.site ∧ y.no = x.no - 1
theorem MvsOk.filter {L : List Mv} (h : MvsOk L) (f : Mv → Bool) (hd : ∀ x y, x.site = y.site → x.no ≤ y.no → f y = true → f x = true) : MvsOk (L.filter f) := by
  refine ⟨fun x hx => h.all x (List.mem_filter.1 hx).1, h.srt.filter _, fun x hx h1 => ?_⟩
  obtain ⟨hx1, hx2⟩ := List.mem_filter.1 hx
  obtain ⟨y, hy, e1, e2⟩ := h.down x hx1 h1
  exact ⟨y, List.mem_filter.2 ⟨hy, hd y x e1 (by omega) hx2⟩, e1, e2⟩
theorem MvsOk.lt {L : List Mv} (h : MvsOk L) {i j : Nat} (hi : i < L.length) (hj : j < L.length) (hij : i < j) : mvLt L[i] L[j] := (List.pairwise_iff_getElem.1 h.srt) i j hi hj hij
/-- Each move's number follows that of the one before, or is 1. -/
theorem MvsOk.first {L : List Mv} (h : MvsOk L) (h0 : 0 < L.length) : L[0].no = 1 := by
  have hm := (h.all L[0] (List.getElem_mem h0)).no
  by_cases e : L[0].no = 1
  · exact e
  · obtain ⟨y, hy, e1, e2⟩ := h.down L[0] (List.getElem_mem h0) (by omega)
    obtain ⟨j, hj, rfl⟩ := List.getElem_of_mem hy
    have hl : mvLt L[j] L[0] := by unfold mvLt; rw [mvCm_neg]; exact .inr ⟨e1, by omega⟩
    rcases Nat.eq_zero_or_pos j with rfl | hp
    · exact absurd hl (mvLt_irrefl _)
    · exact absurd hl (mvLt_asymm (h.lt h0 hj hp))
theorem MvsOk.next {L : List Mv} (h : MvsOk L) (i : Nat) (hi : i + 1 < L.length) : L[i + 1].no = (if L[i].site = L[i + 1].site then L[i].no else 0) + 1 := by
  have hm := (h.all L[i + 1] (List.getElem_mem hi)).no
  have hmi := (h.all L[i] (List.getElem_mem (by omega))).no
  have hlt := h.lt (by omega : i < L.length) hi (by omega)
  unfold mvLt at hlt
  rw [mvCm_neg] at hlt
  by_cases e : L[i + 1].no = 1
  · rw [if_neg (fun es => ?_), e]
    · rfl
    · rcases hlt with g | ⟨_, g⟩
      · rw [es] at g; exact ltL_irrefl _ g
      · omega
  · obtain ⟨y, hy, e1, e2⟩ := h.down L[i + 1] (List.getElem_mem hi) (by omega)
    obtain ⟨j, hj, rfl⟩ := List.getElem_of_mem hy
    have hl : mvLt L[j] L[i + 1] := by unfold mvLt; rw [mvCm_neg]; exact .inr ⟨e1, by omega⟩
    have hji : j ≤ i := by
      rcases Nat.lt_trichotomy j (i + 1) with g | g | g
      · omega
      · subst g; exact absurd hl (mvLt_irrefl _)
      · exact absurd hl (mvLt_asymm (h.lt hi hj g))
    rcases Nat.eq_or_lt_of_le hji with rfl | g
    · rw [if_pos e1]; omega
    · have h2 := h.lt hj (by omega : i < L.length) g
      unfold mvLt at h2
      rw [mvCm_neg] at h2
      exfalso
      rcases h2 with h2 | ⟨h2, h3⟩
      · rw [e1] at h2
        rcases hlt with g2 | ⟨g2, _⟩
        · exact ltL_irrefl _ (ltL_trans h2 g2)
        · rw [g2] at h2; exact ltL_irrefl _ h2
      · rcases hlt with g2 | ⟨_, g2⟩
        · rw [← h2, e1] at g2; exact ltL_irrefl _ g2
        · omega
def mvEqB (x y : Mv) : Bool := decide (x.site = y.site) && decide (x.no = y.no) && decide (x.day = y.day) && decide (x.ware = y.ware) && decide (x.many = y.many)
theorem mvEqB_iff {x y : Mv} : mvEqB x y = true ↔ x = y := by
  unfold mvEqB
  simp only [Bool.and_eq_true, decide_eq_true_eq]
  constructor
  · rintro ⟨⟨⟨⟨h1, h2⟩, h3⟩, h4⟩, h5⟩
    cases x; cases y
    simp_all
  · rintro rfl
    simp
/-- What is left when neighbours that are alike are one. -/
def compTo (S : List Mv) : Nat → List Mv
  | 0 => []
  | m + 1 => if m = 0 ∨ mvEqB (mvN S m) (mvN S (m - 1)) = false then compTo S m ++ [mvN S m] else compTo S m
theorem compTo_succ (S : List Mv) (m : Nat) : compTo S (m + 1) = if m = 0 ∨ mvEqB (mvN S m) (mvN S (m - 1)) = false then compTo S m ++ [mvN S m] else compTo S m := rfl
theorem compTo_le (S : List Mv) (m : Nat) : (compTo S m).length ≤ m := by
  induction m with
  | zero => simp [compTo]
  | succ m ih =>
    rw [compTo_succ]
    split
    · rw [List.length_append]; simp; omega
    · omega
theorem compTo_mem {S : List Mv} : ∀ {m : Nat}, m ≤ S.length → ∀ x, x ∈ compTo S m ↔ x ∈ S.take m := by
  intro m
  induction m with
  | zero => intro _ x; simp [compTo]
  | succ m ih =>
    intro hm x
    have hx := ih (by omega) x
    have e : S.take (m + 1) = S.take m ++ [S[m]'(by omega)] := by simp
    rw [e, List.mem_append]
    rw [compTo_succ]
    split
    · rw [List.mem_append, hx, mvN_get (by omega : m < S.length)]
    · rename_i h
      rw [hx]
      refine ⟨fun g => .inl g, ?_⟩
      rintro (g | g)
      · exact g
      · have g : x = S[m] := by simpa using g
        have h0 : ¬ m = 0 := fun e => h (.inl e)
        have h1 : mvN S m = mvN S (m - 1) := mvEqB_iff.1 (by
        cases e : mvEqB (mvN S m) (mvN S (m - 1)) with
        | true => rfl
        | false => exact absurd (.inr e) h)
        rw [mvN_get (by omega : m < S.length), mvN_get (by omega : m - 1 < S.length)] at h1
        rw [g, h1, List.mem_take_iff_getElem]
        exact ⟨m - 1, by omega, rfl⟩
theorem compTo_srt {S : List Mv} (hs : Srt mvCm mvD S S.length) (hz : ∀ x ∈ S, ∀ y ∈ S, mvCm x y = 0 → x = y) : ∀ {m : Nat}, m ≤ S.length → (compTo S m).Pairwise mvLt := by
  have sg : ∀ i j (hi : i < S.length) (hj : j < S.length), i < j → ¬ mvLt S[j] S[i] := fun i j hi hj hij => by
    have := hs i j hij hj
    have e1 : S.getD j mvD = S[j] := mvN_get hj
    have e2 : S.getD i mvD = S[i] := mvN_get hi
    rw [e1, e2] at this
    exact this
  intro m
  induction m with
  | zero => intro _; simp [compTo]
  | succ m ih =>
    intro hm
    have h1 := ih (by omega)
    rw [compTo_succ]
    split
    · rename_i h
      rw [List.pairwise_append]
      refine ⟨h1, by simp, fun x hx y hy => ?_⟩
      have hy : y = mvN S m := by simpa using hy
      have hml : m < S.length := by omega
      rw [mvN_get hml] at hy
      subst hy
      rw [compTo_mem (by omega : m ≤ S.length), List.mem_take_iff_getElem] at hx
      obtain ⟨i, hi, rfl⟩ := hx
      have hil : i < S.length := by omega
      have him : i < m := by omega
      rcases mv_tri S[i] S[m] with g | g | g
      · exact g
      · have e := hz _ (List.getElem_mem hil) _ (List.getElem_mem hml) g
        rcases h with rfl | h
        · omega
        · exfalso
          have hm1 : m - 1 < S.length := by omega
          have h : ¬ S[m] = S[m - 1] := fun e2 => by
            rw [mvN_get hml, mvN_get hm1] at h
            rw [mvEqB_iff.2 e2] at h
            cases h
          rcases mv_tri S[m - 1] S[m] with g2 | g2 | g2
          · rcases Nat.lt_or_ge i (m - 1) with g3 | g3
            · rw [← e] at g2; exact sg i (m - 1) hil hm1 g3 g2
            · have : i = m - 1 := by omega
              subst this
              exact h e.symm
          · exact h (hz _ (List.getElem_mem hm1) _ (List.getElem_mem hml) g2).symm
          · exact sg (m - 1) m hm1 hml (by omega) g2
      · exact absurd g (sg i m hil hml him)
    · exact h1
theorem mv_unique {A B : List Mv} (ha : A.Pairwise mvLt) (hb : B.Pairwise mvLt) (h : ∀ x, x ∈ A ↔ x ∈ B) : A = B := by
  have nd : ∀ {L : List Mv}, L.Pairwise mvLt → L.Nodup := fun {L} hl => List.Pairwise.imp (R := mvLt) (S := fun a b => a ≠ b) (fun {a b} h e => mvLt_irrefl a (by rw [← e] at h; exact h)) hl
  refine List.Perm.eq_of_pairwise (le := mvLt) (fun a b _ _ hab hba => absurd hba (mvLt_asymm hab)) ha hb ?_
  exact (List.perm_ext_iff_of_nodup (nd ha) (nd hb)).2 h
theorem MvsOk.alike {L : List Mv} (h : MvsOk L) {x y : Mv} (hx : x ∈ L) (hy : y ∈ L) (e : mvCm x y = 0) : x = y := by
  obtain ⟨i, hi, rfl⟩ := List.getElem_of_mem hx
  obtain ⟨j, hj, rfl⟩ := List.getElem_of_mem hy
  rcases Nat.lt_trichotomy i j with g | g | g
  · have := h.lt hi hj g; unfold mvLt at this; omega
  · subst g; rfl
  · have := mvCm_pos (h.lt hj hi g); omega
theorem tog_eq {all S : List Mv} {f g : Mv → Bool} (hall : MvsOk all) (hp : S.Perm (all.filter f ++ all.filter g)) (hs : Srt mvCm mvD S S.length) : compTo S S.length = all.filter (fun x => f x || g x) := by
  have hm : ∀ x, x ∈ S ↔ x ∈ all ∧ (f x = true ∨ g x = true) := fun x => by
    rw [hp.mem_iff, List.mem_append, List.mem_filter, List.mem_filter]
    constructor
    · rintro (⟨a, b⟩ | ⟨a, b⟩)
      · exact ⟨a, .inl b⟩
      · exact ⟨a, .inr b⟩
    · rintro ⟨a, b | b⟩
      · exact .inl ⟨a, b⟩
      · exact .inr ⟨a, b⟩
  refine mv_unique (compTo_srt hs (fun x hx y hy e => hall.alike ((hm x).1 hx).1 ((hm y).1 hy).1 e) (Nat.le_refl _)) (hall.srt.filter _) (fun x => ?_)
  rw [compTo_mem (Nat.le_refl _), List.take_length, hm, List.mem_filter, Bool.or_eq_true]
/-- What the moves of a ware add up to. -/
def mvSum (N : List Mv) (s : ByteArray) : Int := (N.map (fun x => if x.ware = s then x.many else 0)).sum
def mvMap (N : List Mv) (s : ByteArray) : Option Int := if N.any (fun x => decide (x.ware = s)) = true then some (mvSum N s) else none
theorem mvSum_app (a b : List Mv) (s : ByteArray) : mvSum (a ++ b) s = mvSum a s + mvSum b s := by simp [mvSum]
theorem mvSum_bd (N : List Mv) (s : ByteArray) (h : ∀ x ∈ N, MvSm x) : -(4 * N.length : Int) ≤ mvSum N s ∧ mvSum N s ≤ 10 * N.length := by
  induction N with
  | nil => simp [mvSum]
  | cons x N ih =>
    have h1 := ih (fun y hy => h y (by simp [hy]))
    have h2 := (h x (by simp)).many
    have e : mvSum (x :: N) s = (if x.ware = s then x.many else 0) + mvSum N s := by simp [mvSum]
    have e3 : ((x :: N).length : Int) = N.length + 1 := by simp
    rw [e, e3]
    split <;> omega
theorem mvSum_none (N : List Mv) (s : ByteArray) (h : ∀ x ∈ N, ¬ x.ware = s) : mvSum N s = 0 := by
  induction N with
  | nil => rfl
  | cons x N ih =>
    have e : mvSum (x :: N) s = (if x.ware = s then x.many else 0) + mvSum N s := by simp [mvSum]
    rw [e, if_neg (h x (by simp)), ih (fun y hy => h y (by simp [hy]))]
    rfl
theorem mvMap_get (N : List Mv) (s : ByteArray) : (mvMap N s).getD 0 = mvSum N s := by
  unfold mvMap
  split
  · rfl
  · rename_i h
    have h : ∀ x ∈ N, ¬ x.ware = s := by simpa using h
    show 0 = mvSum N s
    rw [mvSum_none N s h]
theorem mvMap_next (N : List Mv) (k : Nat) (hk : k < N.length) (t : ByteArray) : mvMap (N.take (k + 1)) t = if t = N[k].ware then some ((mvMap (N.take k) N[k].ware).getD 0 + N[k].many) else mvMap (N.take k) t := by
  have e : N.take (k + 1) = N.take k ++ [N[k]] := by simp
  rw [mvMap_get, e]
  unfold mvMap
  rw [mvSum_app, List.any_append]
  by_cases h : t = N[k].ware
  · subst h
    simp [mvSum]
  · have h2 : ¬ N[k].ware = t := fun e => h e.symm
    simp [h, h2, mvSum]
theorem mvMap_key {N : List Mv} {s : ByteArray} {x : Int} (h : ∀ y ∈ N, MvSm y) (hx : mvMap N s = some x) : keyB s = true ∧ s.size ≤ 4 ∧ x = mvSum N s := by
  unfold mvMap at hx
  split at hx
  · rename_i hy
    obtain ⟨y, hy, e⟩ := List.any_eq_true.1 hy
    have e : y.ware = s := by simpa using e
    injection hx with hx
    have := (h y hy).ware
    rw [e] at this
    exact ⟨this.1, this.2, hx.symm⟩
  · cases hx
end Go.Proofs.YtakabckmiodjaaaDoor

/-! What is wrong with needs: as the reference says it, and the program. -/
namespace Go.Proofs.YtakabckmiodjaaaDoor
open Go.RowKit
attribute [local go_sem ↓] Go.wp_at_zero Go.wp_at_succ

theorem need_cells {w : World} {a : Option Addr} {N : List Need} (h : CellsAt w a (flat encNeed N)) (k : Nat) (hk : k < N.length) :
    ∃ b off, a = some ⟨b, off, none⟩ ∧ w.cell? ⟨b, off + k * 3, none⟩ = some (.string N[k].place) ∧ w.cell? ⟨b, off + k * 3 + 1, none⟩ = some (.string N[k].prod) ∧ w.cell? ⟨b, off + k * 3 + 2, none⟩ = some (.int .i64 N[k].many) := by
  obtain ⟨b, off, rfl, hcs⟩ := flat_cells encNeed_len (by decide) h (by omega)
  exact ⟨b, off, rfl, hcs k hk 0 _ rfl, hcs k hk 1 _ rfl, hcs k hk 2 _ rfl⟩
structure NeedOk (N : List Need) (i : Nat) (hi : i < N.length) : Prop where
  kp : keyB N[i].place = true
  kr : keyB N[i].prod = true
  up : ∀ (h : 0 < i), orI (cmpB (N[i - 1]'(by omega)).place N[i].place) (cmpB (N[i - 1]'(by omega)).prod N[i].prod) < 0
  lo : 0 ≤ N[i].many
  hi : N[i].many ≤ 100000
def NeedsOk (N : List Need) : Prop := ∀ i (hi : i < N.length), NeedOk N i hi
theorem orI_anti {a b c d : ByteArray} (h : orI (cmpB a b) (cmpB c d) < 0) : 0 < orI (cmpB b a) (cmpB d c) := by
  rw [cmpB_anti a b, cmpB_anti c d]
  unfold orI at *
  split at h <;> split <;> omega
theorem cmpS_grew {w : World} (a b : ByteArray) : ∀ W, w.grownBy W none → Calls Tryd.prog 78 #[.string a, .string b] W fun e w' => e = .returned (.int .i64 (cmpB a b)) ∧ W.grownBy w' none := fun W _ => (compare_any a b W).mono fun _ _ h => ⟨h.1, by rw [← h.2]; exact gr_refl _ _⟩
end Go.Proofs.YtakabckmiodjaaaDoor
