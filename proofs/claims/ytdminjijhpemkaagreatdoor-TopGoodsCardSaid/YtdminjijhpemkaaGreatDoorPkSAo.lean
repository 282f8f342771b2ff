/- What is wrong with pieces for a coil: the reference. -/
import Derived.Test.YtdminjijhpemkaaGreatDoorPkSAl
import Derived.Deep.DrawnRows
import Derived.IntWalk
import Derived.Deep.QuietTactic
import Derived.BigQuiet
import Derived.Deep.RegionLaw
import Derived.Deep.CutRange
import Derived.Test.YtdminjijhpemkaaGreatDoorPkSAa
namespace Go.Proofs.YtdminjijhpemkaaGreatDoor
open Go.RowKit
attribute [local go_sem ↓] Go.wp_at_zero Go.wp_at_succ

set_option maxRecDepth 100000 in
theorem or2_any (a b : Int) (g c : Nat) (w : World) (h0 : w.cell? ⟨g, 0, none⟩ = some (.int .i64 a)) (h1 : w.cell? ⟨g, 1, none⟩ = some (.int .i64 b)) :
    Calls Tryz.prog 110 #[.slice (some ⟨g, 0, none⟩) 2 c] w fun e w' => e = .returned (.int .i64 (if a = 0 then b else a)) ∧ w = w' := by
  go_enter Tryz.func110, Tryz.ntmps110
  go_wp2_with (fail)
  go_loop [8] (fun i => (i = .int .i64 0 ∨ (i = .int .i64 1 ∧ a = 0) ∨ (i = .int .i64 2 ∧ a = 0 ∧ b = 0))) (fun i => 2 - (intOf i).toNat)
  case atStart => exact .inl rfl
  case round =>
    rcases hrel with rfl | ⟨rfl, rfl⟩ | ⟨rfl, rfl, rfl⟩
    · by_cases ha : a = 0
      · subst ha
        go_wp2_with (fail)
        go_round
        case rel => exact .inr (.inl (by simp))
        case measure => simp [intOf]
      · have ha2 : (a != 0) = true := by simpa using ha
        go_wp2_with (fail)
        go_ret
        exact ⟨rfl, rfl⟩
    · by_cases hb : b = 0
      · subst hb
        go_wp2_with (fail)
        go_round
        case rel => exact .inr (.inr (by simp))
        case measure => simp [intOf]
      · have hb2 : (b != 0) = true := by simpa using hb
        go_wp2_with (fail)
        go_ret
        exact ⟨rfl, rfl⟩
    · go_wp2_with (fail)
      go_ret
      exact ⟨rfl, rfl⟩
theorem or2_zero (b : Int) (g c : Nat) (w : World) (h0 : w.cell? ⟨g, 0, none⟩ = some (.int .i64 0)) (h1 : w.cell? ⟨g, 1, none⟩ = some (.int .i64 b)) :
    Calls Tryz.prog 110 #[.slice (some ⟨g, 0, none⟩) 2 c] w fun e w' => e = .returned (.int .i64 b) ∧ w = w' := by
  simpa using or2_any 0 b g c w h0 h1
theorem unitsL_len (ps : List Piece) (h : ∀ i, i < ps.length → 0 ≤ pcMany ps i) : ((unitsL ps).length : Int) = pcSum ps := by
  have h2 : ∀ x ∈ ps, 0 ≤ x.many := by
    intro x hx
    obtain ⟨i, hi, rfl⟩ := List.getElem_of_mem hx
    have := h i hi
    unfold pcMany at this
    rwa [getD_eq ps i _ hi] at this
  clear h
  induction ps with
  | nil => rfl
  | cons x ps ih =>
    have := ih (fun y hy => h2 y (by simp [hy]))
    have hx := h2 x (by simp)
    unfold unitsL pcSum at *
    simp only [List.flatMap_cons, List.length_append, List.length_replicate, List.map_cons, List.sum_cons]
    omega
/-- A piece fits: its lot is known, of the coil's product, and it has a right number. -/
structure PcFit (P : ByteArray) (xs : List Lot) (k : ByteArray) (m : Int) : Prop where
  has : lotHas xs k = true
  prod : ((lotGet xs k).prod.toList == P.toList) = true
  lo : 1 ≤ m
  hi : m ≤ 1000
structure PushOk (c : Coil) (xs : List Lot) (p : List Piece) : Prop where
  coil : CoilOk c
  fit : ∀ i, i < p.length → PcFit c.prod xs (pcLot p i) (pcMany p i)
  sum : pcSum c.ps + pcSum p ≤ c.most
def PushChk (c : Coil) (xs : List Lot) (p : List Piece) (w : World) (e : Ending) (w' : World) : Prop := ∃ r : Int, e = .returned (.int .i64 r) ∧ (r = 0 ↔ PushOk c xs p) ∧ w.grownBy w' none
theorem push_no {c : Coil} {xs : List Lot} {p : List Piece} {w w' : World} (r : Int) (hr : r ≠ 0) (h : ¬ PushOk c xs p) (g : w.grownBy w' none) : PushChk c xs p w (.returned (.int .i64 r)) w' := ⟨r, rfl, ⟨fun e => absurd e hr, fun e => absurd e h⟩, g⟩
structure PcsSm (ps : List Piece) : Prop where
  len : ps.length ≤ 1000
  all : ∀ x ∈ ps, x.lot.size ≤ 1000 ∧ -100000 ≤ x.many ∧ x.many ≤ 100000
end Go.Proofs.YtdminjijhpemkaaGreatDoor

/-! Pieces and their units: joined, sold. No program in sight. -/
namespace Go.Proofs.YtdminjijhpemkaaGreatDoor
open Go.RowKit

theorem bytes_of {a b : ByteArray} (h : a.toList = b.toList) : a = b := by
  rw [ByteArray.toList_eq, ByteArray.toList_eq] at h
  cases a; cases b
  simp at h
  rw [h]
theorem unitsL_app (a b : List Piece) : unitsL (a ++ b) = unitsL a ++ unitsL b := by simp [unitsL]
theorem unitsL_cons (x : Piece) (a : List Piece) : unitsL (x :: a) = List.replicate x.many.toNat x.lot ++ unitsL a := by simp [unitsL]
theorem pcSum_app (a b : List Piece) : pcSum (a ++ b) = pcSum a + pcSum b := by simp [pcSum]
theorem pcSum_cons (x : Piece) (a : List Piece) : pcSum (x :: a) = x.many + pcSum a := by simp [pcSum]
/-- The last piece apart. -/
theorem pc_last {out : List Piece} (h : 0 < out.length) : ∃ D y, out = D ++ [y] ∧ pcLot out (out.length - 1) = y.lot ∧ pcMany out (out.length - 1) = y.many ∧ ∀ x, out.set (out.length - 1) x = D ++ [x] := by
  have hne : out ≠ [] := by intro e; subst e; simp at h
  refine ⟨out.dropLast, out.getLast hne, (List.dropLast_concat_getLast hne).symm, ?_, ?_, ?_⟩
  · unfold pcLot; rw [getD_eq _ _ _ (by omega), List.getLast_eq_getElem]
  · unfold pcMany; rw [getD_eq _ _ _ (by omega), List.getLast_eq_getElem]
  · intro x
    obtain ⟨D, y, e⟩ : ∃ D y, out = D ++ [y] := ⟨_, _, (List.dropLast_concat_getLast hne).symm⟩
    subst e
    simp
/-- Pieces as joining leaves them: of more than nothing, no two of one lot beside each other. -/
structure PcsIn (ps : List Piece) : Prop where
  lo : ∀ x ∈ ps, 1 ≤ x.many
  ne : ∀ i, 0 < i → i < ps.length → (pcLot ps i).toList ≠ (pcLot ps (i - 1)).toList
theorem pcLot_app_left (a b : List Piece) (i : Nat) (h : i < a.length) : pcLot (a ++ b) i = pcLot a i := by
  unfold pcLot; rw [getD_eq _ _ _ (by simp; omega), getD_eq _ _ _ h, List.getElem_append_left h]
theorem pcMany_app_left (a b : List Piece) (i : Nat) (h : i < a.length) : pcMany (a ++ b) i = pcMany a i := by
  unfold pcMany; rw [getD_eq _ _ _ (by simp; omega), getD_eq _ _ _ h, List.getElem_append_left h]
theorem pcLot_app_right (a b : List Piece) (i : Nat) (h : i < b.length) : pcLot (a ++ b) (a.length + i) = pcLot b i := by
  unfold pcLot; rw [getD_eq _ _ _ (by simp; omega), getD_eq _ _ _ h, List.getElem_append_right (by omega)]; simp
theorem pcMany_app_right (a b : List Piece) (i : Nat) (h : i < b.length) : pcMany (a ++ b) (a.length + i) = pcMany b i := by
  unfold pcMany; rw [getD_eq _ _ _ (by simp; omega), getD_eq _ _ _ h, List.getElem_append_right (by omega)]; simp
theorem pcLot_snoc (a : List Piece) (y : Piece) : pcLot (a ++ [y]) a.length = y.lot := by
  have := pcLot_app_right a [y] 0 (by simp); exact this
theorem joinStep_law {out : List Piece} {k : ByteArray} {m : Int} (h : PcsIn out) (hm : 1 ≤ m) :
    PcsIn (joinStep out k m) ∧ unitsL (joinStep out k m) = unitsL out ++ List.replicate m.toNat k ∧ pcSum (joinStep out k m) = pcSum out + m ∧ ∀ x ∈ joinStep out k m, (∃ y ∈ out, x.lot = y.lot) ∨ x.lot = k := by
  unfold joinStep
  split
  · rename_i hl
    unfold lastIs at hl
    simp only [Bool.and_eq_true, decide_eq_true_eq] at hl
    obtain ⟨h0, h1⟩ := hl
    have h1 := bytes_of (by simpa using h1)
    obtain ⟨D, y, rfl, e1, e2, e3⟩ := pc_last h0
    rw [e1] at h1
    rw [e1, e2, e3]
    subst h1
    have hy := h.lo y (by simp)
    refine ⟨⟨?_, ?_⟩, ?_, ?_, ?_⟩
    · intro x hx
      rw [List.mem_append] at hx
      rcases hx with hx | hx
      · exact h.lo x (by simp [hx])
      · simp at hx; subst hx; simp only; omega
    · intro i h0 hi
      have := h.ne i h0 (by simpa using hi)
      simp only [List.length_append, List.length_cons, List.length_nil] at hi
      by_cases hil : i < D.length
      · rw [pcLot_app_left _ _ _ hil, pcLot_app_left _ _ _ (by omega)] at this ⊢; exact this
      · obtain rfl : i = D.length := by omega
        rw [pcLot_snoc, pcLot_app_left _ _ _ (by omega)] at this ⊢; exact this
    · rw [unitsL_app, unitsL_app, List.append_assoc]
      congr 1
      simp only [unitsL, List.flatMap_cons, List.flatMap_nil, List.append_nil]
      rw [show (y.many + m).toNat = y.many.toNat + m.toNat by omega, ← List.replicate_append_replicate]
    · rw [pcSum_app, pcSum_app]
      simp only [pcSum_cons]
      simp [pcSum]; omega
    · intro x hx
      rw [List.mem_append] at hx
      rcases hx with hx | hx
      · exact .inl ⟨x, by simp [hx], rfl⟩
      · simp at hx; subst hx; exact .inr rfl
  · rename_i hl
    refine ⟨⟨?_, ?_⟩, ?_, ?_, ?_⟩
    · intro x hx
      rw [List.mem_append] at hx
      rcases hx with hx | hx
      · exact h.lo x hx
      · simp at hx; subst hx; exact hm
    · intro i h0 hi
      simp only [List.length_append, List.length_cons, List.length_nil] at hi
      by_cases hil : i < out.length
      · rw [pcLot_app_left _ _ _ hil, pcLot_app_left _ _ _ (by omega)]; exact h.ne i h0 hil
      · obtain rfl : i = out.length := by omega
        rw [pcLot_snoc, pcLot_app_left _ _ _ (by omega)]
        simp only
        intro e
        apply hl
        unfold lastIs
        simp [h0, e]
    · rw [unitsL_app]; simp [unitsL]
    · rw [pcSum_app]; simp [pcSum]
    · intro x hx
      rw [List.mem_append] at hx
      rcases hx with hx | hx
      · exact .inl ⟨x, hx, rfl⟩
      · simp at hx; subst hx; exact .inr rfl
theorem joinL_law (l : List Piece) (h : ∀ x ∈ l, 1 ≤ x.many) : PcsIn (joinL l) ∧ unitsL (joinL l) = unitsL l ∧ pcSum (joinL l) = pcSum l ∧ ∀ x ∈ joinL l, ∃ y ∈ l, x.lot = y.lot := by
  have key : ∀ k, k ≤ l.length → PcsIn (joinTo l k) ∧ unitsL (joinTo l k) = unitsL (l.take k) ∧ pcSum (joinTo l k) = pcSum (l.take k) ∧ ∀ x ∈ joinTo l k, ∃ y ∈ l, x.lot = y.lot := by
    intro k
    induction k with
    | zero =>
      intro _
      refine ⟨⟨fun x hx => by simp [joinTo] at hx, fun i _ hi => by simp [joinTo] at hi⟩, rfl, rfl, fun x hx => by simp [joinTo] at hx⟩
    | succ k ih =>
      intro hk
      obtain ⟨h1, h2, h3, h4⟩ := ih (by omega)
      have hm := pc_mem (P := fun x => 1 ≤ x.many) h k (by omega)
      simp only at hm
      obtain ⟨j1, j2, j3, j4⟩ := joinStep_law (k := pcLot l k) (m := pcMany l k) h1 hm
      have ht : l.take (k + 1) = l.take k ++ [l[k]] := take_next l k (by omega)
      have hg : l[k] = ⟨pcLot l k, pcMany l k⟩ := pc_get l k (by omega)
      refine ⟨j1, ?_, ?_, ?_⟩
      · show unitsL (joinStep _ _ _) = _
        rw [j2, h2, ht, unitsL_app, hg]
        simp [unitsL]
      · show pcSum (joinStep _ _ _) = _
        rw [j3, h3, ht, pcSum_app, hg]
        simp [pcSum]
      · intro x hx
        rcases j4 x hx with ⟨y, hy, e⟩ | e
        · obtain ⟨z, hz, e2⟩ := h4 y hy
          exact ⟨z, hz, e.trans e2⟩
        · exact ⟨l[k], List.getElem_mem _, by rw [e, hg]⟩
  obtain ⟨h1, h2, h3, h4⟩ := key l.length (Nat.le_refl _)
  rw [List.take_length] at h2 h3
  exact ⟨h1, h2, h3, h4⟩
/-! Selling from the front: what comes out, and what is left. -/
def sellL : List Piece → Int → List Piece × List Piece
  | [], _ => ([], [])
  | p :: ps, n => if n ≤ 0 then ([], p :: ps) else if n < p.many then ([⟨p.lot, n⟩], ⟨p.lot, p.many - n⟩ :: ps) else (⟨p.lot, p.many⟩ :: (sellL ps (n - p.many)).1, (sellL ps (n - p.many)).2)
theorem sellL_law (ps : List Piece) (n : Int) (h0 : 0 ≤ n) (hs : n ≤ pcSum ps) (hlo : ∀ x ∈ ps, 1 ≤ x.many) :
    unitsL ps = unitsL (sellL ps n).1 ++ unitsL (sellL ps n).2 ∧ pcSum (sellL ps n).2 = pcSum ps - n ∧ (∀ x ∈ (sellL ps n).2, 1 ≤ x.many) ∧ (∃ d, ((sellL ps n).2).map Piece.lot = (ps.map Piece.lot).drop d) := by
  induction ps generalizing n with
  | nil =>
    simp only [sellL, pcSum, List.map_nil, List.sum_nil] at *
    exact ⟨rfl, by omega, fun x hx => by simp at hx, 0, rfl⟩
  | cons p ps ih =>
    have hp := hlo p (by simp)
    have hps : ∀ x ∈ ps, 1 ≤ x.many := fun x hx => hlo x (by simp [hx])
    rw [pcSum_cons] at hs
    simp only [sellL]
    by_cases h1 : n ≤ 0
    · rw [if_pos h1]
      refine ⟨by simp [unitsL], by simp only; omega, hlo, 0, rfl⟩
    · rw [if_neg h1]
      by_cases h2 : n < p.many
      · rw [if_pos h2]
        refine ⟨?_, ?_, ?_, 0, rfl⟩
        · simp only [unitsL_cons]
          rw [← List.append_assoc]
          congr 1
          simp only [unitsL, List.flatMap_nil, List.append_nil]
          rw [List.replicate_append_replicate]
          congr 1
          omega
        · simp only [pcSum_cons]; omega
        · intro x hx
          rcases List.mem_cons.1 hx with rfl | hx
          · simp only; omega
          · exact hps x hx
      · rw [if_neg h2]
        obtain ⟨i1, i2, i3, d, i4⟩ := ih (n - p.many) (by omega) (by omega) hps
        refine ⟨?_, ?_, i3, d + 1, ?_⟩
        · simp only [unitsL_cons]
          rw [i1, List.append_assoc]
        · simp only [pcSum_cons]; rw [i2]; omega
        · simp only [List.map_cons, List.drop_succ_cons]; exact i4
theorem sellL_zero (ps : List Piece) (n : Int) (h : n ≤ 0) : sellL ps n = ([], ps) := by
  cases ps with
  | nil => rfl
  | cons p ps => simp only [sellL]; rw [if_pos h]
end Go.Proofs.YtdminjijhpemkaaGreatDoor

/-! What is wrong with pieces for a coil: package stock. -/
namespace Go.Proofs.YtdminjijhpemkaaGreatDoor
open Go.RowKit
attribute [local go_sem ↓] Go.wp_at_zero Go.wp_at_succ

set_option maxRecDepth 100000 in
set_option maxHeartbeats 4000000 in
theorem pushFault_any (co : Coil) (a : Option Addr) (c : Nat) (xs : List Lot) (xa : Option Addr) (xc : Nat) (p : List Piece) (pa : Option Addr) (pc : Nat) (w : World) (h : CellsAt w a (flat encPc co.ps)) (hsm : CoilSm co) (hx : CellsAt w xa (flat encLot xs)) (hok : LotsOk xs) (hp : CellsAt w pa (flat encPc p)) (hps : PcsSm p) :
    Calls Tryz.prog 45 #[.agg #[.string co.prod, .int .i64 co.most, .slice a co.ps.length c], .slice xa xs.length xc, .slice pa p.length pc] w (PushChk co xs p w) := by
  have LF : Hid (∀ W, w.grownBy W none → Calls Tryz.prog 93 #[.slice xa xs.length xc] W fun e w' => e = .returned (.int .i64 0) ∧ W.grownBy w' none) := fun W g => checkLots_ok xs xa xc W (hx.keep0 g) hok
  have CF : Hid (∀ W, w.grownBy W none → Calls Tryz.prog 55 #[.agg #[.string co.prod, .int .i64 co.most, .slice a co.ps.length c]] W (CoilChk co W)) := fun W g => checkCoil_any co a c W (h.keep0 g) hsm
  have U1 : Hid (∀ W, w.grownBy W none → Calls Tryz.prog 56 #[.slice a co.ps.length c] W fun e w' => e = .returned (.int .i64 (pcSum co.ps)) ∧ W.grownBy w' none) := fun W g => units_any co.ps a c W (h.keep0 g) (by have := hsm.len; omega) hsm.all
  have U2 : Hid (∀ W, w.grownBy W none → Calls Tryz.prog 56 #[.slice pa p.length pc] W fun e w' => e = .returned (.int .i64 (pcSum p)) ∧ W.grownBy w' none) := fun W g => units_any p pa pc W (hp.keep0 g) (by have := hps.len; omega) hps.all
  have hlx := hok.len
  have LO : Hid (∀ W key, w.grownBy W none → Calls Tryz.prog 52 #[.slice xa xs.length xc, .string key] W fun e w' => e = .returned (.int .i64 (lotIx xs key)) ∧ W.grownBy w' none) := fun W key g => lot_any key xs xa xc W (hx.keep0 g) (by omega)
  have HX := Lib.hid hx
  have NO1 : Hid (∀ e W, ¬ CoilOk co → ∀ r : Int, r ≠ 0 → w.grownBy W none → e = .returned (.int .i64 r) → PushChk co xs p w e W) := fun e W hn r hr g he => by rw [he]; exact push_no r hr (fun hh => hn hh.coil) g
  have NO2 : Hid (∀ e W i, i < p.length → ¬ PcFit co.prod xs (pcLot p i) (pcMany p i) → ∀ r : Int, r ≠ 0 → w.grownBy W none → e = .returned (.int .i64 r) → PushChk co xs p w e W) := fun e W i hi hn r hr g he => by rw [he]; exact push_no r hr (fun hh => hn (hh.fit i hi)) g
  have NO3 : Hid (∀ e W, ¬ (pcSum co.ps + pcSum p ≤ co.most) → ∀ r : Int, r ≠ 0 → w.grownBy W none → e = .returned (.int .i64 r) → PushChk co xs p w e W) := fun e W hn r hr g he => by rw [he]; exact push_no r hr (fun hh => hn hh.sum) g
  have YES : Hid (∀ e W, CoilOk co → (∀ i, i < p.length → PcFit co.prod xs (pcLot p i) (pcMany p i)) → pcSum co.ps + pcSum p ≤ co.most → w.grownBy W none → e = .returned (.int .i64 0) → PushChk co xs p w e W) := fun e W h1 h2 h3 g he => ⟨0, he, ⟨fun _ => ⟨h1, h2, h3⟩, fun _ => rfl⟩, g⟩
  have CO : Hid (∀ W e W', CoilChk co W e W' → ∃ r : Int, e = .returned (.int .i64 r) ∧ (r = 0 ↔ CoilOk co) ∧ W.grownBy W' none) := fun W e W' h => h
  have SM : Hid (CoilOk co → 0 ≤ pcSum co.ps ∧ pcSum co.ps ≤ 1000 ∧ 0 ≤ co.most ∧ co.most ≤ 1000) := fun ho => by
    have := unitsL_len co.ps (fun i hi => by have := (ho.all i hi).lo; omega)
    have := ho.sum; have := ho.m0; have := ho.m1; omega
  have hpl := hps.len
  have HB := Lib.hid (sum_bound (p.map Piece.many) (-100000) 100000 (by omega) (by omega) (pc_bd hps.all))
  have HP := Lib.hid hp
  obtain ⟨n, hn⟩ : ∃ n, n = co.ps.length := ⟨_, rfl⟩
  rw [← hn] at CF U1
  rw [← hn]
  obtain ⟨Q, hQ⟩ : ∃ Q, Q = PushChk co xs p w := ⟨_, rfl⟩
  rw [← hQ] at NO1 NO2 NO3 YES
  rw [← hQ]
  obtain ⟨Q2, hQ2⟩ : ∃ Q2, Q2 = CoilChk co := ⟨_, rfl⟩
  rw [← hQ2] at CF CO
  obtain ⟨OK, hOK⟩ : ∃ OK, OK = CoilOk co := ⟨_, rfl⟩
  rw [← hOK] at NO1 YES CO SM
  clear h hsm hx hok hp hps hn hQ hQ2 hOK
  obtain ⟨P, m, ps⟩ := co
  simp only at CF U1 NO2 NO3 YES SM ⊢
  obtain ⟨S, hS⟩ : ∃ S, S = pcSum ps := ⟨_, rfl⟩
  rw [← hS] at U1 NO3 YES SM
  clear hS
  have hO := heap_alloc_new w (.cells #[.string P, .int .i64 m, .slice a n c] 44)
  have hg := gr_alloc (gr_refl w none) (.cells #[.string P, .int .i64 m, .slice a n c] 44)
  obtain ⟨w1, hw1⟩ : ∃ w1, w1 = w.alloc (.cells #[.string P, .int .i64 m, .slice a n c] 44) := ⟨_, rfl⟩
  rw [← hw1] at hO hg
  obtain ⟨O, hOe⟩ : ∃ O, O = w.heap.size := ⟨_, rfl⟩
  rw [← hOe] at hO
  have HW := Lib.hid hw1
  have HOE := Lib.hid hOe
  have HO := Lib.hid hO
  have HG := Lib.hid hg
  have c0 := blkC hO 0 rfl
  have c1 : w1.cell? ⟨O, 1, none⟩ = some (.int .i64 m) := blkC hO 1 rfl
  have c2 : w1.cell? ⟨O, 2, none⟩ = some (.slice a n c) := blkC hO 2 rfl
  clear hw1 hOe hO hg
  go_enter Tryz.func45, Tryz.ntmps45
  go_wp2_with (fail)
  rw [← HW.out, ← HOE.out]
  refine (LF.out w1 HG.out).mono ?_
  rintro e wl ⟨rfl, hgl⟩
  have hOl := (hgl.block O (lt_of_block HO.out) (by simp)).trans HO.out
  have HG := Lib.hid (gr_trans HG.out hgl)
  have HO := Lib.hid hOl
  clear c0 c1 c2 HW
  have c0 : wl.cell? ⟨O, 0, none⟩ = some (.string P) := blkC hOl 0 rfl
  have c1 : wl.cell? ⟨O, 1, none⟩ = some (.int .i64 m) := blkC hOl 1 rfl
  have c2 : wl.cell? ⟨O, 2, none⟩ = some (.slice a n c) := blkC hOl 2 rfl
  clear hgl hOl
  go_wp2_with (fail)
  refine (CF.out wl HG.out).mono ?_
  intro e w2 hq
  obtain ⟨r, rfl, hr, hg2⟩ := CO.out _ _ _ hq
  have HR := Lib.hid hr
  have HG2 := Lib.hid hg2
  clear hq hr c0 c1 c2 hg2
  by_cases hr0 : r = 0
  · have HOK : Hid OK := HR.out.1 hr0
    subst hr0
    obtain ⟨s1, s2, s3, s4⟩ := SM.out HOK.out
    have hO2 := (HG2.out.block O (lt_of_block HO.out) (by simp)).trans HO.out
    have HO2 := Lib.hid hO2
    clear HO HR SM hO2
    go_wp2_with (fail)
    go_loopw [24] (fun i wr => ∃ k : Nat, k ≤ p.length ∧ i = .int .i64 k ∧ (∀ j, j < k → PcFit P xs (pcLot p j) (pcMany p j)) ∧ w2.grownBy wr none) (fun i _ => p.length - (intOf i).toNat)
    case atStart => exact ⟨0, Nat.zero_le _, rfl, fun j hj => absurd hj (Nat.not_lt_zero _), gr_refl _ _⟩
    case round =>
      obtain ⟨k, hk, rfl, hall, hgr⟩ := hrel
      obtain ⟨wo, rfl⟩ : ∃ wo : World, wo = wr := ⟨_, rfl⟩
      have HGR := Lib.hid hgr
      have HALL := Lib.hid hall
      have hOo := (hgr.block O (lt_of_block HO2.out) (by simp)).trans HO2.out
      have HOO := Lib.hid hOo
      clear hgr hall hOo
      by_cases hlt : k < p.length
      · obtain ⟨b, off, rfl, d0, d1⟩ := pc_cells (HP.out.keep0 (gr_trans (gr_trans HG.out HG2.out) HGR.out)) k hlt
        have HNO : Hid (¬ PcFit P xs (pcLot p k) (pcMany p k) → ∀ e W, ∀ r : Int, r ≠ 0 → w.grownBy W none → e = .returned (.int .i64 r) → Q e W) := fun hn e W r hr g he => NO2.out e W k hlt hn r hr g he
        have HYS : Hid (PcFit P xs (pcLot p k) (pcMany p k) → ∀ j, j < k + 1 → PcFit P xs (pcLot p j) (pcMany p j)) := fun hp j hj => by
          by_cases e : j = k
          · subst e; exact hp
          · exact HALL.out j (by omega)
        obtain ⟨x, hx⟩ : ∃ x, x = pcMany p k := ⟨_, rfl⟩
        obtain ⟨K, hK⟩ : ∃ K, K = pcLot p k := ⟨_, rfl⟩
        rw [← hx] at d1 HNO HYS
        rw [← hK] at d0 HNO HYS
        clear hx hK
        go_wp2_with (fail)
        have hV := heap_alloc_new wo (.cells #[.string K, .int .i64 x] 53)
        have hg3 := gr_alloc (gr_refl wo none) (.cells #[.string K, .int .i64 x] 53)
        obtain ⟨w3, hw3⟩ : ∃ w3, w3 = wo.alloc (.cells #[.string K, .int .i64 x] 53) := ⟨_, rfl⟩
        rw [← hw3] at hV hg3
        rw [← hw3]
        obtain ⟨V, hVe⟩ : ∃ V, V = wo.heap.size := ⟨_, rfl⟩
        rw [← hVe] at hV
        rw [← hVe]
        have HG3 := Lib.hid (gr_trans (gr_trans (gr_trans HG.out HG2.out) HGR.out) hg3)
        refine (LO.out w3 K HG3.out).mono ?_
        rintro e w4 ⟨rfl, hg4⟩
        have hO4 := ((gr_trans hg3 hg4).block O (lt_of_block HOO.out) (by simp)).trans HOO.out
        have hV4 := (hg4.block V (lt_of_block hV) (by simp)).trans hV
        have hOl := lt_of_block hO4
        have hVl := lt_of_block hV4
        have HG4 := Lib.hid (gr_trans HG3.out hg4)
        have HGR4 := Lib.hid (gr_trans (gr_trans HGR.out hg3) hg4)
        have o0 : w4.cell? ⟨O, 0, none⟩ = some (.string P) := blkC hO4 0 rfl
        obtain ⟨v0, v1, -, -⟩ := blk2 hV4
        have HFI : Hid (lotHas xs K = true → ((lotGet xs K).prod.toList == P.toList) = true → 1 ≤ x → x ≤ 1000 → PcFit P xs K x) := fun a b c d => ⟨a, b, c, d⟩
        have HFO : Hid (PcFit P xs K x → lotHas xs K = true ∧ ((lotGet xs K).prod.toList == P.toList) = true ∧ 1 ≤ x ∧ x ≤ 1000) := fun h => ⟨h.1, h.2, h.3, h.4⟩
        clear hw3 hVe hV hg3 d0 d1 hO4 hV4
        cases ht : lotHas xs K with
        | false =>
          have hix : lotIx xs K < 0 := lotIx_neg.2 ht
          have HN : Hid (¬ PcFit P xs K x) := fun h => by have := (HFO.out h).1; rw [ht] at this; cases this
          clear hg4
          go_wp2_with (fail)
          exact HNO.out HN.out _ _ 8 (by decide) HG4.out rfl
        | true =>
        obtain ⟨j, hj, hje, hjg⟩ := lotIx_at ht
        obtain ⟨lb, lo, rfl, l0, l1, l2, l3⟩ := lot_cells (HX.out.keep0 HG4.out) j hj
        rw [hjg] at l1
        rw [hje]
        obtain ⟨y2, hy2⟩ : ∃ y, y = (lotGet xs K).prod := ⟨_, rfl⟩
        rw [← hy2] at l1 HFI HFO
        have HT := Lib.hid ht
        have hj0 : (0 : Int) ≤ (j : Int) := by omega
        have hj1 : (j : Int) < (xs.length : Int) := by omega
        have hj2 : ¬ (j : Int) < 0 := by omega
        clear l0 l2 l3 hje hjg hy2 ht hg4
        cases hpd : (y2.toList == P.toList) with
        | false =>
          have hpd2 : (y2.toList != P.toList) = true := by simp [bne, hpd]
          have HN : Hid (¬ PcFit P xs K x) := fun h => by have := (HFO.out h).2.1; rw [hpd] at this; cases this
          go_wp2_with (fail)
          go_quiet (fail)
          go_wp2_with (fail)
          exact HNO.out HN.out _ _ 13 (by decide) (gr_drewN HG4.out nq) rfl
        | true =>
        have hpd2 : (y2.toList != P.toList) = false := by simp [bne, hpd]
        go_wp2_with (fail)
        go_quiet (fail)
        go_wp2_with (fail)
        refine (out_any x 1 1000 (w4.drewN nq)).mono ?_
        rintro e w5 ⟨rfl, rfl⟩
        by_cases hx1 : x < 1 ∨ 1000 < x
        · have hb : (decide (x < 1) || decide (1000 < x)) = true := by rcases hx1 with h | h <;> simp [h]
          have HN : Hid (¬ PcFit P xs K x) := fun h => by have := (HFO.out h).2.2; omega
          rw [hb]
          go_wp2_with (fail)
          exact HNO.out HN.out _ _ 1 (by decide) (gr_drewN HG4.out nq) rfl
        · have hb : (decide (x < 1) || decide (1000 < x)) = false := by simp; omega
          have HY : Hid (PcFit P xs K x) := HFI.out HT.out hpd (by omega) (by omega)
          rw [hb]
          go_wp2_with (fail)
          go_roundw
          case rel => exact ⟨k + 1, by omega, by go_num, HYS.out HY.out, gr_drewN HGR4.out nq⟩
          case measure => simp [intOf]; omega
      · obtain rfl : k = p.length := by omega
        have hfin : Hid (((p.map Piece.many).take p.length).sum = pcSum p) := by show _ = _; rw [List.take_of_length_le (by simp)]; rfl
        obtain ⟨b0, b1⟩ := HB.out p.length
        rw [hfin.out] at b0 b1
        obtain ⟨T, hT⟩ : ∃ T, T = pcSum p := ⟨_, rfl⟩
        rw [← hT] at NO3 YES U2 b0 b1
        clear hT hfin
        have o1 : wo.cell? ⟨O, 1, none⟩ = some (.int .i64 m) := blkC HOO.out 1 rfl
        have o2 : wo.cell? ⟨O, 2, none⟩ = some (.slice a n c) := blkC HOO.out 2 rfl
        have HGA := Lib.hid (gr_trans (gr_trans HG.out HG2.out) HGR.out)
        have U1 := Lib.hid (fun W g => U1.out W (gr_trans HGA.out g))
        have U2 := Lib.hid (fun W g => U2.out W (gr_trans HGA.out g))
        have x1 := grew_cell o1
        have x2 := grew_cell o2
        have hwr : IntKind.i64.wrap (S + T) = S + T := IntWalk.i64_in _ (by omega)
        go_wp2_with (fail)
        refine wp_region_grew (by kernel_rfl) (by kernel_rfl) ?_
        repeat (go_big_quiet_step (first
          | (go_at_call 56; first | (with_reducible exact Calls.grew_of (fun W g => U1.out W g)) | (with_reducible exact Calls.grew_of (fun W g => U2.out W g)))))
        refine wpQuiet_nil ?_
        rintro wq ⟨nn, rfl⟩
        have gq := nn.gr
        by_cases hT : m < S + T
        · go_wp2_with (fail)
          exact NO3.out _ _ (by omega) 12 (by decide) (gr_trans HGA.out gq) rfl
        · go_wp2_with (fail)
          exact YES.out _ _ HOK.out HALL.out (by omega) (gr_trans HGA.out gq) rfl
  · have hrn : (r != 0) = true := by simpa using hr0
    have HN : Hid (¬ OK) := fun h => hr0 (HR.out.2 h)
    have HR0 := Lib.hid hr0
    clear hr0
    go_wp2_with (fail)
    exact NO1.out _ _ HN.out r HR0.out (gr_trans HG.out HG2.out) rfl
end Go.Proofs.YtdminjijhpemkaaGreatDoor

/-! A count of cans. -/
namespace Go.Proofs.YtdminjijhpemkaaGreatDoor
open Go.RowKit
attribute [local go_sem ↓] Go.wp_at_zero Go.wp_at_succ

def lotA : Lot := ⟨⟨#[97]⟩, ⟨#[99, 97, 110]⟩, 0, 3⟩
theorem lotA_ok : LotsOk [lotA] := ⟨by decide, fun y hy => by
    simp at hy; subst hy
    exact ⟨by kernel_rfl, by decide, by kernel_rfl, by decide, by decide, by decide, by decide, by decide⟩, fun i h0 hi => by simp at hi; omega⟩
set_option maxRecDepth 100000 in
set_option maxHeartbeats 1000000 in
theorem count_A (a : Option Addr) (c : Nat) (w : World) (h : CellsAt w a (flat encLot [lotA])) :
    Calls Tryz.prog 60 #[.slice a 1 c, .string ⟨#[99, 97, 110]⟩] w fun e w' => e = .returned (.tuple #[.int .i64 3, .int .i64 0]) ∧ w.grownBy w' none := by
  have CL : Hid (Calls Tryz.prog 93 #[.slice a 1 c] w fun e w' => e = .returned (.int .i64 0) ∧ w.grownBy w' none) := checkLots_ok [lotA] a c w h lotA_ok
  have H := Lib.hid h
  have hk : keyB ⟨#[99, 97, 110]⟩ = true := by kernel_rfl
  have HK := Lib.hid hk
  clear h hk
  go_enter Tryz.func60, Tryz.ntmps60
  go_wp2_with (fail)
  refine CL.out.mono ?_
  rintro e w1 ⟨rfl, g1⟩
  go_wp2_with (fail)
  refine (key_any ⟨#[99, 97, 110]⟩ w1 (by decide)).mono ?_
  rintro e w2 ⟨rfl, rfl⟩
  rw [HK.out]
  go_wp2_with (fail)
  go_loopw [7, 20] (fun s i wr => w.grownBy wr none ∧ ((s = .int .i64 0 ∧ i = .int .i64 0) ∨ (s = .int .i64 3 ∧ i = .int .i64 1))) (fun _ i _ => 1 - (intOf i).toNat)
  case atStart => exact ⟨g1, .inl ⟨rfl, rfl⟩⟩
  case round =>
    obtain ⟨hgr, hcase⟩ := hrel
    obtain ⟨wo, rfl⟩ : ∃ wo : World, wo = wr := ⟨_, rfl⟩
    rcases hcase with ⟨rfl, rfl⟩ | ⟨rfl, rfl⟩
    · obtain ⟨b, off, rfl, x0, x1, x2, x3⟩ := lot_cells (H.out.keep0 hgr) 0 (by decide)
      have d0 : wo.cell? ⟨b, off, none⟩ = some (.string ⟨#[97]⟩) := x0
      have d1 : wo.cell? ⟨b, off + 1, none⟩ = some (.string ⟨#[99, 97, 110]⟩) := x1
      have d2 : wo.cell? ⟨b, off + 2, none⟩ = some (.int .i64 0) := x2
      have d3 : wo.cell? ⟨b, off + 3, none⟩ = some (.int .i64 3) := x3
      have HGR := Lib.hid hgr
      have hcc : (({ data := #[99, 97, 110] } : ByteArray).toList == [99, 97, 110]) = true := by kernel_rfl
      clear hgr x0 x1 x2 x3
      go_wp2_with (fail)
      go_roundw
      case rel => exact ⟨gr_alloc HGR.out _, .inr ⟨rfl, rfl⟩⟩
      case measure => simp [intOf]
    · go_wp2_with (fail)
      go_ret2
      exact ⟨rfl, hgr⟩
end Go.Proofs.YtdminjijhpemkaaGreatDoor
