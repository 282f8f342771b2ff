/- vend.Change, vend.reached. -/
import Derived.Test.YtbgfflbddflokaaPaid
namespace Go.Proofs.Ytbgfflbddflokaa
open Go.RowKit

def ChangePost (l : List Tube) (amount : Nat) (w : World) (e : Ending) (w' : World) : Prop :=
  ∃ R : Nat → Int, RowOk (vT l) (cT l) l.length (amount + 1) R ∧ w.grownBy w' none ∧
    ((1073741824 ≤ R amount ∧ e = .returned (.tuple #[.slice none 0 0, .int .i64 8])) ∨
     (R amount < 1073741824 ∧ ∃ v f, e = .returned (.tuple #[v, .int .i64 0]) ∧ w'.ownsRow w.heap.size 3 1 v l.length (ints f) ∧ (∀ k, k < l.length → 0 ≤ f.getD k 0 ∧ f.getD k 0 ≤ (tubeAt l k).count) ∧ worthM l f = amount ∧ f.sum = R amount))
theorem change_any (l : List Tube) (amount : Nat) (a : Option Addr) (c : Nat) (w : World) (hc : CellsAt w a (tubes l)) (ho : OkTubes l) (hmo : amount ≤ 20000) :
    Calls Try.prog 10 #[.slice a l.length c, .int .i64 amount] w (ChangePost l amount w) := by
  have hl := ho.len
  have d1 : Hid ((decide ((amount : Int) < 0) || decide (20000 < (amount : Int))) = false) := by show _ = _; simp; omega
  go_enter Try.func10, Try.ntmps10
  go_wp2_with (fail)
  refine (checkTubes_any l a c _ hc (by omega)).mono ?_
  rintro e w1 ⟨r, rfl, hr, hg1⟩
  have hr0 := hr.2 ho
  subst hr0; clear hr
  go_wp2_with (fail)
  refine (out_any amount 0 20000 w1).mono ?_
  rintro e w2 ⟨rfl, rfl⟩
  rw [d1.out]
  go_wp2_with (fail)
  refine (paid_any l amount a c w1 (hc.keep0 hg1) ho hmo).mono ?_
  rintro e w3 ⟨R, hR, hg3, (⟨h1, rfl⟩ | ⟨h1, v, f, rfl, hown, hb, hw, hs⟩)⟩
  · go_wp2_with (fail)
    go_ret2
    exact ⟨R, hR, gr_trans hg1 hg3, .inl ⟨h1, rfl⟩⟩
  · have HB := Lib.hid hb
    have HW := Lib.hid hw
    have HS := Lib.hid hs
    clear hb hw hs
    go_wp2_with (fail)
    go_ret2
    exact ⟨R, hR, gr_trans hg1 hg3, .inr ⟨h1, v, f, rfl, own_base hown hg1.size, HB.out, HW.out, HS.out⟩⟩

def bools (l : List Bool) : List Value := l.map Value.bool
theorem eBool : ElemT Try.prog 104 4 (.bool false) 1 1 := ⟨by kernel_rfl, by kernel_rfl, by decide, by decide, by decide⟩
theorem wpList_mkb {P : Program} (w : World) {ops : Array Oper} {rest : List Oper} {o : Oper} {a : Act} {Q : Exit → Act → World → Prop} {t e : Nat} (E : ElemT P t e (.bool false) 1 1)
    (hg : o.guard = none) (l c : Operand) (hop : o.op = Op.makeSlice t l c) (base : Nat) (L : Int) (n : Nat) (hl : a.eval l = .int .i64 L) (hc : a.eval c = .int .i64 L) (hL : L = (n : Int)) (hn : n ≤ 1000000000) (b4 : base ≤ w.heap.size)
    (hK : ∀ w', w'.ownsRow base e 1 (.slice (some ⟨w.heap.size, 0, none⟩) n n) n (bools (List.replicate n false)) → w.grownBy w' none → wpList P ops Q rest (a.put o.dst (.slice (some ⟨w.heap.size, 0, none⟩) n n)) w') :
    wpList P ops Q (o :: rest) a w := by
  obtain ⟨i, hi, hz, hz1, hz2⟩ := info_parts E.info
  refine wpList_make_full w hg l c t hop base e i (.bool false) 1 E.und hi hz hz1 .i64 .i64 L L n hl hc hL hL (by rw [hz2]; omega) (by unfold maxLen; omega) b4 (fun w' h1 h2 => hK w' ?_ h2)
  have e1 : (madeCells (Value.bool false).cells (n * 1)).toList = bools (List.replicate n false) := by
    rw [Nat.mul_one, show (Value.bool false).cells = #[.bool false] from rfl, toList_madeCells_one]
    simp [bools]
  rw [e1] at h1
  exact h1
/-- A cell of an owned slice whose elements take one cell each. -/
theorem own_one {w : World} {base e n cap g : Nat} {xs : List Value} (h : w.ownsRow base e 1 (.slice (some ⟨g, 0, none⟩) n cap) n xs) (k : Nat) (hk : k < n) :
    xs.length = n ∧ w.cell? ⟨g, k, none⟩ = xs[k]? ∧ w.frozen? ⟨g, k, none⟩ = false ∧ ∀ x, (w.setCell ⟨g, k, none⟩ x).ownsRow base e 1 (.slice (some ⟨g, 0, none⟩) n cap) n (xs.set k x) := by
  have hl : xs.length = n := by have := h.1; simpa using this
  exact ⟨hl, h.cellAt k (by omega), h.frozenAt k, fun x => (h.stored k x).1⟩
theorem bools_at (l : List Bool) (j : Nat) (h : j < l.length) : (bools l)[j]? = some (.bool (l.getD j false)) := by
  simp [bools, List.getD_eq_getElem?_getD, List.getElem?_eq_getElem h]
theorem bools_set (l : List Bool) (k : Nat) (x : Bool) : (bools l).set k (.bool x) = bools (l.set k x) := by simp [bools, List.map_set]

def ReachedPost (l : List Tube) (most : Nat) (w : World) (e : Ending) (w' : World) : Prop :=
  ∃ (R : Nat → Int) (v : Value) (bs : List Bool), RowOk (vT l) (cT l) l.length (most + 1) R ∧ w.grownBy w' none ∧ e = .returned v ∧ w'.ownsRow w.heap.size 4 1 v (most + 1) (bools bs) ∧ ∀ a, a < most + 1 → bs.getD a false = decide (R a < 1073741824)

set_option maxRecDepth 100000 in
set_option maxHeartbeats 2000000 in
theorem reached_any (l : List Tube) (most : Nat) (a : Option Addr) (c : Nat) (w : World) (hc : CellsAt w a (tubes l)) (ho : OkTubes l) (hmo : most ≤ 20000) :
    Calls Try.prog 62 #[.slice a l.length c, .int .i64 most] w (ReachedPost l most w) := by
  have hl := ho.len
  go_enter Try.func62, Try.ntmps62
  go_wp2_with (fail)
  refine (payments_any l most a c w hc ho hmo).mono ?_
  rintro e w2 ⟨v, T, vs, rfl, hrows, hg2, hpays⟩
  have hTl := hpays.len
  have hRl := hpays.row l.length (Nat.le_refl _)
  obtain ⟨g0, cap0, rfl, hg0b, hg0w, hg0c, _⟩ := own_some hrows.outer (by omega)
  have hrw := pays_row ho (Nat.le_refl _) hpays l.length (Nat.le_refl _)
  obtain ⟨_, _, ra, rc, he, hcell, hra⟩ := hrows.rows.2 l.length (by omega)
  cases he
  rw [Nat.zero_add] at hcell
  obtain ⟨R0, hR0⟩ : ∃ R0, R0 = T.getD l.length [] := ⟨_, rfl⟩
  rw [← hR0] at hcell hra hrw hRl
  rw [hRl] at hcell
  have HR0 := Lib.hid hR0
  have HRL := Lib.hid hRl
  have HRW := Lib.hid hrw
  have HP := Lib.hid hpays
  rw [hTl]
  clear hR0 hRl hrw hpays hTl hrows
  go_wp2_with (at_make; refine wpList_mkb _ eBool rfl _ _ rfl w2.heap.size _ (most + 1) rfl rfl ?_ ?_ ?_ ?_; (· omega); (· omega); (· omega); intro w3 hown3 hg3)
  have hcell3 := (gr_cell hg3 (lt_of_cell hcell)).trans hcell
  have hra3 := hra.keep0 hg3
  go_wp2_with (fail)
  go_loopw [21] (fun i wr => ∃ (k : Nat) (bs : List Bool), k ≤ most + 1 ∧ i = .int .i64 k ∧ wr.ownsRow w2.heap.size 4 1 (.slice (some ⟨w2.heap.size, 0, none⟩) (most + 1) (most + 1)) (most + 1) (bools bs) ∧ w2.grownBy wr none ∧ (∀ a, a < k → bs.getD a false = decide (R0.getD a 0 < 1073741824))) (fun i _ => most + 1 - (intOf i).toNat)
  case atStart => exact ⟨0, _, Nat.zero_le _, rfl, hown3, hg3, fun a h => absurd h (Nat.not_lt_zero _)⟩
  case round =>
    obtain ⟨k, bs, hk, rfl, hown, hgr, hbs⟩ := hrel
    obtain ⟨wo, rfl⟩ : ∃ wo : World, wo = wr := ⟨_, rfl⟩
    have HBS := Lib.hid hbs
    clear hbs
    by_cases hlt : k < most + 1
    · obtain ⟨rb, ro, rfl, hx⟩ := hra.keep0 hgr k _ (ints_get _ k (by rw [HRL.out]; exact hlt))
      obtain ⟨x, hxe⟩ : ∃ x, x = R0.getD k 0 := ⟨_, rfl⟩
      rw [← hxe] at hx
      have HX := Lib.hid hxe
      clear hxe
      obtain ⟨hol, d0, d1, d2⟩ := own_one hown k hlt
      have hbl : bs.length = most + 1 := by simpa [bools] using hol
      rw [bools_at bs k (by omega)] at d0
      have D2 := Lib.hid (d2 (.bool (decide (x < 1073741824))))
      have HBL := Lib.hid hbl
      clear d2 hol hbl
      go_wp2_with (fail)
      go_roundw
      case rel =>
        refine ⟨k + 1, bs.set k (decide (x < 1073741824)), by omega, by go_num, by rw [← bools_set]; exact D2.out, gr_new hgr (by simp) _, fun a ha => ?_⟩
        rw [List.getD_eq_getElem?_getD, List.getElem?_set]
        by_cases e : k = a
        · subst e
          rw [if_pos rfl, if_pos (by rw [HBL.out]; exact hlt), HX.out]; rfl
        · rw [if_neg e, ← List.getD_eq_getElem?_getD]
          exact HBS.out a (by omega)
      case measure => simp [intOf]; omega
    · go_wp2_with (fail)
      go_ret
      exact ⟨_, _, bs, HRW.out, gr_trans hg2 hgr, rfl, own_base hown hg2.size, fun a ha => HBS.out a (by omega)⟩
end Go.Proofs.Ytbgfflbddflokaa
