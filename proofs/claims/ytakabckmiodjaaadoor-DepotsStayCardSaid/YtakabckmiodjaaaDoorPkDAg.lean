/- The stream's Pick of numbers that lie somewhere below the newest block. -/
import Derived.Test.YtakabckmiodjaaaDoorPkDAd
import Derived.Test.YtakabckmiodjaaaDoorPkDAb
import Derived.Test.YtakabckmiodjaaaDoorPkDAa
import Derived.Test.YtakabckmiodjaaaDoorPkDAc
namespace Go.Proofs.YtakabckmiodjaaaDoor
open Go.RowKit
variable {lw : Nat}

set_option maxRecDepth 100000 in
theorem pick_at (l : List Int) (k : Nat) (xs : List Int) (p b : Nat) (w : World) (hs : StreamAt w p lw l k) (hk : k < 1000000000) (h0 : 0 < xs.length) (h1 : xs.length ≤ 1000) (hc : CellsAt w (some ⟨b, 0, none⟩) (ints xs)) (hb : p ≠ b) :
    Calls Tryd.prog 21 #[.pointer (some ⟨p, 0, none⟩), .slice (some ⟨b, 0, none⟩) xs.length xs.length] w
      fun e w' => e = .returned (.int .i64 (pickM l k xs)) ∧ StreamAt w' p lw l (k + 1) ∧ w.grownBy w' (some p) := by
  have hr := nxt_range l k xs.length (by omega)
  obtain ⟨i, hi⟩ : ∃ i : Nat, nxt l k xs.length = i := ⟨(nxt l k xs.length).toNat, by omega⟩
  have hil : i < xs.length := by omega
  have hfin : Hid (pickM l k xs = xs.getD i 0) := by show _ = _; unfold pickM; rw [hi]; rfl
  have HI := Lib.hid hi; clear hi hr
  obtain ⟨x, hx⟩ : ∃ x, x = xs.getD i 0 := ⟨_, rfl⟩
  have HX := Lib.hid hx; clear hx
  have hcell : w.cell? ⟨b, i, none⟩ = some (.int .i64 x) := by
    obtain ⟨b', off, he, hx⟩ := hc i (.int .i64 x) (by rw [HX.out]; exact ints_get xs i hil)
    cases he
    simpa using hx
  go_enter Tryd.func21, Tryd.ntmps21
  go_wp2_with (fail)
  refine (next_any l k _ p w hs hk (by omega)).mono ?_
  rintro e w1 ⟨rfl, hs1, hg1⟩
  rw [HI.out]
  have c1 : w1.cell? ⟨b, i, none⟩ = some (.int .i64 x) := hg1.cell hcell (by simp; omega)
  go_wp2_with (fail)
  go_ret
  exact ⟨ret_int (by rw [hfin.out, HX.out]), hs1, hg1⟩
end Go.Proofs.YtakabckmiodjaaaDoor

/-! slices.Equal of ints, EqualFunc of rows with the same contents. -/
namespace Go.Proofs.YtakabckmiodjaaaDoor
open Go.RowKit

set_option maxRecDepth 100000 in
theorem equal_int (xs : List Int) (a b : Option Addr) (c d : Nat) (w : World) (ha : CellsAt w a (ints xs)) (hb : CellsAt w b (ints xs)) (hl : xs.length ≤ 1000000) :
    Calls Tryd.prog 40 #[.slice a xs.length c, .slice b xs.length d] w fun e w' => e = .returned (.bool true) ∧ w.grownBy w' none := by
  go_enter Tryd.func40, Tryd.ntmps40
  go_wp2_with (fail)
  go_loopw [13] (fun i wr => ∃ k : Nat, k ≤ xs.length ∧ i = .int .i64 k ∧ w.grownBy wr none) (fun i _ => xs.length - (intOf i).toNat)
  case atStart => exact ⟨0, Nat.zero_le _, rfl, gr_refl _ _⟩
  case round =>
    obtain ⟨k, hk, rfl, hgr⟩ := hrel
    obtain ⟨wo, rfl⟩ : ∃ wo : World, wo = wr := ⟨_, rfl⟩
    by_cases hlt : k < xs.length
    · obtain ⟨b1, o1, rfl, c1⟩ := (ha.keep0 hgr) k _ (ints_get xs k hlt)
      obtain ⟨b2, o2, rfl, c2⟩ := (hb.keep0 hgr) k _ (ints_get xs k hlt)
      obtain ⟨x, hx⟩ : ∃ x, x = xs.getD k 0 := ⟨_, rfl⟩
      rw [← hx] at c1 c2
      clear hx
      go_wp2_with (fail)
      go_region
      all_goals (go_wp2_with (fail))
      all_goals go_roundw
      case rel => exact ⟨k + 1, by omega, by go_num, gr_drew hgr⟩
      case measure => simp [intOf]; omega
    · go_wp2_with (fail)
      go_ret
      exact ⟨rfl, hgr⟩

set_option maxRecDepth 100000 in
theorem equal_rows (T : List (List Int)) (a b : Option Addr) (c d : Nat) (w : World) (ha : RowsAt w a T) (hb : RowsAt w b T) (hl : T.length ≤ 1000000) (hr : ∀ r ∈ T, r.length ≤ 1000000) :
    Calls Tryd.prog 41 #[.slice a T.length c, .slice b T.length d, .func (.func 40) #[] #[]] w fun e w' => e = .returned (.bool true) ∧ w.grownBy w' none := by
  have HR := Lib.hid hr; clear hr
  go_enter Tryd.func41, Tryd.ntmps41
  go_wp2_with (fail)
  go_loopw [17] (fun i wr => ∃ k : Nat, k ≤ T.length ∧ i = .int .i64 k ∧ w.grownBy wr none) (fun i _ => T.length - (intOf i).toNat)
  case atStart => exact ⟨0, Nat.zero_le _, rfl, gr_refl _ _⟩
  case round =>
    obtain ⟨k, hk, rfl, hgr⟩ := hrel
    obtain ⟨wo, rfl⟩ : ∃ wo : World, wo = wr := ⟨_, rfl⟩
    by_cases hlt : k < T.length
    · obtain ⟨b1, o1, r1, q1, rfl, c1, d1⟩ := (ha.keep0 hgr) k hlt
      obtain ⟨b2, o2, r2, q2, rfl, c2, d2⟩ := (hb.keep0 hgr) k hlt
      have hrl := HR.out _ (show T.getD k [] ∈ T by rw [List.getD_eq_getElem?_getD, List.getElem?_eq_getElem hlt]; exact List.getElem_mem hlt)
      obtain ⟨R, hR⟩ : ∃ R, R = T.getD k [] := ⟨_, rfl⟩
      rw [← hR] at c1 c2 d1 d2 hrl
      clear hR
      have HC := Lib.hid (equal_int R r1 r2 q1 q2 wo d1 d2 hrl)
      go_wp2_with (fail)
      refine HC.out.mono ?_
      rintro e w1 ⟨rfl, hg1⟩
      have hgr1 := gr_trans hgr hg1
      go_wp2_with (fail)
      go_roundw
      case rel => exact ⟨k + 1, by omega, by go_num, hgr1⟩
      case measure => simp [intOf]; omega
    · go_wp2_with (fail)
      go_ret
      exact ⟨rfl, hgr⟩

end Go.Proofs.YtakabckmiodjaaaDoor

/-! Tubes: as the stream makes them. -/
namespace Go.Proofs.YtakabckmiodjaaaDoor
open Go.RowKit
variable {lw : Nat}

structure Tube where
  value : Int
  count : Int
  most : Int
def encTube (t : Tube) : List Value := [.int .i64 t.value, .int .i64 t.count, .int .i64 t.most]
theorem encTube_len (t : Tube) : (encTube t).length = 3 := rfl
theorem encTube_one (t : Tube) : (encTube t).all (fun u => u.oneCell') = true := rfl
def tubes (l : List Tube) : List Value := flat encTube l
def tubeAt (l : List Tube) (i : Nat) : Tube := l.getD i ⟨0, 0, 0⟩
theorem tubes_cells {w : World} {a : Option Addr} {l : List Tube} (hc : CellsAt w a (tubes l)) (i : Nat) (h : i < l.length) : ∃ b off, a = some ⟨b, off, none⟩ ∧ ∀ j, j < l.length →
    w.cell? ⟨b, off + j * 3, none⟩ = some (.int .i64 (tubeAt l j).value) ∧ w.cell? ⟨b, off + j * 3 + 1, none⟩ = some (.int .i64 (tubeAt l j).count) ∧ w.cell? ⟨b, off + j * 3 + 2, none⟩ = some (.int .i64 (tubeAt l j).most) := by
  obtain ⟨b, off, rfl, hcs⟩ := flat_cells encTube_len (by decide) hc (by omega)
  refine ⟨b, off, rfl, fun j hj => ?_⟩
  unfold tubeAt
  rw [getD_eq l j _ hj]
  exact ⟨hcs j hj 0 _ rfl, hcs j hj 1 _ rfl, hcs j hj 2 _ rfl⟩

def coinValues : List Int := [5, 10, 25, 50, 100]
/-- The tubes that are there behind i of the five values, and the stream's place. -/
def tubesTo (l : List Int) (k : Nat) : Nat → List Tube × Nat
  | 0 => ([], k)
  | i + 1 =>
    let p := tubesTo l k i
    if flipM l p.2 3 then (p.1, p.2 + 1)
    else (p.1 ++ [⟨coinValues.getD i 0, nxt l (p.2 + 2) (pickM l (p.2 + 1) [0, 1, 3, 8, 20] + 1), pickM l (p.2 + 1) [0, 1, 3, 8, 20]⟩], p.2 + 3)
def tubesM (l : List Int) (k : Nat) : List Tube := (tubesTo l k 5).1
def tubesK (l : List Int) (k : Nat) : Nat := (tubesTo l k 5).2
theorem tubesTo_len (l : List Int) (k i : Nat) : (tubesTo l k i).1.length ≤ i := by
  induction i with
  | zero => exact Nat.le_refl _
  | succ i ih => simp only [tubesTo]; split <;> simp <;> omega
theorem tubesTo_k (l : List Int) (k i : Nat) : (tubesTo l k i).2 ≤ k + 3 * i := by
  induction i with
  | zero => exact Nat.le_refl _
  | succ i ih => simp only [tubesTo]; split <;> simp <;> omega

end Go.Proofs.YtakabckmiodjaaaDoor

/-! Package vend: tubes are checked, and counted. -/
namespace Go.Proofs.YtakabckmiodjaaaDoor
open Go.RowKit

structure OkTube (l : List Tube) (i : Nat) : Prop where
  v0 : 1 ≤ (tubeAt l i).value
  v1 : (tubeAt l i).value ≤ 10000
  up : 0 < i → (tubeAt l (i - 1)).value < (tubeAt l i).value
  m0 : 0 ≤ (tubeAt l i).most
  m1 : (tubeAt l i).most ≤ 1000
  c0 : 0 ≤ (tubeAt l i).count
  c1 : (tubeAt l i).count ≤ (tubeAt l i).most
structure OkTubes (l : List Tube) : Prop where
  len : l.length ≤ 10
  ok : ∀ i, i < l.length → OkTube l i
theorem not_tubes {l : List Tube} {k : Nat} (hk : k < l.length) (h : ¬ OkTube l k) : ¬ OkTubes l := fun o => h (o.ok k hk)

end Go.Proofs.YtakabckmiodjaaaDoor

/-! Package vend: totals. -/
namespace Go.Proofs.YtakabckmiodjaaaDoor
open Go.RowKit

def totL (l : List Tube) : List Int := l.map fun t => t.value * t.count
def totT (l : List Tube) : Int := (totL l).sum
theorem tube_prod {l : List Tube} (h : OkTubes l) (k : Nat) (hk : k < l.length) (c : Int) (hc0 : 0 ≤ c) (hc1 : c ≤ 1000000) : 0 ≤ (tubeAt l k).value * c ∧ (tubeAt l k).value * c ≤ 10000000000 := by
  have o := h.ok k hk
  have := o.v0
  have := o.v1
  have h1 := Int.mul_nonneg (show 0 ≤ (tubeAt l k).value by omega) hc0
  have h2 := Int.mul_le_mul o.v1 hc1 hc0 (by decide)
  omega
theorem totL_get {l : List Tube} (k : Nat) (hk : k < l.length) : (totL l).getD k 0 = (tubeAt l k).value * (tubeAt l k).count := by
  rw [totL, tubeAt, List.getD_eq_getElem?_getD, List.getD_eq_getElem?_getD, List.getElem?_map, List.getElem?_eq_getElem hk]; rfl
theorem totL_mem {l : List Tube} (h : OkTubes l) : ∀ x ∈ totL l, 0 ≤ x ∧ x ≤ 10000000000 := by
  intro x hx
  obtain ⟨k, hk, rfl⟩ := List.getElem_of_mem hx
  have hkl : k < l.length := by simpa [totL] using hk
  have := totL_get k hkl
  rw [List.getD_eq_getElem?_getD, List.getElem?_eq_getElem hk] at this
  have o := h.ok k hkl
  have h3 := tube_prod h k hkl _ o.c0 (by have := o.c1; have := o.m1; omega)
  rw [← this] at h3
  exact h3

def oneTube : List Tube := [⟨10, 3, 5⟩]
theorem oneTube_ok : OkTubes oneTube := by
  refine ⟨by decide, fun i hi => ?_⟩
  obtain rfl : i = 0 := by simp [oneTube] at hi; omega
  constructor <;> simp [oneTube, tubeAt]
/-- What coins are worth. -/
def worthL (t : List Tube) (xs : List Int) : List Int := List.zipWith (fun x (t : Tube) => x * t.value) xs t
def worthM (t : List Tube) (xs : List Int) : Int := (worthL t xs).sum
theorem worthL_len (t : List Tube) (xs : List Int) (h : xs.length ≤ t.length) : (worthL t xs).length = xs.length := by simp [worthL]; omega
theorem worthL_get (t : List Tube) (xs : List Int) (k : Nat) (h : xs.length ≤ t.length) (hk : k < xs.length) : (worthL t xs).getD k 0 = xs.getD k 0 * (tubeAt t k).value := by
  have hk2 : k < t.length := by omega
  rw [worthL, tubeAt, List.getD_eq_getElem?_getD, List.getD_eq_getElem?_getD, List.getD_eq_getElem?_getD, List.getElem?_zipWith, List.getElem?_eq_getElem hk, List.getElem?_eq_getElem hk2]
  rfl
theorem worthL_mem (t : List Tube) (xs : List Int) (h : xs.length ≤ t.length) (ho : OkTubes t) (hx : ∀ x ∈ xs, -1000000 ≤ x ∧ x ≤ 1000000) : ∀ x ∈ worthL t xs, -10000000000 ≤ x ∧ x ≤ 10000000000 := by
  intro x hm
  obtain ⟨k, hk, rfl⟩ := List.getElem_of_mem hm
  rw [worthL_len t xs h] at hk
  have hg := worthL_get t xs k h hk
  rw [getD_eq _ _ _ (by rw [worthL_len t xs h]; exact hk)] at hg
  rw [hg]
  have o := ho.ok k (by omega)
  have := o.v0
  have := o.v1
  have hb := hx _ (show xs.getD k 0 ∈ xs by rw [getD_eq _ _ _ hk]; exact List.getElem_mem hk)
  have h1 : xs.getD k 0 * (tubeAt t k).value ≤ 1000000 * (tubeAt t k).value := Int.mul_le_mul_of_nonneg_right hb.2 (by omega)
  have h2 : -1000000 * (tubeAt t k).value ≤ xs.getD k 0 * (tubeAt t k).value := Int.mul_le_mul_of_nonneg_right hb.1 (by omega)
  omega

end Go.Proofs.YtakabckmiodjaaaDoor

/-! Package vend: which coins tubes should have. -/
namespace Go.Proofs.YtakabckmiodjaaaDoor
open Go.RowKit

/-- What numbers of coins, for tubes, are worth together. -/
def FitsT (l : List Tube) (f : List Int) : Prop := f.length = l.length ∧ ∀ k, k < l.length → 0 ≤ f.getD k 0 ∧ f.getD k 0 ≤ (tubeAt l k).most
theorem worth_set (l : List Tube) (f : List Int) (k : Nat) (h : f.length = l.length) (hk : k < l.length) : worthM l (f.set k (f.getD k 0 + 1)) = worthM l f + (tubeAt l k).value := by
  have key : ∀ (l : List Tube) (f : List Int) (k : Nat), f.length = l.length → k < l.length → (List.zipWith (fun x (t : Tube) => x * t.value) (f.set k (f.getD k 0 + 1)) l).sum = (List.zipWith (fun x (t : Tube) => x * t.value) f l).sum + (l.getD k ⟨0, 0, 0⟩).value := by
    intro l
    induction l with
    | nil => intro f k _ hk; simp at hk
    | cons t l ih =>
      intro f k h hk
      cases f with
      | nil => simp at h
      | cons x f =>
        cases k with
        | zero => simp [Int.add_mul]; omega
        | succ k =>
          have := ih f k (by simpa using h) (by simpa using hk)
          simp at this
          simp [this]; omega
  exact key l f k h hk
theorem fits_set {l : List Tube} {f : List Int} {k : Nat} (h : FitsT l f) (hk : k < l.length) (hm : f.getD k 0 < (tubeAt l k).most) : FitsT l (f.set k (f.getD k 0 + 1)) := by
  refine ⟨by simp [h.1], fun j hj => ?_⟩
  have hb := h.2 j hj
  rw [List.getD_eq_getElem?_getD, List.getElem?_set]
  by_cases e : k = j
  · subst e
    rw [if_pos rfl, if_pos (by rw [h.1]; exact hk)]
    simp only [Option.getD_some]
    omega
  · rw [if_neg e, ← List.getD_eq_getElem?_getD]
    exact hb
theorem fits_zero (l : List Tube) (ho : OkTubes l) : FitsT l (List.replicate l.length 0) := by
  refine ⟨by simp, fun k hk => ?_⟩
  have := (ho.ok k hk).m0
  rw [List.getD_eq_getElem?_getD, List.getElem?_replicate, if_pos hk]
  simpa using this
theorem worth_zero (l : List Tube) (n : Nat) : worthM l (List.replicate n 0) = 0 := by
  have key : ∀ (l : List Tube) (n : Nat), (List.zipWith (fun x (t : Tube) => x * t.value) (List.replicate n 0) l).sum = 0 := by
    intro l
    induction l with
    | nil => intro n; simp
    | cons t l ih => intro n; cases n <;> simp [List.replicate_succ, ih]
  exact key l n

theorem own_of_heap {w w' : World} {base e size n : Nat} {v : Value} {xs : List Value} (h : w.ownsRow base e size v n xs) (he : w'.heap = w.heap) : w'.ownsRow base e size v n xs := by
  unfold World.ownsRow at *
  rw [he]
  exact h
def boolOf : Value → Bool | .bool b => b | _ => false

theorem take_drop_set (V f : List Int) (k : Nat) (hV : k < V.length) (hf : k < f.length) : (V.take k ++ f.drop k).set k (V.getD k 0) = V.take (k + 1) ++ f.drop (k + 1) := by
  rw [List.drop_eq_getElem_cons hf, List.set_append_right _ _ (by simp; omega), List.length_take, Nat.min_eq_left (by omega), Nat.sub_self, List.set_cons_zero, List.take_succ_eq_append_getElem hV, List.getD_eq_getElem?_getD, List.getElem?_eq_getElem hV, List.append_assoc]
  rfl

def FloatPost (l : List Tube) (want : Int) (w : World) (e : Ending) (w' : World) : Prop :=
  ∃ v f, e = .returned (.tuple #[v, .int .i64 0]) ∧ w'.ownsRow w.heap.size 3 1 v l.length (ints f) ∧ w.grownBy w' none ∧ ∃ g, FitsT l g ∧ worthM l g ≤ want ∧ f.length = l.length ∧ ∀ k, k < l.length → f.getD k 0 = g.getD k 0 - (tubeAt l k).count

end Go.Proofs.YtakabckmiodjaaaDoor
