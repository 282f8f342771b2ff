/- Package shelf: the layout on a day; a range over slices.Backward. -/
import Derived.Test.YthikknnadmebgaaGreatDoorPkSAs
import Derived.RangeFuncNested
import Derived.RangeFuncBound
import Derived.RangeFuncCalls
import Derived.RangeFuncLeaves
import Derived.RangeFuncBox
import Derived.Shelf.Abstract
import Derived.Shelf.RegionOpen
import Derived.OwnWalkIn
import Derived.TacticsInMore
import Derived.LoopNIn
import Derived.LoopIn
import Derived.Test.YthikknnadmebgaaGreatDoorPkSAk
namespace Go.Proofs.YthikknnadmebgaaGreatDoor
open Go.RowKit Go.Shelf
attribute [local go_sem] Oper.semAt_some

/-- A version, as its cells say it. -/
structure VV where
  day : Int
  la : Option Addr
  n : Nat
  lc : Nat
def upto {α : Type} (f : Nat → α) (k : Nat) : List α := (List.range k).map f
theorem upto_succ {α : Type} (f : Nat → α) (k : Nat) : upto f (k + 1) = upto f k ++ [f k] := by simp [upto, List.range_succ]
theorem upto_length {α : Type} (f : Nat → α) (k : Nat) : (upto f k).length = k := by simp [upto]
/-- What slices.Backward hands out in its round j: the place and the version. -/
def bwd (vs : List VV) (j : Nat) : Nat × VV := (vs.length - 1 - j, vs.getD (vs.length - 1 - j) ⟨0, none, 0, 0⟩)
def encB (x : Nat × VV) : Array Value := #[.int .i64 (x.1 : Int), .agg #[.int .i64 x.2.day, .slice x.2.la x.2.n x.2.lc]]

/-- The cells of versions, for reading: below block n₀. -/
def VVsAt (n₀ : Nat) (W : World) (a : Option Addr) (vs : List VV) : Prop :=
  ∀ j, j < vs.length → ∃ b off, a = some ⟨b, off, none⟩ ∧ b < n₀ ∧ W.cell? ⟨b, off + j * 2, none⟩ = some (.int .i64 (vs.getD j ⟨0, none, 0, 0⟩).day) ∧ W.cell? ⟨b, off + j * 2 + 1, none⟩ = some (.slice (vs.getD j ⟨0, none, 0, 0⟩).la (vs.getD j ⟨0, none, 0, 0⟩).n (vs.getD j ⟨0, none, 0, 0⟩).lc)
theorem VVsAt.below {n₀ : Nat} {A B : World} (h : Below n₀ A B) {a : Option Addr} {vs : List VV} (g : VVsAt n₀ A a vs) : VVsAt n₀ B a vs := by
  intro j hj
  obtain ⟨b, off, e, hb, h0, h1⟩ := g j hj
  exact ⟨b, off, e, hb, (h.cell (p := ⟨b, off + j * 2, none⟩) hb).trans h0, (h.cell (p := ⟨b, off + j * 2 + 1, none⟩) hb).trans h1⟩
theorem vvs_of {base : Nat} {w : World} {a : Option Addr} {vs : List Ver} (h : NestAt (VerC base) w 2 a vs) :
    ∃ vvs : List VV, vvs.length = vs.length ∧ VVsAt w.heap.size w a vvs ∧ ∀ j, j < vs.length → (vvs.getD j ⟨0, none, 0, 0⟩).day = vDay vs j ∧ (vvs.getD j ⟨0, none, 0, 0⟩).n = (vLay vs j).length ∧ CellsAt w (vvs.getD j ⟨0, none, 0, 0⟩).la (strs (vLay vs j)) ∧ ((vvs.getD j ⟨0, none, 0, 0⟩).la = none → (vLay vs j).length = 0 ∧ (vvs.getD j ⟨0, none, 0, 0⟩).lc = 0) := by
  obtain ⟨g, hg⟩ := Classical.axiomOfChoice (r := fun (j : Nat) (v : VV) => j < vs.length → (∃ b off, a = some ⟨b, off, none⟩ ∧ b < w.heap.size ∧ w.cell? ⟨b, off + j * 2, none⟩ = some (.int .i64 v.day) ∧ w.cell? ⟨b, off + j * 2 + 1, none⟩ = some (.slice v.la v.n v.lc)) ∧ v.day = vDay vs j ∧ v.n = (vLay vs j).length ∧ CellsAt w v.la (strs (vLay vs j)) ∧ (v.la = none → (vLay vs j).length = 0 ∧ v.lc = 0)) (fun j => by
    by_cases hj : j < vs.length
    · obtain ⟨b, off, la, lc, rfl, h0, h1, h2, h3⟩ := vers_cells h j hj
      exact ⟨⟨vDay vs j, la, (vLay vs j).length, lc⟩, fun _ => ⟨⟨b, off, rfl, lt_of_cell h0, h0, h1⟩, rfl, rfl, h2, h3⟩⟩
    · exact ⟨⟨0, none, 0, 0⟩, fun h => absurd h hj⟩)
  have hl : ((List.range vs.length).map g).length = vs.length := by simp
  have hget : ∀ j, j < vs.length → ((List.range vs.length).map g).getD j ⟨0, none, 0, 0⟩ = g j := by
    intro j hj
    rw [List.getD_eq_getElem?_getD, List.getElem?_eq_getElem (by rw [hl]; exact hj)]
    simp
  refine ⟨(List.range vs.length).map g, hl, ?_, ?_⟩
  · intro j hj
    rw [hl] at hj
    rw [hget j hj]
    exact (hg j hj).1
  · intro j hj
    rw [hget j hj]
    exact (hg j hj).2
/-- The last of the first k versions that begins no later than a day. -/
def lastLe (vs : List Ver) (D : Int) : Nat → Option Nat
  | 0 => none
  | k + 1 => if vDay vs k ≤ D then some k else lastLe vs D k
def AtRes (vs : List Ver) (D r : Int) (L : List ByteArray) : Prop :=
  match lastLe vs D vs.length with
  | none => r = 8
  | some k => r = 0 ∧ L = vLay vs k
def AtPost (vs : List Ver) (D : Int) (w : World) (e : Ending) (w' : World) : Prop :=
  ∃ v n L r, e = .returned (.tuple #[v, .int .i64 r]) ∧ n ≤ 100000 ∧ w'.ownsRow w.heap.size 9 1 v n (strs L) ∧ (r = 0 → VersOk vs) ∧ (VersOk vs → 0 ≤ D → D ≤ 4000 → AtRes vs D r L) ∧ Below w.heap.size w w'
theorem lastLe_none (vs : List Ver) (D : Int) (n : Nat) (h : ∀ i, i < n → D < vDay vs i) : lastLe vs D n = none := by
  induction n with
  | zero => rfl
  | succ n ih =>
    have := h n (by omega)
    simp only [lastLe]
    rw [if_neg (by omega)]
    exact ih (fun i hi => h i (by omega))
theorem lastLe_some (vs : List Ver) (D : Int) (n m : Nat) (hm : m < n) (h : ∀ i, m < i → i < n → D < vDay vs i) (hd : vDay vs m ≤ D) : lastLe vs D n = some m := by
  induction n with
  | zero => omega
  | succ n ih =>
    simp only [lastLe]
    by_cases hmn : m = n
    · subst hmn; rw [if_pos hd]
    · have := h n (by omega) (by omega)
      rw [if_neg (by omega)]
      exact ih (by omega) (fun i h1 h2 => h i h1 (by omega))
theorem own_ok_row {X Y : World} {row : Option Nat} (hrow : ∀ r, row = some r → ∃ o : Obj, X.heap[r]? = some o ∧ o.isCells = false) {B : Nat} {cs : Array Value} {t : Nat} (h : X.heap[B]? = some (.cells cs t (0, 0))) (hg : X.grownBy Y row) : Y.heap[B]? = some (.cells cs t (0, 0)) := by
  refine (hg.block B (lt_of_block h) (fun e => ?_)).trans h
  obtain ⟨o, ho, hc⟩ := hrow B e.symm
  rw [h] at ho
  cases ho
  cases hc
def vvAt (vvs : List VV) (i : Nat) : VV := vvs.getD i ⟨0, none, 0, 0⟩
end Go.Proofs.YthikknnadmebgaaGreatDoor

/-! What ShelvesStay asks besides: what is worth something; versions that are the same; the stream's versions are small. -/
namespace Go.Proofs.YthikknnadmebgaaGreatDoor
open Go.RowKit
attribute [local go_sem ↓] Go.wp_at_zero Go.wp_at_succ

def IsTrueG (w : World) (e : Ending) (w' : World) : Prop := e = .returned (.bool true) ∧ w.grownBy w' none
def oneOffer : List Offer := [⟨⟨#[97]⟩, ⟨#[103]⟩, [5], [], []⟩]
theorem oneOffer_ok : OffersOk oneOffer := by
  refine ⟨by decide, fun o ho => ?_, fun o ho => ?_, fun o ho => ?_, fun i h0 h => ?_⟩
  · simp only [oneOffer, List.mem_cons, List.not_mem_nil, or_false] at ho; subst ho; decide
  · simp only [oneOffer, List.mem_cons, List.not_mem_nil, or_false] at ho; subst ho; decide
  · simp only [oneOffer, List.mem_cons, List.not_mem_nil, or_false] at ho; subst ho
    exact ⟨⟨by decide, fun x hx => by simp at hx, fun i _ hi => by simp at hi⟩, ⟨by decide, fun x hx => by simp at hx, fun i _ hi => by simp at hi⟩⟩
  · simp [oneOffer] at h; omega
theorem oneCount_ok : CountsOk oneOffer [1] := by
  refine ⟨by decide, fun i hi => ?_⟩
  simp [oneOffer] at hi
  subst hi
  simp [oneOffer]
set_option maxRecDepth 100000 in
set_option maxHeartbeats 1000000 in
theorem shelves_any (w : World) : Calls Tryz.prog 26 #[] w (IsTrueG w) := by
  go_enter Tryz.func26, Tryz.ntmps26
  go_wp2_with (fail)
  obtain ⟨h1, h2, h3⟩ := heap_3 w (.cells #[.int .i64 5] 3) (.cells #[.string ⟨#[97]⟩, .string ⟨#[103]⟩, .slice (some ⟨w.heap.size, 0, none⟩) 1 1, .slice none 0 0, .slice none 0 0] 119) (.cells #[.int .i64 1] 3)
  have hg := gr_alloc (gr_alloc (gr_alloc (gr_refl w none) (.cells #[.int .i64 5] 3)) (.cells #[.string ⟨#[97]⟩, .string ⟨#[103]⟩, .slice (some ⟨w.heap.size, 0, none⟩) 1 1, .slice none 0 0, .slice none 0 0] 119)) (.cells #[.int .i64 1] 3)
  refine (worth_any oneOffer [1] (some ⟨w.heap.size + 1, 0, none⟩) (some ⟨w.heap.size + 1 + 1, 0, none⟩) [⟨⟨#[97]⟩, ⟨#[103]⟩, some ⟨w.heap.size, 0, none⟩, 1, 1, none, 0, 0, none, 0, 0⟩] 1 1 _ ⟨rfl, ?_, ?_⟩ oneOffer_ok ?_ oneCount_ok).mono ?_
  · intro j x hx
    refine ⟨_, 0, rfl, ?_⟩
    rw [Nat.zero_add]
    exact blkC h2 j (by simpa [flat, encOV] using hx)
  · intro i v o hv ho
    cases i with
    | zero =>
      simp only [oneOffer, List.getElem?_cons_zero, Option.some.injEq] at hv ho
      subst hv ho
      refine ⟨rfl, rfl, rfl, rfl, rfl, ?_, CellsAt.nil _ _, CellsAt.nil _ _, by show 1 ≤ 1; omega, by show 1 ≤ maxLen; unfold maxLen; omega⟩
      intro j x hx
      refine ⟨_, 0, rfl, ?_⟩
      rw [Nat.zero_add]
      exact blkC h1 j (by simpa [ints] using hx)
    | succ i => simp at hv
  · intro j x hx
    refine ⟨_, 0, rfl, ?_⟩
    rw [Nat.zero_add]
    exact blkC h3 j (by simpa [ints] using hx)
  rintro e w2 ⟨rfl, g2⟩
  have HE : Hid ((worthL oneOffer [1]).sum = 5) := by show _ = _; decide
  rw [HE.out]
  have g := gr_trans hg g2
  clear h1 h2 h3 hg g2
  go_wp2_with (fail)
  go_ret
  exact ⟨rfl, g⟩
/-! The stream's versions are small. -/
theorem verTo_mem (l : List Int) (k n : Nat) : ∀ s ∈ verTo l k n, s.size ≤ 100 := by
  induction n with
  | zero => intro s hs; simp [verTo] at hs
  | succ n ih =>
    intro s hs
    simp only [verTo, List.mem_append, List.mem_cons, List.not_mem_nil, or_false] at hs
    rcases hs with hs | rfl
    · exact ih s hs
    · have hm := oneS_mem l (k + n) verOne (by decide)
      obtain ⟨x, hx⟩ : ∃ x, x = oneS l (k + n) verOne := ⟨_, rfl⟩
      rw [← hx] at hm ⊢
      simp only [verOne, List.mem_cons, List.not_mem_nil, or_false] at hm
      rcases hm with rfl | rfl | rfl <;> decide
def VerSmall (n : Nat) (v : Ver) : Prop := v.lay.length ≤ n ∧ ∀ s ∈ v.lay, s.size ≤ 100
theorem versTo_small (l : List Int) (k n : Nat) (d : Int) (i : Nat) : ∀ v ∈ (versTo l k n d i).vs, VerSmall n v := by
  induction i with
  | zero => intro v hv; simp [versTo] at hv
  | succ i ih =>
    intro v hv
    simp only [versTo, List.mem_append, List.mem_cons, List.not_mem_nil, or_false] at hv
    rcases hv with hv | rfl
    · exact ih v hv
    · exact ⟨by rw [verTo_len]; exact Nat.le_refl _, verTo_mem _ _ _⟩
theorem verTurn_small (l : List Int) (j n : Nat) (v : Ver) (h : VerSmall n v) : VerSmall (n + 1) (verTurn l j v).1 := by
  unfold verTurn
  split
  · exact ⟨by have := h.1; show v.lay.length ≤ _; omega, h.2⟩
  · split
    · refine ⟨by have := h.1; simp; omega, fun s hs => ?_⟩
      rcases List.mem_append.1 hs with hs | hs
      · exact h.2 s hs
      · simp only [List.mem_cons, List.not_mem_nil, or_false] at hs; subst hs; decide
    · refine ⟨?_, ?_⟩
      · have := h.1
        show (if v.lay.length = 0 then [] else v.lay ++ [oneS l (j + 3) verLast]).length ≤ _
        split <;> simp
        omega
      · show ∀ s ∈ (if v.lay.length = 0 then [] else v.lay ++ [oneS l (j + 3) verLast]), _
        intro s hs
        split at hs
        · simp at hs
        · rcases List.mem_append.1 hs with hs | hs
          · exact h.2 s hs
          · simp only [List.mem_cons, List.not_mem_nil, or_false] at hs
            have hm := oneS_mem l (j + 3) verLast (by decide)
            rw [← hs] at hm
            simp only [verLast, List.mem_cons, List.not_mem_nil, or_false] at hm
            rcases hm with rfl | rfl <;> decide
theorem versM_small (l : List Int) (k : Nat) : (versM l k).length ≤ 4 ∧ ∀ v ∈ versM l k, VerSmall 4 v := by
  have r1 := nxt_range l k 4 (by decide)
  have r2 := nxt_range l (k + 2) 5 (by decide)
  have hn : vN l k ≤ 3 := by unfold vN; omega
  have hm : vM l k ≤ 4 := by unfold vM; omega
  have h1 : (versH l k).vs.length = vM l k := versTo_len _ _ _ _ _
  have h2 : ∀ v ∈ (versH l k).vs, VerSmall 3 v := fun v hv => by
    have := versTo_small _ _ _ _ _ v hv
    exact ⟨by have := this.1; omega, this.2⟩
  have h4 : ∀ v, VerSmall 3 v → VerSmall 4 v := fun v h => ⟨by have := h.1; omega, h.2⟩
  unfold versM versF
  split
  · split
    · exact ⟨by show (versH l k).vs.length ≤ 4; omega, fun v hv => h4 v (h2 v hv)⟩
    · refine ⟨by show ((versH l k).vs.set _ _).length ≤ 4; rw [List.length_set]; omega, fun v hv => ?_⟩
      rcases List.mem_or_eq_of_mem_set (show v ∈ (versH l k).vs.set _ _ from hv) with hv | rfl
      · exact h4 v (h2 v hv)
      · refine verTurn_small l _ 3 _ ?_
        rw [getD_eq _ _ _ (by have := nxt_range l ((versH l k).j + 1) (versH l k).vs.length (by omega); omega)]
        exact h2 _ (List.getElem_mem _)
  · exact ⟨by show (versH l k).vs.length ≤ 4; omega, fun v hv => h4 v (h2 v hv)⟩
end Go.Proofs.YthikknnadmebgaaGreatDoor
