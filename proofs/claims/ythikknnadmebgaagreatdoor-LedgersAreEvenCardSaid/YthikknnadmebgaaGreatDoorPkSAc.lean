/- make of a slice of ints, as a law for a walk; an int stored into a slice that the call owns. -/
import Derived.Test.YthikknnadmebgaaGreatDoorPkSAa
import Derived.Test.YthikknnadmebgaaGreatDoorChecked
import Derived.BigQuiet
namespace Go.Proofs.YthikknnadmebgaaGreatDoor
open Go.RowKit

theorem eInt : ElemT Tryz.prog 22 3 (.int .i64 0) 1 8 := ⟨by kernel_rfl, by kernel_rfl, by decide, by decide, by decide⟩
theorem wpList_mk {P : Program} (w : World) {ops : Array Oper} {rest : List Oper} {o : Oper} {a : Act} {Q : Exit → Act → World → Prop} {t e : Nat} (E : ElemT P t e (.int .i64 0) 1 8)
    (hg : o.guard = none) (l c : Operand) (hop : o.op = Op.makeSlice t l c) (base : Nat) (L : Int) (n : Nat) (hl : a.eval l = .int .i64 L) (hc : a.eval c = .int .i64 L) (hL : L = (n : Int)) (hn : n ≤ 1000000000) (b4 : base ≤ w.heap.size)
    (hK : ∀ w', w'.ownsRow base e 1 (.slice (some ⟨w.heap.size, 0, none⟩) n n) n (ints (List.replicate n 0)) → w.grownBy w' none → wpList P ops Q rest (a.put o.dst (.slice (some ⟨w.heap.size, 0, none⟩) n n)) w') :
    wpList P ops Q (o :: rest) a w := by
  obtain ⟨i, hi, hz, hz1, hz2⟩ := info_parts E.info
  refine wpList_make_full w hg l c t hop base e i (.int .i64 0) 1 E.und hi hz hz1 .i64 .i64 L L n hl hc hL hL (by rw [hz2]; omega) (by unfold maxLen; omega) b4 (fun w' h1 h2 => hK w' ?_ h2)
  have e1 : (madeCells (Value.int .i64 0).cells (n * 1)).toList = ints (List.replicate n 0) := by
    rw [Nat.mul_one, show (Value.int .i64 0).cells = #[.int .i64 0] from rfl, toList_madeCells_one]
    simp [ints]
  rw [e1] at h1
  exact h1

theorem ints_set (l : List Int) (k : Nat) (x : Int) : (ints l).set k (.int .i64 x) = ints (l.set k x) := by simp [ints, List.map_set]
theorem ints_at (l : List Int) (j : Nat) (h : j < l.length) : (ints l)[j]? = some (.int .i64 (l.getD j 0)) := by
  simp [ints, List.getD_eq_getElem?_getD, List.getElem?_eq_getElem h]
/-- The cell of an owned slice of ints, that it may be written, and what is owned behind a store into it. -/
theorem own_int {w : World} {base e n cap g : Nat} {l : List Int} (h : w.ownsRow base e 1 (.slice (some ⟨g, 0, none⟩) n cap) n (ints l)) (k : Nat) (hk : k < n) :
    w.cell? ⟨g, k, none⟩ = some (.int .i64 (l.getD k 0)) ∧ w.frozen? ⟨g, k, none⟩ = false ∧ ∀ x, (w.setCell ⟨g, k, none⟩ (.int .i64 x)).ownsRow base e 1 (.slice (some ⟨g, 0, none⟩) n cap) n (ints (l.set k x)) := by
  have hl : l.length = n := by have := h.1; simpa [ints] using this
  refine ⟨by rw [h.cellAt k (by omega)]; exact ints_at l k (by omega), h.frozenAt k, fun x => ?_⟩
  rw [← ints_set]
  exact (h.stored k _).1
theorem own_len {w : World} {base e n : Nat} {v : Value} {l : List Int} (h : w.ownsRow base e 1 v n (ints l)) : l.length = n := by
  have := h.1
  simpa [ints] using this
theorem own_nil {w : World} {base e size n cap : Nat} {a : Option Addr} {xs : List Value} (h : w.ownsRow base e size (.slice a n cap) n xs) : a = none → n = 0 ∧ cap = 0 := by
  intro ha
  subst ha
  rcases h.2 with ⟨h2, h3⟩ | ⟨g, c, cur, h2, _⟩
  · cases h2; exact ⟨rfl, rfl⟩
  · cases h2
/-- The cells of an owned row stay behind a step that writes a block below it. -/
theorem own_cells {w w1 : World} {base e size n cap p : Nat} {a : Option Addr} {xs : List Value} (h : w.ownsRow base e size (.slice a n cap) n xs) (g : w.grownBy w1 (some p)) (hp : p < base) : CellsAt w1 a xs := by
  obtain ⟨_, _, he, _, _, hc, _⟩ := own_shape (own_keepS h g hp)
  cases he
  exact hc

/-! Rows of one cell an element that a call owns: of bools. -/

theorem wpList_mkZ {P : Program} (w : World) {ops : Array Oper} {rest : List Oper} {o : Oper} {a : Act} {Q : Exit → Act → World → Prop} {t e bytes : Nat} {z : Value} (E : ElemT P t e z 1 bytes) (hz0 : z.cells = #[z]) (hby : bytes ≤ 64)
    (hg : o.guard = none) (l c : Operand) (hop : o.op = Op.makeSlice t l c) (base : Nat) (L : Int) (n : Nat) (hl : a.eval l = .int .i64 L) (hc : a.eval c = .int .i64 L) (hL : L = (n : Int)) (hn : n ≤ 1000000000) (b4 : base ≤ w.heap.size)
    (hK : ∀ w', w'.ownsRow base e 1 (.slice (some ⟨w.heap.size, 0, none⟩) n n) n (List.replicate n z) → w.grownBy w' none → wpList P ops Q rest (a.put o.dst (.slice (some ⟨w.heap.size, 0, none⟩) n n)) w') :
    wpList P ops Q (o :: rest) a w := by
  obtain ⟨i, hi, hz, hz1, hz2⟩ := info_parts E.info
  have hle : i.bytes * n ≤ 64 * 1000000000 := Nat.mul_le_mul (by omega) hn
  refine wpList_make_full w hg l c t hop base e i z 1 E.und hi hz hz1 .i64 .i64 L L n hl hc hL hL (by omega) (by unfold maxLen; omega) b4 (fun w' h1 h2 => hK w' ?_ h2)
  have e1 : (madeCells z.cells (n * 1)).toList = List.replicate n z := by
    rw [Nat.mul_one, hz0, toList_madeCells_one]
  rw [e1] at h1
  exact h1
def bools (l : List Bool) : List Value := l.map Value.bool
theorem bools_at (l : List Bool) (j : Nat) (h : j < l.length) : (bools l)[j]? = some (.bool (l.getD j false)) := by
  simp [bools, List.getD_eq_getElem?_getD, List.getElem?_eq_getElem h]
theorem bools_set (l : List Bool) (k : Nat) (x : Bool) : (bools l).set k (.bool x) = bools (l.set k x) := by simp [bools, List.map_set]
theorem own_bool {w : World} {base e n cap g : Nat} {l : List Bool} (h : w.ownsRow base e 1 (.slice (some ⟨g, 0, none⟩) n cap) n (bools l)) (k : Nat) (hk : k < n) :
    w.cell? ⟨g, k, none⟩ = some (.bool (l.getD k false)) ∧ w.frozen? ⟨g, k, none⟩ = false ∧ ∀ x, (w.setCell ⟨g, k, none⟩ (.bool x)).ownsRow base e 1 (.slice (some ⟨g, 0, none⟩) n cap) n (bools (l.set k x)) := by
  have hl : l.length = n := by have := h.1; simpa [bools] using this
  refine ⟨by rw [h.cellAt k (by omega)]; exact bools_at l k (by omega), h.frozenAt k, fun x => ?_⟩
  rw [← bools_set]
  exact (h.stored k _).1
theorem bools_rep (n : Nat) : List.replicate n (Value.bool false) = bools (List.replicate n false) := by simp [bools]
end Go.Proofs.YthikknnadmebgaaGreatDoor

/-! Strings and rows of ints as elements. -/
namespace Go.Proofs.YthikknnadmebgaaGreatDoor
open Go.RowKit

theorem eStr : ElemT Tryz.prog 57 9 (.string { data := #[] }) 1 16 := ⟨by kernel_rfl, by kernel_rfl, by decide, by decide, by decide⟩
end Go.Proofs.YthikknnadmebgaaGreatDoor

/-! The stream of numbers: its methods, each called once. -/
namespace Go.Proofs.YthikknnadmebgaaGreatDoor
open Go.RowKit
variable {lw : Nat}

/-- Below: the remainder from 0 to n - 1; 0 where n is less than 1. -/
def below (x n : Int) : Int := if n < 1 then 0 else x % n

theorem below_tmod (x n : Int) (h : 1 ≤ n) : (if x.tmod n < 0 then x.tmod n + n else x.tmod n) = below x n := by
  unfold below
  rw [if_neg (show ¬ n < 1 by omega)]
  have h1 := Int.emod_nonneg x (show n ≠ 0 by omega)
  have h2 := Int.emod_lt_of_pos x (show 0 < n by omega)
  have h3 : x.tmod n = x % n - ↑(if 0 ≤ x ∨ n ∣ x then 0 else Int.natAbs n) := Int.tmod_eq_emod
  rw [h3]
  by_cases hc : 0 ≤ x ∨ n ∣ x
  · rw [if_pos hc]; split <;> omega
  · rw [if_neg hc]; split <;> omega

theorem below_any (x n : Int) (w : World) (hn : n ≤ 9223372036854775807) :
    Calls Tryz.prog 38 #[.int .i64 x, .int .i64 n] w fun e w' => e = .returned (.int .i64 (below x n)) ∧ w = w' := by
  by_cases h : n < 1
  · go_enter Tryz.func38, Tryz.ntmps38
    go_wp2
    go_ret
    exact ⟨by simp [below, h], rfl⟩
  · have h1 : 1 ≤ n := by omega
    have H := Lib.hid (below_tmod x n h1)
    have hb : -n < x.tmod n := by have := Int.lt_tmod_of_pos x (show 0 < n by omega); omega
    have hb2 : x.tmod n < n := Int.tmod_lt_of_pos x (by omega)
    go_enter Tryz.func38, Tryz.ntmps38
    go_wp2
    · have hlt : x.tmod n < 0 := by assumption
      go_ret
      exact ⟨ret_int (by rw [← H.out, if_pos hlt]), rfl⟩
    · have hlt : 0 ≤ x.tmod n := by assumption
      go_ret
      exact ⟨ret_int (by rw [← H.out, if_neg (by omega)]), rfl⟩

/-- The stream's variable: block p; what it reads: l; how many numbers it has handed out: k. -/
structure StreamAt (w : World) (p lw : Nat) (l : List Int) (k : Nat) : Prop where
  blk : ∃ a cap, w.heap[p]? = some (.cells #[.slice a l.length cap, .int .i64 k] 25 (0, 0)) ∧ CellsAt w a (l.map (Value.int .i64)) ∧ (0 < l.length → ∀ b off, a = some ⟨b, off, none⟩ → b < lw)
  len : l.length ≤ 9223372036854775807
  low : lw ≤ p

theorem keep_ints {w w1 : World} {a : Option Addr} {l : List Int} {r : Option Nat} (h : CellsAt w a (l.map (Value.int .i64))) (g : w.grownBy w1 r) (hr : 0 < l.length → ∀ b off, a = some ⟨b, off, none⟩ → some b ≠ r) : CellsAt w1 a (l.map (Value.int .i64)) := by
  cases l with
  | nil => exact CellsAt.nil _ _
  | cons x l => exact h.keep g (hr (by simp))
theorem StreamAt.keepNe {w w1 : World} {p k : Nat} {l : List Int} {r : Option Nat} (h : StreamAt w p lw l k) (g : w.grownBy w1 r) (hr : ∀ q, r = some q → p ≠ q ∧ lw ≤ q) : StreamAt w1 p lw l k := by
  obtain ⟨⟨a, cap, hb, hc, hne⟩, hlen, hlow⟩ := h
  refine ⟨⟨a, cap, ?_, keep_ints hc g ?_, hne⟩, hlen, hlow⟩
  · rw [g.block p (lt_of_block hb) (fun e => (hr p e.symm).1 rfl)]; exact hb
  · intro h0 b off ha e
    have := (hr b e.symm).2
    have := hne h0 b off ha
    omega
theorem StreamAt.keep {w w1 : World} {p k : Nat} {l : List Int} {r : Option Nat} (h : StreamAt w p lw l k) (g : w.grownBy w1 r) (hr : ∀ q, r = some q → p < q) : StreamAt w1 p lw l k :=
  h.keepNe g (fun q e => by have := hr q e; have := h.low; omega)
theorem StreamAt.keep0 {w w1 : World} {p k : Nat} {l : List Int} (h : StreamAt w p lw l k) (g : w.grownBy w1 none) : StreamAt w1 p lw l k := h.keep g (fun q e => by cases e)
/-- The stream as a law makes it: its variable is the newest block. -/
theorem StreamAt.made {w : World} {a : Option Addr} {l : List Int} (cap : Nat) (hc : CellsAt w a (l.map (Value.int .i64))) (hl : l.length ≤ 9223372036854775807) :
    StreamAt (w.alloc (.cells #[.slice a l.length cap, .int .i64 0] 25)) w.heap.size w.heap.size l 0 := by
  refine ⟨⟨a, cap, heap_alloc_new w _, hc.alloc _, ?_⟩, hl, Nat.le_refl _⟩
  intro h0 b off ha
  obtain ⟨b', off', he, hcell⟩ := hc 0 _ (by rw [List.getElem?_map, List.getElem?_eq_getElem h0]; rfl)
  rw [ha] at he
  cases he
  exact lt_of_cell hcell
/-- .. and one that is made later, of the same numbers. -/
theorem StreamAt.madeLow {w w1 : World} {a : Option Addr} {l : List Int} (cap : Nat) (g : w.grownBy w1 none) (hc : CellsAt w a (l.map (Value.int .i64))) (hl : l.length ≤ 9223372036854775807) :
    StreamAt (w1.alloc (.cells #[.slice a l.length cap, .int .i64 0] 25)) w1.heap.size w.heap.size l 0 := by
  refine ⟨⟨a, cap, heap_alloc_new w1 _, (hc.keep0 g).alloc _, ?_⟩, hl, g.size⟩
  intro h0 b off ha
  obtain ⟨b', off', he, hcell⟩ := hc 0 _ (by rw [List.getElem?_map, List.getElem?_eq_getElem h0]; rfl)
  rw [ha] at he
  cases he
  exact lt_of_cell hcell
theorem StreamAt.lt {w : World} {p k : Nat} {l : List Int} (h : StreamAt w p lw l k) : p < w.heap.size := by
  obtain ⟨⟨a, cap, hb, _⟩, _, _⟩ := h
  exact lt_of_block hb
theorem StreamAt.step {w : World} {p k : Nat} {l : List Int} (h : StreamAt w p lw l k) (m : Nat) : StreamAt ((w.setCell ⟨p, 1, none⟩ (.int .i64 (k + 1))).drewN m) p lw l (k + 1) ∧ w.grownBy ((w.setCell ⟨p, 1, none⟩ (.int .i64 (k + 1))).drewN m) (some p) := by
  have g : w.grownBy ((w.setCell ⟨p, 1, none⟩ (.int .i64 (k + 1))).drewN m) (some p) := gr_drewN (gr_set (gr_refl _ _) rfl _) _
  refine ⟨?_, g⟩
  obtain ⟨⟨a, cap, hb, hc, hne⟩, hlen, hlow⟩ := h
  refine ⟨⟨a, cap, ?_, keep_ints hc g ?_, hne⟩, hlen, hlow⟩
  · have hlt := lt_of_block hb
    have h' : w.heap[p] = .cells #[.slice a l.length cap, .int .i64 k] 25 (0, 0) := by simpa [Array.getElem?_eq_getElem hlt] using hb
    show (w.heap.modify p _)[p]? = _
    rw [Array.getElem?_eq_getElem (by simpa using hlt), Array.getElem_modify_self, h']
    rfl
  · intro h0 b off ha e
    have := hne h0 b off ha
    cases e
    omega

/-- The number that a stream hands out behind k others. -/
def nxt (l : List Int) (k : Nat) (n : Int) : Int :=
  if l.length = 0 then below ((k + 1 : Nat) * 7919) n
  else below (below (l.getD (k % l.length) 0) 1073741824 + (k / l.length : Nat) * (7919 + (k % l.length : Nat))) n

set_option maxRecDepth 100000 in
theorem next_any (l : List Int) (k : Nat) (n : Int) (p : Nat) (w : World) (hs : StreamAt w p lw l k) (hk : k < 1000000000) (hn : n ≤ 9223372036854775807) :
    Calls Tryz.prog 6 #[.pointer (some ⟨p, 0, none⟩), .int .i64 n] w fun e w' => e = .returned (.int .i64 (nxt l k n)) ∧ StreamAt w' p lw l (k + 1) ∧ w.grownBy w' (some p) := by
  have hs' := hs
  obtain ⟨⟨a, cap, hb, hc, hne⟩, hlen⟩ := hs'
  have c0 : w.cell? ⟨p, 0, none⟩ = some (.slice a l.length cap) := by simp [World.cell?, hb]
  have c1 : w.cell? ⟨p, 1, none⟩ = some (.int .i64 k) := by simp [World.cell?, hb]
  have f1 : w.frozen? ⟨p, 1, none⟩ = false := by simp [World.frozen?, hb]
  have HS := Lib.hid hs
  clear hb hs
  by_cases h0 : l.length = 0
  · have hl : l = [] := List.eq_nil_of_length_eq_zero h0
    subst hl
    go_enter Tryz.func6, Tryz.ntmps6
    go_wp2_with (go_at_call 38; refine (below_any _ _ _ hn).mono ?_; rintro e w' ⟨rfl, rfl⟩)
    go_ret
    exact ⟨ret_int (by simp [nxt]), HS.out.step 0⟩
  · have hpos : 0 < l.length := by omega
    obtain ⟨i, hi⟩ : ∃ i, i = k % l.length := ⟨_, rfl⟩
    obtain ⟨q, hq⟩ : ∃ q, q = k / l.length := ⟨_, rfl⟩
    have hilt : i < l.length := by rw [hi]; exact Nat.mod_lt _ hpos
    have hile : i ≤ k := by rw [hi]; exact Nat.mod_le _ _
    have hqle : q ≤ k := by rw [hq]; exact Nat.div_le_self _ _
    have EI : Hid (((k : Int) % (l.length : Int)) = (i : Int)) := by show _ = _; omega
    have EQ : Hid (((k : Int) / (l.length : Int)) = (q : Int)) := by show _ = _; omega
    have HI := Lib.hid hi; clear hi
    have HQ := Lib.hid hq; clear hq
    obtain ⟨b, off, rfl, hx⟩ := hc i _ (by rw [List.getElem?_map, List.getElem?_eq_getElem hilt]; rfl)
    have hbp : b ≠ p := by have := hne hpos b off rfl; omega
    clear hc hne
    obtain ⟨x, hxe⟩ : ∃ x, x = l[i] := ⟨_, rfl⟩
    rw [← hxe] at hx
    have HX := Lib.hid hxe; clear hxe
    have m1 : (0 : Int) ≤ (q : Int) * (7919 + i) := Int.mul_nonneg (by omega) (by omega)
    have m2 : (q : Int) * (7919 + i) ≤ 1000000000 * 1000007919 := Int.mul_le_mul (by omega) (by omega) (by omega) (by omega)
    have hbl : 0 ≤ below x 1073741824 ∧ below x 1073741824 < 1073741824 := by unfold below; omega
    obtain ⟨y, hy⟩ : ∃ y, y = below x 1073741824 := ⟨_, rfl⟩
    rw [← hy] at hbl
    obtain ⟨hy0, hy1⟩ := hbl
    have HY := Lib.hid hy; clear hy
    have hfin : Hid (below (y + (q : Int) * (7919 + i)) n = nxt l k n) := by
      show _ = _
      unfold nxt
      rw [if_neg h0, HY.out, HX.out, ← HI.out, ← HQ.out, List.getD_eq_getElem?_getD, List.getElem?_eq_getElem hilt]
      rfl
    go_enter Tryz.func6, Tryz.ntmps6
    go_wp2_with (fail)
    go_quiet (fail)
    go_wp2_with (fail)
    rw [EI.out]
    go_quiet (fail)
    go_wp2_with (fail)
    refine (below_any _ _ _ (by omega)).mono ?_
    rintro e w' ⟨rfl, rfl⟩
    rw [← HY.out, EQ.out]
    go_wp2_with (fail)
    refine (below_any _ _ _ (by omega)).mono ?_
    rintro e w' ⟨rfl, rfl⟩
    go_wp2_with (fail)
    go_ret
    exact ⟨ret_int (by rw [IntWalk.wrap64_in (q : Int) (by omega), IntWalk.wrap64_in ((q : Int) * (7919 + i)) (by omega), IntWalk.wrap64_in (y + (q : Int) * (7919 + i)) (by omega), hfin.out]), HS.out.step _⟩
end Go.Proofs.YthikknnadmebgaaGreatDoor

/-! Package base: numbers; the stream's Range. -/
namespace Go.Proofs.YthikknnadmebgaaGreatDoor
open Go.RowKit
variable {lw : Nat}

theorem nxt_range (l : List Int) (k : Nat) (n : Int) (h : 1 ≤ n) : 0 ≤ nxt l k n ∧ nxt l k n < n := by
  have hb : ∀ x, 0 ≤ below x n ∧ below x n < n := by
    intro x
    unfold below
    rw [if_neg (by omega)]
    exact ⟨Int.emod_nonneg x (by omega), Int.emod_lt_of_pos x (by omega)⟩
  unfold nxt
  split <;> exact hb _

/-- The post of a function that only computes: a value, and a world in which nothing but draws has happened. -/
def Pure (v : Value) (w : World) (e : Ending) (w' : World) : Prop := e = .returned v ∧ ∃ n, w' = w.drewN n

/-- base.Out. -/
theorem out_any (n lo hi : Int) (w : World) : Calls Tryz.prog 48 #[.int .i64 n, .int .i64 lo, .int .i64 hi] w fun e w' => e = .returned (.bool (decide (n < lo) || decide (hi < n))) ∧ w = w' := by
  go_enter Tryz.func48, Tryz.ntmps48
  go_wp2
  all_goals (go_ret; exact ⟨rfl, rfl⟩)

theorem range_any (l : List Int) (k : Nat) (lo hi : Int) (p : Nat) (w : World) (hs : StreamAt w p lw l k) (hk : k < 1000000000) (h1 : -1000000 ≤ lo) (h2 : lo ≤ hi) (h3 : hi ≤ 1000000) :
    Calls Tryz.prog 20 #[.pointer (some ⟨p, 0, none⟩), .int .i64 lo, .int .i64 hi] w fun e w' => e = .returned (.int .i64 (lo + nxt l k (hi - lo + 1))) ∧ StreamAt w' p lw l (k + 1) ∧ w.grownBy w' (some p) := by
  go_enter Tryz.func20, Tryz.ntmps20
  have hr := nxt_range l k (hi - lo + 1) (by omega)
  go_wp2_with (go_at_call 6; refine (next_any l k _ p w hs hk (by omega)).mono ?_; rintro e w1 ⟨rfl, hs1, hg1⟩)
  go_ret
  exact ⟨rfl, hs1, hg1⟩

end Go.Proofs.YthikknnadmebgaaGreatDoor

/-! The stream's Pick and Flip. -/
namespace Go.Proofs.YthikknnadmebgaaGreatDoor
open Go.RowKit
variable {lw : Nat}

def pickM (l : List Int) (k : Nat) (xs : List Int) : Int := xs.getD (nxt l k xs.length).toNat 0
theorem pickM_mem (l : List Int) (k : Nat) (xs : List Int) (h : 0 < xs.length) : pickM l k xs ∈ xs := by
  have hr := nxt_range l k xs.length (by omega)
  unfold pickM
  rw [List.getD_eq_getElem?_getD, List.getElem?_eq_getElem (by omega)]
  exact List.getElem_mem _
theorem ints_get (l : List Int) (j : Nat) (h : j < l.length) : (ints l)[j]? = some (.int .i64 (l.getD j 0)) := by
  simp [ints, List.getD_eq_getElem?_getD, List.getElem?_eq_getElem h]
theorem ints_one (l : List Int) : ∀ u ∈ ints l, u.oneCell' = true := ints_oneCell _ _
theorem ints_length (l : List Int) : (ints l).length = l.length := by simp [ints]

set_option maxRecDepth 100000 in
/-- Pick of numbers that were written out: the slice's block is the newest. -/
theorem pick_any (l : List Int) (k : Nat) (xs : List Int) (p : Nat) (W : World) (hs : StreamAt W p lw l k) (hk : k < 1000000000) (h0 : 0 < xs.length) (h1 : xs.length ≤ 1000) :
    Calls Tryz.prog 43 #[.pointer (some ⟨p, 0, none⟩), .slice (some ⟨W.heap.size, 0, none⟩) xs.length xs.length] (W.alloc (.cells (ints xs).toArray 3))
      fun e w' => e = .returned (.int .i64 (pickM l k xs)) ∧ StreamAt w' p lw l (k + 1) ∧ W.grownBy w' (some p) := by
  have hlt := hs.lt
  have hr := nxt_range l k xs.length (by omega)
  obtain ⟨i, hi⟩ : ∃ i : Nat, nxt l k xs.length = i := ⟨(nxt l k xs.length).toNat, by omega⟩
  have hil : i < xs.length := by omega
  have hfin : Hid (pickM l k xs = xs.getD i 0) := by show _ = _; unfold pickM; rw [hi]; rfl
  have HI := Lib.hid hi; clear hi hr
  obtain ⟨x, hx⟩ : ∃ x, x = xs.getD i 0 := ⟨_, rfl⟩
  have HX := Lib.hid hx; clear hx
  obtain ⟨W0, hW0⟩ : ∃ W0, W0 = W.alloc (.cells (ints xs).toArray 3) := ⟨_, rfl⟩
  have hs0 : StreamAt W0 p lw l k := by rw [hW0]; exact hs.keep0 (gr_alloc (gr_refl _ _) _)
  have hcell : W0.cell? ⟨W.heap.size, i, none⟩ = some (.int .i64 x) := by
    rw [hW0, World.cell?_alloc_at _ _ _ _ rfl, HX.out]
    simpa using ints_get xs i hil
  rw [← hW0]
  have hgW : W.grownBy W0 none := by rw [hW0]; exact gr_alloc (gr_refl _ _) _
  clear hW0
  go_enter Tryz.func43, Tryz.ntmps43
  go_wp2_with (fail)
  refine (next_any l k _ p W0 hs0 hk (by omega)).mono ?_
  rintro e w1 ⟨rfl, hs1, hg1⟩
  rw [HI.out]
  have c1 : w1.cell? ⟨W.heap.size, i, none⟩ = some (.int .i64 x) := hg1.cell hcell (by simp; omega)
  go_wp2_with (fail)
  go_ret
  exact ⟨ret_int (by rw [hfin.out, HX.out]), hs1, gr_trans (gr_weak hgW _) hg1⟩

def flipM (l : List Int) (k : Nat) (n : Int) : Bool := nxt l k n == 0
theorem flip_any (l : List Int) (k : Nat) (n : Int) (p : Nat) (w : World) (hs : StreamAt w p lw l k) (hk : k < 1000000000) (hn : n ≤ 9223372036854775807) :
    Calls Tryz.prog 9 #[.pointer (some ⟨p, 0, none⟩), .int .i64 n] w fun e w' => e = .returned (.bool (flipM l k n)) ∧ StreamAt w' p lw l (k + 1) ∧ w.grownBy w' (some p) := by
  go_enter Tryz.func9, Tryz.ntmps9
  go_wp2_with (go_at_call 6; refine (next_any l k _ p w hs hk hn).mono ?_; rintro e w1 ⟨rfl, hs1, hg1⟩)
  go_ret
  exact ⟨rfl, hs1, hg1⟩

/-! The stream's choice among strings. -/
variable {lw : Nat}

theorem ret_str {a b : ByteArray} (h : a = b) : Ending.returned (.string a) = .returned (.string b) := by rw [h]
def strs (l : List ByteArray) : List Value := l.map Value.string
theorem strs_get (l : List ByteArray) (j : Nat) (h : j < l.length) : (strs l)[j]? = some (.string (l.getD j ⟨#[]⟩)) := by
  simp [strs, List.getD_eq_getElem?_getD, List.getElem?_eq_getElem h]
theorem strs_one (l : List ByteArray) : ∀ u ∈ strs l, u.oneCell' = true := by
  intro u hu
  simp only [strs, List.mem_map] at hu
  obtain ⟨x, _, rfl⟩ := hu
  rfl
theorem strs_length (l : List ByteArray) : (strs l).length = l.length := by simp [strs]
def oneS (l : List Int) (k : Nat) (xs : List ByteArray) : ByteArray := xs.getD (nxt l k xs.length).toNat ⟨#[]⟩
theorem oneS_mem (l : List Int) (k : Nat) (xs : List ByteArray) (h : 0 < xs.length) : oneS l k xs ∈ xs := by
  have hr := nxt_range l k xs.length (by omega)
  unfold oneS
  rw [List.getD_eq_getElem?_getD, List.getElem?_eq_getElem (by omega)]
  exact List.getElem_mem _

set_option maxRecDepth 100000 in
/-- one of strings that were written out: the slice's block is the newest. -/
theorem one_any (l : List Int) (k : Nat) (xs : List ByteArray) (p : Nat) (W : World) (hs : StreamAt W p lw l k) (hk : k < 1000000000) (h0 : 0 < xs.length) (h1 : xs.length ≤ 1000) :
    Calls Tryz.prog 42 #[.pointer (some ⟨p, 0, none⟩), .slice (some ⟨W.heap.size, 0, none⟩) xs.length xs.length] (W.alloc (.cells (strs xs).toArray 9))
      fun e w' => e = .returned (.string (oneS l k xs)) ∧ StreamAt w' p lw l (k + 1) ∧ W.grownBy w' (some p) := by
  have hlt := hs.lt
  have hr := nxt_range l k xs.length (by omega)
  obtain ⟨i, hi⟩ : ∃ i : Nat, nxt l k xs.length = i := ⟨(nxt l k xs.length).toNat, by omega⟩
  have hil : i < xs.length := by omega
  have hfin : Hid (oneS l k xs = xs.getD i ⟨#[]⟩) := by show _ = _; unfold oneS; rw [hi]; rfl
  have HI := Lib.hid hi; clear hi hr
  obtain ⟨x, hx⟩ : ∃ x, x = xs.getD i ⟨#[]⟩ := ⟨_, rfl⟩
  have HX := Lib.hid hx; clear hx
  obtain ⟨W0, hW0⟩ : ∃ W0, W0 = W.alloc (.cells (strs xs).toArray 9) := ⟨_, rfl⟩
  have hs0 : StreamAt W0 p lw l k := by rw [hW0]; exact hs.keep0 (gr_alloc (gr_refl _ _) _)
  have hcell : W0.cell? ⟨W.heap.size, i, none⟩ = some (.string x) := by
    rw [hW0, World.cell?_alloc_at _ _ _ _ rfl, HX.out]
    simpa using strs_get xs i hil
  rw [← hW0]
  have hgW : W.grownBy W0 none := by rw [hW0]; exact gr_alloc (gr_refl _ _) _
  clear hW0
  go_enter Tryz.func42, Tryz.ntmps42
  go_wp2_with (fail)
  refine (next_any l k _ p W0 hs0 hk (by omega)).mono ?_
  rintro e w1 ⟨rfl, hs1, hg1⟩
  rw [HI.out]
  have c1 : w1.cell? ⟨W.heap.size, i, none⟩ = some (.string x) := hg1.cell hcell (by simp; omega)
  go_wp2_with (fail)
  go_ret
  exact ⟨ret_str (by rw [hfin.out, HX.out]), hs1, gr_trans (gr_weak hgW _) hg1⟩

set_option maxRecDepth 100000 in
/-- Pick of numbers whose block is known. -/
theorem pick_in (l : List Int) (k : Nat) (xs : List Int) (p g : Nat) (w : World) (hs : StreamAt w p lw l k) (hk : k < 1000000000) (h0 : 0 < xs.length) (h1 : xs.length ≤ 1000) (hg : g ≠ p) (hc : ∀ i, i < xs.length → w.cell? ⟨g, i, none⟩ = some (.int .i64 (xs.getD i 0))) :
    Calls Tryz.prog 43 #[.pointer (some ⟨p, 0, none⟩), .slice (some ⟨g, 0, none⟩) xs.length xs.length] w
      fun e w' => e = .returned (.int .i64 (pickM l k xs)) ∧ StreamAt w' p lw l (k + 1) ∧ w.grownBy w' (some p) := by
  have hr := nxt_range l k xs.length (by omega)
  obtain ⟨i, hi⟩ : ∃ i : Nat, nxt l k xs.length = i := ⟨(nxt l k xs.length).toNat, by omega⟩
  have hil : i < xs.length := by omega
  have hfin : Hid (pickM l k xs = xs.getD i 0) := by show _ = _; unfold pickM; rw [hi]; rfl
  have HI := Lib.hid hi; clear hi hr
  have hcell := hc i hil
  obtain ⟨x, hx⟩ : ∃ x, x = xs.getD i 0 := ⟨_, rfl⟩
  rw [← hx] at hcell
  have HX := Lib.hid hx; clear hx hc
  go_enter Tryz.func43, Tryz.ntmps43
  go_wp2_with (fail)
  refine (next_any l k _ p w hs hk (by omega)).mono ?_
  rintro e w1 ⟨rfl, hs1, hg1⟩
  rw [HI.out]
  have c1 : w1.cell? ⟨g, i, none⟩ = some (.int .i64 x) := hg1.cell hcell (by simp; omega)
  go_wp2_with (fail)
  go_ret
  exact ⟨ret_int (by rw [hfin.out, HX.out]), hs1, hg1⟩
set_option maxRecDepth 100000 in
/-- one of strings whose block is known. -/
theorem one_in (l : List Int) (k : Nat) (xs : List ByteArray) (p g : Nat) (w : World) (hs : StreamAt w p lw l k) (hk : k < 1000000000) (h0 : 0 < xs.length) (h1 : xs.length ≤ 1000) (hg : g ≠ p) (hc : ∀ i, i < xs.length → w.cell? ⟨g, i, none⟩ = some (.string (xs.getD i ⟨#[]⟩))) :
    Calls Tryz.prog 42 #[.pointer (some ⟨p, 0, none⟩), .slice (some ⟨g, 0, none⟩) xs.length xs.length] w
      fun e w' => e = .returned (.string (oneS l k xs)) ∧ StreamAt w' p lw l (k + 1) ∧ w.grownBy w' (some p) := by
  have hr := nxt_range l k xs.length (by omega)
  obtain ⟨i, hi⟩ : ∃ i : Nat, nxt l k xs.length = i := ⟨(nxt l k xs.length).toNat, by omega⟩
  have hil : i < xs.length := by omega
  have hfin : Hid (oneS l k xs = xs.getD i ⟨#[]⟩) := by show _ = _; unfold oneS; rw [hi]; rfl
  have HI := Lib.hid hi; clear hi hr
  have hcell := hc i hil
  obtain ⟨x, hx⟩ : ∃ x, x = xs.getD i ⟨#[]⟩ := ⟨_, rfl⟩
  rw [← hx] at hcell
  have HX := Lib.hid hx; clear hx hc
  go_enter Tryz.func42, Tryz.ntmps42
  go_wp2_with (fail)
  refine (next_any l k _ p w hs hk (by omega)).mono ?_
  rintro e w1 ⟨rfl, hs1, hg1⟩
  rw [HI.out]
  have c1 : w1.cell? ⟨g, i, none⟩ = some (.string x) := hg1.cell hcell (by simp; omega)
  go_wp2_with (fail)
  go_ret
  exact ⟨ret_str (by rw [hfin.out, HX.out]), hs1, hg1⟩
end Go.Proofs.YthikknnadmebgaaGreatDoor

/-! What is free of units that are sorted from the dearest on: plain laws. -/
namespace Go.Proofs.YthikknnadmebgaaGreatDoor

def freeSum (m f : Nat) (u : List Int) : Int :=
  if _h : 0 < m ∧ m ≤ u.length then ((u.take m).drop (m - f)).sum + freeSum m f (u.drop m) else 0
termination_by u.length
decreasing_by simp only [List.length_drop]; omega
theorem freeSum_more {m f : Nat} {u : List Int} (h0 : 0 < m) (h : m ≤ u.length) : freeSum m f u = ((u.take m).drop (m - f)).sum + freeSum m f (u.drop m) := by
  rw [freeSum, dif_pos ⟨h0, h⟩]
theorem freeSum_end {m f : Nat} {u : List Int} (h : u.length < m) : freeSum m f u = 0 := by
  rw [freeSum, dif_neg (by omega)]
theorem sum_nonneg {u : List Int} (h : ∀ x ∈ u, 0 ≤ x) : 0 ≤ u.sum := by
  induction u with
  | nil => simp
  | cons x u ih =>
    have := h x (by simp)
    have := ih (fun y hy => h y (by simp [hy]))
    simp only [List.sum_cons]; omega
theorem sum_take_drop (u : List Int) (n : Nat) : u.sum = (u.take n).sum + (u.drop n).sum := by
  rw [← List.sum_append, List.take_append_drop]
theorem freeSum_bd (m f : Nat) : ∀ (n : Nat) (u : List Int), u.length = n → (∀ x ∈ u, 0 ≤ x) → 0 ≤ freeSum m f u ∧ freeSum m f u ≤ u.sum := by
  intro n
  induction n using Nat.strongRecOn with
  | _ n ih =>
    intro u hn h
    by_cases hm : 0 < m ∧ m ≤ u.length
    · rw [freeSum_more hm.1 hm.2]
      have h1 := ih (u.drop m).length (by simp; omega) (u.drop m) rfl (fun x hx => h x (List.mem_of_mem_drop hx))
      have h2 : 0 ≤ ((u.take m).drop (m - f)).sum := sum_nonneg (fun x hx => h x (List.mem_of_mem_take (List.mem_of_mem_drop hx)))
      have h3 : 0 ≤ ((u.take m).take (m - f)).sum := sum_nonneg (fun x hx => h x (List.mem_of_mem_take (List.mem_of_mem_take hx)))
      have h4 := sum_take_drop (u.take m) (m - f)
      have h5 := sum_take_drop u m
      omega
    · rw [freeSum, dif_neg hm]
      exact ⟨Int.le_refl _, sum_nonneg h⟩
def Desc (u : List Int) : Prop := u.Pairwise (fun a b => b ≤ a)
theorem last_one (L : List Int) (m : Nat) (h0 : 0 < m) (h : m ≤ L.length) : ((L.take m).drop (m - 1)).sum = L.getD (m - 1) 0 := by
  have h1 : (L.take m).drop (m - 1) = [L[m - 1]] := by
    rw [List.drop_take, show m - (m - 1) = 1 by omega]
    rw [List.drop_eq_getElem_cons (by omega : m - 1 < L.length)]
    rfl
  rw [h1]
  simp only [List.sum_cons, List.sum_nil, Int.add_zero]
  rw [List.getD_eq_getElem?_getD, List.getElem?_eq_getElem (by omega)]; rfl
/-- A further unit costs no less than what is free for it. -/
theorem free_ins (m : Nat) (h0 : 0 < m) : ∀ (n : Nat) (a b : List Int) (x : Int), (a ++ b).length = n → Desc (a ++ x :: b) → 0 ≤ x → (∀ z ∈ a ++ b, 0 ≤ z) → freeSum m 1 (a ++ x :: b) ≤ freeSum m 1 (a ++ b) + x := by
  intro n
  induction n using Nat.strongRecOn with
  | _ n ih =>
    intro a b x hn hd hx hz
    have hl : (a ++ x :: b).length = n + 1 := by simp at hn ⊢; omega
    by_cases h1 : n + 1 < m
    · rw [freeSum_end (by omega), freeSum_end (by omega)]; omega
    · by_cases ha : m ≤ a.length
      · have e1 : (a ++ x :: b).take m = (a ++ b).take m := by
          rw [List.take_append_of_le_length ha, List.take_append_of_le_length ha]
        have e2 : (a ++ x :: b).drop m = a.drop m ++ x :: b := List.drop_append_of_le_length ha
        have e3 : (a ++ b).drop m = a.drop m ++ b := List.drop_append_of_le_length ha
        have hna : m ≤ (a ++ b).length := by simp; omega
        rw [freeSum_more h0 (by omega), freeSum_more h0 hna, e1, e2, e3]
        have := ih (a.drop m ++ b).length (by rw [← e3, List.length_drop]; omega) (a.drop m) b x rfl (by rw [← e2]; exact hd.sublist (List.drop_sublist _ _)) hx (fun z hz' => hz z (by rw [← e3] at hz'; exact List.mem_of_mem_drop hz'))
        omega
      · -- the last one of the first set is at most x
        have hlast : (a ++ x :: b).getD (m - 1) 0 ≤ x := by
          have hi : m - 1 < (a ++ x :: b).length := by omega
          rw [List.getD_eq_getElem?_getD, List.getElem?_eq_getElem hi]
          show (a ++ x :: b)[m - 1] ≤ x
          by_cases he : m - 1 = a.length
          · have : (a ++ x :: b)[m - 1] = x := by
              simp only [he]; simp
            omega
          · have hp := (List.pairwise_iff_getElem.1 hd) a.length (m - 1) (by simp) hi (by omega)
            have e : (a ++ x :: b)[a.length]'(by simp) = x := by simp
            rw [e] at hp; exact hp
        rw [freeSum_more h0 (by omega), last_one _ m h0 (by omega)]
        by_cases h2 : n < m
        · have e : (a ++ x :: b).drop m = [] := List.drop_eq_nil_of_le (by omega)
          rw [e, freeSum_end (u := []) (by simp; omega), freeSum_end (u := a ++ b) (by omega)]
          omega
        · have hm : m ≤ (a ++ b).length := by omega
          have e1 : (a ++ x :: b).drop m = (a ++ b).drop (m - 1) := by
            rw [List.drop_append, List.drop_append, List.drop_eq_nil_of_le (by omega : a.length ≤ m), List.nil_append, List.drop_eq_nil_of_le (by omega : a.length ≤ m - 1), List.nil_append]
            rw [show m - a.length = (m - 1 - a.length) + 1 by omega]
            rfl
          have e2 : (a ++ b).drop (m - 1) = (a ++ b)[m - 1] :: (a ++ b).drop m := by
            rw [List.drop_eq_getElem_cons (by omega : m - 1 < (a ++ b).length), show m - 1 + 1 = m by omega]
          rw [freeSum_more (u := a ++ b) h0 hm, last_one _ m h0 hm, e1, e2]
          have e3 : (a ++ b).getD (m - 1) 0 = (a ++ b)[m - 1] := by rw [List.getD_eq_getElem?_getD, List.getElem?_eq_getElem (by omega)]; rfl
          rw [e3]
          have hy : 0 ≤ (a ++ b)[m - 1] := hz _ (List.getElem_mem _)
          have hab : Desc (a ++ b) := hd.sublist (by simp)
          have hq := ih ((a ++ b).drop m).length (by rw [List.length_drop]; omega) [] ((a ++ b).drop m) (a ++ b)[m - 1] rfl (by rw [List.nil_append, ← e2]; exact hab.sublist (List.drop_sublist _ _)) hy (fun z hz' => hz z (List.mem_of_mem_drop hz'))
          simp only [List.nil_append] at hq
          omega
theorem desc_perm {u v : List Int} (hu : Desc u) (hv : Desc v) (h : u.Perm v) : u = v :=
  h.eq_of_pairwise (fun _ _ _ _ h1 h2 => Int.le_antisymm h2 h1) hu hv
theorem free_unit (m : Nat) (h0 : 0 < m) (u v : List Int) (x : Int) (hu : Desc u) (hv : Desc v) (h : v.Perm (x :: u)) (hn : ∀ z ∈ v, 0 ≤ z) : freeSum m 1 v ≤ freeSum m 1 u + x := by
  have hx : x ∈ v := h.mem_iff.2 (by simp)
  obtain ⟨a, b, rfl⟩ := List.append_of_mem hx
  have hp : (a ++ b).Perm u := by
    have h1 : (x :: (a ++ b)).Perm (a ++ x :: b) := List.perm_middle.symm
    exact (List.perm_cons x).1 (h1.trans h)
  have e := desc_perm (hv.sublist (by simp)) hu hp
  rw [← e]
  exact free_ins m h0 _ a b x rfl hv (hn x hx) (fun z hz => hn z (by simp at hz ⊢; rcases hz with hz | hz <;> simp [hz]))
end Go.Proofs.YthikknnadmebgaaGreatDoor
