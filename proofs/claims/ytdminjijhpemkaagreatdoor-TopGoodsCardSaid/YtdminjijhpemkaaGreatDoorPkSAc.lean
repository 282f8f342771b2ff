/- make of a slice of ints, as a law for a walk; an int stored into a slice that the call owns. -/
import Derived.Test.YtdminjijhpemkaaGreatDoorPkSAa
import Derived.Test.YtdminjijhpemkaaGreatDoorChecked
import Derived.BigQuiet
namespace Go.Proofs.YtdminjijhpemkaaGreatDoor
open Go.RowKit

theorem eInt : ElemT Tryz.prog 22 3 (.int .i64 0) 1 8 := ⟨by kernel_rfl, by kernel_rfl, by decide, by decide, by decide⟩
theorem wpList_mk {P : Program} (w : World) {ops : Array Oper} {rest : List Oper} {o : Oper} {a : Act} {Q : Exit → Act → World → Prop} {t e : Nat} (E : ElemT P t e (.int .i64 0) 1 8)
    (hg : o.guard = none) (l c : Operand) (hop : o.op = Op.makeSlice t l c) (base : Nat) (L : Int) (n : Nat) (hl : a.eval l = .int .i64 L) (hc : a.eval c = .int .i64 L) (hL : L = (n : Int)) (hn : n ≤ 1000000000) (b4 : base ≤ w.heap.size)
    (hK : ∀ w', w'.ownsRow base e 1 (.slice (some ⟨w.heap.size, 0, none⟩) n n) n (ints (List.replicate n 0)) → w.grownBy w' none → wpList P ops Q rest (a.put o.dst (.slice (some ⟨w.heap.size, 0, none⟩) n n)) w') :
    wpList P ops Q (o :: rest) a w := by
  obtain ⟨i, hi, hz, hz1, hz2⟩ := info_parts E.info
  refine wpList_make_full w hg l c t hop base e i (.int .i64 0) 1 E.und hi hz hz1 .i64 .i64 L L n hl hc hL hL (by rw [hz2]; omega) (by unfold maxLen; omega) b4 (fun w' h1 h2 => hK w' ?_ h2)
  have e1 : (madeCells (Value.int .i64 0).cells (n * 1)).toList = ints (List.replicate n 0) := by
    rw [Nat.mul_one, show (Value.int .i64 0).cells = #[.int .i64 0] from rfl, toList_madeCells_one]
    simp [ints]
  rw [e1] at h1
  exact h1

theorem ints_set (l : List Int) (k : Nat) (x : Int) : (ints l).set k (.int .i64 x) = ints (l.set k x) := by simp [ints, List.map_set]
theorem ints_at (l : List Int) (j : Nat) (h : j < l.length) : (ints l)[j]? = some (.int .i64 (l.getD j 0)) := by
  simp [ints, List.getD_eq_getElem?_getD, List.getElem?_eq_getElem h]
/-- The cell of an owned slice of ints, that it may be written, and what is owned behind a store into it. -/
theorem own_int {w : World} {base e n cap g : Nat} {l : List Int} (h : w.ownsRow base e 1 (.slice (some ⟨g, 0, none⟩) n cap) n (ints l)) (k : Nat) (hk : k < n) :
    w.cell? ⟨g, k, none⟩ = some (.int .i64 (l.getD k 0)) ∧ w.frozen? ⟨g, k, none⟩ = false ∧ ∀ x, (w.setCell ⟨g, k, none⟩ (.int .i64 x)).ownsRow base e 1 (.slice (some ⟨g, 0, none⟩) n cap) n (ints (l.set k x)) := by
  have hl : l.length = n := by have := h.1; simpa [ints] using this
  refine ⟨by rw [h.cellAt k (by omega)]; exact ints_at l k (by omega), h.frozenAt k, fun x => ?_⟩
  rw [← ints_set]
  exact (h.stored k _).1
theorem own_len {w : World} {base e n : Nat} {v : Value} {l : List Int} (h : w.ownsRow base e 1 v n (ints l)) : l.length = n := by
  have := h.1
  simpa [ints] using this
theorem own_nil {w : World} {base e size n cap : Nat} {a : Option Addr} {xs : List Value} (h : w.ownsRow base e size (.slice a n cap) n xs) : a = none → n = 0 ∧ cap = 0 := by
  intro ha
  subst ha
  rcases h.2 with ⟨h2, h3⟩ | ⟨g, c, cur, h2, _⟩
  · cases h2; exact ⟨rfl, rfl⟩
  · cases h2
/-- The cells of an owned row stay behind a step that writes a block below it. -/
theorem own_cells {w w1 : World} {base e size n cap p : Nat} {a : Option Addr} {xs : List Value} (h : w.ownsRow base e size (.slice a n cap) n xs) (g : w.grownBy w1 (some p)) (hp : p < base) : CellsAt w1 a xs := by
  obtain ⟨_, _, he, _, _, hc, _⟩ := own_shape (own_keepS h g hp)
  cases he
  exact hc

/-! Rows of one cell an element that a call owns: of bools. -/

theorem wpList_mkZ {P : Program} (w : World) {ops : Array Oper} {rest : List Oper} {o : Oper} {a : Act} {Q : Exit → Act → World → Prop} {t e bytes : Nat} {z : Value} (E : ElemT P t e z 1 bytes) (hz0 : z.cells = #[z]) (hby : bytes ≤ 64)
    (hg : o.guard = none) (l c : Operand) (hop : o.op = Op.makeSlice t l c) (base : Nat) (L : Int) (n : Nat) (hl : a.eval l = .int .i64 L) (hc : a.eval c = .int .i64 L) (hL : L = (n : Int)) (hn : n ≤ 1000000000) (b4 : base ≤ w.heap.size)
    (hK : ∀ w', w'.ownsRow base e 1 (.slice (some ⟨w.heap.size, 0, none⟩) n n) n (List.replicate n z) → w.grownBy w' none → wpList P ops Q rest (a.put o.dst (.slice (some ⟨w.heap.size, 0, none⟩) n n)) w') :
    wpList P ops Q (o :: rest) a w := by
  obtain ⟨i, hi, hz, hz1, hz2⟩ := info_parts E.info
  have hle : i.bytes * n ≤ 64 * 1000000000 := Nat.mul_le_mul (by omega) hn
  refine wpList_make_full w hg l c t hop base e i z 1 E.und hi hz hz1 .i64 .i64 L L n hl hc hL hL (by omega) (by unfold maxLen; omega) b4 (fun w' h1 h2 => hK w' ?_ h2)
  have e1 : (madeCells z.cells (n * 1)).toList = List.replicate n z := by
    rw [Nat.mul_one, hz0, toList_madeCells_one]
  rw [e1] at h1
  exact h1
theorem eBool : ElemT Tryz.prog 147 4 (.bool false) 1 1 := ⟨by kernel_rfl, by kernel_rfl, by decide, by decide, by decide⟩
def bools (l : List Bool) : List Value := l.map Value.bool
theorem bools_at (l : List Bool) (j : Nat) (h : j < l.length) : (bools l)[j]? = some (.bool (l.getD j false)) := by
  simp [bools, List.getD_eq_getElem?_getD, List.getElem?_eq_getElem h]
theorem bools_set (l : List Bool) (k : Nat) (x : Bool) : (bools l).set k (.bool x) = bools (l.set k x) := by simp [bools, List.map_set]
theorem own_bool {w : World} {base e n cap g : Nat} {l : List Bool} (h : w.ownsRow base e 1 (.slice (some ⟨g, 0, none⟩) n cap) n (bools l)) (k : Nat) (hk : k < n) :
    w.cell? ⟨g, k, none⟩ = some (.bool (l.getD k false)) ∧ w.frozen? ⟨g, k, none⟩ = false ∧ ∀ x, (w.setCell ⟨g, k, none⟩ (.bool x)).ownsRow base e 1 (.slice (some ⟨g, 0, none⟩) n cap) n (bools (l.set k x)) := by
  have hl : l.length = n := by have := h.1; simpa [bools] using this
  refine ⟨by rw [h.cellAt k (by omega)]; exact bools_at l k (by omega), h.frozenAt k, fun x => ?_⟩
  rw [← bools_set]
  exact (h.stored k _).1
theorem bools_rep (n : Nat) : List.replicate n (Value.bool false) = bools (List.replicate n false) := by simp [bools]
end Go.Proofs.YtdminjijhpemkaaGreatDoor

/-! Strings and rows of ints as elements. -/
namespace Go.Proofs.YtdminjijhpemkaaGreatDoor
open Go.RowKit

theorem eStr : ElemT Tryz.prog 29 9 (.string { data := #[] }) 1 16 := ⟨by kernel_rfl, by kernel_rfl, by decide, by decide, by decide⟩
end Go.Proofs.YtdminjijhpemkaaGreatDoor

/-! Package slices at elements string: with a function value. Written by mkfind.py. -/
namespace Go.Proofs.YtdminjijhpemkaaGreatDoor
open Go.RowKit

end Go.Proofs.YtdminjijhpemkaaGreatDoor

/-! Package slices at elements string: with a function value. Written by mkfind.py. -/
namespace Go.Proofs.YtdminjijhpemkaaGreatDoor
open Go.RowKit

end Go.Proofs.YtdminjijhpemkaaGreatDoor

/-! The stream of numbers: its methods, each called once. -/
namespace Go.Proofs.YtdminjijhpemkaaGreatDoor
open Go.RowKit
variable {lw : Nat}

/-- Below: the remainder from 0 to n - 1; 0 where n is less than 1. -/
def below (x n : Int) : Int := if n < 1 then 0 else x % n

theorem below_tmod (x n : Int) (h : 1 ≤ n) : (if x.tmod n < 0 then x.tmod n + n else x.tmod n) = below x n := by
  unfold below
  rw [if_neg (show ¬ n < 1 by omega)]
  have h1 := Int.emod_nonneg x (show n ≠ 0 by omega)
  have h2 := Int.emod_lt_of_pos x (show 0 < n by omega)
  have h3 : x.tmod n = x % n - ↑(if 0 ≤ x ∨ n ∣ x then 0 else Int.natAbs n) := Int.tmod_eq_emod
  rw [h3]
  by_cases hc : 0 ≤ x ∨ n ∣ x
  · rw [if_pos hc]; split <;> omega
  · rw [if_neg hc]; split <;> omega

theorem below_any (x n : Int) (w : World) (hn : n ≤ 9223372036854775807) :
    Calls Tryz.prog 32 #[.int .i64 x, .int .i64 n] w fun e w' => e = .returned (.int .i64 (below x n)) ∧ w = w' := by
  by_cases h : n < 1
  · go_enter Tryz.func32, Tryz.ntmps32
    go_wp2
    go_ret
    exact ⟨by simp [below, h], rfl⟩
  · have h1 : 1 ≤ n := by omega
    have H := Lib.hid (below_tmod x n h1)
    have hb : -n < x.tmod n := by have := Int.lt_tmod_of_pos x (show 0 < n by omega); omega
    have hb2 : x.tmod n < n := Int.tmod_lt_of_pos x (by omega)
    go_enter Tryz.func32, Tryz.ntmps32
    go_wp2
    · have hlt : x.tmod n < 0 := by assumption
      go_ret
      exact ⟨ret_int (by rw [← H.out, if_pos hlt]), rfl⟩
    · have hlt : 0 ≤ x.tmod n := by assumption
      go_ret
      exact ⟨ret_int (by rw [← H.out, if_neg (by omega)]), rfl⟩

/-- The stream's variable: block p; what it reads: l; how many numbers it has handed out: k. -/
structure StreamAt (w : World) (p lw : Nat) (l : List Int) (k : Nat) : Prop where
  blk : ∃ a cap, w.heap[p]? = some (.cells #[.slice a l.length cap, .int .i64 k] 25 (0, 0)) ∧ CellsAt w a (l.map (Value.int .i64)) ∧ (0 < l.length → ∀ b off, a = some ⟨b, off, none⟩ → b < lw)
  len : l.length ≤ 9223372036854775807
  low : lw ≤ p

theorem keep_ints {w w1 : World} {a : Option Addr} {l : List Int} {r : Option Nat} (h : CellsAt w a (l.map (Value.int .i64))) (g : w.grownBy w1 r) (hr : 0 < l.length → ∀ b off, a = some ⟨b, off, none⟩ → some b ≠ r) : CellsAt w1 a (l.map (Value.int .i64)) := by
  cases l with
  | nil => exact CellsAt.nil _ _
  | cons x l => exact h.keep g (hr (by simp))
theorem StreamAt.keepNe {w w1 : World} {p k : Nat} {l : List Int} {r : Option Nat} (h : StreamAt w p lw l k) (g : w.grownBy w1 r) (hr : ∀ q, r = some q → p ≠ q ∧ lw ≤ q) : StreamAt w1 p lw l k := by
  obtain ⟨⟨a, cap, hb, hc, hne⟩, hlen, hlow⟩ := h
  refine ⟨⟨a, cap, ?_, keep_ints hc g ?_, hne⟩, hlen, hlow⟩
  · rw [g.block p (lt_of_block hb) (fun e => (hr p e.symm).1 rfl)]; exact hb
  · intro h0 b off ha e
    have := (hr b e.symm).2
    have := hne h0 b off ha
    omega
theorem StreamAt.keep {w w1 : World} {p k : Nat} {l : List Int} {r : Option Nat} (h : StreamAt w p lw l k) (g : w.grownBy w1 r) (hr : ∀ q, r = some q → p < q) : StreamAt w1 p lw l k :=
  h.keepNe g (fun q e => by have := hr q e; have := h.low; omega)
theorem StreamAt.keep0 {w w1 : World} {p k : Nat} {l : List Int} (h : StreamAt w p lw l k) (g : w.grownBy w1 none) : StreamAt w1 p lw l k := h.keep g (fun q e => by cases e)
/-- The stream as a law makes it: its variable is the newest block. -/
theorem StreamAt.made {w : World} {a : Option Addr} {l : List Int} (cap : Nat) (hc : CellsAt w a (l.map (Value.int .i64))) (hl : l.length ≤ 9223372036854775807) :
    StreamAt (w.alloc (.cells #[.slice a l.length cap, .int .i64 0] 25)) w.heap.size w.heap.size l 0 := by
  refine ⟨⟨a, cap, heap_alloc_new w _, hc.alloc _, ?_⟩, hl, Nat.le_refl _⟩
  intro h0 b off ha
  obtain ⟨b', off', he, hcell⟩ := hc 0 _ (by rw [List.getElem?_map, List.getElem?_eq_getElem h0]; rfl)
  rw [ha] at he
  cases he
  exact lt_of_cell hcell
/-- .. and one that is made later, of the same numbers. -/
theorem StreamAt.madeLow {w w1 : World} {a : Option Addr} {l : List Int} (cap : Nat) (g : w.grownBy w1 none) (hc : CellsAt w a (l.map (Value.int .i64))) (hl : l.length ≤ 9223372036854775807) :
    StreamAt (w1.alloc (.cells #[.slice a l.length cap, .int .i64 0] 25)) w1.heap.size w.heap.size l 0 := by
  refine ⟨⟨a, cap, heap_alloc_new w1 _, (hc.keep0 g).alloc _, ?_⟩, hl, g.size⟩
  intro h0 b off ha
  obtain ⟨b', off', he, hcell⟩ := hc 0 _ (by rw [List.getElem?_map, List.getElem?_eq_getElem h0]; rfl)
  rw [ha] at he
  cases he
  exact lt_of_cell hcell
theorem StreamAt.lt {w : World} {p k : Nat} {l : List Int} (h : StreamAt w p lw l k) : p < w.heap.size := by
  obtain ⟨⟨a, cap, hb, _⟩, _, _⟩ := h
  exact lt_of_block hb
theorem StreamAt.step {w : World} {p k : Nat} {l : List Int} (h : StreamAt w p lw l k) (m : Nat) : StreamAt ((w.setCell ⟨p, 1, none⟩ (.int .i64 (k + 1))).drewN m) p lw l (k + 1) ∧ w.grownBy ((w.setCell ⟨p, 1, none⟩ (.int .i64 (k + 1))).drewN m) (some p) := by
  have g : w.grownBy ((w.setCell ⟨p, 1, none⟩ (.int .i64 (k + 1))).drewN m) (some p) := gr_drewN (gr_set (gr_refl _ _) rfl _) _
  refine ⟨?_, g⟩
  obtain ⟨⟨a, cap, hb, hc, hne⟩, hlen, hlow⟩ := h
  refine ⟨⟨a, cap, ?_, keep_ints hc g ?_, hne⟩, hlen, hlow⟩
  · have hlt := lt_of_block hb
    have h' : w.heap[p] = .cells #[.slice a l.length cap, .int .i64 k] 25 (0, 0) := by simpa [Array.getElem?_eq_getElem hlt] using hb
    show (w.heap.modify p _)[p]? = _
    rw [Array.getElem?_eq_getElem (by simpa using hlt), Array.getElem_modify_self, h']
    rfl
  · intro h0 b off ha e
    have := hne h0 b off ha
    cases e
    omega

/-- The number that a stream hands out behind k others. -/
def nxt (l : List Int) (k : Nat) (n : Int) : Int :=
  if l.length = 0 then below ((k + 1 : Nat) * 7919) n
  else below (below (l.getD (k % l.length) 0) 1073741824 + (k / l.length : Nat) * (7919 + (k % l.length : Nat))) n

set_option maxRecDepth 100000 in
theorem next_any (l : List Int) (k : Nat) (n : Int) (p : Nat) (w : World) (hs : StreamAt w p lw l k) (hk : k < 1000000000) (hn : n ≤ 9223372036854775807) :
    Calls Tryz.prog 7 #[.pointer (some ⟨p, 0, none⟩), .int .i64 n] w fun e w' => e = .returned (.int .i64 (nxt l k n)) ∧ StreamAt w' p lw l (k + 1) ∧ w.grownBy w' (some p) := by
  have hs' := hs
  obtain ⟨⟨a, cap, hb, hc, hne⟩, hlen⟩ := hs'
  have c0 : w.cell? ⟨p, 0, none⟩ = some (.slice a l.length cap) := by simp [World.cell?, hb]
  have c1 : w.cell? ⟨p, 1, none⟩ = some (.int .i64 k) := by simp [World.cell?, hb]
  have f1 : w.frozen? ⟨p, 1, none⟩ = false := by simp [World.frozen?, hb]
  have HS := Lib.hid hs
  clear hb hs
  by_cases h0 : l.length = 0
  · have hl : l = [] := List.eq_nil_of_length_eq_zero h0
    subst hl
    go_enter Tryz.func7, Tryz.ntmps7
    go_wp2_with (go_at_call 32; refine (below_any _ _ _ hn).mono ?_; rintro e w' ⟨rfl, rfl⟩)
    go_ret
    exact ⟨ret_int (by simp [nxt]), HS.out.step 0⟩
  · have hpos : 0 < l.length := by omega
    obtain ⟨i, hi⟩ : ∃ i, i = k % l.length := ⟨_, rfl⟩
    obtain ⟨q, hq⟩ : ∃ q, q = k / l.length := ⟨_, rfl⟩
    have hilt : i < l.length := by rw [hi]; exact Nat.mod_lt _ hpos
    have hile : i ≤ k := by rw [hi]; exact Nat.mod_le _ _
    have hqle : q ≤ k := by rw [hq]; exact Nat.div_le_self _ _
    have EI : Hid (((k : Int) % (l.length : Int)) = (i : Int)) := by show _ = _; omega
    have EQ : Hid (((k : Int) / (l.length : Int)) = (q : Int)) := by show _ = _; omega
    have HI := Lib.hid hi; clear hi
    have HQ := Lib.hid hq; clear hq
    obtain ⟨b, off, rfl, hx⟩ := hc i _ (by rw [List.getElem?_map, List.getElem?_eq_getElem hilt]; rfl)
    have hbp : b ≠ p := by have := hne hpos b off rfl; omega
    clear hc hne
    obtain ⟨x, hxe⟩ : ∃ x, x = l[i] := ⟨_, rfl⟩
    rw [← hxe] at hx
    have HX := Lib.hid hxe; clear hxe
    have m1 : (0 : Int) ≤ (q : Int) * (7919 + i) := Int.mul_nonneg (by omega) (by omega)
    have m2 : (q : Int) * (7919 + i) ≤ 1000000000 * 1000007919 := Int.mul_le_mul (by omega) (by omega) (by omega) (by omega)
    have hbl : 0 ≤ below x 1073741824 ∧ below x 1073741824 < 1073741824 := by unfold below; omega
    obtain ⟨y, hy⟩ : ∃ y, y = below x 1073741824 := ⟨_, rfl⟩
    rw [← hy] at hbl
    obtain ⟨hy0, hy1⟩ := hbl
    have HY := Lib.hid hy; clear hy
    have hfin : Hid (below (y + (q : Int) * (7919 + i)) n = nxt l k n) := by
      show _ = _
      unfold nxt
      rw [if_neg h0, HY.out, HX.out, ← HI.out, ← HQ.out, List.getD_eq_getElem?_getD, List.getElem?_eq_getElem hilt]
      rfl
    go_enter Tryz.func7, Tryz.ntmps7
    go_wp2_with (fail)
    go_quiet (fail)
    go_wp2_with (fail)
    rw [EI.out]
    go_quiet (fail)
    go_wp2_with (fail)
    refine (below_any _ _ _ (by omega)).mono ?_
    rintro e w' ⟨rfl, rfl⟩
    rw [← HY.out, EQ.out]
    go_wp2_with (fail)
    refine (below_any _ _ _ (by omega)).mono ?_
    rintro e w' ⟨rfl, rfl⟩
    go_wp2_with (fail)
    go_ret
    exact ⟨ret_int (by rw [IntWalk.wrap64_in (q : Int) (by omega), IntWalk.wrap64_in ((q : Int) * (7919 + i)) (by omega), IntWalk.wrap64_in (y + (q : Int) * (7919 + i)) (by omega), hfin.out]), HS.out.step _⟩
end Go.Proofs.YtdminjijhpemkaaGreatDoor

/-! Package base: numbers; the stream's Range. -/
namespace Go.Proofs.YtdminjijhpemkaaGreatDoor
open Go.RowKit
variable {lw : Nat}

theorem nxt_range (l : List Int) (k : Nat) (n : Int) (h : 1 ≤ n) : 0 ≤ nxt l k n ∧ nxt l k n < n := by
  have hb : ∀ x, 0 ≤ below x n ∧ below x n < n := by
    intro x
    unfold below
    rw [if_neg (by omega)]
    exact ⟨Int.emod_nonneg x (by omega), Int.emod_lt_of_pos x (by omega)⟩
  unfold nxt
  split <;> exact hb _

/-- The post of a function that only computes: a value, and a world in which nothing but draws has happened. -/
def Pure (v : Value) (w : World) (e : Ending) (w' : World) : Prop := e = .returned v ∧ ∃ n, w' = w.drewN n

/-- base.Out. -/
theorem out_any (n lo hi : Int) (w : World) : Calls Tryz.prog 57 #[.int .i64 n, .int .i64 lo, .int .i64 hi] w fun e w' => e = .returned (.bool (decide (n < lo) || decide (hi < n))) ∧ w = w' := by
  go_enter Tryz.func57, Tryz.ntmps57
  go_wp2
  all_goals (go_ret; exact ⟨rfl, rfl⟩)

theorem range_any (l : List Int) (k : Nat) (lo hi : Int) (p : Nat) (w : World) (hs : StreamAt w p lw l k) (hk : k < 1000000000) (h1 : -1000000 ≤ lo) (h2 : lo ≤ hi) (h3 : hi ≤ 1000000) :
    Calls Tryz.prog 36 #[.pointer (some ⟨p, 0, none⟩), .int .i64 lo, .int .i64 hi] w fun e w' => e = .returned (.int .i64 (lo + nxt l k (hi - lo + 1))) ∧ StreamAt w' p lw l (k + 1) ∧ w.grownBy w' (some p) := by
  go_enter Tryz.func36, Tryz.ntmps36
  have hr := nxt_range l k (hi - lo + 1) (by omega)
  go_wp2_with (go_at_call 7; refine (next_any l k _ p w hs hk (by omega)).mono ?_; rintro e w1 ⟨rfl, hs1, hg1⟩)
  go_ret
  exact ⟨rfl, hs1, hg1⟩

end Go.Proofs.YtdminjijhpemkaaGreatDoor

/-! The stream's Pick and Flip. -/
namespace Go.Proofs.YtdminjijhpemkaaGreatDoor
open Go.RowKit
variable {lw : Nat}

def pickM (l : List Int) (k : Nat) (xs : List Int) : Int := xs.getD (nxt l k xs.length).toNat 0
theorem pickM_mem (l : List Int) (k : Nat) (xs : List Int) (h : 0 < xs.length) : pickM l k xs ∈ xs := by
  have hr := nxt_range l k xs.length (by omega)
  unfold pickM
  rw [List.getD_eq_getElem?_getD, List.getElem?_eq_getElem (by omega)]
  exact List.getElem_mem _
theorem ints_get (l : List Int) (j : Nat) (h : j < l.length) : (ints l)[j]? = some (.int .i64 (l.getD j 0)) := by
  simp [ints, List.getD_eq_getElem?_getD, List.getElem?_eq_getElem h]
theorem ints_one (l : List Int) : ∀ u ∈ ints l, u.oneCell' = true := ints_oneCell _ _
theorem ints_length (l : List Int) : (ints l).length = l.length := by simp [ints]

set_option maxRecDepth 100000 in
/-- Pick of numbers that were written out: the slice's block is the newest. -/
theorem pick_any (l : List Int) (k : Nat) (xs : List Int) (p : Nat) (W : World) (hs : StreamAt W p lw l k) (hk : k < 1000000000) (h0 : 0 < xs.length) (h1 : xs.length ≤ 1000) :
    Calls Tryz.prog 22 #[.pointer (some ⟨p, 0, none⟩), .slice (some ⟨W.heap.size, 0, none⟩) xs.length xs.length] (W.alloc (.cells (ints xs).toArray 3))
      fun e w' => e = .returned (.int .i64 (pickM l k xs)) ∧ StreamAt w' p lw l (k + 1) ∧ W.grownBy w' (some p) := by
  have hlt := hs.lt
  have hr := nxt_range l k xs.length (by omega)
  obtain ⟨i, hi⟩ : ∃ i : Nat, nxt l k xs.length = i := ⟨(nxt l k xs.length).toNat, by omega⟩
  have hil : i < xs.length := by omega
  have hfin : Hid (pickM l k xs = xs.getD i 0) := by show _ = _; unfold pickM; rw [hi]; rfl
  have HI := Lib.hid hi; clear hi hr
  obtain ⟨x, hx⟩ : ∃ x, x = xs.getD i 0 := ⟨_, rfl⟩
  have HX := Lib.hid hx; clear hx
  obtain ⟨W0, hW0⟩ : ∃ W0, W0 = W.alloc (.cells (ints xs).toArray 3) := ⟨_, rfl⟩
  have hs0 : StreamAt W0 p lw l k := by rw [hW0]; exact hs.keep0 (gr_alloc (gr_refl _ _) _)
  have hcell : W0.cell? ⟨W.heap.size, i, none⟩ = some (.int .i64 x) := by
    rw [hW0, World.cell?_alloc_at _ _ _ _ rfl, HX.out]
    simpa using ints_get xs i hil
  rw [← hW0]
  have hgW : W.grownBy W0 none := by rw [hW0]; exact gr_alloc (gr_refl _ _) _
  clear hW0
  go_enter Tryz.func22, Tryz.ntmps22
  go_wp2_with (fail)
  refine (next_any l k _ p W0 hs0 hk (by omega)).mono ?_
  rintro e w1 ⟨rfl, hs1, hg1⟩
  rw [HI.out]
  have c1 : w1.cell? ⟨W.heap.size, i, none⟩ = some (.int .i64 x) := hg1.cell hcell (by simp; omega)
  go_wp2_with (fail)
  go_ret
  exact ⟨ret_int (by rw [hfin.out, HX.out]), hs1, gr_trans (gr_weak hgW _) hg1⟩

def flipM (l : List Int) (k : Nat) (n : Int) : Bool := nxt l k n == 0
theorem flip_any (l : List Int) (k : Nat) (n : Int) (p : Nat) (w : World) (hs : StreamAt w p lw l k) (hk : k < 1000000000) (hn : n ≤ 9223372036854775807) :
    Calls Tryz.prog 38 #[.pointer (some ⟨p, 0, none⟩), .int .i64 n] w fun e w' => e = .returned (.bool (flipM l k n)) ∧ StreamAt w' p lw l (k + 1) ∧ w.grownBy w' (some p) := by
  go_enter Tryz.func38, Tryz.ntmps38
  go_wp2_with (go_at_call 7; refine (next_any l k _ p w hs hk hn).mono ?_; rintro e w1 ⟨rfl, hs1, hg1⟩)
  go_ret
  exact ⟨rfl, hs1, hg1⟩

/-! The stream's choice among strings. -/
variable {lw : Nat}

theorem ret_str {a b : ByteArray} (h : a = b) : Ending.returned (.string a) = .returned (.string b) := by rw [h]
def strs (l : List ByteArray) : List Value := l.map Value.string
theorem strs_get (l : List ByteArray) (j : Nat) (h : j < l.length) : (strs l)[j]? = some (.string (l.getD j ⟨#[]⟩)) := by
  simp [strs, List.getD_eq_getElem?_getD, List.getElem?_eq_getElem h]
theorem strs_one (l : List ByteArray) : ∀ u ∈ strs l, u.oneCell' = true := by
  intro u hu
  simp only [strs, List.mem_map] at hu
  obtain ⟨x, _, rfl⟩ := hu
  rfl
theorem strs_length (l : List ByteArray) : (strs l).length = l.length := by simp [strs]
def oneS (l : List Int) (k : Nat) (xs : List ByteArray) : ByteArray := xs.getD (nxt l k xs.length).toNat ⟨#[]⟩
theorem oneS_mem (l : List Int) (k : Nat) (xs : List ByteArray) (h : 0 < xs.length) : oneS l k xs ∈ xs := by
  have hr := nxt_range l k xs.length (by omega)
  unfold oneS
  rw [List.getD_eq_getElem?_getD, List.getElem?_eq_getElem (by omega)]
  exact List.getElem_mem _

set_option maxRecDepth 100000 in
/-- one of strings that were written out: the slice's block is the newest. -/
theorem one_any (l : List Int) (k : Nat) (xs : List ByteArray) (p : Nat) (W : World) (hs : StreamAt W p lw l k) (hk : k < 1000000000) (h0 : 0 < xs.length) (h1 : xs.length ≤ 1000) :
    Calls Tryz.prog 39 #[.pointer (some ⟨p, 0, none⟩), .slice (some ⟨W.heap.size, 0, none⟩) xs.length xs.length] (W.alloc (.cells (strs xs).toArray 9))
      fun e w' => e = .returned (.string (oneS l k xs)) ∧ StreamAt w' p lw l (k + 1) ∧ W.grownBy w' (some p) := by
  have hlt := hs.lt
  have hr := nxt_range l k xs.length (by omega)
  obtain ⟨i, hi⟩ : ∃ i : Nat, nxt l k xs.length = i := ⟨(nxt l k xs.length).toNat, by omega⟩
  have hil : i < xs.length := by omega
  have hfin : Hid (oneS l k xs = xs.getD i ⟨#[]⟩) := by show _ = _; unfold oneS; rw [hi]; rfl
  have HI := Lib.hid hi; clear hi hr
  obtain ⟨x, hx⟩ : ∃ x, x = xs.getD i ⟨#[]⟩ := ⟨_, rfl⟩
  have HX := Lib.hid hx; clear hx
  obtain ⟨W0, hW0⟩ : ∃ W0, W0 = W.alloc (.cells (strs xs).toArray 9) := ⟨_, rfl⟩
  have hs0 : StreamAt W0 p lw l k := by rw [hW0]; exact hs.keep0 (gr_alloc (gr_refl _ _) _)
  have hcell : W0.cell? ⟨W.heap.size, i, none⟩ = some (.string x) := by
    rw [hW0, World.cell?_alloc_at _ _ _ _ rfl, HX.out]
    simpa using strs_get xs i hil
  rw [← hW0]
  have hgW : W.grownBy W0 none := by rw [hW0]; exact gr_alloc (gr_refl _ _) _
  clear hW0
  go_enter Tryz.func39, Tryz.ntmps39
  go_wp2_with (fail)
  refine (next_any l k _ p W0 hs0 hk (by omega)).mono ?_
  rintro e w1 ⟨rfl, hs1, hg1⟩
  rw [HI.out]
  have c1 : w1.cell? ⟨W.heap.size, i, none⟩ = some (.string x) := hg1.cell hcell (by simp; omega)
  go_wp2_with (fail)
  go_ret
  exact ⟨ret_str (by rw [hfin.out, HX.out]), hs1, gr_trans (gr_weak hgW _) hg1⟩

set_option maxRecDepth 100000 in
/-- Pick of numbers whose block is known. -/
theorem pick_in (l : List Int) (k : Nat) (xs : List Int) (p g : Nat) (w : World) (hs : StreamAt w p lw l k) (hk : k < 1000000000) (h0 : 0 < xs.length) (h1 : xs.length ≤ 1000) (hg : g ≠ p) (hc : ∀ i, i < xs.length → w.cell? ⟨g, i, none⟩ = some (.int .i64 (xs.getD i 0))) :
    Calls Tryz.prog 22 #[.pointer (some ⟨p, 0, none⟩), .slice (some ⟨g, 0, none⟩) xs.length xs.length] w
      fun e w' => e = .returned (.int .i64 (pickM l k xs)) ∧ StreamAt w' p lw l (k + 1) ∧ w.grownBy w' (some p) := by
  have hr := nxt_range l k xs.length (by omega)
  obtain ⟨i, hi⟩ : ∃ i : Nat, nxt l k xs.length = i := ⟨(nxt l k xs.length).toNat, by omega⟩
  have hil : i < xs.length := by omega
  have hfin : Hid (pickM l k xs = xs.getD i 0) := by show _ = _; unfold pickM; rw [hi]; rfl
  have HI := Lib.hid hi; clear hi hr
  have hcell := hc i hil
  obtain ⟨x, hx⟩ : ∃ x, x = xs.getD i 0 := ⟨_, rfl⟩
  rw [← hx] at hcell
  have HX := Lib.hid hx; clear hx hc
  go_enter Tryz.func22, Tryz.ntmps22
  go_wp2_with (fail)
  refine (next_any l k _ p w hs hk (by omega)).mono ?_
  rintro e w1 ⟨rfl, hs1, hg1⟩
  rw [HI.out]
  have c1 : w1.cell? ⟨g, i, none⟩ = some (.int .i64 x) := hg1.cell hcell (by simp; omega)
  go_wp2_with (fail)
  go_ret
  exact ⟨ret_int (by rw [hfin.out, HX.out]), hs1, hg1⟩
set_option maxRecDepth 100000 in
/-- one of strings whose block is known. -/
theorem one_in (l : List Int) (k : Nat) (xs : List ByteArray) (p g : Nat) (w : World) (hs : StreamAt w p lw l k) (hk : k < 1000000000) (h0 : 0 < xs.length) (h1 : xs.length ≤ 1000) (hg : g ≠ p) (hc : ∀ i, i < xs.length → w.cell? ⟨g, i, none⟩ = some (.string (xs.getD i ⟨#[]⟩))) :
    Calls Tryz.prog 39 #[.pointer (some ⟨p, 0, none⟩), .slice (some ⟨g, 0, none⟩) xs.length xs.length] w
      fun e w' => e = .returned (.string (oneS l k xs)) ∧ StreamAt w' p lw l (k + 1) ∧ w.grownBy w' (some p) := by
  have hr := nxt_range l k xs.length (by omega)
  obtain ⟨i, hi⟩ : ∃ i : Nat, nxt l k xs.length = i := ⟨(nxt l k xs.length).toNat, by omega⟩
  have hil : i < xs.length := by omega
  have hfin : Hid (oneS l k xs = xs.getD i ⟨#[]⟩) := by show _ = _; unfold oneS; rw [hi]; rfl
  have HI := Lib.hid hi; clear hi hr
  have hcell := hc i hil
  obtain ⟨x, hx⟩ : ∃ x, x = xs.getD i ⟨#[]⟩ := ⟨_, rfl⟩
  rw [← hx] at hcell
  have HX := Lib.hid hx; clear hx hc
  go_enter Tryz.func39, Tryz.ntmps39
  go_wp2_with (fail)
  refine (next_any l k _ p w hs hk (by omega)).mono ?_
  rintro e w1 ⟨rfl, hs1, hg1⟩
  rw [HI.out]
  have c1 : w1.cell? ⟨g, i, none⟩ = some (.string x) := hg1.cell hcell (by simp; omega)
  go_wp2_with (fail)
  go_ret
  exact ⟨ret_str (by rw [hfin.out, HX.out]), hs1, hg1⟩
end Go.Proofs.YtdminjijhpemkaaGreatDoor

/-! Package slices at ints: with a function value. -/
namespace Go.Proofs.YtdminjijhpemkaaGreatDoor
open Go.RowKit

/-- A function of the program's own text. -/
def IsFn (F : FuncId) : Prop := ∀ (args : Array Value) (w : World), (callFunc F args).run Tryz.prog w = .ok (.enter F args) w
/-- What is asked of a function value: it answers P of each element, and writes nothing that was there. -/
def Answers (F : FuncId) (caps : Array Value) (P : Int → Bool) (xs : List Int) (w : World) : Prop :=
  ∀ x ∈ xs, ∀ w1, w.grownBy w1 none → Calls Tryz.prog F (#[.int .i64 x] ++ caps) w1 fun e w2 => e = .returned (.bool (P x)) ∧ w1.grownBy w2 none
theorem getD_eq' (l : List Int) (k : Nat) (d : Int) (h : k < l.length) : l.getD k d = l[k] := by
  rw [List.getD_eq_getElem?_getD, List.getElem?_eq_getElem h]; rfl
def findM (P : Int → Bool) (xs : List Int) : Int := if xs.findIdx P < xs.length then (xs.findIdx P : Nat) else -1

set_option maxRecDepth 100000 in
theorem indexFunc_int (F : FuncId) (P : Int → Bool) (xs : List Int) (a : Option Addr) (c : Nat) (w : World) (hc : CellsAt w a (ints xs)) (hl : xs.length ≤ 137438953472) (hE : IsFn F) (hF : Answers F #[] P xs w) :
    Calls Tryz.prog 186 #[.slice a xs.length c, .func (.func F) #[] #[]] w fun e w' => e = .returned (.int .i64 (findM P xs)) ∧ w.grownBy w' none := by
  have HF := Lib.hid hF; clear hF
  have hE' : ∀ (args : Array Value) (w : World), (callFunc F args).run Tryz.prog w = .ok (.enter F args) w := hE
  clear hE
  go_enter Tryz.func186, Tryz.ntmps186
  go_wp2_with (fail)
  go_loopw [8] (fun i wr => ∃ k : Nat, k ≤ xs.length ∧ i = .int .i64 k ∧ (∀ j, j < k → P (xs.getD j 0) = false) ∧ w.grownBy wr none) (fun i _ => xs.length - (intOf i).toNat)
  case atStart => exact ⟨0, Nat.zero_le _, rfl, fun j hj => by omega, gr_refl _ _⟩
  case round =>
    obtain ⟨k, hk, rfl, hno, hgr⟩ := hrel
    obtain ⟨wo, rfl⟩ : ∃ wo : World, wo = wr := ⟨_, rfl⟩
    have HNO := Lib.hid hno; clear hno
    by_cases hlt : k < xs.length
    · obtain ⟨b, off, rfl, d0⟩ := (hc.keep0 hgr) k _ (ints_get xs k hlt)
      have hmem : xs.getD k 0 ∈ xs := by rw [List.getD_eq_getElem?_getD, List.getElem?_eq_getElem hlt]; exact List.getElem_mem hlt
      obtain ⟨x, hx⟩ : ∃ x, x = xs.getD k 0 := ⟨_, rfl⟩
      rw [← hx] at d0 hmem
      have HX := Lib.hid hx; clear hx
      have HM := Lib.hid hmem; clear hmem
      go_wp2_with (fail)
      refine (HF.out x HM.out wo hgr).mono ?_
      rintro e w1 ⟨rfl, hg1⟩
      cases hp : P x with
      | true =>
        have HP := Lib.hid hp; clear hp
        go_wp2_with (fail)
        go_ret
        refine ⟨ret_int ?_, gr_trans hgr hg1⟩
        have : xs.findIdx P = k := by
          rw [List.findIdx_eq hlt]
          refine ⟨by rw [← getD_eq' xs k 0 hlt, ← HX.out]; exact HP.out, fun j hj => ?_⟩
          have := HNO.out j hj
          rwa [getD_eq' xs j 0 (by omega)] at this
        unfold findM
        rw [this, if_pos hlt]
      | false =>
        have HP := Lib.hid hp; clear hp
        go_wp2_with (fail)
        go_roundw
        case rel =>
          refine ⟨k + 1, by omega, by go_num, fun j hj => ?_, gr_trans hgr hg1⟩
          by_cases hjk : j = k
          · subst hjk; rw [← HX.out]; exact HP.out
          · exact HNO.out j (by omega)
        case measure => simp [intOf]; omega
    · have hkl : k = xs.length := by omega
      have HK := Lib.hid hkl; clear hkl
      go_wp2_with (fail)
      go_ret
      refine ⟨ret_int ?_, hgr⟩
      have : ¬ xs.findIdx P < xs.length := by
        rw [List.findIdx_lt_length]
        rintro ⟨y, hy, hpy⟩
        obtain ⟨j, hj, rfl⟩ := List.getElem_of_mem hy
        have := HNO.out j (by rw [HK.out]; exact hj)
        rw [getD_eq' xs j 0 hj] at this
        rw [this] at hpy
        cases hpy
      unfold findM
      rw [if_neg this]

theorem containsFunc_int (F : FuncId) (P : Int → Bool) (xs : List Int) (a : Option Addr) (c : Nat) (w : World) (hc : CellsAt w a (ints xs)) (hl : xs.length ≤ 137438953472) (hE : IsFn F) (hF : Answers F #[] P xs w) :
    Calls Tryz.prog 149 #[.slice a xs.length c, .func (.func F) #[] #[]] w fun e w' => e = .returned (.bool (xs.any P)) ∧ w.grownBy w' none := by
  have hany : xs.any P = decide (0 ≤ findM P xs) := by
    unfold findM
    by_cases h : xs.findIdx P < xs.length
    · rw [if_pos h, List.any_eq_true.2 (List.findIdx_lt_length.1 h)]; simp
    · rw [if_neg h]
      have : xs.any P = false := by
        rw [List.any_eq_false]
        intro x hx hp
        exact h (List.findIdx_lt_length.2 ⟨x, hx, hp⟩)
      rw [this]; rfl
  have HA := Lib.hid hany; clear hany
  go_enter Tryz.func149, Tryz.ntmps149
  go_wp2_with (fail)
  refine (indexFunc_int F P xs a c _ hc hl hE hF).mono ?_
  rintro e w1 ⟨rfl, hg1⟩
  go_wp2_with (fail)
  go_ret
  exact ⟨ret_bool (by rw [HA.out]), hg1⟩
end Go.Proofs.YtdminjijhpemkaaGreatDoor

/-! Rounding of a quotient: the program. -/
namespace Go.Proofs.YtdminjijhpemkaaGreatDoor
open Go.RowKit

set_option maxRecDepth 100000 in
theorem down_any (a b : Int) (w : World) (h0 : 0 ≤ a) (h1 : a ≤ 1000000000000000000) (hb : 0 < b) (hb1 : b ≤ 1000000000000) :
    Calls Tryz.prog 152 #[.int .i64 a, .int .i64 b] w fun e w' => e = .returned (.int .i64 (a / b)) ∧ w = w' := by
  have hz : (b == 0) = false := beq_eq_false_iff_ne.2 (by omega)
  have e1 : a.tdiv b = a / b := Int.tdiv_eq_ediv_of_nonneg h0
  have e2 : a.tmod b = a % b := Int.tmod_eq_emod_of_nonneg h0
  have q0 : 0 ≤ a / b := Int.ediv_nonneg h0 (by omega)
  have q1 : a / b ≤ a := Int.ediv_le_self _ h0
  have r0 : 0 ≤ a % b := Int.emod_nonneg _ (by omega)
  have r1 : a % b < b := Int.emod_lt_of_pos _ hb
  obtain ⟨q, hq⟩ : ∃ q, q = a / b := ⟨_, rfl⟩
  obtain ⟨r, hr⟩ : ∃ r, r = a % b := ⟨_, rfl⟩
  rw [← hq] at e1 q0 q1
  rw [← hr] at e2 r0 r1
  rw [← hq]
  have hd : decide (r < 0) = false := decide_eq_false (by omega)
  clear hq hr
  go_enter Tryz.func152, Tryz.ntmps152
  go_wp2_with (fail)
  go_ret
  exact ⟨rfl, rfl⟩
set_option maxRecDepth 100000 in
theorem even_any (num den : Int) (w : World) (h0 : 0 ≤ num) (h1 : num ≤ 1000000000000000) (hd : 0 < den) (hd1 : den ≤ 1000000000) :
    Calls Tryz.prog 116 #[.int .i64 num, .int .i64 den] w fun e w' => e = .returned (.int .i64 (evenM num den)) ∧ w = w' := by
  have DN := Lib.hid (down_any num den w h0 (by omega) hd (by omega))
  have q0 : 0 ≤ num / den := Int.ediv_nonneg h0 (by omega)
  have q1 : num / den ≤ num := Int.ediv_le_self _ h0
  have p1 : num / den * den ≤ num := Int.ediv_mul_le num (by omega)
  have p2 : num < num / den * den + den := by have := Int.lt_ediv_add_one_mul_self num hd; rw [Int.add_mul, Int.one_mul] at this; exact this
  have p0 : 0 ≤ num / den * den := Int.mul_nonneg q0 (by omega)
  unfold evenM
  obtain ⟨q, hq⟩ : ∃ q, q = num / den := ⟨_, rfl⟩
  rw [← hq] at DN q0 q1 p0 p1 p2
  rw [← hq]
  obtain ⟨p, hp⟩ : ∃ p, q * den = p := ⟨_, rfl⟩
  rw [hp] at p0 p1 p2
  rw [hp]
  have hmod : q.tmod 2 = q % 2 := Int.tmod_eq_emod_of_nonneg q0
  obtain ⟨R, hR⟩ : ∃ R, R = 2 * (num - p) := ⟨_, rfl⟩
  rw [← hR]
  have hR2 : 2 * (num - p) = R := hR.symm
  have hR0 : 0 ≤ R ∧ R ≤ 2000000000 := by omega
  clear hq hR
  by_cases c1 : den < R
  · have HV : Hid ((if den < R ∨ (R = den ∧ ¬ q % 2 = 0) then q + 1 else q) = q + 1) := if_pos (.inl c1)
    rw [HV.out]
    have d1 : decide (den < R) = true := decide_eq_true c1
    clear HV
    go_enter Tryz.func116, Tryz.ntmps116
    go_wp2_with (fail)
    refine DN.out.mono ?_
    rintro e w1 ⟨rfl, rfl⟩
    go_wp2_with (fail)
    go_ret
    exact ⟨rfl, rfl⟩
  · have d1 : decide (den < R) = false := decide_eq_false c1
    by_cases c2 : R = den
    · have d2 : (R == den) = true := beq_iff_eq.2 c2
      by_cases c3 : q % 2 = 0
      · have HV : Hid ((if den < R ∨ (R = den ∧ ¬ q % 2 = 0) then q + 1 else q) = q) := if_neg (fun h => by rcases h with h | h; exact c1 h; exact h.2 c3)
        rw [HV.out]
        have d3 : (q % 2 == 0) = true := beq_iff_eq.2 c3
        have HC2 := Lib.hid c2
        clear HV c2
        go_enter Tryz.func116, Tryz.ntmps116
        go_wp2_with (fail)
        refine DN.out.mono ?_
        rintro e w1 ⟨rfl, rfl⟩
        go_wp2_with (fail)
        go_ret
        exact ⟨rfl, rfl⟩
      · have HV : Hid ((if den < R ∨ (R = den ∧ ¬ q % 2 = 0) then q + 1 else q) = q + 1) := if_pos (.inr ⟨c2, c3⟩)
        rw [HV.out]
        have d3 : (q % 2 == 0) = false := beq_eq_false_iff_ne.2 c3
        have HC2 := Lib.hid c2
        clear HV c2
        go_enter Tryz.func116, Tryz.ntmps116
        go_wp2_with (fail)
        refine DN.out.mono ?_
        rintro e w1 ⟨rfl, rfl⟩
        go_wp2_with (fail)
        go_ret
        exact ⟨rfl, rfl⟩
    · have d2 : (R == den) = false := beq_eq_false_iff_ne.2 c2
      have HV : Hid ((if den < R ∨ (R = den ∧ ¬ q % 2 = 0) then q + 1 else q) = q) := if_neg (fun h => by rcases h with h | h; exact c1 h; exact c2 h.1)
      rw [HV.out]
      clear HV
      go_enter Tryz.func116, Tryz.ntmps116
      go_wp2_with (fail)
      refine DN.out.mono ?_
      rintro e w1 ⟨rfl, rfl⟩
      go_wp2_with (fail)
      go_ret
      exact ⟨rfl, rfl⟩
end Go.Proofs.YtdminjijhpemkaaGreatDoor
