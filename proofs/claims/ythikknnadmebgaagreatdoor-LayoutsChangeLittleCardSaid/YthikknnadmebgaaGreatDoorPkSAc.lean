/- The stream of numbers: its methods, each called once. -/
import Derived.Test.YthikknnadmebgaaGreatDoorPkSAa
import Derived.Test.YthikknnadmebgaaGreatDoorChecked
import Derived.BigQuiet
namespace Go.Proofs.YthikknnadmebgaaGreatDoor
open Go.RowKit
variable {lw : Nat}

/-- Below: the remainder from 0 to n - 1; 0 where n is less than 1. -/
def below (x n : Int) : Int := if n < 1 then 0 else x % n

theorem below_tmod (x n : Int) (h : 1 ≤ n) : (if x.tmod n < 0 then x.tmod n + n else x.tmod n) = below x n := by
  unfold below
  rw [if_neg (show ¬ n < 1 by omega)]
  have h1 := Int.emod_nonneg x (show n ≠ 0 by omega)
  have h2 := Int.emod_lt_of_pos x (show 0 < n by omega)
  have h3 : x.tmod n = x % n - ↑(if 0 ≤ x ∨ n ∣ x then 0 else Int.natAbs n) := Int.tmod_eq_emod
  rw [h3]
  by_cases hc : 0 ≤ x ∨ n ∣ x
  · rw [if_pos hc]; split <;> omega
  · rw [if_neg hc]; split <;> omega

theorem below_any (x n : Int) (w : World) (hn : n ≤ 9223372036854775807) :
    Calls Tryz.prog 38 #[.int .i64 x, .int .i64 n] w fun e w' => e = .returned (.int .i64 (below x n)) ∧ w = w' := by
  by_cases h : n < 1
  · go_enter Tryz.func38, Tryz.ntmps38
    go_wp2
    go_ret
    exact ⟨by simp [below, h], rfl⟩
  · have h1 : 1 ≤ n := by omega
    have H := Lib.hid (below_tmod x n h1)
    have hb : -n < x.tmod n := by have := Int.lt_tmod_of_pos x (show 0 < n by omega); omega
    have hb2 : x.tmod n < n := Int.tmod_lt_of_pos x (by omega)
    go_enter Tryz.func38, Tryz.ntmps38
    go_wp2
    · have hlt : x.tmod n < 0 := by assumption
      go_ret
      exact ⟨ret_int (by rw [← H.out, if_pos hlt]), rfl⟩
    · have hlt : 0 ≤ x.tmod n := by assumption
      go_ret
      exact ⟨ret_int (by rw [← H.out, if_neg (by omega)]), rfl⟩

/-- The stream's variable: block p; what it reads: l; how many numbers it has handed out: k. -/
structure StreamAt (w : World) (p lw : Nat) (l : List Int) (k : Nat) : Prop where
  blk : ∃ a cap, w.heap[p]? = some (.cells #[.slice a l.length cap, .int .i64 k] 25 (0, 0)) ∧ CellsAt w a (l.map (Value.int .i64)) ∧ (0 < l.length → ∀ b off, a = some ⟨b, off, none⟩ → b < lw)
  len : l.length ≤ 9223372036854775807
  low : lw ≤ p

theorem keep_ints {w w1 : World} {a : Option Addr} {l : List Int} {r : Option Nat} (h : CellsAt w a (l.map (Value.int .i64))) (g : w.grownBy w1 r) (hr : 0 < l.length → ∀ b off, a = some ⟨b, off, none⟩ → some b ≠ r) : CellsAt w1 a (l.map (Value.int .i64)) := by
  cases l with
  | nil => exact CellsAt.nil _ _
  | cons x l => exact h.keep g (hr (by simp))
theorem StreamAt.keepNe {w w1 : World} {p k : Nat} {l : List Int} {r : Option Nat} (h : StreamAt w p lw l k) (g : w.grownBy w1 r) (hr : ∀ q, r = some q → p ≠ q ∧ lw ≤ q) : StreamAt w1 p lw l k := by
  obtain ⟨⟨a, cap, hb, hc, hne⟩, hlen, hlow⟩ := h
  refine ⟨⟨a, cap, ?_, keep_ints hc g ?_, hne⟩, hlen, hlow⟩
  · rw [g.block p (lt_of_block hb) (fun e => (hr p e.symm).1 rfl)]; exact hb
  · intro h0 b off ha e
    have := (hr b e.symm).2
    have := hne h0 b off ha
    omega
theorem StreamAt.keep {w w1 : World} {p k : Nat} {l : List Int} {r : Option Nat} (h : StreamAt w p lw l k) (g : w.grownBy w1 r) (hr : ∀ q, r = some q → p < q) : StreamAt w1 p lw l k :=
  h.keepNe g (fun q e => by have := hr q e; have := h.low; omega)
theorem StreamAt.keep0 {w w1 : World} {p k : Nat} {l : List Int} (h : StreamAt w p lw l k) (g : w.grownBy w1 none) : StreamAt w1 p lw l k := h.keep g (fun q e => by cases e)
/-- The stream as a law makes it: its variable is the newest block. -/
theorem StreamAt.made {w : World} {a : Option Addr} {l : List Int} (cap : Nat) (hc : CellsAt w a (l.map (Value.int .i64))) (hl : l.length ≤ 9223372036854775807) :
    StreamAt (w.alloc (.cells #[.slice a l.length cap, .int .i64 0] 25)) w.heap.size w.heap.size l 0 := by
  refine ⟨⟨a, cap, heap_alloc_new w _, hc.alloc _, ?_⟩, hl, Nat.le_refl _⟩
  intro h0 b off ha
  obtain ⟨b', off', he, hcell⟩ := hc 0 _ (by rw [List.getElem?_map, List.getElem?_eq_getElem h0]; rfl)
  rw [ha] at he
  cases he
  exact lt_of_cell hcell
/-- .. and one that is made later, of the same numbers. -/
theorem StreamAt.madeLow {w w1 : World} {a : Option Addr} {l : List Int} (cap : Nat) (g : w.grownBy w1 none) (hc : CellsAt w a (l.map (Value.int .i64))) (hl : l.length ≤ 9223372036854775807) :
    StreamAt (w1.alloc (.cells #[.slice a l.length cap, .int .i64 0] 25)) w1.heap.size w.heap.size l 0 := by
  refine ⟨⟨a, cap, heap_alloc_new w1 _, (hc.keep0 g).alloc _, ?_⟩, hl, g.size⟩
  intro h0 b off ha
  obtain ⟨b', off', he, hcell⟩ := hc 0 _ (by rw [List.getElem?_map, List.getElem?_eq_getElem h0]; rfl)
  rw [ha] at he
  cases he
  exact lt_of_cell hcell
theorem StreamAt.lt {w : World} {p k : Nat} {l : List Int} (h : StreamAt w p lw l k) : p < w.heap.size := by
  obtain ⟨⟨a, cap, hb, _⟩, _, _⟩ := h
  exact lt_of_block hb
theorem StreamAt.step {w : World} {p k : Nat} {l : List Int} (h : StreamAt w p lw l k) (m : Nat) : StreamAt ((w.setCell ⟨p, 1, none⟩ (.int .i64 (k + 1))).drewN m) p lw l (k + 1) ∧ w.grownBy ((w.setCell ⟨p, 1, none⟩ (.int .i64 (k + 1))).drewN m) (some p) := by
  have g : w.grownBy ((w.setCell ⟨p, 1, none⟩ (.int .i64 (k + 1))).drewN m) (some p) := gr_drewN (gr_set (gr_refl _ _) rfl _) _
  refine ⟨?_, g⟩
  obtain ⟨⟨a, cap, hb, hc, hne⟩, hlen, hlow⟩ := h
  refine ⟨⟨a, cap, ?_, keep_ints hc g ?_, hne⟩, hlen, hlow⟩
  · have hlt := lt_of_block hb
    have h' : w.heap[p] = .cells #[.slice a l.length cap, .int .i64 k] 25 (0, 0) := by simpa [Array.getElem?_eq_getElem hlt] using hb
    show (w.heap.modify p _)[p]? = _
    rw [Array.getElem?_eq_getElem (by simpa using hlt), Array.getElem_modify_self, h']
    rfl
  · intro h0 b off ha e
    have := hne h0 b off ha
    cases e
    omega

/-- The number that a stream hands out behind k others. -/
def nxt (l : List Int) (k : Nat) (n : Int) : Int :=
  if l.length = 0 then below ((k + 1 : Nat) * 7919) n
  else below (below (l.getD (k % l.length) 0) 1073741824 + (k / l.length : Nat) * (7919 + (k % l.length : Nat))) n

set_option maxRecDepth 100000 in
theorem next_any (l : List Int) (k : Nat) (n : Int) (p : Nat) (w : World) (hs : StreamAt w p lw l k) (hk : k < 1000000000) (hn : n ≤ 9223372036854775807) :
    Calls Tryz.prog 6 #[.pointer (some ⟨p, 0, none⟩), .int .i64 n] w fun e w' => e = .returned (.int .i64 (nxt l k n)) ∧ StreamAt w' p lw l (k + 1) ∧ w.grownBy w' (some p) := by
  have hs' := hs
  obtain ⟨⟨a, cap, hb, hc, hne⟩, hlen⟩ := hs'
  have c0 : w.cell? ⟨p, 0, none⟩ = some (.slice a l.length cap) := by simp [World.cell?, hb]
  have c1 : w.cell? ⟨p, 1, none⟩ = some (.int .i64 k) := by simp [World.cell?, hb]
  have f1 : w.frozen? ⟨p, 1, none⟩ = false := by simp [World.frozen?, hb]
  have HS := Lib.hid hs
  clear hb hs
  by_cases h0 : l.length = 0
  · have hl : l = [] := List.eq_nil_of_length_eq_zero h0
    subst hl
    go_enter Tryz.func6, Tryz.ntmps6
    go_wp2_with (go_at_call 38; refine (below_any _ _ _ hn).mono ?_; rintro e w' ⟨rfl, rfl⟩)
    go_ret
    exact ⟨ret_int (by simp [nxt]), HS.out.step 0⟩
  · have hpos : 0 < l.length := by omega
    obtain ⟨i, hi⟩ : ∃ i, i = k % l.length := ⟨_, rfl⟩
    obtain ⟨q, hq⟩ : ∃ q, q = k / l.length := ⟨_, rfl⟩
    have hilt : i < l.length := by rw [hi]; exact Nat.mod_lt _ hpos
    have hile : i ≤ k := by rw [hi]; exact Nat.mod_le _ _
    have hqle : q ≤ k := by rw [hq]; exact Nat.div_le_self _ _
    have EI : Hid (((k : Int) % (l.length : Int)) = (i : Int)) := by show _ = _; omega
    have EQ : Hid (((k : Int) / (l.length : Int)) = (q : Int)) := by show _ = _; omega
    have HI := Lib.hid hi; clear hi
    have HQ := Lib.hid hq; clear hq
    obtain ⟨b, off, rfl, hx⟩ := hc i _ (by rw [List.getElem?_map, List.getElem?_eq_getElem hilt]; rfl)
    have hbp : b ≠ p := by have := hne hpos b off rfl; omega
    clear hc hne
    obtain ⟨x, hxe⟩ : ∃ x, x = l[i] := ⟨_, rfl⟩
    rw [← hxe] at hx
    have HX := Lib.hid hxe; clear hxe
    have m1 : (0 : Int) ≤ (q : Int) * (7919 + i) := Int.mul_nonneg (by omega) (by omega)
    have m2 : (q : Int) * (7919 + i) ≤ 1000000000 * 1000007919 := Int.mul_le_mul (by omega) (by omega) (by omega) (by omega)
    have hbl : 0 ≤ below x 1073741824 ∧ below x 1073741824 < 1073741824 := by unfold below; omega
    obtain ⟨y, hy⟩ : ∃ y, y = below x 1073741824 := ⟨_, rfl⟩
    rw [← hy] at hbl
    obtain ⟨hy0, hy1⟩ := hbl
    have HY := Lib.hid hy; clear hy
    have hfin : Hid (below (y + (q : Int) * (7919 + i)) n = nxt l k n) := by
      show _ = _
      unfold nxt
      rw [if_neg h0, HY.out, HX.out, ← HI.out, ← HQ.out, List.getD_eq_getElem?_getD, List.getElem?_eq_getElem hilt]
      rfl
    go_enter Tryz.func6, Tryz.ntmps6
    go_wp2_with (fail)
    go_quiet (fail)
    go_wp2_with (fail)
    rw [EI.out]
    go_quiet (fail)
    go_wp2_with (fail)
    refine (below_any _ _ _ (by omega)).mono ?_
    rintro e w' ⟨rfl, rfl⟩
    rw [← HY.out, EQ.out]
    go_wp2_with (fail)
    refine (below_any _ _ _ (by omega)).mono ?_
    rintro e w' ⟨rfl, rfl⟩
    go_wp2_with (fail)
    go_ret
    exact ⟨ret_int (by rw [IntWalk.wrap64_in (q : Int) (by omega), IntWalk.wrap64_in ((q : Int) * (7919 + i)) (by omega), IntWalk.wrap64_in (y + (q : Int) * (7919 + i)) (by omega), hfin.out]), HS.out.step _⟩
end Go.Proofs.YthikknnadmebgaaGreatDoor

/-! Package base: numbers; the stream's Range. -/
namespace Go.Proofs.YthikknnadmebgaaGreatDoor
open Go.RowKit
variable {lw : Nat}

theorem nxt_range (l : List Int) (k : Nat) (n : Int) (h : 1 ≤ n) : 0 ≤ nxt l k n ∧ nxt l k n < n := by
  have hb : ∀ x, 0 ≤ below x n ∧ below x n < n := by
    intro x
    unfold below
    rw [if_neg (by omega)]
    exact ⟨Int.emod_nonneg x (by omega), Int.emod_lt_of_pos x (by omega)⟩
  unfold nxt
  split <;> exact hb _

/-- The post of a function that only computes: a value, and a world in which nothing but draws has happened. -/
def Pure (v : Value) (w : World) (e : Ending) (w' : World) : Prop := e = .returned v ∧ ∃ n, w' = w.drewN n

/-- base.Out. -/
theorem out_any (n lo hi : Int) (w : World) : Calls Tryz.prog 48 #[.int .i64 n, .int .i64 lo, .int .i64 hi] w fun e w' => e = .returned (.bool (decide (n < lo) || decide (hi < n))) ∧ w = w' := by
  go_enter Tryz.func48, Tryz.ntmps48
  go_wp2
  all_goals (go_ret; exact ⟨rfl, rfl⟩)

theorem range_any (l : List Int) (k : Nat) (lo hi : Int) (p : Nat) (w : World) (hs : StreamAt w p lw l k) (hk : k < 1000000000) (h1 : -1000000 ≤ lo) (h2 : lo ≤ hi) (h3 : hi ≤ 1000000) :
    Calls Tryz.prog 20 #[.pointer (some ⟨p, 0, none⟩), .int .i64 lo, .int .i64 hi] w fun e w' => e = .returned (.int .i64 (lo + nxt l k (hi - lo + 1))) ∧ StreamAt w' p lw l (k + 1) ∧ w.grownBy w' (some p) := by
  go_enter Tryz.func20, Tryz.ntmps20
  have hr := nxt_range l k (hi - lo + 1) (by omega)
  go_wp2_with (go_at_call 6; refine (next_any l k _ p w hs hk (by omega)).mono ?_; rintro e w1 ⟨rfl, hs1, hg1⟩)
  go_ret
  exact ⟨rfl, hs1, hg1⟩

end Go.Proofs.YthikknnadmebgaaGreatDoor

/-! The stream's Pick and Flip. -/
namespace Go.Proofs.YthikknnadmebgaaGreatDoor
open Go.RowKit
variable {lw : Nat}

def pickM (l : List Int) (k : Nat) (xs : List Int) : Int := xs.getD (nxt l k xs.length).toNat 0
theorem pickM_mem (l : List Int) (k : Nat) (xs : List Int) (h : 0 < xs.length) : pickM l k xs ∈ xs := by
  have hr := nxt_range l k xs.length (by omega)
  unfold pickM
  rw [List.getD_eq_getElem?_getD, List.getElem?_eq_getElem (by omega)]
  exact List.getElem_mem _
theorem ints_get (l : List Int) (j : Nat) (h : j < l.length) : (ints l)[j]? = some (.int .i64 (l.getD j 0)) := by
  simp [ints, List.getD_eq_getElem?_getD, List.getElem?_eq_getElem h]
theorem ints_one (l : List Int) : ∀ u ∈ ints l, u.oneCell' = true := ints_oneCell _ _
theorem ints_length (l : List Int) : (ints l).length = l.length := by simp [ints]

set_option maxRecDepth 100000 in
/-- Pick of numbers that were written out: the slice's block is the newest. -/
theorem pick_any (l : List Int) (k : Nat) (xs : List Int) (p : Nat) (W : World) (hs : StreamAt W p lw l k) (hk : k < 1000000000) (h0 : 0 < xs.length) (h1 : xs.length ≤ 1000) :
    Calls Tryz.prog 43 #[.pointer (some ⟨p, 0, none⟩), .slice (some ⟨W.heap.size, 0, none⟩) xs.length xs.length] (W.alloc (.cells (ints xs).toArray 3))
      fun e w' => e = .returned (.int .i64 (pickM l k xs)) ∧ StreamAt w' p lw l (k + 1) ∧ W.grownBy w' (some p) := by
  have hlt := hs.lt
  have hr := nxt_range l k xs.length (by omega)
  obtain ⟨i, hi⟩ : ∃ i : Nat, nxt l k xs.length = i := ⟨(nxt l k xs.length).toNat, by omega⟩
  have hil : i < xs.length := by omega
  have hfin : Hid (pickM l k xs = xs.getD i 0) := by show _ = _; unfold pickM; rw [hi]; rfl
  have HI := Lib.hid hi; clear hi hr
  obtain ⟨x, hx⟩ : ∃ x, x = xs.getD i 0 := ⟨_, rfl⟩
  have HX := Lib.hid hx; clear hx
  obtain ⟨W0, hW0⟩ : ∃ W0, W0 = W.alloc (.cells (ints xs).toArray 3) := ⟨_, rfl⟩
  have hs0 : StreamAt W0 p lw l k := by rw [hW0]; exact hs.keep0 (gr_alloc (gr_refl _ _) _)
  have hcell : W0.cell? ⟨W.heap.size, i, none⟩ = some (.int .i64 x) := by
    rw [hW0, World.cell?_alloc_at _ _ _ _ rfl, HX.out]
    simpa using ints_get xs i hil
  rw [← hW0]
  have hgW : W.grownBy W0 none := by rw [hW0]; exact gr_alloc (gr_refl _ _) _
  clear hW0
  go_enter Tryz.func43, Tryz.ntmps43
  go_wp2_with (fail)
  refine (next_any l k _ p W0 hs0 hk (by omega)).mono ?_
  rintro e w1 ⟨rfl, hs1, hg1⟩
  rw [HI.out]
  have c1 : w1.cell? ⟨W.heap.size, i, none⟩ = some (.int .i64 x) := hg1.cell hcell (by simp; omega)
  go_wp2_with (fail)
  go_ret
  exact ⟨ret_int (by rw [hfin.out, HX.out]), hs1, gr_trans (gr_weak hgW _) hg1⟩

def flipM (l : List Int) (k : Nat) (n : Int) : Bool := nxt l k n == 0
theorem flip_any (l : List Int) (k : Nat) (n : Int) (p : Nat) (w : World) (hs : StreamAt w p lw l k) (hk : k < 1000000000) (hn : n ≤ 9223372036854775807) :
    Calls Tryz.prog 9 #[.pointer (some ⟨p, 0, none⟩), .int .i64 n] w fun e w' => e = .returned (.bool (flipM l k n)) ∧ StreamAt w' p lw l (k + 1) ∧ w.grownBy w' (some p) := by
  go_enter Tryz.func9, Tryz.ntmps9
  go_wp2_with (go_at_call 6; refine (next_any l k _ p w hs hk hn).mono ?_; rintro e w1 ⟨rfl, hs1, hg1⟩)
  go_ret
  exact ⟨rfl, hs1, hg1⟩

/-! The stream's choice among strings. -/
variable {lw : Nat}

theorem ret_str {a b : ByteArray} (h : a = b) : Ending.returned (.string a) = .returned (.string b) := by rw [h]
def strs (l : List ByteArray) : List Value := l.map Value.string
theorem strs_get (l : List ByteArray) (j : Nat) (h : j < l.length) : (strs l)[j]? = some (.string (l.getD j ⟨#[]⟩)) := by
  simp [strs, List.getD_eq_getElem?_getD, List.getElem?_eq_getElem h]
theorem strs_one (l : List ByteArray) : ∀ u ∈ strs l, u.oneCell' = true := by
  intro u hu
  simp only [strs, List.mem_map] at hu
  obtain ⟨x, _, rfl⟩ := hu
  rfl
theorem strs_length (l : List ByteArray) : (strs l).length = l.length := by simp [strs]
def oneS (l : List Int) (k : Nat) (xs : List ByteArray) : ByteArray := xs.getD (nxt l k xs.length).toNat ⟨#[]⟩
theorem oneS_mem (l : List Int) (k : Nat) (xs : List ByteArray) (h : 0 < xs.length) : oneS l k xs ∈ xs := by
  have hr := nxt_range l k xs.length (by omega)
  unfold oneS
  rw [List.getD_eq_getElem?_getD, List.getElem?_eq_getElem (by omega)]
  exact List.getElem_mem _

set_option maxRecDepth 100000 in
/-- one of strings that were written out: the slice's block is the newest. -/
theorem one_any (l : List Int) (k : Nat) (xs : List ByteArray) (p : Nat) (W : World) (hs : StreamAt W p lw l k) (hk : k < 1000000000) (h0 : 0 < xs.length) (h1 : xs.length ≤ 1000) :
    Calls Tryz.prog 42 #[.pointer (some ⟨p, 0, none⟩), .slice (some ⟨W.heap.size, 0, none⟩) xs.length xs.length] (W.alloc (.cells (strs xs).toArray 9))
      fun e w' => e = .returned (.string (oneS l k xs)) ∧ StreamAt w' p lw l (k + 1) ∧ W.grownBy w' (some p) := by
  have hlt := hs.lt
  have hr := nxt_range l k xs.length (by omega)
  obtain ⟨i, hi⟩ : ∃ i : Nat, nxt l k xs.length = i := ⟨(nxt l k xs.length).toNat, by omega⟩
  have hil : i < xs.length := by omega
  have hfin : Hid (oneS l k xs = xs.getD i ⟨#[]⟩) := by show _ = _; unfold oneS; rw [hi]; rfl
  have HI := Lib.hid hi; clear hi hr
  obtain ⟨x, hx⟩ : ∃ x, x = xs.getD i ⟨#[]⟩ := ⟨_, rfl⟩
  have HX := Lib.hid hx; clear hx
  obtain ⟨W0, hW0⟩ : ∃ W0, W0 = W.alloc (.cells (strs xs).toArray 9) := ⟨_, rfl⟩
  have hs0 : StreamAt W0 p lw l k := by rw [hW0]; exact hs.keep0 (gr_alloc (gr_refl _ _) _)
  have hcell : W0.cell? ⟨W.heap.size, i, none⟩ = some (.string x) := by
    rw [hW0, World.cell?_alloc_at _ _ _ _ rfl, HX.out]
    simpa using strs_get xs i hil
  rw [← hW0]
  have hgW : W.grownBy W0 none := by rw [hW0]; exact gr_alloc (gr_refl _ _) _
  clear hW0
  go_enter Tryz.func42, Tryz.ntmps42
  go_wp2_with (fail)
  refine (next_any l k _ p W0 hs0 hk (by omega)).mono ?_
  rintro e w1 ⟨rfl, hs1, hg1⟩
  rw [HI.out]
  have c1 : w1.cell? ⟨W.heap.size, i, none⟩ = some (.string x) := hg1.cell hcell (by simp; omega)
  go_wp2_with (fail)
  go_ret
  exact ⟨ret_str (by rw [hfin.out, HX.out]), hs1, gr_trans (gr_weak hgW _) hg1⟩

set_option maxRecDepth 100000 in
/-- Pick of numbers whose block is known. -/
theorem pick_in (l : List Int) (k : Nat) (xs : List Int) (p g : Nat) (w : World) (hs : StreamAt w p lw l k) (hk : k < 1000000000) (h0 : 0 < xs.length) (h1 : xs.length ≤ 1000) (hg : g ≠ p) (hc : ∀ i, i < xs.length → w.cell? ⟨g, i, none⟩ = some (.int .i64 (xs.getD i 0))) :
    Calls Tryz.prog 43 #[.pointer (some ⟨p, 0, none⟩), .slice (some ⟨g, 0, none⟩) xs.length xs.length] w
      fun e w' => e = .returned (.int .i64 (pickM l k xs)) ∧ StreamAt w' p lw l (k + 1) ∧ w.grownBy w' (some p) := by
  have hr := nxt_range l k xs.length (by omega)
  obtain ⟨i, hi⟩ : ∃ i : Nat, nxt l k xs.length = i := ⟨(nxt l k xs.length).toNat, by omega⟩
  have hil : i < xs.length := by omega
  have hfin : Hid (pickM l k xs = xs.getD i 0) := by show _ = _; unfold pickM; rw [hi]; rfl
  have HI := Lib.hid hi; clear hi hr
  have hcell := hc i hil
  obtain ⟨x, hx⟩ : ∃ x, x = xs.getD i 0 := ⟨_, rfl⟩
  rw [← hx] at hcell
  have HX := Lib.hid hx; clear hx hc
  go_enter Tryz.func43, Tryz.ntmps43
  go_wp2_with (fail)
  refine (next_any l k _ p w hs hk (by omega)).mono ?_
  rintro e w1 ⟨rfl, hs1, hg1⟩
  rw [HI.out]
  have c1 : w1.cell? ⟨g, i, none⟩ = some (.int .i64 x) := hg1.cell hcell (by simp; omega)
  go_wp2_with (fail)
  go_ret
  exact ⟨ret_int (by rw [hfin.out, HX.out]), hs1, hg1⟩
set_option maxRecDepth 100000 in
/-- one of strings whose block is known. -/
theorem one_in (l : List Int) (k : Nat) (xs : List ByteArray) (p g : Nat) (w : World) (hs : StreamAt w p lw l k) (hk : k < 1000000000) (h0 : 0 < xs.length) (h1 : xs.length ≤ 1000) (hg : g ≠ p) (hc : ∀ i, i < xs.length → w.cell? ⟨g, i, none⟩ = some (.string (xs.getD i ⟨#[]⟩))) :
    Calls Tryz.prog 42 #[.pointer (some ⟨p, 0, none⟩), .slice (some ⟨g, 0, none⟩) xs.length xs.length] w
      fun e w' => e = .returned (.string (oneS l k xs)) ∧ StreamAt w' p lw l (k + 1) ∧ w.grownBy w' (some p) := by
  have hr := nxt_range l k xs.length (by omega)
  obtain ⟨i, hi⟩ : ∃ i : Nat, nxt l k xs.length = i := ⟨(nxt l k xs.length).toNat, by omega⟩
  have hil : i < xs.length := by omega
  have hfin : Hid (oneS l k xs = xs.getD i ⟨#[]⟩) := by show _ = _; unfold oneS; rw [hi]; rfl
  have HI := Lib.hid hi; clear hi hr
  have hcell := hc i hil
  obtain ⟨x, hx⟩ : ∃ x, x = xs.getD i ⟨#[]⟩ := ⟨_, rfl⟩
  rw [← hx] at hcell
  have HX := Lib.hid hx; clear hx hc
  go_enter Tryz.func42, Tryz.ntmps42
  go_wp2_with (fail)
  refine (next_any l k _ p w hs hk (by omega)).mono ?_
  rintro e w1 ⟨rfl, hs1, hg1⟩
  rw [HI.out]
  have c1 : w1.cell? ⟨g, i, none⟩ = some (.string x) := hg1.cell hcell (by simp; omega)
  go_wp2_with (fail)
  go_ret
  exact ⟨ret_str (by rw [hfin.out, HX.out]), hs1, hg1⟩
end Go.Proofs.YthikknnadmebgaaGreatDoor

/-! Package slices at ints: with a function value. -/
namespace Go.Proofs.YthikknnadmebgaaGreatDoor
open Go.RowKit

/-- A function of the program's own text. -/
def IsFn (F : FuncId) : Prop := ∀ (args : Array Value) (w : World), (callFunc F args).run Tryz.prog w = .ok (.enter F args) w
/-- What is asked of a function value: it answers P of each element, and writes nothing that was there. -/
def Answers (F : FuncId) (caps : Array Value) (P : Int → Bool) (xs : List Int) (w : World) : Prop :=
  ∀ x ∈ xs, ∀ w1, w.grownBy w1 none → Calls Tryz.prog F (#[.int .i64 x] ++ caps) w1 fun e w2 => e = .returned (.bool (P x)) ∧ w1.grownBy w2 none
theorem getD_eq' (l : List Int) (k : Nat) (d : Int) (h : k < l.length) : l.getD k d = l[k] := by
  rw [List.getD_eq_getElem?_getD, List.getElem?_eq_getElem h]; rfl
def findM (P : Int → Bool) (xs : List Int) : Int := if xs.findIdx P < xs.length then (xs.findIdx P : Nat) else -1

set_option maxRecDepth 100000 in
theorem indexFunc_int (F : FuncId) (P : Int → Bool) (xs : List Int) (a : Option Addr) (c : Nat) (w : World) (hc : CellsAt w a (ints xs)) (hl : xs.length ≤ 137438953472) (hE : IsFn F) (hF : Answers F #[] P xs w) :
    Calls Tryz.prog 146 #[.slice a xs.length c, .func (.func F) #[] #[]] w fun e w' => e = .returned (.int .i64 (findM P xs)) ∧ w.grownBy w' none := by
  have HF := Lib.hid hF; clear hF
  have hE' : ∀ (args : Array Value) (w : World), (callFunc F args).run Tryz.prog w = .ok (.enter F args) w := hE
  clear hE
  go_enter Tryz.func146, Tryz.ntmps146
  go_wp2_with (fail)
  go_loopw [8] (fun i wr => ∃ k : Nat, k ≤ xs.length ∧ i = .int .i64 k ∧ (∀ j, j < k → P (xs.getD j 0) = false) ∧ w.grownBy wr none) (fun i _ => xs.length - (intOf i).toNat)
  case atStart => exact ⟨0, Nat.zero_le _, rfl, fun j hj => by omega, gr_refl _ _⟩
  case round =>
    obtain ⟨k, hk, rfl, hno, hgr⟩ := hrel
    obtain ⟨wo, rfl⟩ : ∃ wo : World, wo = wr := ⟨_, rfl⟩
    have HNO := Lib.hid hno; clear hno
    by_cases hlt : k < xs.length
    · obtain ⟨b, off, rfl, d0⟩ := (hc.keep0 hgr) k _ (ints_get xs k hlt)
      have hmem : xs.getD k 0 ∈ xs := by rw [List.getD_eq_getElem?_getD, List.getElem?_eq_getElem hlt]; exact List.getElem_mem hlt
      obtain ⟨x, hx⟩ : ∃ x, x = xs.getD k 0 := ⟨_, rfl⟩
      rw [← hx] at d0 hmem
      have HX := Lib.hid hx; clear hx
      have HM := Lib.hid hmem; clear hmem
      go_wp2_with (fail)
      refine (HF.out x HM.out wo hgr).mono ?_
      rintro e w1 ⟨rfl, hg1⟩
      cases hp : P x with
      | true =>
        have HP := Lib.hid hp; clear hp
        go_wp2_with (fail)
        go_ret
        refine ⟨ret_int ?_, gr_trans hgr hg1⟩
        have : xs.findIdx P = k := by
          rw [List.findIdx_eq hlt]
          refine ⟨by rw [← getD_eq' xs k 0 hlt, ← HX.out]; exact HP.out, fun j hj => ?_⟩
          have := HNO.out j hj
          rwa [getD_eq' xs j 0 (by omega)] at this
        unfold findM
        rw [this, if_pos hlt]
      | false =>
        have HP := Lib.hid hp; clear hp
        go_wp2_with (fail)
        go_roundw
        case rel =>
          refine ⟨k + 1, by omega, by go_num, fun j hj => ?_, gr_trans hgr hg1⟩
          by_cases hjk : j = k
          · subst hjk; rw [← HX.out]; exact HP.out
          · exact HNO.out j (by omega)
        case measure => simp [intOf]; omega
    · have hkl : k = xs.length := by omega
      have HK := Lib.hid hkl; clear hkl
      go_wp2_with (fail)
      go_ret
      refine ⟨ret_int ?_, hgr⟩
      have : ¬ xs.findIdx P < xs.length := by
        rw [List.findIdx_lt_length]
        rintro ⟨y, hy, hpy⟩
        obtain ⟨j, hj, rfl⟩ := List.getElem_of_mem hy
        have := HNO.out j (by rw [HK.out]; exact hj)
        rw [getD_eq' xs j 0 hj] at this
        rw [this] at hpy
        cases hpy
      unfold findM
      rw [if_neg this]

theorem containsFunc_int (F : FuncId) (P : Int → Bool) (xs : List Int) (a : Option Addr) (c : Nat) (w : World) (hc : CellsAt w a (ints xs)) (hl : xs.length ≤ 137438953472) (hE : IsFn F) (hF : Answers F #[] P xs w) :
    Calls Tryz.prog 102 #[.slice a xs.length c, .func (.func F) #[] #[]] w fun e w' => e = .returned (.bool (xs.any P)) ∧ w.grownBy w' none := by
  have hany : xs.any P = decide (0 ≤ findM P xs) := by
    unfold findM
    by_cases h : xs.findIdx P < xs.length
    · rw [if_pos h, List.any_eq_true.2 (List.findIdx_lt_length.1 h)]; simp
    · rw [if_neg h]
      have : xs.any P = false := by
        rw [List.any_eq_false]
        intro x hx hp
        exact h (List.findIdx_lt_length.2 ⟨x, hx, hp⟩)
      rw [this]; rfl
  have HA := Lib.hid hany; clear hany
  go_enter Tryz.func102, Tryz.ntmps102
  go_wp2_with (fail)
  refine (indexFunc_int F P xs a c _ hc hl hE hF).mono ?_
  rintro e w1 ⟨rfl, hg1⟩
  go_wp2_with (fail)
  go_ret
  exact ⟨ret_bool (by rw [HA.out]), hg1⟩
end Go.Proofs.YthikknnadmebgaaGreatDoor

/-! What is free of units that are sorted from the dearest on: plain laws. -/
namespace Go.Proofs.YthikknnadmebgaaGreatDoor

def freeSum (m f : Nat) (u : List Int) : Int :=
  if _h : 0 < m ∧ m ≤ u.length then ((u.take m).drop (m - f)).sum + freeSum m f (u.drop m) else 0
termination_by u.length
decreasing_by simp only [List.length_drop]; omega
theorem freeSum_more {m f : Nat} {u : List Int} (h0 : 0 < m) (h : m ≤ u.length) : freeSum m f u = ((u.take m).drop (m - f)).sum + freeSum m f (u.drop m) := by
  rw [freeSum, dif_pos ⟨h0, h⟩]
theorem freeSum_end {m f : Nat} {u : List Int} (h : u.length < m) : freeSum m f u = 0 := by
  rw [freeSum, dif_neg (by omega)]
theorem sum_nonneg {u : List Int} (h : ∀ x ∈ u, 0 ≤ x) : 0 ≤ u.sum := by
  induction u with
  | nil => simp
  | cons x u ih =>
    have := h x (by simp)
    have := ih (fun y hy => h y (by simp [hy]))
    simp only [List.sum_cons]; omega
theorem sum_take_drop (u : List Int) (n : Nat) : u.sum = (u.take n).sum + (u.drop n).sum := by
  rw [← List.sum_append, List.take_append_drop]
theorem freeSum_bd (m f : Nat) : ∀ (n : Nat) (u : List Int), u.length = n → (∀ x ∈ u, 0 ≤ x) → 0 ≤ freeSum m f u ∧ freeSum m f u ≤ u.sum := by
  intro n
  induction n using Nat.strongRecOn with
  | _ n ih =>
    intro u hn h
    by_cases hm : 0 < m ∧ m ≤ u.length
    · rw [freeSum_more hm.1 hm.2]
      have h1 := ih (u.drop m).length (by simp; omega) (u.drop m) rfl (fun x hx => h x (List.mem_of_mem_drop hx))
      have h2 : 0 ≤ ((u.take m).drop (m - f)).sum := sum_nonneg (fun x hx => h x (List.mem_of_mem_take (List.mem_of_mem_drop hx)))
      have h3 : 0 ≤ ((u.take m).take (m - f)).sum := sum_nonneg (fun x hx => h x (List.mem_of_mem_take (List.mem_of_mem_take hx)))
      have h4 := sum_take_drop (u.take m) (m - f)
      have h5 := sum_take_drop u m
      omega
    · rw [freeSum, dif_neg hm]
      exact ⟨Int.le_refl _, sum_nonneg h⟩
def Desc (u : List Int) : Prop := u.Pairwise (fun a b => b ≤ a)
theorem last_one (L : List Int) (m : Nat) (h0 : 0 < m) (h : m ≤ L.length) : ((L.take m).drop (m - 1)).sum = L.getD (m - 1) 0 := by
  have h1 : (L.take m).drop (m - 1) = [L[m - 1]] := by
    rw [List.drop_take, show m - (m - 1) = 1 by omega]
    rw [List.drop_eq_getElem_cons (by omega : m - 1 < L.length)]
    rfl
  rw [h1]
  simp only [List.sum_cons, List.sum_nil, Int.add_zero]
  rw [List.getD_eq_getElem?_getD, List.getElem?_eq_getElem (by omega)]; rfl
/-- A further unit costs no less than what is free for it. -/
theorem free_ins (m : Nat) (h0 : 0 < m) : ∀ (n : Nat) (a b : List Int) (x : Int), (a ++ b).length = n → Desc (a ++ x :: b) → 0 ≤ x → (∀ z ∈ a ++ b, 0 ≤ z) → freeSum m 1 (a ++ x :: b) ≤ freeSum m 1 (a ++ b) + x := by
  intro n
  induction n using Nat.strongRecOn with
  | _ n ih =>
    intro a b x hn hd hx hz
    have hl : (a ++ x :: b).length = n + 1 := by simp at hn ⊢; omega
    by_cases h1 : n + 1 < m
    · rw [freeSum_end (by omega), freeSum_end (by omega)]; omega
    · by_cases ha : m ≤ a.length
      · have e1 : (a ++ x :: b).take m = (a ++ b).take m := by
          rw [List.take_append_of_le_length ha, List.take_append_of_le_length ha]
        have e2 : (a ++ x :: b).drop m = a.drop m ++ x :: b := List.drop_append_of_le_length ha
        have e3 : (a ++ b).drop m = a.drop m ++ b := List.drop_append_of_le_length ha
        have hna : m ≤ (a ++ b).length := by simp; omega
        rw [freeSum_more h0 (by omega), freeSum_more h0 hna, e1, e2, e3]
        have := ih (a.drop m ++ b).length (by rw [← e3, List.length_drop]; omega) (a.drop m) b x rfl (by rw [← e2]; exact hd.sublist (List.drop_sublist _ _)) hx (fun z hz' => hz z (by rw [← e3] at hz'; exact List.mem_of_mem_drop hz'))
        omega
      · -- the last one of the first set is at most x
        have hlast : (a ++ x :: b).getD (m - 1) 0 ≤ x := by
          have hi : m - 1 < (a ++ x :: b).length := by omega
          rw [List.getD_eq_getElem?_getD, List.getElem?_eq_getElem hi]
          show (a ++ x :: b)[m - 1] ≤ x
          by_cases he : m - 1 = a.length
          · have : (a ++ x :: b)[m - 1] = x := by
              simp only [he]; simp
            omega
          · have hp := (List.pairwise_iff_getElem.1 hd) a.length (m - 1) (by simp) hi (by omega)
            have e : (a ++ x :: b)[a.length]'(by simp) = x := by simp
            rw [e] at hp; exact hp
        rw [freeSum_more h0 (by omega), last_one _ m h0 (by omega)]
        by_cases h2 : n < m
        · have e : (a ++ x :: b).drop m = [] := List.drop_eq_nil_of_le (by omega)
          rw [e, freeSum_end (u := []) (by simp; omega), freeSum_end (u := a ++ b) (by omega)]
          omega
        · have hm : m ≤ (a ++ b).length := by omega
          have e1 : (a ++ x :: b).drop m = (a ++ b).drop (m - 1) := by
            rw [List.drop_append, List.drop_append, List.drop_eq_nil_of_le (by omega : a.length ≤ m), List.nil_append, List.drop_eq_nil_of_le (by omega : a.length ≤ m - 1), List.nil_append]
            rw [show m - a.length = (m - 1 - a.length) + 1 by omega]
            rfl
          have e2 : (a ++ b).drop (m - 1) = (a ++ b)[m - 1] :: (a ++ b).drop m := by
            rw [List.drop_eq_getElem_cons (by omega : m - 1 < (a ++ b).length), show m - 1 + 1 = m by omega]
          rw [freeSum_more (u := a ++ b) h0 hm, last_one _ m h0 hm, e1, e2]
          have e3 : (a ++ b).getD (m - 1) 0 = (a ++ b)[m - 1] := by rw [List.getD_eq_getElem?_getD, List.getElem?_eq_getElem (by omega)]; rfl
          rw [e3]
          have hy : 0 ≤ (a ++ b)[m - 1] := hz _ (List.getElem_mem _)
          have hab : Desc (a ++ b) := hd.sublist (by simp)
          have hq := ih ((a ++ b).drop m).length (by rw [List.length_drop]; omega) [] ((a ++ b).drop m) (a ++ b)[m - 1] rfl (by rw [List.nil_append, ← e2]; exact hab.sublist (List.drop_sublist _ _)) hy (fun z hz' => hz z (List.mem_of_mem_drop hz'))
          simp only [List.nil_append] at hq
          omega
theorem desc_perm {u v : List Int} (hu : Desc u) (hv : Desc v) (h : u.Perm v) : u = v :=
  h.eq_of_pairwise (fun _ _ _ _ h1 h2 => Int.le_antisymm h2 h1) hu hv
theorem free_unit (m : Nat) (h0 : 0 < m) (u v : List Int) (x : Int) (hu : Desc u) (hv : Desc v) (h : v.Perm (x :: u)) (hn : ∀ z ∈ v, 0 ≤ z) : freeSum m 1 v ≤ freeSum m 1 u + x := by
  have hx : x ∈ v := h.mem_iff.2 (by simp)
  obtain ⟨a, b, rfl⟩ := List.append_of_mem hx
  have hp : (a ++ b).Perm u := by
    have h1 : (x :: (a ++ b)).Perm (a ++ x :: b) := List.perm_middle.symm
    exact (List.perm_cons x).1 (h1.trans h)
  have e := desc_perm (hv.sublist (by simp)) hu hp
  rw [← e]
  exact free_ins m h0 _ a b x rfl hv (hn x hx) (fun z hz => hn z (by simp at hz ⊢; rcases hz with hz | hz <;> simp [hz]))
end Go.Proofs.YthikknnadmebgaaGreatDoor

/-! What a basket costs, and that deals never make it dearer: plain laws, no program in sight. -/
namespace Go.Proofs.YthikknnadmebgaaGreatDoor

/-- An item of a basket: its price, its group, how many. -/
structure Itm where
  price : Int
  group : ByteArray
  many : Int
def dlSame (a b : ByteArray) : Bool := a.toList == b.toList
def dlTot (I : List Itm) : Int := (I.map fun x => x.price * x.many).sum
def dlUn (g : ByteArray) (I : List Itm) : List Int := I.flatMap fun x => if dlSame x.group g then List.replicate x.many.toNat x.price else []
def sortD (u : List Int) : List Int := u.mergeSort (fun a b => decide (b ≤ a))
theorem sortD_perm (u : List Int) : (sortD u).Perm u := List.mergeSort_perm _ _
theorem sortD_desc (u : List Int) : Desc (sortD u) := by
  have h := List.pairwise_mergeSort (le := fun (a b : Int) => decide (b ≤ a)) (fun a b c h1 h2 => by simp at *; omega) (fun a b => by simp; omega) u
  exact h.imp (fun hab => by simpa using hab)
theorem sortD_of {u O : List Int} (hp : O.Perm u) (hd : Desc O) : O = sortD u := desc_perm hd (sortD_desc u) (hp.trans (sortD_perm u).symm)
/-- A deal, as the price sees it. -/
structure Dl where
  group : ByteArray
  many : Nat
  free : Nat
def dlFree (I : List Itm) (d : Dl) : Int := freeSum d.many d.free (sortD (dlUn d.group I))
def dlOff (I : List Itm) (D : List Dl) : Int := (D.map (dlFree I)).sum
structure ItOk (I : List Itm) : Prop where
  price : ∀ x ∈ I, 0 ≤ x.price
  many : ∀ x ∈ I, 0 ≤ x.many
def DlOk (D : List Dl) : Prop := D.Pairwise (fun a b => dlSame a.group b.group = false)
theorem ItOk.tail {x : Itm} {I : List Itm} (h : ItOk (x :: I)) : ItOk I := ⟨fun y hy => h.price y (by simp [hy]), fun y hy => h.many y (by simp [hy])⟩
theorem dlUn_pos {I : List Itm} (h : ItOk I) (g : ByteArray) : ∀ z ∈ dlUn g I, 0 ≤ z := by
  intro z hz
  simp only [dlUn, List.mem_flatMap] at hz
  obtain ⟨x, hx, hz⟩ := hz
  split at hz
  · have := (List.mem_replicate.1 hz).2
    subst this
    exact h.price x hx
  · cases hz
theorem rep_sum (n : Nat) (c : Int) : (List.replicate n c).sum = c * n := by
  induction n with
  | zero => simp
  | succ n ih => rw [List.replicate_succ, List.sum_cons, ih]; push_cast; rw [Int.mul_add]; omega
theorem dlUn_cons (g : ByteArray) (x : Itm) (I : List Itm) (h : 0 ≤ x.many) : (dlUn g (x :: I)).sum = (if dlSame x.group g then x.price * x.many else 0) + (dlUn g I).sum := by
  have e : dlUn g (x :: I) = (if dlSame x.group g then List.replicate x.many.toNat x.price else []) ++ dlUn g I := by simp [dlUn]
  rw [e, List.sum_append]
  split
  · rw [rep_sum]
    rw [show ((x.many.toNat : Nat) : Int) = x.many by omega]
  · rfl
theorem dlSame_trans {a b c : ByteArray} (h1 : dlSame a b = true) (h2 : dlSame a c = true) : dlSame b c = true := by
  simp only [dlSame, beq_iff_eq] at *
  rw [← h1, h2]
theorem sum_zero (L : List Int) (h : ∀ x ∈ L, x = 0) : L.sum = 0 := by
  induction L with
  | nil => rfl
  | cons y L ih => rw [List.sum_cons, h y (by simp), ih (fun x hx => h x (by simp [hx]))]; rfl
theorem perm_sumI {u v : List Int} (h : u.Perm v) : u.sum = v.sum := by
  induction h with
  | nil => rfl
  | cons x _ ih => simp [ih]
  | swap x y l => simp; omega
  | trans _ _ ih1 ih2 => exact ih1.trans ih2
/-- At most one deal is of a group. -/
theorem oneHit (D : List Dl) (hD : DlOk D) (g : ByteArray) (c : Int) (hc : 0 ≤ c) : (D.map fun d => if dlSame g d.group then c else 0).sum ≤ c := by
  induction D with
  | nil => simpa using hc
  | cons d D ih =>
    have hd := List.pairwise_cons.1 hD
    by_cases h : dlSame g d.group = true
    · have h0 : (D.map fun d => if dlSame g d.group then c else 0).sum = 0 := by
        have : ∀ x ∈ D.map (fun d => if dlSame g d.group then c else 0), x = 0 := by
          intro x hx
          obtain ⟨y, hy, rfl⟩ := List.mem_map.1 hx
          have h1 := hd.1 y hy
          rw [if_neg]
          intro h2
          rw [dlSame_trans h h2] at h1
          cases h1
        exact sum_zero _ this
      rw [List.map_cons, List.sum_cons, h0, if_pos h]
      omega
    · rw [List.map_cons, List.sum_cons, if_neg h]
      have := ih hd.2
      omega
theorem map_sum_le {α : Type} (D : List α) (f g : α → Int) (h : ∀ d ∈ D, f d ≤ g d) : (D.map f).sum ≤ (D.map g).sum := by
  induction D with
  | nil => exact Int.le_refl _
  | cons d D ih =>
    rw [List.map_cons, List.sum_cons, List.map_cons, List.sum_cons]
    have := h d (by simp)
    have := ih (fun x hx => h x (by simp [hx]))
    omega
theorem map_sum_add {α : Type} (D : List α) (f g : α → Int) : (D.map fun d => f d + g d).sum = (D.map f).sum + (D.map g).sum := by
  induction D with
  | nil => rfl
  | cons d D ih =>
    rw [List.map_cons, List.sum_cons, List.map_cons, List.sum_cons, List.map_cons, List.sum_cons, ih]
    omega
theorem units_tot (D : List Dl) (hD : DlOk D) (I : List Itm) (hI : ItOk I) : (D.map fun d => (dlUn d.group I).sum).sum ≤ dlTot I := by
  induction I with
  | nil =>
    have : (D.map fun d => (dlUn d.group []).sum).sum = 0 := by
      clear hD
      induction D with
      | nil => rfl
      | cons d D ih => rw [List.map_cons, List.sum_cons, ih]; rfl
    rw [this]
    exact Int.le_refl _
  | cons x I ih =>
    have h1 := ih hI.tail
    have hx := hI.many x (by simp)
    have hp := hI.price x (by simp)
    have e : (D.map fun d => (dlUn d.group (x :: I)).sum) = D.map fun d => (if dlSame x.group d.group then x.price * x.many else 0) + (dlUn d.group I).sum := by
      apply List.map_congr_left
      intro d _
      exact dlUn_cons d.group x I hx
    rw [e, map_sum_add]
    have h2 := oneHit D hD x.group (x.price * x.many) (Int.mul_nonneg hp hx)
    have h3 : dlTot (x :: I) = x.price * x.many + dlTot I := by simp [dlTot]
    omega
theorem dlFree_bd (I : List Itm) (hI : ItOk I) (d : Dl) : 0 ≤ dlFree I d ∧ dlFree I d ≤ (dlUn d.group I).sum := by
  have h := freeSum_bd d.many d.free _ (sortD (dlUn d.group I)) rfl (fun x hx => dlUn_pos hI d.group x ((sortD_perm _).mem_iff.1 hx))
  have e : (sortD (dlUn d.group I)).sum = (dlUn d.group I).sum := perm_sumI (sortD_perm _)
  unfold dlFree
  omega
theorem dlOff_bd (I : List Itm) (hI : ItOk I) (D : List Dl) (hD : DlOk D) : 0 ≤ dlOff I D ∧ dlOff I D ≤ dlTot I := by
  constructor
  · unfold dlOff
    have := map_sum_le D (fun _ => 0) (dlFree I) (fun d _ => (dlFree_bd I hI d).1)
    have e : (D.map fun _ => (0 : Int)).sum = 0 := by
      clear hD this
      induction D with
      | nil => rfl
      | cons d D ih => rw [List.map_cons, List.sum_cons, ih]; rfl
    omega
  · have h1 := map_sum_le D (dlFree I) (fun d => (dlUn d.group I).sum) (fun d _ => (dlFree_bd I hI d).2)
    have h2 := units_tot D hD I hI
    unfold dlOff
    omega
/-- One more of an item. -/
def dlMore (I : List Itm) (i : Nat) : List Itm := I.take i ++ (match I[i]? with | some x => [⟨x.price, x.group, x.many + 1⟩] | none => []) ++ I.drop (i + 1)
theorem more_cons (x : Itm) (I : List Itm) (i : Nat) : dlMore (x :: I) (i + 1) = x :: dlMore I i := by simp [dlMore]
theorem more_zero (x : Itm) (I : List Itm) : dlMore (x :: I) 0 = ⟨x.price, x.group, x.many + 1⟩ :: I := by simp [dlMore]
theorem more_tot (I : List Itm) (i : Nat) (h : i < I.length) : dlTot (dlMore I i) = dlTot I + I[i].price := by
  induction I generalizing i with
  | nil => cases h
  | cons x I ih =>
    cases i with
    | zero =>
      rw [more_zero]
      simp only [dlTot, List.map_cons, List.sum_cons, List.getElem_cons_zero]
      rw [Int.mul_add]
      omega
    | succ i =>
      have := ih i (by simpa using h)
      rw [more_cons]
      simp only [dlTot, List.map_cons, List.sum_cons, List.getElem_cons_succ] at this ⊢
      omega
theorem more_un (I : List Itm) (hI : ItOk I) (i : Nat) (h : i < I.length) (g : ByteArray) : (dlUn g (dlMore I i)).Perm (if dlSame I[i].group g then I[i].price :: dlUn g I else dlUn g I) := by
  induction I generalizing i with
  | nil => cases h
  | cons x I ih =>
    have hx := hI.many x (by simp)
    cases i with
    | zero =>
      rw [more_zero]
      have e : ∀ y : Itm, dlUn g (y :: I) = (if dlSame y.group g then List.replicate y.many.toNat y.price else []) ++ dlUn g I := fun y => by simp [dlUn]
      rw [e, e]
      show List.Perm ((if dlSame x.group g then List.replicate (x.many + 1).toNat x.price else []) ++ dlUn g I) (if dlSame x.group g then x.price :: ((if dlSame x.group g then List.replicate x.many.toNat x.price else []) ++ dlUn g I) else ((if dlSame x.group g then List.replicate x.many.toNat x.price else []) ++ dlUn g I))
      by_cases hg : dlSame x.group g = true
      · rw [if_pos hg, if_pos hg, if_pos hg, show (x.many + 1).toNat = x.many.toNat + 1 by omega, List.replicate_succ]
        exact List.Perm.refl _
      · rw [if_neg hg, if_neg hg, if_neg hg]
    | succ i =>
      have hil : i < I.length := by simpa using h
      have hp := ih hI.tail i hil
      rw [more_cons]
      have e : ∀ J : List Itm, dlUn g (x :: J) = (if dlSame x.group g then List.replicate x.many.toNat x.price else []) ++ dlUn g J := fun J => by simp [dlUn]
      rw [e, e]
      show List.Perm _ (if dlSame I[i].group g then I[i].price :: _ else _)
      by_cases hg : dlSame I[i].group g = true
      · rw [if_pos hg] at hp ⊢
        exact (List.Perm.append_left _ hp).trans List.perm_middle
      · rw [if_neg hg] at hp ⊢
        exact List.Perm.append_left _ hp
theorem more_ok (I : List Itm) (hI : ItOk I) (i : Nat) : ItOk (dlMore I i) := by
  have key : ∀ y ∈ dlMore I i, 0 ≤ y.price ∧ 0 ≤ y.many := by
    intro y hy
    simp only [dlMore, List.mem_append] at hy
    rcases hy with (hy | hy) | hy
    · have := List.mem_of_mem_take hy
      exact ⟨hI.price y this, hI.many y this⟩
    · split at hy
      · rename_i x hx
        have hm := List.mem_of_getElem? hx
        have : y = ⟨x.price, x.group, x.many + 1⟩ := by simpa using hy
        subst this
        have := hI.many x hm
        exact ⟨hI.price x hm, by show 0 ≤ x.many + 1; omega⟩
      · cases hy
    · have := List.mem_of_mem_drop hy
      exact ⟨hI.price y this, hI.many y this⟩
  exact ⟨fun y hy => (key y hy).1, fun y hy => (key y hy).2⟩
/-- With one free unit in a set, a further unit does not make a basket cheaper. -/
theorem more_price (I : List Itm) (hI : ItOk I) (D : List Dl) (hD : DlOk D) (h1 : ∀ d ∈ D, d.free = 1 ∧ 0 < d.many) (i : Nat) (h : i < I.length) : dlTot I - dlOff I D ≤ dlTot (dlMore I i) - dlOff (dlMore I i) D := by
  have hpr := hI.price _ (List.getElem_mem h)
  have key : ∀ d ∈ D, dlFree (dlMore I i) d ≤ dlFree I d + if dlSame I[i].group d.group then I[i].price else 0 := by
    intro d hd
    obtain ⟨e1, e2⟩ := h1 d hd
    have hp := more_un I hI i h d.group
    unfold dlFree
    rw [e1]
    by_cases hg : dlSame I[i].group d.group = true
    · rw [if_pos hg] at hp ⊢
      refine free_unit d.many e2 _ _ I[i].price (sortD_desc _) (sortD_desc _) ?_ (fun z hz => dlUn_pos (more_ok I hI i) d.group z ((sortD_perm _).mem_iff.1 hz))
      exact (sortD_perm _).trans (hp.trans ((List.perm_cons _).2 (sortD_perm _).symm))
    · rw [if_neg hg] at hp ⊢
      have e : sortD (dlUn d.group (dlMore I i)) = sortD (dlUn d.group I) := sortD_of ((sortD_perm _).trans hp) (sortD_desc _)
      rw [e]
      omega
  have h2 := map_sum_le D _ _ key
  rw [map_sum_add] at h2
  have h3 := oneHit D hD I[i].group I[i].price hpr
  rw [more_tot I i h]
  unfold dlOff
  omega
end Go.Proofs.YthikknnadmebgaaGreatDoor
