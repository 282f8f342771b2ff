/- The stream of numbers: its methods, each called once. -/
import Derived.Test.YtehhmgbgkemidaaDoorPkSAa
import Derived.Test.YtehhmgbgkemidaaDoorChecked
import Derived.BigQuiet
namespace Go.Proofs.YtehhmgbgkemidaaDoor
open Go.RowKit
variable {lw : Nat}

/-- Below: the remainder from 0 to n - 1; 0 where n is less than 1. -/
def below (x n : Int) : Int := if n < 1 then 0 else x % n

theorem below_tmod (x n : Int) (h : 1 ≤ n) : (if x.tmod n < 0 then x.tmod n + n else x.tmod n) = below x n := by
  unfold below
  rw [if_neg (show ¬ n < 1 by omega)]
  have h1 := Int.emod_nonneg x (show n ≠ 0 by omega)
  have h2 := Int.emod_lt_of_pos x (show 0 < n by omega)
  have h3 : x.tmod n = x % n - ↑(if 0 ≤ x ∨ n ∣ x then 0 else Int.natAbs n) := Int.tmod_eq_emod
  rw [h3]
  by_cases hc : 0 ≤ x ∨ n ∣ x
  · rw [if_pos hc]; split <;> omega
  · rw [if_neg hc]; split <;> omega

theorem below_any (x n : Int) (w : World) (hn : n ≤ 9223372036854775807) :
    Calls Tryd.prog 35 #[.int .i64 x, .int .i64 n] w fun e w' => e = .returned (.int .i64 (below x n)) ∧ w = w' := by
  by_cases h : n < 1
  · go_enter Tryd.func35, Tryd.ntmps35
    go_wp2
    go_ret
    exact ⟨by simp [below, h], rfl⟩
  · have h1 : 1 ≤ n := by omega
    have H := Lib.hid (below_tmod x n h1)
    have hb : -n < x.tmod n := by have := Int.lt_tmod_of_pos x (show 0 < n by omega); omega
    have hb2 : x.tmod n < n := Int.tmod_lt_of_pos x (by omega)
    go_enter Tryd.func35, Tryd.ntmps35
    go_wp2
    · have hlt : x.tmod n < 0 := by assumption
      go_ret
      exact ⟨ret_int (by rw [← H.out, if_pos hlt]), rfl⟩
    · have hlt : 0 ≤ x.tmod n := by assumption
      go_ret
      exact ⟨ret_int (by rw [← H.out, if_neg (by omega)]), rfl⟩

/-- The stream's variable: block p; what it reads: l; how many numbers it has handed out: k. -/
structure StreamAt (w : World) (p lw : Nat) (l : List Int) (k : Nat) : Prop where
  blk : ∃ a cap, w.heap[p]? = some (.cells #[.slice a l.length cap, .int .i64 k] 25 (0, 0)) ∧ CellsAt w a (l.map (Value.int .i64)) ∧ (0 < l.length → ∀ b off, a = some ⟨b, off, none⟩ → b < lw)
  len : l.length ≤ 9223372036854775807
  low : lw ≤ p

theorem keep_ints {w w1 : World} {a : Option Addr} {l : List Int} {r : Option Nat} (h : CellsAt w a (l.map (Value.int .i64))) (g : w.grownBy w1 r) (hr : 0 < l.length → ∀ b off, a = some ⟨b, off, none⟩ → some b ≠ r) : CellsAt w1 a (l.map (Value.int .i64)) := by
  cases l with
  | nil => exact CellsAt.nil _ _
  | cons x l => exact h.keep g (hr (by simp))
theorem StreamAt.keepNe {w w1 : World} {p k : Nat} {l : List Int} {r : Option Nat} (h : StreamAt w p lw l k) (g : w.grownBy w1 r) (hr : ∀ q, r = some q → p ≠ q ∧ lw ≤ q) : StreamAt w1 p lw l k := by
  obtain ⟨⟨a, cap, hb, hc, hne⟩, hlen, hlow⟩ := h
  refine ⟨⟨a, cap, ?_, keep_ints hc g ?_, hne⟩, hlen, hlow⟩
  · rw [g.block p (lt_of_block hb) (fun e => (hr p e.symm).1 rfl)]; exact hb
  · intro h0 b off ha e
    have := (hr b e.symm).2
    have := hne h0 b off ha
    omega
theorem StreamAt.keep {w w1 : World} {p k : Nat} {l : List Int} {r : Option Nat} (h : StreamAt w p lw l k) (g : w.grownBy w1 r) (hr : ∀ q, r = some q → p < q) : StreamAt w1 p lw l k :=
  h.keepNe g (fun q e => by have := hr q e; have := h.low; omega)
theorem StreamAt.keep0 {w w1 : World} {p k : Nat} {l : List Int} (h : StreamAt w p lw l k) (g : w.grownBy w1 none) : StreamAt w1 p lw l k := h.keep g (fun q e => by cases e)
/-- The stream as a law makes it: its variable is the newest block. -/
theorem StreamAt.made {w : World} {a : Option Addr} {l : List Int} (cap : Nat) (hc : CellsAt w a (l.map (Value.int .i64))) (hl : l.length ≤ 9223372036854775807) :
    StreamAt (w.alloc (.cells #[.slice a l.length cap, .int .i64 0] 25)) w.heap.size w.heap.size l 0 := by
  refine ⟨⟨a, cap, heap_alloc_new w _, hc.alloc _, ?_⟩, hl, Nat.le_refl _⟩
  intro h0 b off ha
  obtain ⟨b', off', he, hcell⟩ := hc 0 _ (by rw [List.getElem?_map, List.getElem?_eq_getElem h0]; rfl)
  rw [ha] at he
  cases he
  exact lt_of_cell hcell
/-- .. and one that is made later, of the same numbers. -/
theorem StreamAt.madeLow {w w1 : World} {a : Option Addr} {l : List Int} (cap : Nat) (g : w.grownBy w1 none) (hc : CellsAt w a (l.map (Value.int .i64))) (hl : l.length ≤ 9223372036854775807) :
    StreamAt (w1.alloc (.cells #[.slice a l.length cap, .int .i64 0] 25)) w1.heap.size w.heap.size l 0 := by
  refine ⟨⟨a, cap, heap_alloc_new w1 _, (hc.keep0 g).alloc _, ?_⟩, hl, g.size⟩
  intro h0 b off ha
  obtain ⟨b', off', he, hcell⟩ := hc 0 _ (by rw [List.getElem?_map, List.getElem?_eq_getElem h0]; rfl)
  rw [ha] at he
  cases he
  exact lt_of_cell hcell
theorem StreamAt.lt {w : World} {p k : Nat} {l : List Int} (h : StreamAt w p lw l k) : p < w.heap.size := by
  obtain ⟨⟨a, cap, hb, _⟩, _, _⟩ := h
  exact lt_of_block hb
theorem StreamAt.step {w : World} {p k : Nat} {l : List Int} (h : StreamAt w p lw l k) (m : Nat) : StreamAt ((w.setCell ⟨p, 1, none⟩ (.int .i64 (k + 1))).drewN m) p lw l (k + 1) ∧ w.grownBy ((w.setCell ⟨p, 1, none⟩ (.int .i64 (k + 1))).drewN m) (some p) := by
  have g : w.grownBy ((w.setCell ⟨p, 1, none⟩ (.int .i64 (k + 1))).drewN m) (some p) := gr_drewN (gr_set (gr_refl _ _) rfl _) _
  refine ⟨?_, g⟩
  obtain ⟨⟨a, cap, hb, hc, hne⟩, hlen, hlow⟩ := h
  refine ⟨⟨a, cap, ?_, keep_ints hc g ?_, hne⟩, hlen, hlow⟩
  · have hlt := lt_of_block hb
    have h' : w.heap[p] = .cells #[.slice a l.length cap, .int .i64 k] 25 (0, 0) := by simpa [Array.getElem?_eq_getElem hlt] using hb
    show (w.heap.modify p _)[p]? = _
    rw [Array.getElem?_eq_getElem (by simpa using hlt), Array.getElem_modify_self, h']
    rfl
  · intro h0 b off ha e
    have := hne h0 b off ha
    cases e
    omega

/-- The number that a stream hands out behind k others. -/
def nxt (l : List Int) (k : Nat) (n : Int) : Int :=
  if l.length = 0 then below ((k + 1 : Nat) * 7919) n
  else below (below (l.getD (k % l.length) 0) 1073741824 + (k / l.length : Nat) * (7919 + (k % l.length : Nat))) n

set_option maxRecDepth 100000 in
theorem next_any (l : List Int) (k : Nat) (n : Int) (p : Nat) (w : World) (hs : StreamAt w p lw l k) (hk : k < 1000000000) (hn : n ≤ 9223372036854775807) :
    Calls Tryd.prog 17 #[.pointer (some ⟨p, 0, none⟩), .int .i64 n] w fun e w' => e = .returned (.int .i64 (nxt l k n)) ∧ StreamAt w' p lw l (k + 1) ∧ w.grownBy w' (some p) := by
  have hs' := hs
  obtain ⟨⟨a, cap, hb, hc, hne⟩, hlen⟩ := hs'
  have c0 : w.cell? ⟨p, 0, none⟩ = some (.slice a l.length cap) := by simp [World.cell?, hb]
  have c1 : w.cell? ⟨p, 1, none⟩ = some (.int .i64 k) := by simp [World.cell?, hb]
  have f1 : w.frozen? ⟨p, 1, none⟩ = false := by simp [World.frozen?, hb]
  have HS := Lib.hid hs
  clear hb hs
  by_cases h0 : l.length = 0
  · have hl : l = [] := List.eq_nil_of_length_eq_zero h0
    subst hl
    go_enter Tryd.func17, Tryd.ntmps17
    go_wp2_with (go_at_call 35; refine (below_any _ _ _ hn).mono ?_; rintro e w' ⟨rfl, rfl⟩)
    go_ret
    exact ⟨ret_int (by simp [nxt]), HS.out.step 0⟩
  · have hpos : 0 < l.length := by omega
    obtain ⟨i, hi⟩ : ∃ i, i = k % l.length := ⟨_, rfl⟩
    obtain ⟨q, hq⟩ : ∃ q, q = k / l.length := ⟨_, rfl⟩
    have hilt : i < l.length := by rw [hi]; exact Nat.mod_lt _ hpos
    have hile : i ≤ k := by rw [hi]; exact Nat.mod_le _ _
    have hqle : q ≤ k := by rw [hq]; exact Nat.div_le_self _ _
    have EI : Hid (((k : Int) % (l.length : Int)) = (i : Int)) := by show _ = _; omega
    have EQ : Hid (((k : Int) / (l.length : Int)) = (q : Int)) := by show _ = _; omega
    have HI := Lib.hid hi; clear hi
    have HQ := Lib.hid hq; clear hq
    obtain ⟨b, off, rfl, hx⟩ := hc i _ (by rw [List.getElem?_map, List.getElem?_eq_getElem hilt]; rfl)
    have hbp : b ≠ p := by have := hne hpos b off rfl; omega
    clear hc hne
    obtain ⟨x, hxe⟩ : ∃ x, x = l[i] := ⟨_, rfl⟩
    rw [← hxe] at hx
    have HX := Lib.hid hxe; clear hxe
    have m1 : (0 : Int) ≤ (q : Int) * (7919 + i) := Int.mul_nonneg (by omega) (by omega)
    have m2 : (q : Int) * (7919 + i) ≤ 1000000000 * 1000007919 := Int.mul_le_mul (by omega) (by omega) (by omega) (by omega)
    have hbl : 0 ≤ below x 1073741824 ∧ below x 1073741824 < 1073741824 := by unfold below; omega
    obtain ⟨y, hy⟩ : ∃ y, y = below x 1073741824 := ⟨_, rfl⟩
    rw [← hy] at hbl
    obtain ⟨hy0, hy1⟩ := hbl
    have HY := Lib.hid hy; clear hy
    have hfin : Hid (below (y + (q : Int) * (7919 + i)) n = nxt l k n) := by
      show _ = _
      unfold nxt
      rw [if_neg h0, HY.out, HX.out, ← HI.out, ← HQ.out, List.getD_eq_getElem?_getD, List.getElem?_eq_getElem hilt]
      rfl
    go_enter Tryd.func17, Tryd.ntmps17
    go_wp2_with (fail)
    go_quiet (fail)
    go_wp2_with (fail)
    rw [EI.out]
    go_quiet (fail)
    go_wp2_with (fail)
    refine (below_any _ _ _ (by omega)).mono ?_
    rintro e w' ⟨rfl, rfl⟩
    rw [← HY.out, EQ.out]
    go_wp2_with (fail)
    refine (below_any _ _ _ (by omega)).mono ?_
    rintro e w' ⟨rfl, rfl⟩
    go_wp2_with (fail)
    go_ret
    exact ⟨ret_int (by rw [IntWalk.wrap64_in (q : Int) (by omega), IntWalk.wrap64_in ((q : Int) * (7919 + i)) (by omega), IntWalk.wrap64_in (y + (q : Int) * (7919 + i)) (by omega), hfin.out]), HS.out.step _⟩
end Go.Proofs.YtehhmgbgkemidaaDoor

/-! Package base: numbers; the stream's Range. -/
namespace Go.Proofs.YtehhmgbgkemidaaDoor
open Go.RowKit
variable {lw : Nat}

theorem nxt_range (l : List Int) (k : Nat) (n : Int) (h : 1 ≤ n) : 0 ≤ nxt l k n ∧ nxt l k n < n := by
  have hb : ∀ x, 0 ≤ below x n ∧ below x n < n := by
    intro x
    unfold below
    rw [if_neg (by omega)]
    exact ⟨Int.emod_nonneg x (by omega), Int.emod_lt_of_pos x (by omega)⟩
  unfold nxt
  split <;> exact hb _

/-- The post of a function that only computes: a value, and a world in which nothing but draws has happened. -/
def Pure (v : Value) (w : World) (e : Ending) (w' : World) : Prop := e = .returned v ∧ ∃ n, w' = w.drewN n

/-- base.Out. -/
theorem out_any (n lo hi : Int) (w : World) : Calls Tryd.prog 29 #[.int .i64 n, .int .i64 lo, .int .i64 hi] w fun e w' => e = .returned (.bool (decide (n < lo) || decide (hi < n))) ∧ w = w' := by
  go_enter Tryd.func29, Tryd.ntmps29
  go_wp2
  all_goals (go_ret; exact ⟨rfl, rfl⟩)

end Go.Proofs.YtehhmgbgkemidaaDoor

/-! The stream's Pick and Flip. -/
namespace Go.Proofs.YtehhmgbgkemidaaDoor
open Go.RowKit
variable {lw : Nat}

def pickM (l : List Int) (k : Nat) (xs : List Int) : Int := xs.getD (nxt l k xs.length).toNat 0
theorem pickM_mem (l : List Int) (k : Nat) (xs : List Int) (h : 0 < xs.length) : pickM l k xs ∈ xs := by
  have hr := nxt_range l k xs.length (by omega)
  unfold pickM
  rw [List.getD_eq_getElem?_getD, List.getElem?_eq_getElem (by omega)]
  exact List.getElem_mem _
theorem ints_get (l : List Int) (j : Nat) (h : j < l.length) : (ints l)[j]? = some (.int .i64 (l.getD j 0)) := by
  simp [ints, List.getD_eq_getElem?_getD, List.getElem?_eq_getElem h]
theorem ints_one (l : List Int) : ∀ u ∈ ints l, u.oneCell' = true := ints_oneCell _ _
theorem ints_length (l : List Int) : (ints l).length = l.length := by simp [ints]

set_option maxRecDepth 100000 in
/-- Pick of numbers that were written out: the slice's block is the newest. -/
theorem pick_any (l : List Int) (k : Nat) (xs : List Int) (p : Nat) (W : World) (hs : StreamAt W p lw l k) (hk : k < 1000000000) (h0 : 0 < xs.length) (h1 : xs.length ≤ 1000) :
    Calls Tryd.prog 6 #[.pointer (some ⟨p, 0, none⟩), .slice (some ⟨W.heap.size, 0, none⟩) xs.length xs.length] (W.alloc (.cells (ints xs).toArray 3))
      fun e w' => e = .returned (.int .i64 (pickM l k xs)) ∧ StreamAt w' p lw l (k + 1) ∧ W.grownBy w' (some p) := by
  have hlt := hs.lt
  have hr := nxt_range l k xs.length (by omega)
  obtain ⟨i, hi⟩ : ∃ i : Nat, nxt l k xs.length = i := ⟨(nxt l k xs.length).toNat, by omega⟩
  have hil : i < xs.length := by omega
  have hfin : Hid (pickM l k xs = xs.getD i 0) := by show _ = _; unfold pickM; rw [hi]; rfl
  have HI := Lib.hid hi; clear hi hr
  obtain ⟨x, hx⟩ : ∃ x, x = xs.getD i 0 := ⟨_, rfl⟩
  have HX := Lib.hid hx; clear hx
  obtain ⟨W0, hW0⟩ : ∃ W0, W0 = W.alloc (.cells (ints xs).toArray 3) := ⟨_, rfl⟩
  have hs0 : StreamAt W0 p lw l k := by rw [hW0]; exact hs.keep0 (gr_alloc (gr_refl _ _) _)
  have hcell : W0.cell? ⟨W.heap.size, i, none⟩ = some (.int .i64 x) := by
    rw [hW0, World.cell?_alloc_at _ _ _ _ rfl, HX.out]
    simpa using ints_get xs i hil
  rw [← hW0]
  have hgW : W.grownBy W0 none := by rw [hW0]; exact gr_alloc (gr_refl _ _) _
  clear hW0
  go_enter Tryd.func6, Tryd.ntmps6
  go_wp2_with (fail)
  refine (next_any l k _ p W0 hs0 hk (by omega)).mono ?_
  rintro e w1 ⟨rfl, hs1, hg1⟩
  rw [HI.out]
  have c1 : w1.cell? ⟨W.heap.size, i, none⟩ = some (.int .i64 x) := hg1.cell hcell (by simp; omega)
  go_wp2_with (fail)
  go_ret
  exact ⟨ret_int (by rw [hfin.out, HX.out]), hs1, gr_trans (gr_weak hgW _) hg1⟩

def flipM (l : List Int) (k : Nat) (n : Int) : Bool := nxt l k n == 0
theorem flip_any (l : List Int) (k : Nat) (n : Int) (p : Nat) (w : World) (hs : StreamAt w p lw l k) (hk : k < 1000000000) (hn : n ≤ 9223372036854775807) :
    Calls Tryd.prog 18 #[.pointer (some ⟨p, 0, none⟩), .int .i64 n] w fun e w' => e = .returned (.bool (flipM l k n)) ∧ StreamAt w' p lw l (k + 1) ∧ w.grownBy w' (some p) := by
  go_enter Tryd.func18, Tryd.ntmps18
  go_wp2_with (go_at_call 17; refine (next_any l k _ p w hs hk hn).mono ?_; rintro e w1 ⟨rfl, hs1, hg1⟩)
  go_ret
  exact ⟨rfl, hs1, hg1⟩

/-! The stream's choice among strings. -/
variable {lw : Nat}

theorem ret_str {a b : ByteArray} (h : a = b) : Ending.returned (.string a) = .returned (.string b) := by rw [h]
def strs (l : List ByteArray) : List Value := l.map Value.string
theorem strs_get (l : List ByteArray) (j : Nat) (h : j < l.length) : (strs l)[j]? = some (.string (l.getD j ⟨#[]⟩)) := by
  simp [strs, List.getD_eq_getElem?_getD, List.getElem?_eq_getElem h]
theorem strs_one (l : List ByteArray) : ∀ u ∈ strs l, u.oneCell' = true := by
  intro u hu
  simp only [strs, List.mem_map] at hu
  obtain ⟨x, _, rfl⟩ := hu
  rfl
theorem strs_length (l : List ByteArray) : (strs l).length = l.length := by simp [strs]
def oneS (l : List Int) (k : Nat) (xs : List ByteArray) : ByteArray := xs.getD (nxt l k xs.length).toNat ⟨#[]⟩
theorem oneS_mem (l : List Int) (k : Nat) (xs : List ByteArray) (h : 0 < xs.length) : oneS l k xs ∈ xs := by
  have hr := nxt_range l k xs.length (by omega)
  unfold oneS
  rw [List.getD_eq_getElem?_getD, List.getElem?_eq_getElem (by omega)]
  exact List.getElem_mem _

set_option maxRecDepth 100000 in
/-- one of strings that were written out: the slice's block is the newest. -/
theorem one_any (l : List Int) (k : Nat) (xs : List ByteArray) (p : Nat) (W : World) (hs : StreamAt W p lw l k) (hk : k < 1000000000) (h0 : 0 < xs.length) (h1 : xs.length ≤ 1000) :
    Calls Tryd.prog 19 #[.pointer (some ⟨p, 0, none⟩), .slice (some ⟨W.heap.size, 0, none⟩) xs.length xs.length] (W.alloc (.cells (strs xs).toArray 9))
      fun e w' => e = .returned (.string (oneS l k xs)) ∧ StreamAt w' p lw l (k + 1) ∧ W.grownBy w' (some p) := by
  have hlt := hs.lt
  have hr := nxt_range l k xs.length (by omega)
  obtain ⟨i, hi⟩ : ∃ i : Nat, nxt l k xs.length = i := ⟨(nxt l k xs.length).toNat, by omega⟩
  have hil : i < xs.length := by omega
  have hfin : Hid (oneS l k xs = xs.getD i ⟨#[]⟩) := by show _ = _; unfold oneS; rw [hi]; rfl
  have HI := Lib.hid hi; clear hi hr
  obtain ⟨x, hx⟩ : ∃ x, x = xs.getD i ⟨#[]⟩ := ⟨_, rfl⟩
  have HX := Lib.hid hx; clear hx
  obtain ⟨W0, hW0⟩ : ∃ W0, W0 = W.alloc (.cells (strs xs).toArray 9) := ⟨_, rfl⟩
  have hs0 : StreamAt W0 p lw l k := by rw [hW0]; exact hs.keep0 (gr_alloc (gr_refl _ _) _)
  have hcell : W0.cell? ⟨W.heap.size, i, none⟩ = some (.string x) := by
    rw [hW0, World.cell?_alloc_at _ _ _ _ rfl, HX.out]
    simpa using strs_get xs i hil
  rw [← hW0]
  have hgW : W.grownBy W0 none := by rw [hW0]; exact gr_alloc (gr_refl _ _) _
  clear hW0
  go_enter Tryd.func19, Tryd.ntmps19
  go_wp2_with (fail)
  refine (next_any l k _ p W0 hs0 hk (by omega)).mono ?_
  rintro e w1 ⟨rfl, hs1, hg1⟩
  rw [HI.out]
  have c1 : w1.cell? ⟨W.heap.size, i, none⟩ = some (.string x) := hg1.cell hcell (by simp; omega)
  go_wp2_with (fail)
  go_ret
  exact ⟨ret_str (by rw [hfin.out, HX.out]), hs1, gr_trans (gr_weak hgW _) hg1⟩

set_option maxRecDepth 100000 in
/-- Pick of numbers whose block is known. -/
theorem pick_in (l : List Int) (k : Nat) (xs : List Int) (p g : Nat) (w : World) (hs : StreamAt w p lw l k) (hk : k < 1000000000) (h0 : 0 < xs.length) (h1 : xs.length ≤ 1000) (hg : g ≠ p) (hc : ∀ i, i < xs.length → w.cell? ⟨g, i, none⟩ = some (.int .i64 (xs.getD i 0))) :
    Calls Tryd.prog 6 #[.pointer (some ⟨p, 0, none⟩), .slice (some ⟨g, 0, none⟩) xs.length xs.length] w
      fun e w' => e = .returned (.int .i64 (pickM l k xs)) ∧ StreamAt w' p lw l (k + 1) ∧ w.grownBy w' (some p) := by
  have hr := nxt_range l k xs.length (by omega)
  obtain ⟨i, hi⟩ : ∃ i : Nat, nxt l k xs.length = i := ⟨(nxt l k xs.length).toNat, by omega⟩
  have hil : i < xs.length := by omega
  have hfin : Hid (pickM l k xs = xs.getD i 0) := by show _ = _; unfold pickM; rw [hi]; rfl
  have HI := Lib.hid hi; clear hi hr
  have hcell := hc i hil
  obtain ⟨x, hx⟩ : ∃ x, x = xs.getD i 0 := ⟨_, rfl⟩
  rw [← hx] at hcell
  have HX := Lib.hid hx; clear hx hc
  go_enter Tryd.func6, Tryd.ntmps6
  go_wp2_with (fail)
  refine (next_any l k _ p w hs hk (by omega)).mono ?_
  rintro e w1 ⟨rfl, hs1, hg1⟩
  rw [HI.out]
  have c1 : w1.cell? ⟨g, i, none⟩ = some (.int .i64 x) := hg1.cell hcell (by simp; omega)
  go_wp2_with (fail)
  go_ret
  exact ⟨ret_int (by rw [hfin.out, HX.out]), hs1, hg1⟩
set_option maxRecDepth 100000 in
/-- one of strings whose block is known. -/
theorem one_in (l : List Int) (k : Nat) (xs : List ByteArray) (p g : Nat) (w : World) (hs : StreamAt w p lw l k) (hk : k < 1000000000) (h0 : 0 < xs.length) (h1 : xs.length ≤ 1000) (hg : g ≠ p) (hc : ∀ i, i < xs.length → w.cell? ⟨g, i, none⟩ = some (.string (xs.getD i ⟨#[]⟩))) :
    Calls Tryd.prog 19 #[.pointer (some ⟨p, 0, none⟩), .slice (some ⟨g, 0, none⟩) xs.length xs.length] w
      fun e w' => e = .returned (.string (oneS l k xs)) ∧ StreamAt w' p lw l (k + 1) ∧ w.grownBy w' (some p) := by
  have hr := nxt_range l k xs.length (by omega)
  obtain ⟨i, hi⟩ : ∃ i : Nat, nxt l k xs.length = i := ⟨(nxt l k xs.length).toNat, by omega⟩
  have hil : i < xs.length := by omega
  have hfin : Hid (oneS l k xs = xs.getD i ⟨#[]⟩) := by show _ = _; unfold oneS; rw [hi]; rfl
  have HI := Lib.hid hi; clear hi hr
  have hcell := hc i hil
  obtain ⟨x, hx⟩ : ∃ x, x = xs.getD i ⟨#[]⟩ := ⟨_, rfl⟩
  rw [← hx] at hcell
  have HX := Lib.hid hx; clear hx hc
  go_enter Tryd.func19, Tryd.ntmps19
  go_wp2_with (fail)
  refine (next_any l k _ p w hs hk (by omega)).mono ?_
  rintro e w1 ⟨rfl, hs1, hg1⟩
  rw [HI.out]
  have c1 : w1.cell? ⟨g, i, none⟩ = some (.string x) := hg1.cell hcell (by simp; omega)
  go_wp2_with (fail)
  go_ret
  exact ⟨ret_str (by rw [hfin.out, HX.out]), hs1, hg1⟩
end Go.Proofs.YtehhmgbgkemidaaDoor

/-! Package slices at ints: with a function value. -/
namespace Go.Proofs.YtehhmgbgkemidaaDoor
open Go.RowKit

/-- A function of the program's own text. -/
def IsFn (F : FuncId) : Prop := ∀ (args : Array Value) (w : World), (callFunc F args).run Tryd.prog w = .ok (.enter F args) w
/-- What is asked of a function value: it answers P of each element, and writes nothing that was there. -/
def Answers (F : FuncId) (caps : Array Value) (P : Int → Bool) (xs : List Int) (w : World) : Prop :=
  ∀ x ∈ xs, ∀ w1, w.grownBy w1 none → Calls Tryd.prog F (#[.int .i64 x] ++ caps) w1 fun e w2 => e = .returned (.bool (P x)) ∧ w1.grownBy w2 none
theorem getD_eq' (l : List Int) (k : Nat) (d : Int) (h : k < l.length) : l.getD k d = l[k] := by
  rw [List.getD_eq_getElem?_getD, List.getElem?_eq_getElem h]; rfl
def findM (P : Int → Bool) (xs : List Int) : Int := if xs.findIdx P < xs.length then (xs.findIdx P : Nat) else -1

end Go.Proofs.YtehhmgbgkemidaaDoor

/-! Tubes: as the stream makes them. -/
namespace Go.Proofs.YtehhmgbgkemidaaDoor
open Go.RowKit
variable {lw : Nat}

structure Tube where
  value : Int
  count : Int
  most : Int
def encTube (t : Tube) : List Value := [.int .i64 t.value, .int .i64 t.count, .int .i64 t.most]
theorem encTube_len (t : Tube) : (encTube t).length = 3 := rfl
theorem encTube_one (t : Tube) : (encTube t).all (fun u => u.oneCell') = true := rfl
def tubes (l : List Tube) : List Value := flat encTube l
def tubeAt (l : List Tube) (i : Nat) : Tube := l.getD i ⟨0, 0, 0⟩
theorem tubes_cells {w : World} {a : Option Addr} {l : List Tube} (hc : CellsAt w a (tubes l)) (i : Nat) (h : i < l.length) : ∃ b off, a = some ⟨b, off, none⟩ ∧ ∀ j, j < l.length →
    w.cell? ⟨b, off + j * 3, none⟩ = some (.int .i64 (tubeAt l j).value) ∧ w.cell? ⟨b, off + j * 3 + 1, none⟩ = some (.int .i64 (tubeAt l j).count) ∧ w.cell? ⟨b, off + j * 3 + 2, none⟩ = some (.int .i64 (tubeAt l j).most) := by
  obtain ⟨b, off, rfl, hcs⟩ := flat_cells encTube_len (by decide) hc (by omega)
  refine ⟨b, off, rfl, fun j hj => ?_⟩
  unfold tubeAt
  rw [getD_eq l j _ hj]
  exact ⟨hcs j hj 0 _ rfl, hcs j hj 1 _ rfl, hcs j hj 2 _ rfl⟩

def coinValues : List Int := [5, 10, 25, 50, 100]
/-- The tubes that are there behind i of the five values, and the stream's place. -/
def tubesTo (l : List Int) (k : Nat) : Nat → List Tube × Nat
  | 0 => ([], k)
  | i + 1 =>
    let p := tubesTo l k i
    if flipM l p.2 3 then (p.1, p.2 + 1)
    else (p.1 ++ [⟨coinValues.getD i 0, nxt l (p.2 + 2) (pickM l (p.2 + 1) [0, 1, 3, 8, 20] + 1), pickM l (p.2 + 1) [0, 1, 3, 8, 20]⟩], p.2 + 3)
def tubesM (l : List Int) (k : Nat) : List Tube := (tubesTo l k 5).1
def tubesK (l : List Int) (k : Nat) : Nat := (tubesTo l k 5).2
theorem tubesTo_len (l : List Int) (k i : Nat) : (tubesTo l k i).1.length ≤ i := by
  induction i with
  | zero => exact Nat.le_refl _
  | succ i ih => simp only [tubesTo]; split <;> simp <;> omega
theorem tubesTo_k (l : List Int) (k i : Nat) : (tubesTo l k i).2 ≤ k + 3 * i := by
  induction i with
  | zero => exact Nat.le_refl _
  | succ i ih => simp only [tubesTo]; split <;> simp <;> omega

end Go.Proofs.YtehhmgbgkemidaaDoor

/-! Package vend: tubes are checked, and counted. -/
namespace Go.Proofs.YtehhmgbgkemidaaDoor
open Go.RowKit

structure OkTube (l : List Tube) (i : Nat) : Prop where
  v0 : 1 ≤ (tubeAt l i).value
  v1 : (tubeAt l i).value ≤ 10000
  up : 0 < i → (tubeAt l (i - 1)).value < (tubeAt l i).value
  m0 : 0 ≤ (tubeAt l i).most
  m1 : (tubeAt l i).most ≤ 1000
  c0 : 0 ≤ (tubeAt l i).count
  c1 : (tubeAt l i).count ≤ (tubeAt l i).most
structure OkTubes (l : List Tube) : Prop where
  len : l.length ≤ 10
  ok : ∀ i, i < l.length → OkTube l i
theorem not_tubes {l : List Tube} {k : Nat} (hk : k < l.length) (h : ¬ OkTube l k) : ¬ OkTubes l := fun o => h (o.ok k hk)

end Go.Proofs.YtehhmgbgkemidaaDoor
