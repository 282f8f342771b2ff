/- The stream of numbers: its methods, each called once. -/
import Derived.Test.YtoiclngamaadgaaChecked
import Derived.Test.YtoiclngamaadgaaKit
namespace Go.Proofs.Ytoiclngamaadgaa
open Go.RowKit
variable {lw : Nat}

/-- Below: the remainder from 0 to n - 1; 0 where n is less than 1. -/
def below (x n : Int) : Int := if n < 1 then 0 else x % n

theorem below_tmod (x n : Int) (h : 1 ≤ n) : (if x.tmod n < 0 then x.tmod n + n else x.tmod n) = below x n := by
  unfold below
  rw [if_neg (show ¬ n < 1 by omega)]
  have h1 := Int.emod_nonneg x (show n ≠ 0 by omega)
  have h2 := Int.emod_lt_of_pos x (show 0 < n by omega)
  have h3 : x.tmod n = x % n - ↑(if 0 ≤ x ∨ n ∣ x then 0 else Int.natAbs n) := Int.tmod_eq_emod
  rw [h3]
  by_cases hc : 0 ≤ x ∨ n ∣ x
  · rw [if_pos hc]; split <;> omega
  · rw [if_neg hc]; split <;> omega

theorem below_any (x n : Int) (w : World) (hn : n ≤ 9223372036854775807) :
    Calls Try.prog 50 #[.int .i64 x, .int .i64 n] w fun e w' => e = .returned (.int .i64 (below x n)) ∧ w = w' := by
  by_cases h : n < 1
  · go_enter Try.func50, Try.ntmps50
    go_wp2
    go_ret
    exact ⟨by simp [below, h], rfl⟩
  · have h1 : 1 ≤ n := by omega
    have H := Lib.hid (below_tmod x n h1)
    have hb : -n < x.tmod n := by have := Int.lt_tmod_of_pos x (show 0 < n by omega); omega
    have hb2 : x.tmod n < n := Int.tmod_lt_of_pos x (by omega)
    go_enter Try.func50, Try.ntmps50
    go_wp2
    · have hlt : x.tmod n < 0 := by assumption
      go_ret
      exact ⟨ret_int (by rw [← H.out, if_pos hlt]), rfl⟩
    · have hlt : 0 ≤ x.tmod n := by assumption
      go_ret
      exact ⟨ret_int (by rw [← H.out, if_neg (by omega)]), rfl⟩

/-- The stream's variable: block p; what it reads: l; how many numbers it has handed out: k. -/
structure StreamAt (w : World) (p lw : Nat) (l : List Int) (k : Nat) : Prop where
  blk : ∃ a cap, w.heap[p]? = some (.cells #[.slice a l.length cap, .int .i64 k] 25 (0, 0)) ∧ CellsAt w a (l.map (Value.int .i64)) ∧ (0 < l.length → ∀ b off, a = some ⟨b, off, none⟩ → b < lw)
  len : l.length ≤ 9223372036854775807
  low : lw ≤ p

theorem keep_ints {w w1 : World} {a : Option Addr} {l : List Int} {r : Option Nat} (h : CellsAt w a (l.map (Value.int .i64))) (g : w.grownBy w1 r) (hr : 0 < l.length → ∀ b off, a = some ⟨b, off, none⟩ → some b ≠ r) : CellsAt w1 a (l.map (Value.int .i64)) := by
  cases l with
  | nil => exact CellsAt.nil _ _
  | cons x l => exact h.keep g (hr (by simp))
theorem StreamAt.keepNe {w w1 : World} {p k : Nat} {l : List Int} {r : Option Nat} (h : StreamAt w p lw l k) (g : w.grownBy w1 r) (hr : ∀ q, r = some q → p ≠ q ∧ lw ≤ q) : StreamAt w1 p lw l k := by
  obtain ⟨⟨a, cap, hb, hc, hne⟩, hlen, hlow⟩ := h
  refine ⟨⟨a, cap, ?_, keep_ints hc g ?_, hne⟩, hlen, hlow⟩
  · rw [g.block p (lt_of_block hb) (fun e => (hr p e.symm).1 rfl)]; exact hb
  · intro h0 b off ha e
    have := (hr b e.symm).2
    have := hne h0 b off ha
    omega
theorem StreamAt.keep {w w1 : World} {p k : Nat} {l : List Int} {r : Option Nat} (h : StreamAt w p lw l k) (g : w.grownBy w1 r) (hr : ∀ q, r = some q → p < q) : StreamAt w1 p lw l k :=
  h.keepNe g (fun q e => by have := hr q e; have := h.low; omega)
theorem StreamAt.keep0 {w w1 : World} {p k : Nat} {l : List Int} (h : StreamAt w p lw l k) (g : w.grownBy w1 none) : StreamAt w1 p lw l k := h.keep g (fun q e => by cases e)
/-- The stream as a law makes it: its variable is the newest block. -/
theorem StreamAt.made {w : World} {a : Option Addr} {l : List Int} (cap : Nat) (hc : CellsAt w a (l.map (Value.int .i64))) (hl : l.length ≤ 9223372036854775807) :
    StreamAt (w.alloc (.cells #[.slice a l.length cap, .int .i64 0] 25)) w.heap.size w.heap.size l 0 := by
  refine ⟨⟨a, cap, heap_alloc_new w _, hc.alloc _, ?_⟩, hl, Nat.le_refl _⟩
  intro h0 b off ha
  obtain ⟨b', off', he, hcell⟩ := hc 0 _ (by rw [List.getElem?_map, List.getElem?_eq_getElem h0]; rfl)
  rw [ha] at he
  cases he
  exact lt_of_cell hcell
/-- .. and one that is made later, of the same numbers. -/
theorem StreamAt.madeLow {w w1 : World} {a : Option Addr} {l : List Int} (cap : Nat) (g : w.grownBy w1 none) (hc : CellsAt w a (l.map (Value.int .i64))) (hl : l.length ≤ 9223372036854775807) :
    StreamAt (w1.alloc (.cells #[.slice a l.length cap, .int .i64 0] 25)) w1.heap.size w.heap.size l 0 := by
  refine ⟨⟨a, cap, heap_alloc_new w1 _, (hc.keep0 g).alloc _, ?_⟩, hl, g.size⟩
  intro h0 b off ha
  obtain ⟨b', off', he, hcell⟩ := hc 0 _ (by rw [List.getElem?_map, List.getElem?_eq_getElem h0]; rfl)
  rw [ha] at he
  cases he
  exact lt_of_cell hcell
theorem StreamAt.lt {w : World} {p k : Nat} {l : List Int} (h : StreamAt w p lw l k) : p < w.heap.size := by
  obtain ⟨⟨a, cap, hb, _⟩, _, _⟩ := h
  exact lt_of_block hb
theorem StreamAt.step {w : World} {p k : Nat} {l : List Int} (h : StreamAt w p lw l k) (m : Nat) : StreamAt ((w.setCell ⟨p, 1, none⟩ (.int .i64 (k + 1))).drewN m) p lw l (k + 1) ∧ w.grownBy ((w.setCell ⟨p, 1, none⟩ (.int .i64 (k + 1))).drewN m) (some p) := by
  have g : w.grownBy ((w.setCell ⟨p, 1, none⟩ (.int .i64 (k + 1))).drewN m) (some p) := gr_drewN (gr_set (gr_refl _ _) rfl _) _
  refine ⟨?_, g⟩
  obtain ⟨⟨a, cap, hb, hc, hne⟩, hlen, hlow⟩ := h
  refine ⟨⟨a, cap, ?_, keep_ints hc g ?_, hne⟩, hlen, hlow⟩
  · have hlt := lt_of_block hb
    have h' : w.heap[p] = .cells #[.slice a l.length cap, .int .i64 k] 25 (0, 0) := by simpa [Array.getElem?_eq_getElem hlt] using hb
    show (w.heap.modify p _)[p]? = _
    rw [Array.getElem?_eq_getElem (by simpa using hlt), Array.getElem_modify_self, h']
    rfl
  · intro h0 b off ha e
    have := hne h0 b off ha
    cases e
    omega

/-- The number that a stream hands out behind k others. -/
def nxt (l : List Int) (k : Nat) (n : Int) : Int :=
  if l.length = 0 then below ((k + 1 : Nat) * 7919) n
  else below (below (l.getD (k % l.length) 0) 1073741824 + (k / l.length : Nat) * (7919 + (k % l.length : Nat))) n

set_option maxRecDepth 100000 in
theorem next_any (l : List Int) (k : Nat) (n : Int) (p : Nat) (w : World) (hs : StreamAt w p lw l k) (hk : k < 1000000000) (hn : n ≤ 9223372036854775807) :
    Calls Try.prog 8 #[.pointer (some ⟨p, 0, none⟩), .int .i64 n] w fun e w' => e = .returned (.int .i64 (nxt l k n)) ∧ StreamAt w' p lw l (k + 1) ∧ w.grownBy w' (some p) := by
  have hs' := hs
  obtain ⟨⟨a, cap, hb, hc, hne⟩, hlen⟩ := hs'
  have c0 : w.cell? ⟨p, 0, none⟩ = some (.slice a l.length cap) := by simp [World.cell?, hb]
  have c1 : w.cell? ⟨p, 1, none⟩ = some (.int .i64 k) := by simp [World.cell?, hb]
  have f1 : w.frozen? ⟨p, 1, none⟩ = false := by simp [World.frozen?, hb]
  have HS := Lib.hid hs
  clear hb hs
  by_cases h0 : l.length = 0
  · have hl : l = [] := List.eq_nil_of_length_eq_zero h0
    subst hl
    go_enter Try.func8, Try.ntmps8
    go_wp2_with (go_at_call 50; refine (below_any _ _ _ hn).mono ?_; rintro e w' ⟨rfl, rfl⟩)
    go_ret
    exact ⟨ret_int (by simp [nxt]), HS.out.step 0⟩
  · have hpos : 0 < l.length := by omega
    obtain ⟨i, hi⟩ : ∃ i, i = k % l.length := ⟨_, rfl⟩
    obtain ⟨q, hq⟩ : ∃ q, q = k / l.length := ⟨_, rfl⟩
    have hilt : i < l.length := by rw [hi]; exact Nat.mod_lt _ hpos
    have hile : i ≤ k := by rw [hi]; exact Nat.mod_le _ _
    have hqle : q ≤ k := by rw [hq]; exact Nat.div_le_self _ _
    have EI : Hid (((k : Int) % (l.length : Int)) = (i : Int)) := by show _ = _; omega
    have EQ : Hid (((k : Int) / (l.length : Int)) = (q : Int)) := by show _ = _; omega
    have HI := Lib.hid hi; clear hi
    have HQ := Lib.hid hq; clear hq
    obtain ⟨b, off, rfl, hx⟩ := hc i _ (by rw [List.getElem?_map, List.getElem?_eq_getElem hilt]; rfl)
    have hbp : b ≠ p := by have := hne hpos b off rfl; omega
    clear hc hne
    obtain ⟨x, hxe⟩ : ∃ x, x = l[i] := ⟨_, rfl⟩
    rw [← hxe] at hx
    have HX := Lib.hid hxe; clear hxe
    have m1 : (0 : Int) ≤ (q : Int) * (7919 + i) := Int.mul_nonneg (by omega) (by omega)
    have m2 : (q : Int) * (7919 + i) ≤ 1000000000 * 1000007919 := Int.mul_le_mul (by omega) (by omega) (by omega) (by omega)
    have hbl : 0 ≤ below x 1073741824 ∧ below x 1073741824 < 1073741824 := by unfold below; omega
    obtain ⟨y, hy⟩ : ∃ y, y = below x 1073741824 := ⟨_, rfl⟩
    rw [← hy] at hbl
    obtain ⟨hy0, hy1⟩ := hbl
    have HY := Lib.hid hy; clear hy
    have hfin : Hid (below (y + (q : Int) * (7919 + i)) n = nxt l k n) := by
      show _ = _
      unfold nxt
      rw [if_neg h0, HY.out, HX.out, ← HI.out, ← HQ.out, List.getD_eq_getElem?_getD, List.getElem?_eq_getElem hilt]
      rfl
    go_enter Try.func8, Try.ntmps8
    go_wp2_with (fail)
    go_quiet (fail)
    go_wp2_with (fail)
    rw [EI.out]
    go_quiet (fail)
    go_wp2_with (fail)
    refine (below_any _ _ _ (by omega)).mono ?_
    rintro e w' ⟨rfl, rfl⟩
    rw [← HY.out, EQ.out]
    go_wp2_with (fail)
    refine (below_any _ _ _ (by omega)).mono ?_
    rintro e w' ⟨rfl, rfl⟩
    go_wp2_with (fail)
    go_ret
    exact ⟨ret_int (by rw [IntWalk.wrap64_in (q : Int) (by omega), IntWalk.wrap64_in ((q : Int) * (7919 + i)) (by omega), IntWalk.wrap64_in (y + (q : Int) * (7919 + i)) (by omega), hfin.out]), HS.out.step _⟩
end Go.Proofs.Ytoiclngamaadgaa
