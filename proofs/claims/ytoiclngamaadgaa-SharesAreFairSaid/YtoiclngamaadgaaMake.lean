/- The stream's Pick and Flip. -/
import Derived.Test.YtoiclngamaadgaaBase
import Derived.BigQuiet
namespace Go.Proofs.Ytoiclngamaadgaa
open Go.RowKit
variable {lw : Nat}

def pickM (l : List Int) (k : Nat) (xs : List Int) : Int := xs.getD (nxt l k xs.length).toNat 0
theorem pickM_mem (l : List Int) (k : Nat) (xs : List Int) (h : 0 < xs.length) : pickM l k xs ∈ xs := by
  have hr := nxt_range l k xs.length (by omega)
  unfold pickM
  rw [List.getD_eq_getElem?_getD, List.getElem?_eq_getElem (by omega)]
  exact List.getElem_mem _
theorem ints_get (l : List Int) (j : Nat) (h : j < l.length) : (ints l)[j]? = some (.int .i64 (l.getD j 0)) := by
  simp [ints, List.getD_eq_getElem?_getD, List.getElem?_eq_getElem h]
theorem ints_one (l : List Int) : ∀ u ∈ ints l, u.oneCell' = true := ints_oneCell _ _
theorem ints_length (l : List Int) : (ints l).length = l.length := by simp [ints]

set_option maxRecDepth 100000 in
/-- Pick of numbers that were written out: the slice's block is the newest. -/
theorem pick_any (l : List Int) (k : Nat) (xs : List Int) (p : Nat) (W : World) (hs : StreamAt W p lw l k) (hk : k < 1000000000) (h0 : 0 < xs.length) (h1 : xs.length ≤ 1000) :
    Calls Try.prog 17 #[.pointer (some ⟨p, 0, none⟩), .slice (some ⟨W.heap.size, 0, none⟩) xs.length xs.length] (W.alloc (.cells (ints xs).toArray 3))
      fun e w' => e = .returned (.int .i64 (pickM l k xs)) ∧ StreamAt w' p lw l (k + 1) ∧ W.grownBy w' (some p) := by
  have hlt := hs.lt
  have hr := nxt_range l k xs.length (by omega)
  obtain ⟨i, hi⟩ : ∃ i : Nat, nxt l k xs.length = i := ⟨(nxt l k xs.length).toNat, by omega⟩
  have hil : i < xs.length := by omega
  have hfin : Hid (pickM l k xs = xs.getD i 0) := by show _ = _; unfold pickM; rw [hi]; rfl
  have HI := Lib.hid hi; clear hi hr
  obtain ⟨x, hx⟩ : ∃ x, x = xs.getD i 0 := ⟨_, rfl⟩
  have HX := Lib.hid hx; clear hx
  obtain ⟨W0, hW0⟩ : ∃ W0, W0 = W.alloc (.cells (ints xs).toArray 3) := ⟨_, rfl⟩
  have hs0 : StreamAt W0 p lw l k := by rw [hW0]; exact hs.keep0 (gr_alloc (gr_refl _ _) _)
  have hcell : W0.cell? ⟨W.heap.size, i, none⟩ = some (.int .i64 x) := by
    rw [hW0, World.cell?_alloc_at _ _ _ _ rfl, HX.out]
    simpa using ints_get xs i hil
  rw [← hW0]
  have hgW : W.grownBy W0 none := by rw [hW0]; exact gr_alloc (gr_refl _ _) _
  clear hW0
  go_enter Try.func17, Try.ntmps17
  go_wp2_with (fail)
  refine (next_any l k _ p W0 hs0 hk (by omega)).mono ?_
  rintro e w1 ⟨rfl, hs1, hg1⟩
  rw [HI.out]
  have c1 : w1.cell? ⟨W.heap.size, i, none⟩ = some (.int .i64 x) := hg1.cell hcell (by simp; omega)
  go_wp2_with (fail)
  go_ret
  exact ⟨ret_int (by rw [hfin.out, HX.out]), hs1, gr_trans (gr_weak hgW _) hg1⟩

def flipM (l : List Int) (k : Nat) (n : Int) : Bool := nxt l k n == 0
theorem flip_any (l : List Int) (k : Nat) (n : Int) (p : Nat) (w : World) (hs : StreamAt w p lw l k) (hk : k < 1000000000) (hn : n ≤ 9223372036854775807) :
    Calls Try.prog 48 #[.pointer (some ⟨p, 0, none⟩), .int .i64 n] w fun e w' => e = .returned (.bool (flipM l k n)) ∧ StreamAt w' p lw l (k + 1) ∧ w.grownBy w' (some p) := by
  go_enter Try.func48, Try.ntmps48
  go_wp2_with (go_at_call 8; refine (next_any l k _ p w hs hk hn).mono ?_; rintro e w1 ⟨rfl, hs1, hg1⟩)
  go_ret
  exact ⟨rfl, hs1, hg1⟩

/-! The stream's choice among strings. -/
variable {lw : Nat}

theorem ret_str {a b : ByteArray} (h : a = b) : Ending.returned (.string a) = .returned (.string b) := by rw [h]
def strs (l : List ByteArray) : List Value := l.map Value.string
theorem strs_get (l : List ByteArray) (j : Nat) (h : j < l.length) : (strs l)[j]? = some (.string (l.getD j ⟨#[]⟩)) := by
  simp [strs, List.getD_eq_getElem?_getD, List.getElem?_eq_getElem h]
theorem strs_one (l : List ByteArray) : ∀ u ∈ strs l, u.oneCell' = true := by
  intro u hu
  simp only [strs, List.mem_map] at hu
  obtain ⟨x, _, rfl⟩ := hu
  rfl
theorem strs_length (l : List ByteArray) : (strs l).length = l.length := by simp [strs]
def oneS (l : List Int) (k : Nat) (xs : List ByteArray) : ByteArray := xs.getD (nxt l k xs.length).toNat ⟨#[]⟩
theorem oneS_mem (l : List Int) (k : Nat) (xs : List ByteArray) (h : 0 < xs.length) : oneS l k xs ∈ xs := by
  have hr := nxt_range l k xs.length (by omega)
  unfold oneS
  rw [List.getD_eq_getElem?_getD, List.getElem?_eq_getElem (by omega)]
  exact List.getElem_mem _

set_option maxRecDepth 100000 in
/-- one of strings that were written out: the slice's block is the newest. -/
theorem one_any (l : List Int) (k : Nat) (xs : List ByteArray) (p : Nat) (W : World) (hs : StreamAt W p lw l k) (hk : k < 1000000000) (h0 : 0 < xs.length) (h1 : xs.length ≤ 1000) :
    Calls Try.prog 49 #[.pointer (some ⟨p, 0, none⟩), .slice (some ⟨W.heap.size, 0, none⟩) xs.length xs.length] (W.alloc (.cells (strs xs).toArray 9))
      fun e w' => e = .returned (.string (oneS l k xs)) ∧ StreamAt w' p lw l (k + 1) ∧ W.grownBy w' (some p) := by
  have hlt := hs.lt
  have hr := nxt_range l k xs.length (by omega)
  obtain ⟨i, hi⟩ : ∃ i : Nat, nxt l k xs.length = i := ⟨(nxt l k xs.length).toNat, by omega⟩
  have hil : i < xs.length := by omega
  have hfin : Hid (oneS l k xs = xs.getD i ⟨#[]⟩) := by show _ = _; unfold oneS; rw [hi]; rfl
  have HI := Lib.hid hi; clear hi hr
  obtain ⟨x, hx⟩ : ∃ x, x = xs.getD i ⟨#[]⟩ := ⟨_, rfl⟩
  have HX := Lib.hid hx; clear hx
  obtain ⟨W0, hW0⟩ : ∃ W0, W0 = W.alloc (.cells (strs xs).toArray 9) := ⟨_, rfl⟩
  have hs0 : StreamAt W0 p lw l k := by rw [hW0]; exact hs.keep0 (gr_alloc (gr_refl _ _) _)
  have hcell : W0.cell? ⟨W.heap.size, i, none⟩ = some (.string x) := by
    rw [hW0, World.cell?_alloc_at _ _ _ _ rfl, HX.out]
    simpa using strs_get xs i hil
  rw [← hW0]
  have hgW : W.grownBy W0 none := by rw [hW0]; exact gr_alloc (gr_refl _ _) _
  clear hW0
  go_enter Try.func49, Try.ntmps49
  go_wp2_with (fail)
  refine (next_any l k _ p W0 hs0 hk (by omega)).mono ?_
  rintro e w1 ⟨rfl, hs1, hg1⟩
  rw [HI.out]
  have c1 : w1.cell? ⟨W.heap.size, i, none⟩ = some (.string x) := hg1.cell hcell (by simp; omega)
  go_wp2_with (fail)
  go_ret
  exact ⟨ret_str (by rw [hfin.out, HX.out]), hs1, gr_trans (gr_weak hgW _) hg1⟩

set_option maxRecDepth 100000 in
/-- Pick of numbers whose block is known. -/
theorem pick_in (l : List Int) (k : Nat) (xs : List Int) (p g : Nat) (w : World) (hs : StreamAt w p lw l k) (hk : k < 1000000000) (h0 : 0 < xs.length) (h1 : xs.length ≤ 1000) (hg : g ≠ p) (hc : ∀ i, i < xs.length → w.cell? ⟨g, i, none⟩ = some (.int .i64 (xs.getD i 0))) :
    Calls Try.prog 17 #[.pointer (some ⟨p, 0, none⟩), .slice (some ⟨g, 0, none⟩) xs.length xs.length] w
      fun e w' => e = .returned (.int .i64 (pickM l k xs)) ∧ StreamAt w' p lw l (k + 1) ∧ w.grownBy w' (some p) := by
  have hr := nxt_range l k xs.length (by omega)
  obtain ⟨i, hi⟩ : ∃ i : Nat, nxt l k xs.length = i := ⟨(nxt l k xs.length).toNat, by omega⟩
  have hil : i < xs.length := by omega
  have hfin : Hid (pickM l k xs = xs.getD i 0) := by show _ = _; unfold pickM; rw [hi]; rfl
  have HI := Lib.hid hi; clear hi hr
  have hcell := hc i hil
  obtain ⟨x, hx⟩ : ∃ x, x = xs.getD i 0 := ⟨_, rfl⟩
  rw [← hx] at hcell
  have HX := Lib.hid hx; clear hx hc
  go_enter Try.func17, Try.ntmps17
  go_wp2_with (fail)
  refine (next_any l k _ p w hs hk (by omega)).mono ?_
  rintro e w1 ⟨rfl, hs1, hg1⟩
  rw [HI.out]
  have c1 : w1.cell? ⟨g, i, none⟩ = some (.int .i64 x) := hg1.cell hcell (by simp; omega)
  go_wp2_with (fail)
  go_ret
  exact ⟨ret_int (by rw [hfin.out, HX.out]), hs1, hg1⟩
set_option maxRecDepth 100000 in
/-- one of strings whose block is known. -/
theorem one_in (l : List Int) (k : Nat) (xs : List ByteArray) (p g : Nat) (w : World) (hs : StreamAt w p lw l k) (hk : k < 1000000000) (h0 : 0 < xs.length) (h1 : xs.length ≤ 1000) (hg : g ≠ p) (hc : ∀ i, i < xs.length → w.cell? ⟨g, i, none⟩ = some (.string (xs.getD i ⟨#[]⟩))) :
    Calls Try.prog 49 #[.pointer (some ⟨p, 0, none⟩), .slice (some ⟨g, 0, none⟩) xs.length xs.length] w
      fun e w' => e = .returned (.string (oneS l k xs)) ∧ StreamAt w' p lw l (k + 1) ∧ w.grownBy w' (some p) := by
  have hr := nxt_range l k xs.length (by omega)
  obtain ⟨i, hi⟩ : ∃ i : Nat, nxt l k xs.length = i := ⟨(nxt l k xs.length).toNat, by omega⟩
  have hil : i < xs.length := by omega
  have hfin : Hid (oneS l k xs = xs.getD i ⟨#[]⟩) := by show _ = _; unfold oneS; rw [hi]; rfl
  have HI := Lib.hid hi; clear hi hr
  have hcell := hc i hil
  obtain ⟨x, hx⟩ : ∃ x, x = xs.getD i ⟨#[]⟩ := ⟨_, rfl⟩
  rw [← hx] at hcell
  have HX := Lib.hid hx; clear hx hc
  go_enter Try.func49, Try.ntmps49
  go_wp2_with (fail)
  refine (next_any l k _ p w hs hk (by omega)).mono ?_
  rintro e w1 ⟨rfl, hs1, hg1⟩
  rw [HI.out]
  have c1 : w1.cell? ⟨g, i, none⟩ = some (.string x) := hg1.cell hcell (by simp; omega)
  go_wp2_with (fail)
  go_ret
  exact ⟨ret_str (by rw [hfin.out, HX.out]), hs1, hg1⟩
end Go.Proofs.Ytoiclngamaadgaa
