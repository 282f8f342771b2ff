/- The stream's Pick and Flip. -/
import Derived.Test.YtoiclngamaadgaaPkMAc
import Derived.BigQuiet
namespace Go.Proofs.Ytoiclngamaadgaa
open Go.RowKit
variable {lw : Nat}

def pickM (l : List Int) (k : Nat) (xs : List Int) : Int := xs.getD (nxt l k xs.length).toNat 0
theorem pickM_mem (l : List Int) (k : Nat) (xs : List Int) (h : 0 < xs.length) : pickM l k xs ∈ xs := by
  have hr := nxt_range l k xs.length (by omega)
  unfold pickM
  rw [List.getD_eq_getElem?_getD, List.getElem?_eq_getElem (by omega)]
  exact List.getElem_mem _
theorem ints_get (l : List Int) (j : Nat) (h : j < l.length) : (ints l)[j]? = some (.int .i64 (l.getD j 0)) := by
  simp [ints, List.getD_eq_getElem?_getD, List.getElem?_eq_getElem h]
theorem ints_one (l : List Int) : ∀ u ∈ ints l, u.oneCell' = true := ints_oneCell _ _
theorem ints_length (l : List Int) : (ints l).length = l.length := by simp [ints]

set_option maxRecDepth 100000 in
/-- Pick of numbers that were written out: the slice's block is the newest. -/
theorem pick_any (l : List Int) (k : Nat) (xs : List Int) (p : Nat) (W : World) (hs : StreamAt W p lw l k) (hk : k < 1000000000) (h0 : 0 < xs.length) (h1 : xs.length ≤ 1000) :
    Calls Try.prog 17 #[.pointer (some ⟨p, 0, none⟩), .slice (some ⟨W.heap.size, 0, none⟩) xs.length xs.length] (W.alloc (.cells (ints xs).toArray 3))
      fun e w' => e = .returned (.int .i64 (pickM l k xs)) ∧ StreamAt w' p lw l (k + 1) ∧ W.grownBy w' (some p) := by
  have hlt := hs.lt
  have hr := nxt_range l k xs.length (by omega)
  obtain ⟨i, hi⟩ : ∃ i : Nat, nxt l k xs.length = i := ⟨(nxt l k xs.length).toNat, by omega⟩
  have hil : i < xs.length := by omega
  have hfin : Hid (pickM l k xs = xs.getD i 0) := by show _ = _; unfold pickM; rw [hi]; rfl
  have HI := Lib.hid hi; clear hi hr
  obtain ⟨x, hx⟩ : ∃ x, x = xs.getD i 0 := ⟨_, rfl⟩
  have HX := Lib.hid hx; clear hx
  obtain ⟨W0, hW0⟩ : ∃ W0, W0 = W.alloc (.cells (ints xs).toArray 3) := ⟨_, rfl⟩
  have hs0 : StreamAt W0 p lw l k := by rw [hW0]; exact hs.keep0 (gr_alloc (gr_refl _ _) _)
  have hcell : W0.cell? ⟨W.heap.size, i, none⟩ = some (.int .i64 x) := by
    rw [hW0, World.cell?_alloc_at _ _ _ _ rfl, HX.out]
    simpa using ints_get xs i hil
  rw [← hW0]
  have hgW : W.grownBy W0 none := by rw [hW0]; exact gr_alloc (gr_refl _ _) _
  clear hW0
  go_enter Try.func17, Try.ntmps17
  go_wp2_with (fail)
  refine (next_any l k _ p W0 hs0 hk (by omega)).mono ?_
  rintro e w1 ⟨rfl, hs1, hg1⟩
  rw [HI.out]
  have c1 : w1.cell? ⟨W.heap.size, i, none⟩ = some (.int .i64 x) := hg1.cell hcell (by simp; omega)
  go_wp2_with (fail)
  go_ret
  exact ⟨ret_int (by rw [hfin.out, HX.out]), hs1, gr_trans (gr_weak hgW _) hg1⟩

def flipM (l : List Int) (k : Nat) (n : Int) : Bool := nxt l k n == 0
theorem flip_any (l : List Int) (k : Nat) (n : Int) (p : Nat) (w : World) (hs : StreamAt w p lw l k) (hk : k < 1000000000) (hn : n ≤ 9223372036854775807) :
    Calls Try.prog 48 #[.pointer (some ⟨p, 0, none⟩), .int .i64 n] w fun e w' => e = .returned (.bool (flipM l k n)) ∧ StreamAt w' p lw l (k + 1) ∧ w.grownBy w' (some p) := by
  go_enter Try.func48, Try.ntmps48
  go_wp2_with (go_at_call 8; refine (next_any l k _ p w hs hk hn).mono ?_; rintro e w1 ⟨rfl, hs1, hg1⟩)
  go_ret
  exact ⟨rfl, hs1, hg1⟩

/-! The stream's choice among strings. -/
variable {lw : Nat}

theorem ret_str {a b : ByteArray} (h : a = b) : Ending.returned (.string a) = .returned (.string b) := by rw [h]
def strs (l : List ByteArray) : List Value := l.map Value.string
theorem strs_get (l : List ByteArray) (j : Nat) (h : j < l.length) : (strs l)[j]? = some (.string (l.getD j ⟨#[]⟩)) := by
  simp [strs, List.getD_eq_getElem?_getD, List.getElem?_eq_getElem h]
theorem strs_one (l : List ByteArray) : ∀ u ∈ strs l, u.oneCell' = true := by
  intro u hu
  simp only [strs, List.mem_map] at hu
  obtain ⟨x, _, rfl⟩ := hu
  rfl
theorem strs_length (l : List ByteArray) : (strs l).length = l.length := by simp [strs]
def oneS (l : List Int) (k : Nat) (xs : List ByteArray) : ByteArray := xs.getD (nxt l k xs.length).toNat ⟨#[]⟩
theorem oneS_mem (l : List Int) (k : Nat) (xs : List ByteArray) (h : 0 < xs.length) : oneS l k xs ∈ xs := by
  have hr := nxt_range l k xs.length (by omega)
  unfold oneS
  rw [List.getD_eq_getElem?_getD, List.getElem?_eq_getElem (by omega)]
  exact List.getElem_mem _

set_option maxRecDepth 100000 in
/-- one of strings that were written out: the slice's block is the newest. -/
theorem one_any (l : List Int) (k : Nat) (xs : List ByteArray) (p : Nat) (W : World) (hs : StreamAt W p lw l k) (hk : k < 1000000000) (h0 : 0 < xs.length) (h1 : xs.length ≤ 1000) :
    Calls Try.prog 49 #[.pointer (some ⟨p, 0, none⟩), .slice (some ⟨W.heap.size, 0, none⟩) xs.length xs.length] (W.alloc (.cells (strs xs).toArray 9))
      fun e w' => e = .returned (.string (oneS l k xs)) ∧ StreamAt w' p lw l (k + 1) ∧ W.grownBy w' (some p) := by
  have hlt := hs.lt
  have hr := nxt_range l k xs.length (by omega)
  obtain ⟨i, hi⟩ : ∃ i : Nat, nxt l k xs.length = i := ⟨(nxt l k xs.length).toNat, by omega⟩
  have hil : i < xs.length := by omega
  have hfin : Hid (oneS l k xs = xs.getD i ⟨#[]⟩) := by show _ = _; unfold oneS; rw [hi]; rfl
  have HI := Lib.hid hi; clear hi hr
  obtain ⟨x, hx⟩ : ∃ x, x = xs.getD i ⟨#[]⟩ := ⟨_, rfl⟩
  have HX := Lib.hid hx; clear hx
  obtain ⟨W0, hW0⟩ : ∃ W0, W0 = W.alloc (.cells (strs xs).toArray 9) := ⟨_, rfl⟩
  have hs0 : StreamAt W0 p lw l k := by rw [hW0]; exact hs.keep0 (gr_alloc (gr_refl _ _) _)
  have hcell : W0.cell? ⟨W.heap.size, i, none⟩ = some (.string x) := by
    rw [hW0, World.cell?_alloc_at _ _ _ _ rfl, HX.out]
    simpa using strs_get xs i hil
  rw [← hW0]
  have hgW : W.grownBy W0 none := by rw [hW0]; exact gr_alloc (gr_refl _ _) _
  clear hW0
  go_enter Try.func49, Try.ntmps49
  go_wp2_with (fail)
  refine (next_any l k _ p W0 hs0 hk (by omega)).mono ?_
  rintro e w1 ⟨rfl, hs1, hg1⟩
  rw [HI.out]
  have c1 : w1.cell? ⟨W.heap.size, i, none⟩ = some (.string x) := hg1.cell hcell (by simp; omega)
  go_wp2_with (fail)
  go_ret
  exact ⟨ret_str (by rw [hfin.out, HX.out]), hs1, gr_trans (gr_weak hgW _) hg1⟩

set_option maxRecDepth 100000 in
/-- Pick of numbers whose block is known. -/
theorem pick_in (l : List Int) (k : Nat) (xs : List Int) (p g : Nat) (w : World) (hs : StreamAt w p lw l k) (hk : k < 1000000000) (h0 : 0 < xs.length) (h1 : xs.length ≤ 1000) (hg : g ≠ p) (hc : ∀ i, i < xs.length → w.cell? ⟨g, i, none⟩ = some (.int .i64 (xs.getD i 0))) :
    Calls Try.prog 17 #[.pointer (some ⟨p, 0, none⟩), .slice (some ⟨g, 0, none⟩) xs.length xs.length] w
      fun e w' => e = .returned (.int .i64 (pickM l k xs)) ∧ StreamAt w' p lw l (k + 1) ∧ w.grownBy w' (some p) := by
  have hr := nxt_range l k xs.length (by omega)
  obtain ⟨i, hi⟩ : ∃ i : Nat, nxt l k xs.length = i := ⟨(nxt l k xs.length).toNat, by omega⟩
  have hil : i < xs.length := by omega
  have hfin : Hid (pickM l k xs = xs.getD i 0) := by show _ = _; unfold pickM; rw [hi]; rfl
  have HI := Lib.hid hi; clear hi hr
  have hcell := hc i hil
  obtain ⟨x, hx⟩ : ∃ x, x = xs.getD i 0 := ⟨_, rfl⟩
  rw [← hx] at hcell
  have HX := Lib.hid hx; clear hx hc
  go_enter Try.func17, Try.ntmps17
  go_wp2_with (fail)
  refine (next_any l k _ p w hs hk (by omega)).mono ?_
  rintro e w1 ⟨rfl, hs1, hg1⟩
  rw [HI.out]
  have c1 : w1.cell? ⟨g, i, none⟩ = some (.int .i64 x) := hg1.cell hcell (by simp; omega)
  go_wp2_with (fail)
  go_ret
  exact ⟨ret_int (by rw [hfin.out, HX.out]), hs1, hg1⟩
set_option maxRecDepth 100000 in
/-- one of strings whose block is known. -/
theorem one_in (l : List Int) (k : Nat) (xs : List ByteArray) (p g : Nat) (w : World) (hs : StreamAt w p lw l k) (hk : k < 1000000000) (h0 : 0 < xs.length) (h1 : xs.length ≤ 1000) (hg : g ≠ p) (hc : ∀ i, i < xs.length → w.cell? ⟨g, i, none⟩ = some (.string (xs.getD i ⟨#[]⟩))) :
    Calls Try.prog 49 #[.pointer (some ⟨p, 0, none⟩), .slice (some ⟨g, 0, none⟩) xs.length xs.length] w
      fun e w' => e = .returned (.string (oneS l k xs)) ∧ StreamAt w' p lw l (k + 1) ∧ w.grownBy w' (some p) := by
  have hr := nxt_range l k xs.length (by omega)
  obtain ⟨i, hi⟩ : ∃ i : Nat, nxt l k xs.length = i := ⟨(nxt l k xs.length).toNat, by omega⟩
  have hil : i < xs.length := by omega
  have hfin : Hid (oneS l k xs = xs.getD i ⟨#[]⟩) := by show _ = _; unfold oneS; rw [hi]; rfl
  have HI := Lib.hid hi; clear hi hr
  have hcell := hc i hil
  obtain ⟨x, hx⟩ : ∃ x, x = xs.getD i ⟨#[]⟩ := ⟨_, rfl⟩
  rw [← hx] at hcell
  have HX := Lib.hid hx; clear hx hc
  go_enter Try.func49, Try.ntmps49
  go_wp2_with (fail)
  refine (next_any l k _ p w hs hk (by omega)).mono ?_
  rintro e w1 ⟨rfl, hs1, hg1⟩
  rw [HI.out]
  have c1 : w1.cell? ⟨g, i, none⟩ = some (.string x) := hg1.cell hcell (by simp; omega)
  go_wp2_with (fail)
  go_ret
  exact ⟨ret_str (by rw [hfin.out, HX.out]), hs1, hg1⟩
end Go.Proofs.Ytoiclngamaadgaa

/-! Package slices at ints: with a function value. -/
namespace Go.Proofs.Ytoiclngamaadgaa
open Go.RowKit

/-- A function of the program's own text. -/
def IsFn (F : FuncId) : Prop := ∀ (args : Array Value) (w : World), (callFunc F args).run Try.prog w = .ok (.enter F args) w
/-- What is asked of a function value: it answers P of each element, and writes nothing that was there. -/
def Answers (F : FuncId) (caps : Array Value) (P : Int → Bool) (xs : List Int) (w : World) : Prop :=
  ∀ x ∈ xs, ∀ w1, w.grownBy w1 none → Calls Try.prog F (#[.int .i64 x] ++ caps) w1 fun e w2 => e = .returned (.bool (P x)) ∧ w1.grownBy w2 none
theorem getD_eq' (l : List Int) (k : Nat) (d : Int) (h : k < l.length) : l.getD k d = l[k] := by
  rw [List.getD_eq_getElem?_getD, List.getElem?_eq_getElem h]; rfl
def findM (P : Int → Bool) (xs : List Int) : Int := if xs.findIdx P < xs.length then (xs.findIdx P : Nat) else -1

set_option maxRecDepth 100000 in
theorem indexFunc_int (F : FuncId) (P : Int → Bool) (xs : List Int) (a : Option Addr) (c : Nat) (w : World) (hc : CellsAt w a (ints xs)) (hl : xs.length ≤ 137438953472) (hE : IsFn F) (hF : Answers F #[] P xs w) :
    Calls Try.prog 106 #[.slice a xs.length c, .func (.func F) #[] #[]] w fun e w' => e = .returned (.int .i64 (findM P xs)) ∧ w.grownBy w' none := by
  have HF := Lib.hid hF; clear hF
  have hE' : ∀ (args : Array Value) (w : World), (callFunc F args).run Try.prog w = .ok (.enter F args) w := hE
  clear hE
  go_enter Try.func106, Try.ntmps106
  go_wp2_with (fail)
  go_loopw [8] (fun i wr => ∃ k : Nat, k ≤ xs.length ∧ i = .int .i64 k ∧ (∀ j, j < k → P (xs.getD j 0) = false) ∧ w.grownBy wr none) (fun i _ => xs.length - (intOf i).toNat)
  case atStart => exact ⟨0, Nat.zero_le _, rfl, fun j hj => by omega, gr_refl _ _⟩
  case round =>
    obtain ⟨k, hk, rfl, hno, hgr⟩ := hrel
    obtain ⟨wo, rfl⟩ : ∃ wo : World, wo = wr := ⟨_, rfl⟩
    have HNO := Lib.hid hno; clear hno
    by_cases hlt : k < xs.length
    · obtain ⟨b, off, rfl, d0⟩ := (hc.keep0 hgr) k _ (ints_get xs k hlt)
      have hmem : xs.getD k 0 ∈ xs := by rw [List.getD_eq_getElem?_getD, List.getElem?_eq_getElem hlt]; exact List.getElem_mem hlt
      obtain ⟨x, hx⟩ : ∃ x, x = xs.getD k 0 := ⟨_, rfl⟩
      rw [← hx] at d0 hmem
      have HX := Lib.hid hx; clear hx
      have HM := Lib.hid hmem; clear hmem
      go_wp2_with (fail)
      refine (HF.out x HM.out wo hgr).mono ?_
      rintro e w1 ⟨rfl, hg1⟩
      cases hp : P x with
      | true =>
        have HP := Lib.hid hp; clear hp
        go_wp2_with (fail)
        go_ret
        refine ⟨ret_int ?_, gr_trans hgr hg1⟩
        have : xs.findIdx P = k := by
          rw [List.findIdx_eq hlt]
          refine ⟨by rw [← getD_eq' xs k 0 hlt, ← HX.out]; exact HP.out, fun j hj => ?_⟩
          have := HNO.out j hj
          rwa [getD_eq' xs j 0 (by omega)] at this
        unfold findM
        rw [this, if_pos hlt]
      | false =>
        have HP := Lib.hid hp; clear hp
        go_wp2_with (fail)
        go_roundw
        case rel =>
          refine ⟨k + 1, by omega, by go_num, fun j hj => ?_, gr_trans hgr hg1⟩
          by_cases hjk : j = k
          · subst hjk; rw [← HX.out]; exact HP.out
          · exact HNO.out j (by omega)
        case measure => simp [intOf]; omega
    · have hkl : k = xs.length := by omega
      have HK := Lib.hid hkl; clear hkl
      go_wp2_with (fail)
      go_ret
      refine ⟨ret_int ?_, hgr⟩
      have : ¬ xs.findIdx P < xs.length := by
        rw [List.findIdx_lt_length]
        rintro ⟨y, hy, hpy⟩
        obtain ⟨j, hj, rfl⟩ := List.getElem_of_mem hy
        have := HNO.out j (by rw [HK.out]; exact hj)
        rw [getD_eq' xs j 0 hj] at this
        rw [this] at hpy
        cases hpy
      unfold findM
      rw [if_neg this]

theorem containsFunc_int (F : FuncId) (P : Int → Bool) (xs : List Int) (a : Option Addr) (c : Nat) (w : World) (hc : CellsAt w a (ints xs)) (hl : xs.length ≤ 137438953472) (hE : IsFn F) (hF : Answers F #[] P xs w) :
    Calls Try.prog 60 #[.slice a xs.length c, .func (.func F) #[] #[]] w fun e w' => e = .returned (.bool (xs.any P)) ∧ w.grownBy w' none := by
  have hany : xs.any P = decide (0 ≤ findM P xs) := by
    unfold findM
    by_cases h : xs.findIdx P < xs.length
    · rw [if_pos h, List.any_eq_true.2 (List.findIdx_lt_length.1 h)]; simp
    · rw [if_neg h]
      have : xs.any P = false := by
        rw [List.any_eq_false]
        intro x hx hp
        exact h (List.findIdx_lt_length.2 ⟨x, hx, hp⟩)
      rw [this]; rfl
  have HA := Lib.hid hany; clear hany
  go_enter Try.func60, Try.ntmps60
  go_wp2_with (fail)
  refine (indexFunc_int F P xs a c _ hc hl hE hF).mono ?_
  rintro e w1 ⟨rfl, hg1⟩
  go_wp2_with (fail)
  go_ret
  exact ⟨ret_bool (by rw [HA.out]), hg1⟩
end Go.Proofs.Ytoiclngamaadgaa

/-! Numbers: as the stream makes them. -/
namespace Go.Proofs.Ytoiclngamaadgaa
open Go.RowKit
variable {lw : Nat}

/-- Numbers below m that are drawn one behind the other. -/
def genM (l : List Int) (k : Nat) (m : Int) : Nat → List Int
  | 0 => []
  | n + 1 => genM l k m n ++ [nxt l (k + n) m]
theorem genM_len (l : List Int) (k : Nat) (m : Int) (n : Nat) : (genM l k m n).length = n := by
  induction n with
  | zero => rfl
  | succ n ih => simp [genM, ih]
def numsA (l : List Int) (k n : Nat) (most : Int) : List Int := if flipM l (k + n) 15 then genM l k (most + 1) n ++ [1] else genM l k (most + 1) n
def numsB (l : List Int) (k n : Nat) (most : Int) : Bool := flipM l (k + n + 1) 15 && decide (0 < (numsA l k n most).length)
def numsM (l : List Int) (k n : Nat) (most : Int) : List Int :=
  if numsB l k n most then (numsA l k n most).set (nxt l (k + n + 2) (numsA l k n most).length).toNat (pickM l (k + n + 3) [-1, 1000001, 1099511627776]) else numsA l k n most
def numsK (l : List Int) (k n : Nat) (most : Int) : Nat := if numsB l k n most then k + n + 4 else k + n + 2
theorem numsA_len (l : List Int) (k n : Nat) (most : Int) : (numsA l k n most).length ≤ n + 1 := by
  unfold numsA; split <;> simp [genM_len]
theorem numsM_len (l : List Int) (k n : Nat) (most : Int) : (numsM l k n most).length ≤ n + 1 := by
  unfold numsM; split <;> simp [numsA_len]
theorem numsK_le (l : List Int) (k n : Nat) (most : Int) : numsK l k n most ≤ k + n + 4 := by
  unfold numsK; split <;> omega

end Go.Proofs.Ytoiclngamaadgaa

/-! The stream's Pick of numbers that lie somewhere below the newest block. -/
namespace Go.Proofs.Ytoiclngamaadgaa
open Go.RowKit
variable {lw : Nat}

set_option maxRecDepth 100000 in
theorem pick_at (l : List Int) (k : Nat) (xs : List Int) (p b : Nat) (w : World) (hs : StreamAt w p lw l k) (hk : k < 1000000000) (h0 : 0 < xs.length) (h1 : xs.length ≤ 1000) (hc : CellsAt w (some ⟨b, 0, none⟩) (ints xs)) (hb : p ≠ b) :
    Calls Try.prog 17 #[.pointer (some ⟨p, 0, none⟩), .slice (some ⟨b, 0, none⟩) xs.length xs.length] w
      fun e w' => e = .returned (.int .i64 (pickM l k xs)) ∧ StreamAt w' p lw l (k + 1) ∧ w.grownBy w' (some p) := by
  have hr := nxt_range l k xs.length (by omega)
  obtain ⟨i, hi⟩ : ∃ i : Nat, nxt l k xs.length = i := ⟨(nxt l k xs.length).toNat, by omega⟩
  have hil : i < xs.length := by omega
  have hfin : Hid (pickM l k xs = xs.getD i 0) := by show _ = _; unfold pickM; rw [hi]; rfl
  have HI := Lib.hid hi; clear hi hr
  obtain ⟨x, hx⟩ : ∃ x, x = xs.getD i 0 := ⟨_, rfl⟩
  have HX := Lib.hid hx; clear hx
  have hcell : w.cell? ⟨b, i, none⟩ = some (.int .i64 x) := by
    obtain ⟨b', off, he, hx⟩ := hc i (.int .i64 x) (by rw [HX.out]; exact ints_get xs i hil)
    cases he
    simpa using hx
  go_enter Try.func17, Try.ntmps17
  go_wp2_with (fail)
  refine (next_any l k _ p w hs hk (by omega)).mono ?_
  rintro e w1 ⟨rfl, hs1, hg1⟩
  rw [HI.out]
  have c1 : w1.cell? ⟨b, i, none⟩ = some (.int .i64 x) := hg1.cell hcell (by simp; omega)
  go_wp2_with (fail)
  go_ret
  exact ⟨ret_int (by rw [hfin.out, HX.out]), hs1, hg1⟩
end Go.Proofs.Ytoiclngamaadgaa
