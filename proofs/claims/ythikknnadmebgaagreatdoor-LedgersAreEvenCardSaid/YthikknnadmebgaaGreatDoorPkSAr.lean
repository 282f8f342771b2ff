/- A row of structs that a stream's function makes, with a row of strings beside it: what stands on each way. -/
import Derived.Test.YthikknnadmebgaaGreatDoorPkSAp
import Derived.Test.YthikknnadmebgaaGreatDoorPkSAq
import Derived.Test.YthikknnadmebgaaGreatDoorPkSAe
import Derived.Test.YthikknnadmebgaaGreatDoorPkSAb
import Derived.Deep.DeepCutAuto
import Derived.Deep.RegionLaw
import Derived.WalkLawsBesides
import Derived.Deep.DrawnRows
import Derived.Test.YthikknnadmebgaaGreatDoorPkSAa
import Derived.Test.YthikknnadmebgaaGreatDoorPkSAm
namespace Go.Proofs.YthikknnadmebgaaGreatDoor
open Go.RowKit

structure MkW {α : Type} (enc : α → List Value) (t m : Nat) (P : α → Prop) (keys : Array Value) (wr w : World) (p lw : Nat) (l : List Int) (q : Nat) (v : Value) (N : List α) : Prop where
  own : wr.ownsRow (w.heap.size + 1) t m v N.length (flat enc N)
  blk : wr.heap[w.heap.size]? = some (.cells keys 9 (0, 0))
  str : StreamAt wr p lw l q
  all : ∀ x ∈ N, P x
  gr : w.grownBy wr (some p)
  pB : p < w.heap.size
section
variable {α : Type} {enc : α → List Value} {t m : Nat} {P : α → Prop} {keys : Array Value} {wr w1 w : World} {p lw : Nat} {l : List Int} {q q2 : Nat} {v v1 : Value} {N : List α} {x : α}
theorem MkW.draw (h : MkW enc t m P keys wr w p lw l q v N) (gg : wr.grownBy w1 (some p)) (hs : StreamAt w1 p lw l q2) : MkW enc t m P keys w1 w p lw l q2 v N :=
  ⟨own_keepS h.own gg (by have := h.pB; omega), (gg.block _ (lt_of_block h.blk) (fun e => by have := h.pB; cases e; omega)).trans h.blk, hs, h.all, gr_trans h.gr gg, h.pB⟩
theorem MkW.app (h : MkW enc t m P keys wr w p lw l q v N) (ht : t ≠ 9) (hx : P x) (o : w1.ownsRow (w.heap.size + 1) t m v1 (N.length + 1) (flat enc N ++ enc x)) (gg : wr.grownBy w1 v.ownBlock) (hl : ∀ b, v.ownBlock = some b → w.heap.size + 1 ≤ b) : MkW enc t m P keys w1 w p lw l q v1 (N ++ [x]) := by
  refine ⟨?_, (gg.block _ (lt_of_block h.blk) (fun e => own_ne h.own h.blk ht e.symm)).trans h.blk, h.str.keep gg (fun b e => by have := hl b e; have := h.pB; omega), fun y hy => ?_, gr_grown h.gr gg (fun b e => by have := hl b e; omega), h.pB⟩
  · rw [List.length_append, flat_append, flat_one]; exact o
  · rcases List.mem_append.1 hy with hy | hy
    · exact h.all y hy
    · have : y = x := by simpa using hy
      rw [this]; exact hx
end
/-- A ware. -/
structure Wr where
  key : ByteArray
  price : Int
  group : ByteArray
def encWr (x : Wr) : List Value := [.string x.key, .int .i64 x.price, .string x.group]
theorem encWr_len (x : Wr) : (encWr x).length = 3 := rfl
def WrSm (x : Wr) : Prop := x.key.size ≤ 5 ∧ (-1 ≤ x.price ∧ x.price ≤ 100001) ∧ x.group.size ≤ 5
/-- A deal. -/
structure De where
  key : ByteArray
  group : ByteArray
  many : Int
  free : Int
def encDe (x : De) : List Value := [.string x.key, .string x.group, .int .i64 x.many, .int .i64 x.free]
theorem encDe_len (x : De) : (encDe x).length = 4 := rfl
def DeSm (x : De) : Prop := x.key.size ≤ 5 ∧ x.group.size ≤ 5 ∧ (0 ≤ x.many ∧ x.many ≤ 21) ∧ (0 ≤ x.free ∧ x.free ≤ 21)
/-- An item of a basket. -/
def BkSm (x : Nm) : Prop := x.key.size ≤ 5 ∧ 0 ≤ x.many ∧ (x.many ≤ 7 ∨ x.many = 101)
theorem wr_cells {w : World} {a : Option Addr} {L : List Wr} (h : CellsAt w a (flat encWr L)) (k : Nat) (hk : k < L.length) : ∃ b off, a = some ⟨b, off, none⟩ ∧ w.cell? ⟨b, off + k * 3, none⟩ = some (.string L[k].key) ∧ w.cell? ⟨b, off + k * 3 + 1, none⟩ = some (.int .i64 L[k].price) ∧ w.cell? ⟨b, off + k * 3 + 2, none⟩ = some (.string L[k].group) := by
  obtain ⟨b, off, e, hcs⟩ := flat_cells (enc := encWr) (m := 3) (fun _ => rfl) (by decide) h (by omega)
  exact ⟨b, off, e, hcs k hk 0 _ rfl, hcs k hk 1 _ rfl, hcs k hk 2 _ rfl⟩
theorem de_cells {w : World} {a : Option Addr} {L : List De} (h : CellsAt w a (flat encDe L)) (k : Nat) (hk : k < L.length) : ∃ b off, a = some ⟨b, off, none⟩ ∧ w.cell? ⟨b, off + k * 4, none⟩ = some (.string L[k].key) ∧ w.cell? ⟨b, off + k * 4 + 1, none⟩ = some (.string L[k].group) ∧ w.cell? ⟨b, off + k * 4 + 2, none⟩ = some (.int .i64 L[k].many) ∧ w.cell? ⟨b, off + k * 4 + 3, none⟩ = some (.int .i64 L[k].free) := by
  obtain ⟨b, off, e, hcs⟩ := flat_cells (enc := encDe) (m := 4) (fun _ => rfl) (by decide) h (by omega)
  exact ⟨b, off, e, hcs k hk 0 _ rfl, hcs k hk 1 _ rfl, hcs k hk 2 _ rfl, hcs k hk 3 _ rfl⟩
theorem bk_cells {w : World} {a : Option Addr} {L : List Nm} (h : CellsAt w a (flat encNm L)) (k : Nat) (hk : k < L.length) : ∃ b off, a = some ⟨b, off, none⟩ ∧ w.cell? ⟨b, off + k * 2, none⟩ = some (.string L[k].key) ∧ w.cell? ⟨b, off + k * 2 + 1, none⟩ = some (.int .i64 L[k].many) := by
  obtain ⟨b, off, e, hcs⟩ := flat_cells (enc := encNm) (m := 2) (fun _ => rfl) (by decide) h (by omega)
  exact ⟨b, off, e, hcs k hk 0 _ rfl, hcs k hk 1 _ rfl⟩
theorem five_get {α : Type} (a b c d e : α) (i : Nat) (h : i < 5) : ∃ x, #[a, b, c, d, e][i]? = some x ∧ (x = a ∨ x = b ∨ x = c ∨ x = d ∨ x = e) := by
  have : i = 0 ∨ i = 1 ∨ i = 2 ∨ i = 3 ∨ i = 4 := by omega
  rcases this with rfl | rfl | rfl | rfl | rfl <;> simp
end Go.Proofs.YthikknnadmebgaaGreatDoor

/-! A right entry of a ledger, as the stream makes it. -/
namespace Go.Proofs.YthikknnadmebgaaGreatDoor
open Go.RowKit
attribute [local go_sem ↓] Go.wp_at_zero Go.wp_at_succ
variable {lw : Nat}

abbrev akeys : Array Value := #[.string ⟨#[99, 97, 115, 104]⟩, .string ⟨#[108, 111, 115, 115]⟩, .string ⟨#[115, 97, 108, 101, 115]⟩, .string ⟨#[98, 97, 110, 107]⟩]
def accL : List ByteArray := [⟨#[99, 97, 115, 104]⟩, ⟨#[108, 111, 115, 115]⟩, ⟨#[115, 97, 108, 101, 115]⟩, ⟨#[98, 97, 110, 107]⟩]
def accS (i : Int) : ByteArray := accL.getD i.toNat ⟨#[]⟩
theorem akeys_get (i : Nat) (h : i < 4) : akeys[i]? = some (.string (accS i)) := by
  have : i = 0 ∨ i = 1 ∨ i = 2 ∨ i = 3 := by omega
  rcases this with rfl | rfl | rfl | rfl <;> rfl
abbrev entTs : List ByteArray := [⟨#[98, 97, 103, 32, 111, 110, 101]⟩, ⟨#[120]⟩, ⟨#[195, 169, 116, 195, 169]⟩]
def entT (l : List Int) (k : Nat) : ByteArray := oneS l k entTs
def entN (l : List Int) (k : Nat) : Int := pickM l (k + 1) [1, 50, 100]
def entA (l : List Int) (k i : Nat) : ByteArray := accS ((ordM l (k + 2) 4).getD i 0)
def entL (l : List Int) (k : Nat) : List Nm :=
  if flipM l (k + 5) 3 then [⟨entA l k 0, entN l k + 7⟩, ⟨entA l k 1, -entN l k⟩, ⟨entA l k 2, -7⟩] else [⟨entA l k 0, entN l k⟩, ⟨entA l k 1, -entN l k⟩]
theorem eLn : ElemT Tryz.prog 32 89 (.agg #[.string ⟨#[]⟩, .int .i64 0]) 2 24 := ⟨by kernel_rfl, by kernel_rfl, by decide, by decide, by decide⟩
theorem cell_kept {w w1 : World} {r : Option Nat} {b o : Nat} (g : w.grownBy w1 r) (hb : b < w.heap.size) (hr : some b ≠ r) : w1.cell? ⟨b, o, none⟩ = w.cell? ⟨b, o, none⟩ := World.cell?_of_block (w := w) (g.block b hb hr)
theorem own_two {w : World} {base gl t : Nat} {a b c d : Value} (hb : base ≤ gl) (h : w.heap[gl]? = some (.cells #[a, b, c, d] t (0, 0))) : w.ownsRow base t 2 (.slice (some ⟨gl, 0, none⟩) 2 2) 2 [a, b, c, d] :=
  ⟨rfl, .inr ⟨gl, 2, _, rfl, hb, h, Nat.le_refl _, by unfold maxLen; omega, rfl, rfl⟩⟩
def EntryPost (l : List Int) (k p lw : Nat) (day : Int) (w : World) (e : Ending) (w' : World) : Prop :=
  ∃ v, e = .returned (.agg #[.int .i64 day, .string (entT l k), v]) ∧ w'.ownsRow w.heap.size 89 2 v (entL l k).length (flat encNm (entL l k)) ∧ StreamAt w' p lw l (k + 6) ∧ w.grownBy w' (some p) ∧ IsOrder 4 (ordM l (k + 2) 4)
set_option maxRecDepth 100000 in
set_option maxHeartbeats 1500000 in
theorem rightEntry_any (l : List Int) (k p : Nat) (day : Int) (w : World) (hs : StreamAt w p lw l k) (hk : k < 800000000) :
    Calls Tryz.prog 8 #[.pointer (some ⟨p, 0, none⟩), .int .i64 day] w (EntryPost l k p lw day w) := by
  obtain ⟨dt, hd1⟩ := und_struct (P := Tryz.prog) (t := 34) (by kernel_rfl)
  have hlt := hs.lt
  have hR := heap_alloc_new w (.cells #[.int .i64 0, .string ⟨#[]⟩, .slice none 0 0] 34)
  have g1 := gr_alloc (gr_refl w none) (.cells #[.int .i64 0, .string ⟨#[]⟩, .slice none 0 0] 34)
  obtain ⟨w1, hw1⟩ : ∃ w1, w1 = w.alloc (.cells #[.int .i64 0, .string ⟨#[]⟩, .slice none 0 0] 34) := ⟨_, rfl⟩
  have hz1 : w1.heap.size = w.heap.size + 1 := by rw [hw1]; simp
  rw [← hw1] at hR g1
  have hs1 := hs.keep0 g1
  have HW1 := Lib.hid hw1
  obtain ⟨R, hRe⟩ : ∃ R, R = w.heap.size := ⟨_, rfl⟩
  rw [← hRe] at hR
  have HR := Lib.hid hR
  have HRE := Lib.hid hRe
  have HG1 := Lib.hid g1
  have hpR : p < R := by omega
  have hRw : w.heap.size ≤ R := by omega
  have HZ1 := Lib.hid hz1
  clear hw1 hR hRe g1 hs hz1
  go_enter Tryz.func8, Tryz.ntmps8
  go_upto_region 1 with (fail)
  rw [← HW1.out, ← HRE.out]
  go_wp2_with (fail)
  refine (one_any l k [⟨#[98, 97, 103, 32, 111, 110, 101]⟩, ⟨#[120]⟩, ⟨#[195, 169, 116, 195, 169]⟩] p w1 hs1 (by omega) (by decide) (by decide)).mono ?_
  rintro e w3 ⟨rfl, s3, g3⟩
  have hT : oneS l k [⟨#[98, 97, 103, 32, 111, 110, 101]⟩, ⟨#[120]⟩, ⟨#[195, 169, 116, 195, 169]⟩] = entT l k := rfl
  rw [hT]
  have HT := Lib.hid hT
  obtain ⟨T, hTe⟩ : ∃ T, T = entT l k := ⟨_, rfl⟩
  rw [← hTe]
  have HTE := Lib.hid hTe
  have hR3 := (g3.block _ (lt_of_block HR.out) (by simp; omega)).trans HR.out
  have hV := heap_alloc_new w3 (.cells #[.int .i64 day, .string T, .slice none 0 0] 34)
  have ga := gr_alloc (gr_refl w3 none) (.cells #[.int .i64 day, .string T, .slice none 0 0] 34)
  obtain ⟨w4, hw4⟩ : ∃ w4, w4 = w3.alloc (.cells #[.int .i64 day, .string T, .slice none 0 0] 34) := ⟨_, rfl⟩
  rw [← hw4] at hV ga
  obtain ⟨V, hVe⟩ : ∃ V, V = w3.heap.size := ⟨_, rfl⟩
  rw [← hVe] at hV
  have HW4 := Lib.hid hw4
  have HVE := Lib.hid hVe
  have s4 := s3.keep0 ga
  have HR4 := Lib.hid ((ga.block _ (lt_of_block hR3) (by simp)).trans hR3)
  have HG4 := Lib.hid (gr_trans (gr_trans (gr_weak HG1.out (some p)) g3) (gr_weak ga (some p)))
  have hRV : R < V := by have := lt_of_block hR3; omega
  have HV := Lib.hid hV
  clear hT hTe hR3 hV ga hw4 hVe s3 g3 hs1
  go_upto_region 2 with (fail)
  rw [← HW4.out, ← HVE.out]
  go_wp2_with (fail)
  refine (pick_any l (k + 1) [1, 50, 100] p w4 s4 (by omega) (by decide) (by decide)).mono ?_
  rintro e w5 ⟨rfl, s5, g5⟩
  have hnm := pickM_mem l (k + 1) [1, 50, 100] (by decide)
  simp only [List.mem_cons, List.not_mem_nil, or_false] at hnm
  obtain ⟨n, hn⟩ : ∃ n, n = pickM l (k + 1) [1, 50, 100] := ⟨_, rfl⟩
  rw [← hn] at hnm
  rw [← hn]
  have HN := Lib.hid (show n = entN l k from hn)
  have hnb : 1 ≤ n ∧ n ≤ 100 := by omega
  have hA := heap_alloc_new w5 (.cells akeys 9)
  have ga := gr_alloc (gr_refl w5 none) (.cells akeys 9)
  obtain ⟨w6, hw6⟩ : ∃ w6, w6 = w5.alloc (.cells akeys 9) := ⟨_, rfl⟩
  rw [← hw6] at hA ga
  obtain ⟨A, hAe⟩ : ∃ A, A = w5.heap.size := ⟨_, rfl⟩
  rw [← hAe] at hA
  have s6 := s5.keep0 ga
  have gr46 := gr_trans g5 (gr_weak ga (some p))
  have HV6 := Lib.hid ((gr46.block _ (lt_of_block HV.out) (by simp; omega)).trans HV.out)
  have HR6 := Lib.hid ((gr46.block _ (lt_of_block HR4.out) (by simp; omega)).trans HR4.out)
  have HG6 := Lib.hid (gr_trans HG4.out gr46)
  have hVA : V < A := by have := lt_of_block HV.out; have := g5.size; omega
  have HW6 := Lib.hid hw6
  have HAE := Lib.hid hAe
  have HA := Lib.hid hA
  have hzA : A < w6.heap.size := lt_of_block hA
  clear hn hnm hA ga hw6 hAe s5 g5 gr46 HV HR4 HG4 s4
  go_upto_region 4 with (fail)
  rw [← HW6.out, ← HAE.out]
  go_wp2_with (fail)
  have OR := orderF_any l (k + 2) 4 p w6 s6 (by omega) (by omega)
  unfold OrderFPost at OR
  refine OR.mono ?_
  rintro e w7 ⟨ov, rfl, oo, hord, s7, g7⟩
  obtain ⟨go, co, rfl, hgo, hgol, -, -⟩ := own_some oo (by omega)
  obtain ⟨_, _, ev, -, -, hco, -⟩ := own_shape oo
  cases ev
  have OC : ∀ i, i < 4 → ∃ x : Nat, x < 4 ∧ w7.cell? ⟨go, i, none⟩ = some (.int .i64 (x : Int)) ∧ (ordM l (k + 2) 4).getD i 0 = (x : Int) := by
    intro i hi
    have hl := hord.len
    obtain ⟨b, o, e, hc⟩ := hco i _ (ints_get (ordM l (k + 2) 4) i (by omega))
    cases e
    rw [Nat.zero_add] at hc
    have hm := (hord.mem ((ordM l (k + 2) 4).getD i 0)).1 (by rw [getD_eq _ i 0 (by omega)]; exact List.getElem_mem _)
    exact ⟨((ordM l (k + 2) 4).getD i 0).toNat, by omega, by rw [hc, Int.toNat_of_nonneg hm.1], by rw [Int.toNat_of_nonneg hm.1]⟩
  obtain ⟨x0, hx0, c0, e0⟩ := OC 0 (by omega)
  obtain ⟨x1, hx1, c1, e1⟩ := OC 1 (by omega)
  obtain ⟨x2, hx2, c2, e2⟩ := OC 2 (by omega)
  have hA7 := (g7.block _ (lt_of_block HA.out) (by simp; omega)).trans HA.out
  have HV7 := Lib.hid ((g7.block _ (lt_of_block HV6.out) (by simp; omega)).trans HV6.out)
  have HR7 := Lib.hid ((g7.block _ (lt_of_block HR6.out) (by simp; omega)).trans HR6.out)
  have HG7 := Lib.hid (gr_trans HG6.out g7)
  have b0 : w7.cell? ⟨A, x0, none⟩ = some (.string (accS x0)) := blkC hA7 x0 (akeys_get x0 hx0)
  have b1 : w7.cell? ⟨A, x1, none⟩ = some (.string (accS x1)) := blkC hA7 x1 (akeys_get x1 hx1)
  have b2 : w7.cell? ⟨A, x2, none⟩ = some (.string (accS x2)) := blkC hA7 x2 (akeys_get x2 hx2)
  have E0 : Hid (entA l k 0 = accS x0) := by show _ = _; unfold entA; rw [e0]
  have E1 : Hid (entA l k 1 = accS x1) := by show _ = _; unfold entA; rw [e1]
  have E2 : Hid (entA l k 2 = accS x2) := by show _ = _; unfold entA; rw [e2]
  obtain ⟨S0, hS0⟩ : ∃ S, S = accS x0 := ⟨_, rfl⟩
  obtain ⟨S1, hS1⟩ : ∃ S, S = accS x1 := ⟨_, rfl⟩
  obtain ⟨S2, hS2⟩ : ∃ S, S = accS x2 := ⟨_, rfl⟩
  rw [← hS0] at b0 E0
  rw [← hS1] at b1 E1
  rw [← hS2] at b2 E2
  have HS7 := Lib.hid s7
  have HORD := Lib.hid hord
  have v2 : w7.cell? ⟨V, 2, none⟩ = some (.slice none 0 0) := blkC HV7.out 2 rfl
  have f2 := blkF HV7.out 2
  have hVl := lt_of_block HV7.out
  have i0 : (x0 : Int) < 4 := by omega
  have i1 : (x1 : Int) < 4 := by omega
  have i2 : (x2 : Int) < 4 := by omega
  have hwn : IntKind.i64.wrap (-n) = -n := IntWalk.i64_in _ (by omega)
  clear OR oo hord hco OC e0 e1 e2 hA7 hS0 hS1 hS2 s7 g7 s6 HV6 HR6 HG6 HA
  go_upto_region 5 with (fail)
  go_cut [] (fun wx => ∃ gl : Nat, w7.heap.size ≤ gl ∧ wx.heap[gl]? = some (.cells #[.string S0, .int .i64 n, .string S1, .int .i64 (-n)] 89 (0, 0)) ∧ wx.heap[V]? = some (.cells #[.int .i64 day, .string T, .slice (some ⟨gl, 0, none⟩) 2 2] 34 (0, 0)) ∧ w7.grownBy wx (some V))
  case first =>
    go_region_law (fail)
    all_goals (go_wp2_with (fail))
    all_goals go_meet
    all_goals
      refine ⟨w7.heap.size, Nat.le_refl _, ?_, ?_, ?_⟩
      · have h := heap_alloc_new (w7.setCell ⟨V, 2, none⟩ (.slice (some ⟨w7.heap.size, 0, none⟩) 2 2)) (.cells #[.string S0, .int .i64 n, .string S1, .int .i64 (-n)] 89)
        have e : (w7.setCell ⟨V, 2, none⟩ (.slice (some ⟨w7.heap.size, 0, none⟩) 2 2)).heap.size = w7.heap.size := by simp [World.setCell]
        rw [e] at h
        exact h
      · have h := heap_setCell_same w7 V 2 _ _ (.slice (some ⟨w7.heap.size, 0, none⟩) 2 2) HV7.out
        exact ((gr_alloc (gr_refl _ none) _).block V (lt_of_block h) (by simp)).trans h
      · exact gr_drew (gr_alloc (gr_set (q := ⟨V, 2, none⟩) (gr_refl w7 (some V)) rfl _) _)
  case rest =>
  obtain ⟨gl, hgl, hL, hV8, g8⟩ := hcut
  obtain ⟨w8, rfl⟩ : ∃ w8 : World, w8 = wc := ⟨_, rfl⟩
  have s8 := HS7.out.keep g8 (fun q e => by cases e; omega)
  rw [show k + 2 + (4 - 1) = k + 5 by omega] at s8
  have hgoV : go ≠ V := by omega
  have c28 := (cell_kept (o := 2) g8 hgol (by simpa using hgoV)).trans c2
  have b28 := (cell_kept (o := x2) g8 (lt_of_cell b2) (by simp; omega)).trans b2
  have HR8 := Lib.hid ((g8.block R (lt_of_block HR7.out) (by simp; omega)).trans HR7.out)
  have hwV : w.heap.size ≤ V := by omega
  have HG8 := Lib.hid (gr_grown HG7.out g8 (fun q e => by cases e; exact hwV))
  have hz78 := g8.size
  have hzw7 := HG7.out.size
  have HL := Lib.hid hL
  have HV8 := Lib.hid hV8
  have hglV : gl ≠ V := by omega
  have hRl : R < w8.heap.size := lt_of_block HR8.out
  clear g8 hL hV8 c0 c1 c2 b0 b1 b2 v2 f2 HS7 HV7 HR7 HG7
  go_wp2_with (fail)
  refine (flip_any l (k + 5) 3 p w8 s8 (by omega) (by omega)).mono ?_
  rintro e w9 ⟨rfl, s9, g9⟩
  have hL9 := (g9.block gl (lt_of_block HL.out) (by simp; omega)).trans HL.out
  have hV9 := (g9.block V (lt_of_block HV8.out) (by simp; omega)).trans HV8.out
  have hR9 := (g9.block R (lt_of_block HR8.out) (by simp; omega)).trans HR8.out
  have HG9 := Lib.hid (gr_trans HG8.out g9)
  obtain ⟨fb, hfb⟩ : ∃ fb, fb = flipM l (k + 5) 3 := ⟨_, rfl⟩
  rw [← hfb]
  have HLE : Hid (entL l k = if fb then [⟨S0, n + 7⟩, ⟨S1, -n⟩, ⟨S2, -7⟩] else [⟨S0, n⟩, ⟨S1, -n⟩]) := by
    show _ = _
    unfold entL
    rw [← hfb, E0.out, E1.out, E2.out, ← HN.out]
  clear hfb
  cases fb with
  | false =>
    have HLF : Hid (entL l k = [⟨S0, n⟩, ⟨S1, -n⟩]) := by show _ = _; rw [HLE.out]; rfl
    have v0 : w9.cell? ⟨V, 0, none⟩ = some (.int .i64 day) := blkC hV9 0 rfl
    have v1 : w9.cell? ⟨V, 1, none⟩ = some (.string T) := blkC hV9 1 rfl
    have v2 : w9.cell? ⟨V, 2, none⟩ = some (.slice (some ⟨gl, 0, none⟩) 2 2) := blkC hV9 2 rfl
    have r0 : w9.cell? ⟨R, 0, none⟩ = some (.int .i64 0) := blkC hR9 0 rfl
    have r1 : w9.cell? ⟨R, 1, none⟩ = some (.string ⟨#[]⟩) := blkC hR9 1 rfl
    have r2 : w9.cell? ⟨R, 2, none⟩ = some (.slice none 0 0) := blkC hR9 2 rfl
    have t0 := blkF hR9 0
    have t1 := blkF hR9 1
    have t2 := blkF hR9 2
    have HL9 := Lib.hid hL9
    have HR9 := Lib.hid hR9
    have HS9 := Lib.hid s9
    have GS := Lib.hid (gr_set (q := ⟨R, 2, none⟩) (gr_set (q := ⟨R, 1, none⟩) (gr_set (q := ⟨R, 0, none⟩) (gr_refl w9 (some R)) rfl (.int .i64 day)) rfl (.string T)) rfl (.slice (some ⟨gl, 0, none⟩) 2 2))
    clear hL9 hV9 hR9 g9 HLE
    go_wp2_with (fail)
    refine bodyPost_ret (results_cell_row (p := 4) (by kernel_rfl) _ _ R _ #[.int .i64 day, .string T, .slice (some ⟨gl, 0, none⟩) 2 2] _ (.struct dt) rfl (set3R_heap HR9.out _ _ _) hd1 rfl (by kernel_rfl)) rfl ⟨.slice (some ⟨gl, 0, none⟩) 2 2, by rw [← HTE.out], ?_, ?_, ?_, HORD.out⟩
    · rw [HLF.out]
      exact own_two (by omega) ((GS.out.block gl (lt_of_block HL9.out) (by simp; omega)).trans HL9.out)
    · exact HS9.out.keep GS.out (fun q e => by cases e; exact hpR)
    · exact gr_grown HG9.out GS.out (fun q e => by cases e; exact hRw)
  | true =>
    have HLT : Hid (entL l k = [⟨S0, n + 7⟩, ⟨S1, -n⟩, ⟨S2, -7⟩]) := by show _ = _; rw [HLE.out]; rfl
    have v2 : w9.cell? ⟨V, 2, none⟩ = some (.slice (some ⟨gl, 0, none⟩) 2 2) := blkC hV9 2 rfl
    have q1 : w9.cell? ⟨gl, 1, none⟩ = some (.int .i64 n) := blkC hL9 1 rfl
    have t1 := blkF hL9 1
    have hwn7 : IntKind.i64.wrap (n + 7) = n + 7 := IntWalk.i64_in _ (by omega)
    have hLS := heap_setCell_same w9 gl 1 _ _ (.int .i64 (n + 7)) hL9
    have gsl := gr_set (q := ⟨gl, 1, none⟩) (gr_refl w9 (some gl)) rfl (.int .i64 (n + 7))
    obtain ⟨wS, hwS⟩ : ∃ wS, wS = w9.setCell ⟨gl, 1, none⟩ (.int .i64 (n + 7)) := ⟨_, rfl⟩
    rw [← hwS] at hLS gsl
    have hVS := (gsl.block V (lt_of_block hV9) (by simp; omega)).trans hV9
    have hRS := (gsl.block R (lt_of_block hR9) (by simp; omega)).trans hR9
    have c2S := (cell_kept (o := 2) gsl (Nat.lt_of_lt_of_le (lt_of_cell c28) g9.size) (by simp; omega)).trans ((cell_kept (o := 2) g9 (lt_of_cell c28) (by simp; omega)).trans c28)
    have b2S := (cell_kept (o := x2) gsl (Nat.lt_of_lt_of_le (lt_of_cell b28) g9.size) (by simp; omega)).trans ((cell_kept (o := x2) g9 (lt_of_cell b28) (by simp; omega)).trans b28)
    have sS := s9.keep gsl (fun q e => by cases e; omega)
    have HGS := Lib.hid (gr_grown HG9.out gsl (fun q e => by cases e; omega))
    have HWS := Lib.hid hwS
    have hzgl : gl < wS.heap.size := lt_of_block hLS
    have HO := Lib.hid (own_two (base := w7.heap.size) hgl hLS)
    have HSS := Lib.hid sS
    have HRS := Lib.hid hRS
    have HVS := Lib.hid hVS
    clear hLS gsl hwS hRS hL9 hV9 hR9 g9 HLE s9 sS c28 b28
    go_upto_region 8 with (fail)
    rw [← HWS.out]
    clear v2 q1 t1
    obtain ⟨sv, hsv⟩ : ∃ sv, sv = Value.slice (some ⟨gl, 0, none⟩) 2 2 := ⟨_, rfl⟩
    rw [← hsv] at HO HVS
    clear hsv
    have v2 : wS.cell? ⟨V, 2, none⟩ = some sv := blkC HVS.out 2 rfl
    have HOD := Lib.hid (own_of_heapG (w' := wS.drew) HO.out rfl)
    have hbz : w7.heap.size ≤ wS.drew.heap.size := by show _ ≤ wS.heap.size; omega
    have hVz : V < wS.heap.size := lt_of_cell v2
    have hAz : A < wS.heap.size := lt_of_cell b2S
    have hgoz : go < wS.heap.size := lt_of_cell c2S
    clear hVS
    go_cut [] (fun wx => ∃ v11, wx.ownsRow w7.heap.size 89 2 v11 3 (flat encNm [⟨S0, n + 7⟩, ⟨S1, -n⟩, ⟨S2, -7⟩]) ∧ wx.heap[V]? = some (.cells #[.int .i64 day, .string T, v11] 34 (0, 0)) ∧ wx.heap[R]? = some (.cells #[.int .i64 0, .string ⟨#[]⟩, .slice none 0 0] 34 (0, 0)) ∧ StreamAt wx p lw l (k + 5 + 1) ∧ w.grownBy wx (some p))
    case first =>
      go_region_law (first
        | (refine step_app1 eLn rfl _ _ rfl w7.heap.size _ 2 _ rfl wS.drew #[.string S2, .int .i64 (-7)] rfl HOD.out _ rfl rfl rfl rfl (by omega) hbz ?_; intro v11 w11 o11 g11 hl11 hk11; obtain ⟨ga, ca, rfl, hga, hgal, -, -⟩ := own_some o11 (by omega); have hV11 := held_own HOD.out (show wS.drew.heap[V]? = _ from HVS.out) g11 (by decide); have hR11 := held_own HOD.out (show wS.drew.heap[R]? = _ from HRS.out) g11 (by decide); have v11c : w11.cell? ⟨V, 2, none⟩ = some sv := blkC hV11 2 rfl; have t11 := blkF hV11 2)
        | fail)
      all_goals (go_wp2_with (fail))
      all_goals go_meet
      all_goals
        have gx := gr_set (q := ⟨V, 2, none⟩) (gr_refl w11 (some V)) rfl (.slice (some ⟨ga, 0, none⟩) (2 + 1) ca)
        have k1 := o11.kept gx (Or.inr (own_ne o11 hV11 (by decide)))
        have k2 := heap_setCell_same w11 V 2 _ _ (.slice (some ⟨ga, 0, none⟩) (2 + 1) ca) hV11
        have k3 := (gx.block R (lt_of_block hR11) (by simp; omega)).trans hR11
        have k4 := ((HSS.out.keep0 (gr_drew (gr_refl wS none))).keep g11 (fun q e => by have := hl11 q e; omega)).keep gx (fun q e => by cases e; omega)
        have k5 := gr_grown (gr_grown (gr_drew HGS.out) g11 (fun q e => by have := hl11 q e; omega)) gx (fun q e => by cases e; exact hwV)
        exact ⟨_, k1, k2, k3, k4, k5⟩
    case rest =>
    obtain ⟨v11, o11, hV12, hR12, s12, g12⟩ := hcut
    obtain ⟨w12, rfl⟩ : ∃ w12 : World, w12 = wc := ⟨_, rfl⟩
    obtain ⟨ga, ca, rfl, hga, -⟩ := own_some o11 (by omega)
    have u0 : w12.cell? ⟨V, 0, none⟩ = some (.int .i64 day) := blkC hV12 0 rfl
    have u1 : w12.cell? ⟨V, 1, none⟩ = some (.string T) := blkC hV12 1 rfl
    have u2 : w12.cell? ⟨V, 2, none⟩ = some (.slice (some ⟨ga, 0, none⟩) 3 ca) := blkC hV12 2 rfl
    have r0 : w12.cell? ⟨R, 0, none⟩ = some (.int .i64 0) := blkC hR12 0 rfl
    have r1 : w12.cell? ⟨R, 1, none⟩ = some (.string ⟨#[]⟩) := blkC hR12 1 rfl
    have r2 : w12.cell? ⟨R, 2, none⟩ = some (.slice none 0 0) := blkC hR12 2 rfl
    have t0 := blkF hR12 0
    have t1' := blkF hR12 1
    have t2 := blkF hR12 2
    have gsr := gr_set (q := ⟨R, 2, none⟩) (gr_set (q := ⟨R, 1, none⟩) (gr_set (q := ⟨R, 0, none⟩) (gr_refl w12 (some R)) rfl (.int .i64 day)) rfl (.string T)) rfl (.slice (some ⟨ga, 0, none⟩) 3 ca)
    have GS := Lib.hid gsr
    have HO12 := Lib.hid (o11.kept gsr (Or.inr (own_ne o11 hR12 (by decide))))
    have HR12 := Lib.hid hR12
    have HS12 := Lib.hid s12
    have HG12 := Lib.hid g12
    clear gsr o11 hV12 hR12 s12 g12 v2 c2S b2S
    go_wp2_with (fail)
    refine bodyPost_ret (results_cell_row (p := 4) (by kernel_rfl) _ _ R _ #[.int .i64 day, .string T, .slice (some ⟨ga, 0, none⟩) 3 ca] _ (.struct dt) rfl (set3R_heap HR12.out _ _ _) hd1 rfl (by kernel_rfl)) rfl ⟨.slice (some ⟨ga, 0, none⟩) 3 ca, by rw [← HTE.out], ?_, ?_, ?_, HORD.out⟩
    · rw [HLT.out]
      exact own_base HO12.out (by omega)
    · exact HS12.out.keep GS.out (fun q e => by cases e; exact hpR)
    · exact gr_grown HG12.out GS.out (fun q e => by cases e; exact hRw)
end Go.Proofs.YthikknnadmebgaaGreatDoor

/-! Package slices at elements coilrack/api.Line: with a function value. Written by mkfind.py. -/
namespace Go.Proofs.YthikknnadmebgaaGreatDoor
open Go.RowKit

set_option maxRecDepth 100000 in
set_option maxHeartbeats 1000000 in
theorem indexFunc_Ln (F : FuncId) (q0 : Nat) (P : Nm → Bool) (xs : List (Nm)) (a : Option Addr) (c : Nat) (w : World) (hc : CellsAt w a (flat encNm xs)) (hl : xs.length ≤ 137438953472)
    (hE : ∀ (args : Array Value) (w : World), (callFunc F args).run Tryz.prog w = .ok (.enter F args) w)
    (hF : ∀ x ∈ xs, ∀ w1, w.grownBy w1 none → Calls Tryz.prog F #[.agg #[.string x.key, .int .i64 x.many], .pointer (some ⟨q0, 0, none⟩)] w1 fun e w2 => e = .returned (.bool (P x)) ∧ w1.grownBy w2 none) :
    Calls Tryz.prog 124 #[.slice a xs.length c, Value.func (.func F) #[] #[.pointer (some ⟨q0, 0, none⟩)]] w fun e w' => e = .returned (.int .i64 (findA P xs)) ∧ w.grownBy w' none := by
  have HF := Lib.hid hF; clear hF
  go_enter Tryz.func124, Tryz.ntmps124
  go_wp2_with (fail)
  go_loopw [8] (fun i wr => ∃ k : Nat, k ≤ xs.length ∧ i = .int .i64 k ∧ (∀ j (hj : j < xs.length), j < k → P xs[j] = false) ∧ w.grownBy wr none) (fun i _ => xs.length - (intOf i).toNat)
  case atStart => exact ⟨0, Nat.zero_le _, rfl, fun j _ hj => absurd hj (Nat.not_lt_zero _), gr_refl _ _⟩
  case round =>
    obtain ⟨k, hk, rfl, hno, hgr⟩ := hrel
    obtain ⟨wo, rfl⟩ : ∃ wo : World, wo = wr := ⟨_, rfl⟩
    have HNO := Lib.hid hno; clear hno
    by_cases hlt : k < xs.length
    · obtain ⟨b, off, rfl, hcs⟩ := flat_cells (enc := encNm) (m := 2) (fun _ => rfl) (by decide) (hc.keep0 hgr) (by omega)
      have hmem : xs[k] ∈ xs := List.getElem_mem hlt
      obtain ⟨x, hx⟩ : ∃ x, x = xs[k] := ⟨_, rfl⟩
      have HX := Lib.hid hx
      have d0 : wo.cell? ⟨b, off + k * 2, none⟩ = some (.string x.key) := by have := hcs k hlt 0 _ rfl; simpa [← HX.out] using this
      have d1 : wo.cell? ⟨b, off + k * 2 + 1, none⟩ = some (.int .i64 x.many) := by have := hcs k hlt 1 _ rfl; simpa [← HX.out] using this
      rw [← hx] at hmem
      clear hx
      have HM := Lib.hid hmem; clear hmem hcs
      go_wp2_with (fail)
      refine (HF.out x HM.out wo hgr).mono ?_
      rintro e w1 ⟨rfl, hg1⟩
      cases hp : P x with
      | true =>
        have HP := Lib.hid hp; clear hp
        go_wp2_with (fail)
        go_ret
        refine ⟨ret_int (findA_at hlt (by rw [← HX.out]; exact HP.out) (fun j hj => HNO.out j (by omega) hj)).symm, gr_trans hgr hg1⟩
      | false =>
        have HP := Lib.hid hp; clear hp
        go_wp2_with (fail)
        go_roundw
        case rel =>
          refine ⟨k + 1, by omega, by go_num, fun j hjl hj => ?_, gr_trans hgr hg1⟩
          by_cases hjk : j = k
          · subst hjk; rw [← HX.out]; exact HP.out
          · exact HNO.out j hjl (by omega)
        case measure => simp [intOf]; omega
    · have hkl : k = xs.length := by omega
      have HK := Lib.hid hkl; clear hkl
      go_wp2_with (fail)
      go_ret
      exact ⟨ret_int (findA_none (fun j hj => HNO.out j hj (by rw [HK.out]; exact hj))).symm, hgr⟩

theorem containsFunc_Ln (F : FuncId) (q0 : Nat) (P : Nm → Bool) (xs : List (Nm)) (a : Option Addr) (c : Nat) (w : World) (hc : CellsAt w a (flat encNm xs)) (hl : xs.length ≤ 137438953472)
    (hE : ∀ (args : Array Value) (w : World), (callFunc F args).run Tryz.prog w = .ok (.enter F args) w)
    (hF : ∀ x ∈ xs, ∀ w1, w.grownBy w1 none → Calls Tryz.prog F #[.agg #[.string x.key, .int .i64 x.many], .pointer (some ⟨q0, 0, none⟩)] w1 fun e w2 => e = .returned (.bool (P x)) ∧ w1.grownBy w2 none) :
    Calls Tryz.prog 88 #[.slice a xs.length c, Value.func (.func F) #[] #[.pointer (some ⟨q0, 0, none⟩)]] w fun e w' => e = .returned (.bool (xs.any P)) ∧ w.grownBy w' none := by
  have HA := Lib.hid (any_findA P xs)
  go_enter Tryz.func88, Tryz.ntmps88
  go_wp2_with (fail)
  refine (indexFunc_Ln F q0 P xs a c _ hc hl hE hF).mono ?_
  rintro e w1 ⟨rfl, hg1⟩
  go_wp2_with (fail)
  go_ret
  exact ⟨ret_bool (by rw [HA.out]), hg1⟩
end Go.Proofs.YthikknnadmebgaaGreatDoor

/-! Package slices at elements coilrack/api.Ware: with a function value. Written by mkfind.py. -/
namespace Go.Proofs.YthikknnadmebgaaGreatDoor
open Go.RowKit

end Go.Proofs.YthikknnadmebgaaGreatDoor

/-! Package slices at elements coilrack/api.Deal: with a function value. Written by mkfind.py. -/
namespace Go.Proofs.YthikknnadmebgaaGreatDoor
open Go.RowKit

end Go.Proofs.YthikknnadmebgaaGreatDoor

/-! What is wrong with wares: the document's answer, and the program's. -/
namespace Go.Proofs.YthikknnadmebgaaGreatDoor
open Go.RowKit
attribute [local go_sem ↓] Go.wp_at_zero Go.wp_at_succ

structure WrOk (x : Wr) : Prop where
  key : keyB x.key = true
  grp : keyB x.group = true
  p0 : 0 ≤ x.price
  p1 : x.price ≤ 100000
def WrAt (N : List Wr) (j : Nat) (hj : j < N.length) : Prop := WrOk N[j] ∧ ∀ (_ : 0 < j), leS N[j].key (N[j - 1]'(by omega)).key = false
def WrsOk (N : List Wr) : Prop := ∀ j (hj : j < N.length), WrAt N j hj
def WrPost (ok : Prop) (w : World) (e : Ending) (w' : World) : Prop := ∃ r : Int, e = .returned (.int .i64 r) ∧ (r = 0 → ok) ∧ w.grownBy w' none
end Go.Proofs.YthikknnadmebgaaGreatDoor
