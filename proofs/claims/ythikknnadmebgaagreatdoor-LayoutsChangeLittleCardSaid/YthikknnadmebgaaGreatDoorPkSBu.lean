/- What the search for a layout keeps in memory. -/
import Derived.Test.YthikknnadmebgaaGreatDoorPkSBi
import Derived.Test.YthikknnadmebgaaGreatDoorPkSAe
import Derived.Test.YthikknnadmebgaaGreatDoorPkSBh
namespace Go.Proofs.YthikknnadmebgaaGreatDoor
open Go.RowKit

structure PlAt (w0 w : World) (g R C : Nat) (offs old : Value) (N : List ByteArray) (nv lv : Value) (L : List Int) (em : Int) (bv : Value) (B : List ByteArray) (ls : Int) : Prop where
  gr : w0.grownBy w none
  le : w0.heap.size ≤ g
  blk : w.heap[g]? = some (.cells #[.int .i64 R, .int .i64 C, offs, old, nv, lv, .int .i64 em, bv, .int .i64 ls] 137 (0, 0))
  now : w.ownsRow w0.heap.size 9 1 nv N.length (strs N)
  left : w.ownsRow w0.heap.size 3 1 lv L.length (ints L)
  best : w.ownsRow w0.heap.size 9 1 bv B.length (strs B)
  bd : ∀ q, bv.ownBlock = some q → nv.ownBlock ≠ some q
section
variable {w0 w w1 : World} {g R C : Nat} {offs old : Value} {N : List ByteArray} {nv lv : Value} {L : List Int} {em : Int} {bv : Value} {B : List ByteArray} {ls : Int}
theorem PlAt.keep0 (h : PlAt w0 w g R C offs old N nv lv L em bv B ls) (e : w.grownBy w1 none) : PlAt w0 w1 g R C offs old N nv lv L em bv B ls :=
  ⟨gr_trans h.gr e, h.le, (e.block g (lt_of_block h.blk) (by simp)).trans h.blk, own_keep0 h.now e, own_keep0 h.left e, own_keep0 h.best e, h.bd⟩
/-- A cell of the placer's own is written. -/
theorem PlAt.cell (h : PlAt w0 w g R C offs old N nv lv L em bv B ls) (k : Nat) (v : Value) : w0.grownBy (w.setCell ⟨g, k, none⟩ v) none ∧ (w.setCell ⟨g, k, none⟩ v).ownsRow w0.heap.size 9 1 nv N.length (strs N) ∧ (w.setCell ⟨g, k, none⟩ v).ownsRow w0.heap.size 3 1 lv L.length (ints L) ∧ (w.setCell ⟨g, k, none⟩ v).ownsRow w0.heap.size 9 1 bv B.length (strs B) := by
  have gs : w.grownBy (w.setCell ⟨g, k, none⟩ v) (some g) := gr_set (q := ⟨g, k, none⟩) (gr_refl w (some g)) rfl v
  have hle := h.le
  exact ⟨gr_grown h.gr gs (fun q e => by cases e; exact hle), own_keep h.now gs (.inr (own_ne h.now h.blk (by decide))), own_keep h.left gs (.inr (own_ne h.left h.blk (by decide))), own_keep h.best gs (.inr (own_ne h.best h.blk (by decide)))⟩
theorem PlAt.setEmpty (h : PlAt w0 w g R C offs old N nv lv L em bv B ls) (em' : Int) : PlAt w0 (w.setCell ⟨g, 6, none⟩ (.int .i64 em')) g R C offs old N nv lv L em' bv B ls := by
  obtain ⟨c1, c2, c3, c4⟩ := h.cell 6 (.int .i64 em')
  exact ⟨c1, h.le, heap_setCell_same w g 6 _ _ _ h.blk, c2, c3, c4, h.bd⟩
theorem PlAt.setLeft {lb n lc : Nat} (h : PlAt w0 w g R C offs old N nv (.slice (some ⟨lb, 0, none⟩) n lc) L em bv B ls) (k : Nat) (z : Int) (hn : n = L.length) : PlAt w0 (w.setCell ⟨lb, k, none⟩ (.int .i64 z)) g R C offs old N nv (.slice (some ⟨lb, 0, none⟩) n lc) (L.set k z) em bv B ls := by
  subst hn
  have st := h.left.stored k (.int .i64 z)
  have hlb := (h.left.lt lb rfl).1
  have hg : g ≠ lb := by
    intro e
    exact own_ne h.left h.blk (by decide) (by rw [e]; rfl)
  have hstr : ∀ {v : Value} {m : Nat} {xs : List Value}, w.ownsRow w0.heap.size 9 1 v m xs → v.ownBlock ≠ some lb := by
    intro v m xs ho e
    obtain ⟨_, h1⟩ := own_blkA ho e
    obtain ⟨_, h2⟩ := own_blkA h.left rfl
    rw [h1] at h2
    simp at h2
  refine ⟨gr_grown h.gr st.2 (fun q e => by cases e; exact hlb), h.le, (st.2.block g (lt_of_block h.blk) (by simpa using hg)).trans h.blk, own_keep h.now st.2 (.inr (hstr h.now)), ?_, own_keep h.best st.2 (.inr (hstr h.best)), h.bd⟩
  rw [List.length_set, ← ints_setA]
  exact st.1
/-- Something is put at the end. -/
theorem PlAt.push {nv' : Value} {y : ByteArray} (h : PlAt w0 w g R C offs old N nv lv L em bv B ls) (ho : w1.ownsRow w0.heap.size 9 1 nv' (N.length + 1) (strs N ++ [.string y])) (hg : w.grownBy w1 nv.ownBlock) (hf : ∀ q, nv'.ownBlock = some q → nv.ownBlock = some q ∨ w.heap.size ≤ q) :
    PlAt w0 (w1.setCell ⟨g, 4, none⟩ nv') g R C offs old (N ++ [y]) nv' lv L em bv B ls := by
  have hv := (hg.block g (lt_of_block h.blk) (fun e => own_ne h.now h.blk (by decide) e.symm)).trans h.blk
  have gs : w1.grownBy (w1.setCell ⟨g, 4, none⟩ nv') (some g) := gr_set (q := ⟨g, 4, none⟩) (gr_refl w1 (some g)) rfl _
  have hle := h.le
  have hl1 := own_keep h.left hg (by
    rcases hb : lv.ownBlock with _ | q
    · exact .inl rfl
    · refine .inr (fun e => ?_)
      obtain ⟨_, h1⟩ := own_blkA h.left hb
      obtain ⟨_, h2⟩ := own_blkA h.now e.symm
      rw [h1] at h2
      simp at h2)
  have hb1 := own_keep h.best hg (by
    rcases hb : bv.ownBlock with _ | q
    · exact .inl rfl
    · exact .inr (fun e => h.bd q hb e.symm))
  refine ⟨gr_grown (gr_grown h.gr hg (fun q e => (h.now.lt q e).1)) gs (fun q e => by cases e; exact hle), h.le, heap_setCell_same w1 g 4 _ _ nv' hv, ?_, own_keep hl1 gs (.inr (own_ne hl1 hv (by decide))), own_keep hb1 gs (.inr (own_ne hb1 hv (by decide))), fun q hq e => ?_⟩
  · rw [List.length_append]
    have e2 : strs (N ++ [y]) = strs N ++ [.string y] := by simp [strs]
    rw [e2]
    exact own_keep ho gs (.inr (own_ne ho hv (by decide)))
  · rcases hf q e with h8 | h8
    · exact h.bd q hq h8
    · have := (h.best.lt q hq).2
      omega
/-- It is taken back. -/
theorem PlAt.pop {b c : Nat} {y : ByteArray} (h : PlAt w0 w g R C offs old (N ++ [y]) (.slice (some ⟨b, 0, none⟩) (N.length + 1) c) lv L em bv B ls) : PlAt w0 (w.setCell ⟨g, 4, none⟩ (.slice (some ⟨b, 0, none⟩) N.length c)) g R C offs old N (.slice (some ⟨b, 0, none⟩) N.length c) lv L em bv B ls := by
  obtain ⟨c1, c2, c3, c4⟩ := h.cell 4 (.slice (some ⟨b, 0, none⟩) N.length c)
  refine ⟨c1, h.le, heap_setCell_same w g 4 _ _ _ h.blk, ?_, c3, c4, h.bd⟩
  rw [List.length_append] at c2
  rcases c2.2 with ⟨h2, _⟩ | ⟨b', cap, cur, h2, h3, h4, h5, h6, h7, h8⟩
  · cases h2
  · cases h2
    refine ⟨by rw [strs_length]; omega, .inr ⟨b, c, cur, rfl, h3, h4, by simp at h5; omega, h6, h7, ?_⟩⟩
    have e2 : strs (N ++ [y]) = strs N ++ [.string y] := by simp [strs]
    rw [e2] at h8
    have e3 := congrArg (List.take N.length) h8
    rw [List.take_take] at e3
    have e4 : (strs N ++ [Value.string y]).take N.length = strs N := by
      rw [← strs_length N, List.take_left]
    rw [e4] at e3
    rw [Nat.mul_one, ← e3]
    congr 1
    simp
/-- A new best layout. -/
theorem PlAt.full {bv' : Value} {ls' : Int} (h : PlAt w0 w g R C offs old N nv lv L em bv B ls) (ho : w.ownsRow w0.heap.size 9 1 bv' N.length (strs N)) (hb : ∀ q, bv'.ownBlock = some q → nv.ownBlock ≠ some q) :
    PlAt w0 ((w.setCell ⟨g, 7, none⟩ bv').setCell ⟨g, 8, none⟩ (.int .i64 ls')) g R C offs old N nv lv L em bv' N ls' := by
  have gs : w.grownBy ((w.setCell ⟨g, 7, none⟩ bv').setCell ⟨g, 8, none⟩ (.int .i64 ls')) (some g) := gr_set (q := ⟨g, 8, none⟩) (gr_set (q := ⟨g, 7, none⟩) (gr_refl w (some g)) rfl _) rfl _
  have k1 := heap_setCell_same w g 7 _ _ bv' h.blk
  have k2 := heap_setCell_same _ g 8 _ _ (.int .i64 ls') k1
  have hle := h.le
  exact ⟨gr_grown h.gr gs (fun k e => by cases e; exact hle), h.le, k2, own_keep h.now gs (.inr (own_ne h.now h.blk (by decide))), own_keep h.left gs (.inr (own_ne h.left h.blk (by decide))), own_keep ho gs (.inr (own_ne ho h.blk (by decide))), hb⟩
end
/-- The best layout so far, if there is one. -/
def BestOk (ks x : List ByteArray) (cs : List Int) (R C : Nat) (os : List Offer) (B : List ByteArray) (ls : Int) : Prop := ls = -1 ∨ (0 ≤ ls ∧ PlIs ks x cs R C os B ∧ ls = (diffB x B : Int))
end Go.Proofs.YthikknnadmebgaaGreatDoor

/-! shelf.placer.put, where filling one slot less is known. -/
namespace Go.Proofs.YthikknnadmebgaaGreatDoor
open Go.RowKit
attribute [local go_sem ↓] Go.wp_at_zero Go.wp_at_succ

/-- What a call of put or fill leaves. -/
def PlPost (w0 : World) (g R C : Nat) (offs old : Value) (N : List ByteArray) (lv : Value) (L : List Int) (em : Int) (ks x : List ByteArray) (cs : List Int) (os : List Offer) (e : Ending) (w' : World) : Prop :=
  e = .returned (.tuple #[]) ∧ ∃ nv' bv' B' ls', PlAt w0 w' g R C offs old N nv' lv L em bv' B' ls' ∧ BestOk ks x cs R C os B' ls'
/-- Filling, with m slots left. -/
def FillSp (w0 : World) (g R C : Nat) (oa xa : Option Addr) (oc xc : Nat) (lv : Value) (ks x : List ByteArray) (cs : List Int) (os : List Offer) (m : Nat) : Prop :=
  ∀ (w : World) (N : List ByteArray) (nv : Value) (L : List Int) (em : Int) (bv : Value) (B : List ByteArray) (ls : Int), PlAt w0 w g R C (.slice oa os.length oc) (.slice xa x.length xc) N nv lv L em bv B ls → PlC ks x cs N L em → NoCl R C os N → BestOk ks x cs R C os B ls → N.length + m = x.length →
    Calls Tryz.prog 77 #[.pointer (some ⟨g, 0, none⟩), .int .i64 (diffB (x.take N.length) N : Nat)] w (PlPost w0 g R C (.slice oa os.length oc) (.slice xa x.length xc) N lv L em ks x cs os)
theorem diffB_le : ∀ (x a : List ByteArray), diffB x a ≤ x.length
  | [], [] => Nat.le_refl _
  | [], _ :: _ => Nat.le_refl _
  | _ :: _, [] => Nat.zero_le _
  | y :: x, z :: a => by
    have := diffB_le x a
    show (if y = z then 0 else 1) + diffB x a ≤ x.length + 1
    split <;> omega
set_option maxRecDepth 100000 in
set_option maxHeartbeats 4000000 in
theorem put_of (w0 : World) (g R C : Nat) (oa xa : Option Addr) (oc xc : Nat) (lv : Value) (ks x : List ByteArray) (cs : List Int) (os : List Offer) (vs : List OV) (m : Nat) (IH : FillSp w0 g R C oa xa oc xc lv ks x cs os m)
    (hO : OffsAt w0 oa vs os) (hX : CellsAt w0 xa (strs x)) (hol : os.length ≤ 1000) (hh : ∀ o ∈ os, o.hates.length ≤ 1000 ∧ o.has.length ≤ 1000) (hC : 1 ≤ C) (hC6 : C ≤ 6) (hx36 : x.length ≤ 36)
    (w : World) (N : List ByteArray) (y : ByteArray) (nv : Value) (L : List Int) (em : Int) (bv : Value) (B : List ByteArray) (ls : Int) (h : PlAt w0 w g R C (.slice oa os.length oc) (.slice xa x.length xc) N nv lv L em bv B ls) (hc : PlC ks x cs (N ++ [y]) L em) (hn : NoCl R C os N) (hb : BestOk ks x cs R C os B ls) (hm : N.length + (m + 1) = x.length) :
    Calls Tryz.prog 115 #[.pointer (some ⟨g, 0, none⟩), .string y, .int .i64 (diffB (x.take N.length) N : Nat)] w (PlPost w0 g R C (.slice oa os.length oc) (.slice xa x.length xc) N lv L em ks x cs os) := by
  obtain ⟨na, nc, rfl, _, _, hNc, _⟩ := own_shape h.now
  have hlt : N.length < x.length := by omega
  obtain ⟨xb, xoff, rfl, d0⟩ := str_cell (hX.keep0 h.gr) N.length hlt
  have r0 : w.cell? ⟨g, 0, none⟩ = some (.int .i64 (R : Int)) := blkC h.blk 0 rfl
  have r1 : w.cell? ⟨g, 1, none⟩ = some (.int .i64 (C : Int)) := blkC h.blk 1 rfl
  have r2 : w.cell? ⟨g, 2, none⟩ = some (.slice oa os.length oc) := blkC h.blk 2 rfl
  have r3 : w.cell? ⟨g, 3, none⟩ = some (.slice (some ⟨xb, xoff, none⟩) x.length xc) := blkC h.blk 3 rfl
  have r4 : w.cell? ⟨g, 4, none⟩ = some (.slice na N.length nc) := blkC h.blk 4 rfl
  have r8 : w.cell? ⟨g, 8, none⟩ = some (.int .i64 ls) := blkC h.blk 8 rfl
  have hdl := diffB_le (x.take N.length) N
  rw [List.length_take] at hdl
  have hdn : diffB (x.take (N.length + 1)) (N ++ [y]) = diffB (x.take N.length) N + (if y = x.getD N.length e0B then 0 else 1) := by
    rw [List.take_succ_eq_append_getElem hlt, diffB_app _ _ _ _ (by rw [List.length_take]; omega), getD_eq x N.length _ hlt]
    by_cases e : x[N.length] = y
    · rw [if_pos e, if_pos e.symm]
    · rw [if_neg e, if_neg (fun e2 => e e2.symm)]
  obtain ⟨z, hz⟩ : ∃ z, z = x.getD N.length ⟨#[]⟩ := ⟨_, rfl⟩
  rw [← hz] at d0 hdn
  obtain ⟨d, hd⟩ : ∃ d, d = diffB (x.take N.length) N := ⟨_, rfl⟩
  rw [← hd] at hdl hdn
  rw [← hd]
  obtain ⟨d', hd'⟩ : ∃ d', d' = diffB (x.take (N.length + 1)) (N ++ [y]) := ⟨_, rfl⟩
  rw [← hd'] at hdn
  have hE := eq_bytesA y z
  obtain ⟨bb, hbb⟩ : ∃ bb, bb = decide (y = z) := ⟨_, rfl⟩
  rw [← hbb] at hE
  have hdb : Hid (d' = d + if bb then 0 else 1) := by
    show _ = _
    rw [hdn, hbb]
    by_cases e : y = z <;> simp [e]
  have hwd : IntKind.i64.wrap ((d : Int) + 1) = (d : Int) + 1 := IntWalk.i64_in _ (by omega)
  have hwu : IntKind.i64.wrap ((N.length : Int) - (C : Int)) = (N.length : Int) - (C : Int) := IntWalk.i64_in _ (by omega)
  have hws : IntKind.i64.wrap ((N.length : Int) - 1) = (N.length : Int) - 1 := IntWalk.i64_in _ (by omega)
  have H := Lib.hid h
  have HC := Lib.hid hc
  have HN := Lib.hid hn
  have HB := Lib.hid hb
  have HI := Lib.hid IH
  have HO := Lib.hid hO
  have HX := Lib.hid hX
  have HH := Lib.hid hh
  have HD := Lib.hid hd
  have HD' := Lib.hid hd'
  have HNC := Lib.hid hNc
  clear h hc hn hb IH hO hX hh hd hd' hdn hz hbb hNc
  go_enter Tryz.func115, Tryz.ntmps115
  go_upto_if 22 with (fail)
  go_cut [2] from 23 to 24 (fun s wx => s = .int .i64 (d' : Int) ∧ wx = w)
  case first =>
    cases bb with
    | true =>
      go_wp2_with (fail)
      go_meet
      exact ⟨by rw [hdb.out]; rfl, rfl⟩
    | false =>
      go_wp2_with (fail)
      go_meet
      exact ⟨by rw [hdb.out]; rfl, rfl⟩
  case rest =>
  obtain ⟨rfl, rfl⟩ := hcut
  obtain ⟨w, rfl⟩ : ∃ w : World, w = wc := ⟨_, rfl⟩
  have hd'36 : d' ≤ 37 := by have := hdb.out; cases bb <;> simp at this <;> omega
  clear hdb hE d0
  obtain ⟨b3, hb3⟩ : ∃ b3, b3 = (decide (0 ≤ ls) && decide (ls ≤ (d' : Int))) := ⟨_, rfl⟩
  have HB3 := Lib.hid hb3
  clear hb3
  go_upto_region 3 with (fail)
  go_cut [37] (fun s wx => s = .bool b3 ∧ wx = w)
  case first =>
    by_cases hl0 : 0 ≤ ls
    · have e0 : decide (0 ≤ ls) = true := decide_eq_true hl0
      have H3 : Hid (b3 = decide (ls ≤ (d' : Int))) := by show _ = _; rw [HB3.out, e0, Bool.true_and]
      clear hl0
      go_wp2_with (fail)
      go_meet
      exact ⟨by rw [H3.out], rfl⟩
    · have e0 : decide (0 ≤ ls) = false := decide_eq_false hl0
      have H3 : Hid (b3 = false) := by show _ = _; rw [HB3.out, e0, Bool.false_and]
      clear hl0
      go_wp2_with (fail)
      go_meet
      exact ⟨by rw [H3.out], rfl⟩
  case rest =>
  obtain ⟨rfl, rfl⟩ := hcut
  obtain ⟨w, rfl⟩ : ∃ w : World, w = wc := ⟨_, rfl⟩
  clear r8
  cases b3 with
  | true =>
    go_wp2_with (fail)
    first | go_end0 | ((try simp only [Exit.inBlock, Exit.then]); refine bodyPost_ret (results_none rfl _ _ _) rfl ?_)
    exact ⟨rfl, _, _, _, _, H.out, HB.out⟩
  | false =>
  obtain ⟨p, hp⟩ : ∃ p, p = (decide (C ≤ N.length) && hatedB os (N.getD (N.length - C) e0B) y) := ⟨_, rfl⟩
  obtain ⟨q, hq⟩ : ∃ q, q = (decide (0 < N.length % C) && hatedB os (N.getD (N.length - 1) e0B) y) := ⟨_, rfl⟩
  have HP := Lib.hid hp
  have HQ := Lib.hid hq
  clear hp hq
  have hmm : Int.tmod (N.length : Int) (C : Int) = ((N.length % C : Nat) : Int) := rfl
  obtain ⟨mm, hme⟩ : ∃ mm, mm = N.length % C := ⟨_, rfl⟩
  rw [← hme] at hmm
  have HME := Lib.hid hme
  have hC0 : ((C : Int) == 0) = false := beq_eq_false_iff_ne.2 (by omega)
  have hC1 : ¬ (C : Int) = 0 := by omega
  have hC2 : ¬ C = 0 := by omega
  have HHS := Lib.hid (fun (a : ByteArray) (W : World) (g : w.grownBy W none) => hated_any os a y oa vs oc W (HO.out.keep0 (gr_trans H.out.gr g)) hol HH.out)
  clear hme
  go_upto_region 5 with (fail)
  go_cut [88] (fun s wx => s = .bool (p || q) ∧ w.grownBy wx none)
  case first =>
    have x1 := grew_cell r1
    have x2 := grew_cell r2
    have x4 := grew_cell r4
    have HSid : Hid (0 < mm → ∃ nb off b2, na = some ⟨nb, off, none⟩ ∧ ∃ a2, w.cell? ⟨nb, off + (N.length - 1), none⟩ = some (.string a2) ∧ q = b2 ∧ ∀ W : World, w.grownBy W none → Calls Tryz.prog 79 #[.slice oa os.length oc, .string a2, .string y] W fun e w' => e = .returned (.bool b2) ∧ W.grownBy w' none) := by
      intro h1
      have hN0 : 0 < N.length := by
        rcases Nat.eq_zero_or_pos N.length with h0 | h0
        · rw [HME.out, h0, Nat.zero_mod] at h1
          omega
        · exact h0
      obtain ⟨nb, off, e, c⟩ := str_cell HNC.out (N.length - 1) (by omega)
      refine ⟨nb, off, _, e, _, c, ?_, HHS.out _⟩
      rw [HQ.out, ← HME.out, decide_eq_true h1, Bool.true_and]
    have HUp : Hid (C ≤ N.length → ∃ nb off b1, na = some ⟨nb, off, none⟩ ∧ ∃ a1, w.cell? ⟨nb, off + (N.length - C), none⟩ = some (.string a1) ∧ p = b1 ∧ ∀ W : World, w.grownBy W none → Calls Tryz.prog 79 #[.slice oa os.length oc, .string a1, .string y] W fun e w' => e = .returned (.bool b1) ∧ W.grownBy w' none) := by
      intro h1
      obtain ⟨nb, off, e, c⟩ := str_cell HNC.out (N.length - C) (by omega)
      refine ⟨nb, off, _, e, _, c, ?_, HHS.out _⟩
      rw [HP.out, decide_eq_true h1, Bool.true_and]
    have HP0 : Hid (¬ C ≤ N.length → p = false) := fun h1 => by rw [HP.out, decide_eq_false h1, Bool.false_and]
    have HQ0 : Hid (¬ 0 < mm → q = false) := fun h1 => by rw [HQ.out, ← HME.out, decide_eq_false h1, Bool.false_and]
    have hNl : N.length ≤ 36 := by omega
    clear HHS r0 r1 r2 r3 r4
    by_cases hA : C ≤ N.length
    · obtain ⟨nb, off, b1, rfl, a1, c1, rfl, K1⟩ := HUp.out hA
      have z1 := grew_cell c1
      have d1 : decide ((0 : Int) ≤ (N.length : Int) - (C : Int)) = true := decide_eq_true (by omega)
      have i1 : ((N.length : Int) - (C : Int)).toNat = N.length - C := by omega
      have l1 : ¬ (N.length : Int) - (C : Int) < 0 := by omega
      have l2 : N.length - C < N.length := by omega
      have HK1 := Lib.hid K1
      clear c1 K1 HUp HP0
      cases p with
      | true =>
        clear HSid HQ0
        refine wp_region_grew (by kernel_rfl) (by kernel_rfl) ?_
        repeat (go_big_quiet_step (first | (go_at_call 79; exact Calls.grew_of (fun W g => HK1.out W g))))
        refine wpQuiet_nil ?_
        rintro wq ⟨nn, rfl⟩
        have gq := nn.gr
        go_wp2_with (fail)
        go_meet
        exact ⟨rfl, gq⟩
      | false =>
        by_cases hM : 0 < mm
        · obtain ⟨nb', off', b2, e2, a2, c2, rfl, K2⟩ := HSid.out hM
          cases e2
          have z2 := grew_cell c2
          have d2 : decide ((0 : Int) < (mm : Int)) = true := decide_eq_true (by omega)
          have i2 : ((N.length : Int) - 1).toNat = N.length - 1 := by omega
          have l3 : ¬ (N.length : Int) - 1 < 0 := by omega
          have l4 : N.length - 1 < N.length := by omega
          have HK2 := Lib.hid K2
          clear c2 K2 HSid HQ0
          refine wp_region_grew (by kernel_rfl) (by kernel_rfl) ?_
          repeat (go_big_quiet_step (first | (go_at_call 79; first | (with_reducible exact Calls.grew_of (fun W g => HK1.out W g)) | (with_reducible exact Calls.grew_of (fun W g => HK2.out W g)))))
          refine wpQuiet_nil ?_
          rintro wq ⟨nn, rfl⟩
          have gq := nn.gr
          go_wp2_with (fail)
          go_meet
          exact ⟨rfl, gq⟩
        · have d2 : decide ((0 : Int) < (mm : Int)) = false := decide_eq_false (by omega)
          cases HQ0.out hM
          clear HSid HQ0
          refine wp_region_grew (by kernel_rfl) (by kernel_rfl) ?_
          repeat (go_big_quiet_step (first | (go_at_call 79; exact Calls.grew_of (fun W g => HK1.out W g))))
          refine wpQuiet_nil ?_
          rintro wq ⟨nn, rfl⟩
          have gq := nn.gr
          go_wp2_with (fail)
          go_meet
          exact ⟨rfl, gq⟩
    · cases HP0.out hA
      have d1 : decide ((0 : Int) ≤ (N.length : Int) - (C : Int)) = false := decide_eq_false (by omega)
      clear HUp HP0
      by_cases hM : 0 < mm
      · obtain ⟨nb, off, b2, rfl, a2, c2, rfl, K2⟩ := HSid.out hM
        have z2 := grew_cell c2
        have d2 : decide ((0 : Int) < (mm : Int)) = true := decide_eq_true (by omega)
        have i2 : ((N.length : Int) - 1).toNat = N.length - 1 := by omega
        have hN1 : 1 ≤ N.length := by
          rcases Nat.eq_zero_or_pos N.length with h0 | h0
          · rw [HME.out, h0, Nat.zero_mod] at hM
            omega
          · exact h0
        have l3 : ¬ (N.length : Int) - 1 < 0 := by omega
        have l4 : N.length - 1 < N.length := by omega
        have HK2 := Lib.hid K2
        clear c2 K2 HSid HQ0
        refine wp_region_grew (by kernel_rfl) (by kernel_rfl) ?_
        repeat (go_big_quiet_step (first | (go_at_call 79; exact Calls.grew_of (fun W g => HK2.out W g))))
        refine wpQuiet_nil ?_
        rintro wq ⟨nn, rfl⟩
        have gq := nn.gr
        go_wp2_with (fail)
        go_meet
        exact ⟨rfl, gq⟩
      · have d2 : decide ((0 : Int) < (mm : Int)) = false := decide_eq_false (by omega)
        cases HQ0.out hM
        clear HSid HQ0
        refine wp_region_grew (by kernel_rfl) (by kernel_rfl) ?_
        repeat (go_big_quiet_step (fail))
        refine wpQuiet_nil ?_
        rintro wq ⟨nn, rfl⟩
        have gq := nn.gr
        go_wp2_with (fail)
        go_meet
        exact ⟨rfl, gq⟩
  case rest =>
  obtain ⟨rfl, gd⟩ := hcut
  obtain ⟨wd, rfl⟩ : ∃ wd : World, wd = wc := ⟨_, rfl⟩
  have H2 := Lib.hid (H.out.keep0 gd)
  clear gd HHS r0 r1 r2 r3 r4 hmm
  obtain ⟨pq, hpq⟩ : ∃ pq, pq = (p || q) := ⟨_, rfl⟩
  rw [← hpq]
  have HPQ := Lib.hid hpq
  clear hpq
  cases pq with
  | true =>
    go_wp2_with (fail)
    first | go_end0 | ((try simp only [Exit.inBlock, Exit.then]); refine bodyPost_ret (results_none rfl _ _ _) rfl ?_)
    exact ⟨rfl, _, _, _, _, H2.out, HB.out⟩
  | false =>
    have hn2 : NoCl R C os (N ++ [y]) := by
      have h1 : (p || q) = false := HPQ.out.symm
      rw [Bool.or_eq_false_iff] at h1
      refine HN.out.push (fun h2 => ?_) (fun h2 => ?_)
      · have h3 := HP.out
        rw [h1.1, decide_eq_true h2, Bool.true_and] at h3
        exact h3.symm
      · have h3 := HQ.out
        rw [h1.2, decide_eq_true h2, Bool.true_and] at h3
        exact h3.symm
    have HN2 := Lib.hid hn2
    have r4 : wd.cell? ⟨g, 4, none⟩ = some (.slice na N.length nc) := blkC H2.out.blk 4 rfl
    have hzd : w0.heap.size ≤ wd.heap.size := H2.out.gr.size
    clear hn2
    go_wp2_with (at_builtin; refine wpList_app1F eStr rfl _ _ rfl w0.heap.size _ N.length (strs N) rfl wd #[.string y] rfl H2.out.now _ rfl rfl rfl rfl (by omega) hzd ?_; intro v7 w7 o7 g7 hl7 hk7; obtain ⟨nb, nc7, rfl, -, -, -, -⟩ := own_some o7 (by omega); have hB7 := (g7.block g (lt_of_block H2.out.blk) (fun e => own_ne H2.out.now H2.out.blk (by decide) e.symm)).trans H2.out.blk; have s4 : w7.cell? ⟨g, 4, none⟩ = some (.slice na N.length nc) := blkC hB7 4 rfl; have t4 := blkF hB7 4)
    have PU := H2.out.push o7 g7 (fun q hq => hk7 q hq)
    have hml : (N ++ [y]).length + m = x.length := by rw [List.length_append]; simp; omega
    have FI := HI.out _ (N ++ [y]) _ L em bv B ls PU HC.out HN2.out HB.out hml
    have hNy : (N ++ [y]).length = N.length + 1 := by rw [List.length_append]; rfl
    rw [hNy, ← HD'.out] at FI
    have HFI := Lib.hid FI
    clear hB7 o7 g7 hl7 hk7 FI PU hml hNy s4 t4 r4
    try (go_wp2_with (fail))
    refine HFI.out.mono ?_
    rintro e w8 ⟨rfl, nv', bv', B', ls', PL, BO⟩
    have hnow := PL.now
    rw [List.length_append] at hnow
    obtain ⟨nb8, nc8, rfl, -, -, hc8, -⟩ := own_some hnow (by simp)
    have hc9 : N.length ≤ nc8 := Nat.le_trans (Nat.le_add_right _ _) hc8
    clear hc8
    have PO := PL.pop
    have HPO := Lib.hid PO
    have HBO := Lib.hid BO
    have u4 : w8.cell? ⟨g, 4, none⟩ = some (.slice (some ⟨nb8, 0, none⟩) (N.length + 1) nc8) := blkC PL.blk 4 rfl
    have tt4 := blkF PL.blk 4
    clear PL BO hnow PO HFI
    go_wp2_with (fail)
    first | go_end0 | ((try simp only [Exit.inBlock, Exit.then]); refine bodyPost_ret (results_none rfl _ _ _) rfl ?_)
    exact ⟨rfl, _, _, _, _, HPO.out, HBO.out⟩
end Go.Proofs.YthikknnadmebgaaGreatDoor

/-! shelf.placer.fill: every layout that is worth a look. -/
namespace Go.Proofs.YthikknnadmebgaaGreatDoor
open Go.RowKit
attribute [local go_sem ↓] Go.wp_at_zero Go.wp_at_succ

theorem set_getD_self (L : List Int) (k : Nat) : L.set k (L.getD k 0) = L := by
  apply List.ext_getElem?
  intro j
  rw [List.getElem?_set]
  split
  · rename_i e
    subst e
    split
    · rename_i h
      rw [List.getD_eq_getElem?_getD, List.getElem?_eq_getElem h]; rfl
    · rename_i h
      rw [List.getElem?_eq_none (by omega)]
  · rfl
set_option maxRecDepth 100000 in
set_option maxHeartbeats 4000000 in
theorem fill_zero (w0 : World) (g R C : Nat) (oa xa : Option Addr) (oc xc : Nat) (lv : Value) (ks x : List ByteArray) (cs : List Int) (os : List Offer) (hA : ArC ks x cs) (hx36 : x.length ≤ 36) : FillSp w0 g R C oa xa oc xc lv ks x cs os 0 := by
  intro w N nv L em bv B ls h hc hn hb hm
  obtain ⟨na, nc, rfl, _, _, hNc, _⟩ := own_shape h.now
  have r3 : w.cell? ⟨g, 3, none⟩ = some (.slice xa x.length xc) := blkC h.blk 3 rfl
  have r4 : w.cell? ⟨g, 4, none⟩ = some (.slice na N.length nc) := blkC h.blk 4 rfl
  have he : ((N.length : Int) == (x.length : Int)) = true := beq_iff_eq.2 (by omega)
  have hdl := diffB_le (x.take N.length) N
  rw [List.take_of_length_le (by omega)] at hdl
  obtain ⟨d, hd⟩ : ∃ d, d = diffB (x.take N.length) N := ⟨_, rfl⟩
  have hd2 : d = diffB x N := by rw [hd, List.take_of_length_le (by omega)]
  rw [← hd2] at hdl
  rw [← hd]
  have CL : Hid (∀ W : World, w.grownBy W none → Calls Tryz.prog 75 #[.slice na N.length nc] W fun e w' => ∃ va vc, e = .returned (.slice va N.length vc) ∧ w'.ownsRow W.heap.size 9 1 (.slice va N.length vc) N.length (strs N) ∧ W.grownBy w' none) := fun W gW => by
    refine (cloneStr_any na N.length nc (strs N) W (by rw [strs_length]; omega) (hNc.keep0 gW) (own_nil h.now) (strs_one N) (by omega)).mono ?_
    rintro e w' ⟨v', rfl, ho, g'⟩
    obtain ⟨va, vc, rfl, -, -, -, -⟩ := own_shape ho
    exact ⟨va, vc, rfl, ho, g'⟩
  have HW := Lib.hid (PlC.whole hA hc (by omega) hn)
  have H := Lib.hid h
  have HD2 := Lib.hid hd2
  have HM := Lib.hid hm
  clear h hc hn hb hd hd2 hNc hA
  go_enter Tryz.func77, Tryz.ntmps77
  go_upto_region 0 with (fail)
  go_quiet (fail)
  obtain ⟨w3, hw3⟩ : ∃ w3, w3 = w.drewN nq := ⟨_, rfl⟩
  have g3 : w.grownBy w3 none := by rw [hw3]; exact gr_drewN (gr_refl _ _) _
  rw [← hw3]
  have H3 := Lib.hid (H.out.keep0 g3)
  have s4 : w3.cell? ⟨g, 4, none⟩ = some (.slice na N.length nc) := blkC H3.out.blk 4 rfl
  have CL3 := Lib.hid (CL.out w3 g3)
  have hz := g3.size
  clear hw3 g3 r3 r4 CL
  go_wp2_with (fail)
  refine CL3.out.mono ?_
  rintro e w4 ⟨va, vc, rfl, ho, g4⟩
  have hnew := fun q hq => (ho.lt q hq).1
  have hold := fun q hq => (H3.out.now.lt q hq).2
  have H4 := H3.out.keep0 g4
  have u6 := blkF H4.blk 7
  have u7 := blkF H4.blk 8
  have v7 : w4.cell? ⟨g, 7, none⟩ = some bv := blkC H4.blk 7 rfl
  have v8 : w4.cell? ⟨g, 8, none⟩ = some (.int .i64 ls) := blkC H4.blk 8 rfl
  have F := Lib.hid (H4.full (ls' := (d : Int)) (own_base ho H3.out.gr.size) (fun q hq e => by have h1 := hnew q hq; have h2 := hold q e; omega))
  clear H4 ho g4 hnew hold CL3 s4
  go_wp2_with (fail)
  first | go_end0 | ((try simp only [Exit.inBlock, Exit.then]); refine bodyPost_ret (results_none rfl _ _ _) rfl ?_)
  exact ⟨rfl, _, _, _, _, F.out, .inr ⟨by omega, HW.out, by rw [HD2.out]⟩⟩
set_option maxRecDepth 100000 in
set_option maxHeartbeats 8000000 in
theorem fill_of (w0 : World) (g R C : Nat) (oa xa : Option Addr) (oc xc : Nat) (la : Option Addr) (lc : Nat) (ks x : List ByteArray) (cs : List Int) (os : List Offer) (vs : List OV) (hA : ArC ks x cs) (hks : ks.length = os.length) (hke : ∀ i (h1 : i < ks.length) (h2 : i < os.length), ks[i] = os[i].key) (hcb : ∀ o, cs.getD o 0 ≤ 100000) (hcs : 0 ≤ cs.sum)
    (hO : OffsAt w0 oa vs os) (hX : CellsAt w0 xa (strs x)) (hol : os.length ≤ 1000) (hh : ∀ o ∈ os, o.hates.length ≤ 1000 ∧ o.has.length ≤ 1000) (hC : 1 ≤ C) (hC6 : C ≤ 6) (hx36 : x.length ≤ 36) :
    ∀ m, FillSp w0 g R C oa xa oc xc (.slice la os.length lc) ks x cs os m := by
  intro m
  induction m with
  | zero => exact fill_zero w0 g R C oa xa oc xc _ ks x cs os hA hx36
  | succ m IH =>
  have PUT := Lib.hid (put_of w0 g R C oa xa oc xc _ ks x cs os vs m IH hO hX hol hh hC hC6 hx36)
  intro w N nv L em bv B ls h hc hn hb hm
  obtain ⟨na, nc, rfl, _, _, hNc, _⟩ := own_shape h.now
  have r3 : w.cell? ⟨g, 3, none⟩ = some (.slice xa x.length xc) := blkC h.blk 3 rfl
  have r4 : w.cell? ⟨g, 4, none⟩ = some (.slice na N.length nc) := blkC h.blk 4 rfl
  have he : ((N.length : Int) == (x.length : Int)) = false := beq_eq_false_iff_ne.2 (by omega)
  obtain ⟨d, hd⟩ : ∃ d, d = diffB (x.take N.length) N := ⟨_, rfl⟩
  rw [← hd]
  have hem := hc.emp
  have hem0 := hc.emp0
  have hee : em ≤ 36 := by omega
  have hwe : IntKind.i64.wrap (em - 1) = em - 1 := IntWalk.i64_in _ (by omega)
  have hwe2 : IntKind.i64.wrap (em - 1 + 1) = em := by rw [show em - 1 + 1 = em by omega]; exact IntWalk.i64_in _ (by omega)
  have hlt : N.length < x.length := by omega
  have H := Lib.hid h
  have HC := Lib.hid hc
  have HN := Lib.hid hn
  have HB := Lib.hid hb
  have HD := Lib.hid hd
  have HA := Lib.hid hA
  have HO := Lib.hid hO
  have HKE := Lib.hid hke
  have HCB := Lib.hid hcb
  clear h hc hn hb hd hNc hA hem IH hO hX hh hke hcb
  go_enter Tryz.func77, Tryz.ntmps77
  go_upto_region 0 with (fail)
  go_quiet (fail)
  obtain ⟨w3, hw3⟩ : ∃ w3, w3 = w.drewN nq := ⟨_, rfl⟩
  have g3 : w.grownBy w3 none := by rw [hw3]; exact gr_drewN (gr_refl _ _) _
  rw [← hw3]
  have H3 := Lib.hid (H.out.keep0 g3)
  have s6 : w3.cell? ⟨g, 6, none⟩ = some (.int .i64 em) := blkC H3.out.blk 6 rfl
  have t6 := blkF H3.out.blk 6
  clear hw3 g3 r3 r4 H
  go_upto_if 33 with (fail)
  go_cut [] from 33 to 50 (fun wx => ∃ nv bv B ls, PlAt w0 wx g R C (.slice oa os.length oc) (.slice xa x.length xc) N nv (.slice la os.length lc) L em bv B ls ∧ BestOk ks x cs R C os B ls)
  case first =>
    by_cases h0 : 0 < em
    · have hd0 : decide (0 < em) = true := decide_eq_true h0
      have E1 := H3.out.setEmpty (em - 1)
      have EC := HC.out.empty HA.out hlt h0
      have PU := Lib.hid (PUT.out _ N e0B _ L (em - 1) bv B ls E1 EC HN.out HB.out hm)
      rw [← HD.out] at PU
      clear E1 EC
      go_wp2_with (fail)
      refine PU.out.mono ?_
      rintro e w5 ⟨rfl, nv5, bv5, B5, ls5, P5, BO5⟩
      have s6 : w5.cell? ⟨g, 6, none⟩ = some (.int .i64 (em - 1)) := blkC P5.blk 6 rfl
      have t6 := blkF P5.blk 6
      have P6 := Lib.hid (P5.setEmpty em)
      have BO6 := Lib.hid BO5
      clear PU P5 BO5
      go_wp2_with (fail)
      go_meet
      exact ⟨_, _, _, _, P6.out, BO6.out⟩
    · have hd0 : decide (0 < em) = false := decide_eq_false h0
      go_wp2_with (fail)
      go_meet
      exact ⟨_, _, _, _, H3.out, HB.out⟩
  case rest =>
  obtain ⟨nv6, bv6, B6, ls6, H6, HB6⟩ := hcut
  obtain ⟨w6, rfl⟩ : ∃ w6 : World, w6 = wc := ⟨_, rfl⟩
  have s2 : w6.cell? ⟨g, 2, none⟩ = some (.slice oa os.length oc) := blkC H6.blk 2 rfl
  have HH6 := Lib.hid H6
  have HHB6 := Lib.hid HB6
  clear s6 t6 H3 HB H6 HB6 hwe hwe2
  go_upto_region 7 with (fail)
  go_loopw [56] (fun i wr => ∃ k : Nat, k ≤ os.length ∧ i = .int .i64 k ∧ ∃ nv bv B ls, PlAt w0 wr g R C (.slice oa os.length oc) (.slice xa x.length xc) N nv (.slice la os.length lc) L em bv B ls ∧ BestOk ks x cs R C os B ls) (fun i _ => os.length - (intOf i).toNat)
  case atStart => exact ⟨0, Nat.zero_le _, rfl, _, _, _, _, HH6.out, HHB6.out⟩
  case round =>
    obtain ⟨k, hk, rfl, nv7, bv7, B7, ls7, H7, HB7⟩ := hrel
    obtain ⟨wo, rfl⟩ : ∃ wo : World, wo = wr := ⟨_, rfl⟩
    have HH7 := Lib.hid H7
    have HHB7 := Lib.hid HB7
    clear HH6 HHB6 s2 H7 HB7
    by_cases hklt : k < os.length
    · obtain ⟨b, off, v, rfl, hr, d0, d1, d2, d3, d4⟩ := (HO.out.keep0 HH7.out.gr).at k hklt
      have hkey := hr.key
      obtain ⟨vk, vg, pa, pn, pc, ha, hn', hc', ta, tn, tc⟩ := v
      simp only at hkey d0 d1 d2 d3 d4
      have hLl : L.length = os.length := by rw [HC.out.ll, hks]
      obtain ⟨lb, lc2, e1, -, -, -, -⟩ := own_some (show wo.ownsRow w0.heap.size 3 1 (.slice la os.length lc) os.length (ints L) by rw [← hLl]; exact hLl ▸ HH7.out.left) (by omega)
      obtain ⟨z, hz⟩ : ∃ z, z = L.getD k 0 := ⟨_, rfl⟩
      have hzz : 0 ≤ z ∧ z ≤ 100000 := by
        have h1 := HC.out.cnt k (by omega)
        have h2 := HCB.out k
        rw [← hz] at h1
        omega
      have HR := Lib.hid hr
      have HKEY : Hid (vk = ks[k]'(by omega)) := by show _ = _; rw [hkey, HKE.out k (by omega) hklt]
      have HZ := Lib.hid hz
      cases e1
      clear hr hkey hz
      go_upto_region 9 with (fail)
      have hOb := heap_alloc_new wo (.cells #[.string vk, .string vg, .slice pa pn pc, .slice ha hn' hc', .slice ta tn tc] 119)
      have hg1 := gr_alloc (gr_refl wo none) (.cells #[.string vk, .string vg, .slice pa pn pc, .slice ha hn' hc', .slice ta tn tc] 119)
      obtain ⟨w1', hw1⟩ : ∃ w1', w1' = wo.alloc (.cells #[.string vk, .string vg, .slice pa pn pc, .slice ha hn' hc', .slice ta tn tc] 119) := ⟨_, rfl⟩
      rw [← hw1] at hOb hg1
      rw [← hw1]
      obtain ⟨O, hOe⟩ : ∃ O, O = wo.heap.size := ⟨_, rfl⟩
      rw [← hOe] at hOb
      rw [← hOe]
      have HP1 := Lib.hid (HH7.out.keep0 hg1)
      have HOb := Lib.hid hOb
      have hOl : O ≠ lb := by
        have h1 := (HH7.out.left.lt lb rfl).2
        omega
      clear hw1 hOe hOb hg1 d0 d1 d2 d3 d4
      have s5 : w1'.cell? ⟨g, 5, none⟩ = some (.slice (some ⟨lb, 0, none⟩) os.length lc) := blkC HP1.out.blk 5 rfl
      have hlo : w1'.ownsRow w0.heap.size 3 1 (.slice (some ⟨lb, 0, none⟩) os.length lc) os.length (ints L) := by have h1 := HP1.out.left; rw [hLl] at h1; exact h1
      obtain ⟨q0, q1, -⟩ := own_int hlo k hklt
      rw [← HZ.out] at q0
      clear hlo
      by_cases h0 : 0 < z
      · have hd0 : decide (0 < z) = true := decide_eq_true h0
        have hwz : IntKind.i64.wrap (z - 1) = z - 1 := IntWalk.i64_in _ (by omega)
        have hwz2 : IntKind.i64.wrap (z - 1 + 1) = z := by rw [show z - 1 + 1 = z by omega]; exact IntWalk.i64_in _ (by omega)
        have P2 := HP1.out.setLeft k (z - 1) hLl.symm
        have gs : w1'.grownBy (w1'.setCell ⟨lb, k, none⟩ (.int .i64 (z - 1))) (some lb) := gr_set (q := ⟨lb, k, none⟩) (gr_refl w1' (some lb)) rfl _
        have hO2 := (gs.block O (lt_of_block HOb.out) (by simpa using hOl)).trans HOb.out
        obtain ⟨w2, hw2⟩ : ∃ w2, w2 = w1'.setCell ⟨lb, k, none⟩ (.int .i64 (z - 1)) := ⟨_, rfl⟩
        rw [← hw2] at P2 hO2
        have o0 : w2.cell? ⟨O, 0, none⟩ = some (.string vk) := blkC hO2 0 rfl
        have KC := HC.out.key HA.out hlt k (by omega) (by rw [← HZ.out]; exact h0)
        rw [← HZ.out, ← HKEY.out] at KC
        have PU := Lib.hid (PUT.out w2 N vk _ _ em bv7 B7 ls7 P2 KC HN.out HHB7.out hm)
        rw [← HD.out] at PU
        have HW2 := Lib.hid hw2
        clear P2 gs hO2 KC hw2
        go_upto_region 11 with (fail)
        rw [← HW2.out]
        clear s5 q0 q1
        go_wp2_with (fail)
        refine PU.out.mono ?_
        rintro e w5 ⟨rfl, nv5, bv5, B5, ls5, P5, BO5⟩
        have s5 : w5.cell? ⟨g, 5, none⟩ = some (.slice (some ⟨lb, 0, none⟩) os.length lc) := blkC P5.blk 5 rfl
        have hlo : w5.ownsRow w0.heap.size 3 1 (.slice (some ⟨lb, 0, none⟩) os.length lc) os.length (ints (L.set k (z - 1))) := by have h1 := P5.left; rw [List.length_set, hLl] at h1; exact h1
        obtain ⟨q0, q1, -⟩ := own_int hlo k hklt
        rw [getD_setI L k k _ (by omega), if_pos rfl] at q0
        have P6 := P5.setLeft k z (by rw [List.length_set]; exact hLl.symm)
        rw [List.set_set, HZ.out, set_getD_self] at P6
        rw [← HZ.out] at P6
        have HP6 := Lib.hid P6
        have HBO := Lib.hid BO5
        clear PU P5 BO5 hlo P6 o0
        go_wp2_with (fail)
        go_roundw
        case rel => exact ⟨k + 1, by omega, by go_num, _, _, _, _, HP6.out, HBO.out⟩
        case measure => simp [intOf]; omega
      · have hd0 : decide (0 < z) = false := decide_eq_false h0
        go_wp2_with (fail)
        go_roundw
        case rel => exact ⟨k + 1, by omega, by go_num, _, _, _, _, HP1.out, HHB7.out⟩
        case measure => simp [intOf]; omega
    · obtain rfl : k = os.length := by omega
      go_wp2_with (fail)
      first | go_end0 | ((try simp only [Exit.inBlock, Exit.then]); refine bodyPost_ret (results_none rfl _ _ _) rfl ?_)
      exact ⟨rfl, _, _, _, _, HH7.out, HHB7.out⟩
end Go.Proofs.YthikknnadmebgaaGreatDoor

/-! shelf.Place: none, or a layout of the counts without clashes. -/
namespace Go.Proofs.YthikknnadmebgaaGreatDoor
open Go.RowKit
attribute [local go_sem ↓] Go.wp_at_zero Go.wp_at_succ

def PlaceIs (w : World) (R C : Nat) (os : List Offer) (x : List ByteArray) (cs : List Int) (e : Ending) (w' : World) : Prop :=
  w.grownBy w' none ∧ (e = .returned (.tuple #[.slice none 0 0, .int .i64 0, .int .i64 8]) ∨ ∃ v B, e = .returned (.tuple #[v, .int .i64 (diffB x B : Nat), .int .i64 0]) ∧ w'.ownsRow w.heap.size 9 1 v x.length (strs B) ∧ PlIs (keysOf os) x cs R C os B)
set_option maxRecDepth 100000 in
set_option maxHeartbeats 8000000 in
theorem place_any (R C : Nat) (os : List Offer) (x : List ByteArray) (cs : List Int) (hL : LayOk R C os x) (hA : ArrOk os x cs) (h8 : x.length ≤ 8) (a xa ca : Option Addr) (vs : List OV) (c xc cc : Nat) (w : World) (h : OffsAt w a vs os) (hx : CellsAt w xa (strs x)) (hc : CellsAt w ca (ints cs)) (hcn : ca = none → os.length = 0 ∧ cc = 0) :
    Calls Tryz.prog 34 #[.agg #[.int .i64 R, .int .i64 C], .slice a os.length c, .slice xa x.length xc, .slice ca os.length cc] w (PlaceIs w R C os x cs) := by
  have hol := hA.ok.len
  have hcl := hA.co.len
  have HAC := Lib.hid hA.c
  have hkl : (keysOf os).length = os.length := by unfold keysOf; rw [List.length_map]
  have hcsum : ∀ x ∈ cs, 0 ≤ x ∧ x ≤ 10 := by
    intro x hx
    obtain ⟨i, hi, rfl⟩ := List.mem_iff_getElem.1 hx
    have h1 := hA.co.all i (by omega)
    have h2 := (hA.ok.prof os[i] (List.getElem_mem _)).2.1
    rw [getD_eq cs i 0 hi] at h1
    omega
  have hcb : ∀ o, cs.getD o 0 ≤ 100000 := by
    intro o
    by_cases ho : o < cs.length
    · rw [getD_eq cs o 0 ho]
      have := hcsum cs[o] (List.getElem_mem ho)
      omega
    · rw [List.getD_eq_getElem?_getD, List.getElem?_eq_none (by omega)]
      show (0 : Int) ≤ 100000
      omega
  have hsum0 : 0 ≤ cs.sum := by
    have h1 := (sum_bound cs 0 10 (by omega) (by omega) hcsum cs.length).1
    rw [List.take_length] at h1
    omega
  have htot := hA.tot
  have hh : ∀ o ∈ os, o.hates.length ≤ 1000 ∧ o.has.length ≤ 1000 := fun o ho => by
    have h1 := (hA.ok.sub o ho).1.len
    have h2 := (hA.ok.sub o ho).2.len
    omega
  have FL : Hid (∀ (w0 : World) (g : Nat) (la : Option Addr) (lc : Nat), w.grownBy w0 none → ∀ m, FillSp w0 g R C a xa c xc (.slice la os.length lc) (keysOf os) x cs os m) := fun w0 g la lc gg =>
    fill_of w0 g R C a xa c xc la lc (keysOf os) x cs os vs HAC.out hkl (fun i h1 h2 => keysOf_get os i h1) hcb hsum0 (h.keep0 gg) (hx.keep0 gg) (by omega) hh hL.c1 hL.c6 (by omega)
  have TT0 : ∀ W : World, w.grownBy W none → Calls Tryz.prog 68 #[.slice ca os.length cc] W fun e w' => e = .returned (.int .i64 cs.sum) ∧ W.grownBy w' none := fun W gg => by
    have ht := shelfTotal_any cs ca cc W (hc.keep0 gg) (by rw [hcl]; omega) (fun y hy => by have := hcsum y hy; omega)
    rw [hcl] at ht
    exact ht
  have TT := Lib.hid TT0
  have CL : Hid (∀ W : World, w.grownBy W none → Calls Tryz.prog 69 #[.slice ca os.length cc] W fun e w' => ∃ la lc, e = .returned (.slice la os.length lc) ∧ w'.ownsRow W.heap.size 3 1 (.slice la os.length lc) os.length (ints cs) ∧ W.grownBy w' none) := fun W gg => by
    refine (cloneInt_any ca os.length cc (ints cs) W (by simp [ints, hcl]) (hc.keep0 gg) hcn (ints_one _) (by omega)).mono ?_
    rintro e w' ⟨v', rfl, ho, g'⟩
    obtain ⟨la, lc, rfl, -, -, -, -⟩ := own_shape ho
    exact ⟨la, lc, rfl, ho, g'⟩
  have hX := heap_alloc_new w (.cells #[.int .i64 R, .int .i64 C] 54)
  have gx := gr_alloc (gr_refl w none) (.cells #[.int .i64 R, .int .i64 C] 54)
  obtain ⟨w1, hw1⟩ : ∃ w1, w1 = w.alloc (.cells #[.int .i64 R, .int .i64 C] 54) := ⟨_, rfl⟩
  rw [← hw1] at hX gx
  obtain ⟨X, hXe⟩ : ∃ X, X = w.heap.size := ⟨_, rfl⟩
  rw [← hXe] at hX
  have CK := Lib.hid (checkLayout_any R C os x hL a xa vs c xc w1 (h.keep0 gx) (hx.keep0 gx))
  have CF : Hid (∀ W : World, w.grownBy W none → Calls Tryz.prog 67 #[.slice a os.length c, .slice ca os.length cc] W fun e w' => e = .returned (.int .i64 0) ∧ W = w') := fun W gg =>
    countsFault_ok os cs a ca vs c cc W (h.keep0 gg) (hc.keep0 gg) hA.co (by omega)
  have x0 : w1.cell? ⟨X, 0, none⟩ = some (.int .i64 R) := blkC hX 0 rfl
  have x1 : w1.cell? ⟨X, 1, none⟩ = some (.int .i64 C) := blkC hX 1 rfl
  have HX := Lib.hid hX
  have HW1 := Lib.hid hw1
  have HXE := Lib.hid hXe
  have HG1 := Lib.hid gx
  have HA := Lib.hid hA
  have d8 : decide ((8 : Int) < (x.length : Int)) = false := decide_eq_false (by omega)
  have dt : decide ((x.length : Int) < cs.sum) = false := decide_eq_false (by omega)
  have hws : IntKind.i64.wrap ((x.length : Int) - cs.sum) = (x.length : Int) - cs.sum := IntWalk.i64_in _ (by omega)
  clear h hx hc hcn hcsum hcb hh TT0 hX gx hw1 hXe hL hA
  go_enter Tryz.func34, Tryz.ntmps34
  go_wp2_with (fail)
  rw [← HW1.out, ← HXE.out]
  go_wp2_with (fail)
  refine CK.out.mono ?_
  rintro e w2 ⟨rfl, g2⟩
  clear CK
  have CF2 := Lib.hid (CF.out w2 (gr_trans HG1.out g2))
  go_wp2_with (fail)
  refine CF2.out.mono ?_
  rintro e w2' ⟨rfl, rfl⟩
  have TT2 := Lib.hid (TT.out w2 (gr_trans HG1.out g2))
  clear CF CF2
  go_wp2_with (fail)
  refine TT2.out.mono ?_
  rintro e w3 ⟨rfl, g3⟩
  have g3 := gr_trans g2 g3
  have z0 := (gr_cell g3 (lt_of_cell x0)).trans x0
  have z1 := (gr_cell g3 (lt_of_cell x1)).trans x1
  have HG3 := Lib.hid (gr_trans HG1.out g3)
  have TT3 : Hid (∀ W : World, w3.grownBy W none → Calls Tryz.prog 68 #[.slice ca os.length cc] W fun e w' => e = .returned (.int .i64 cs.sum) ∧ W.grownBy w' none ∧ w3.grownBy w' none) := fun W gg => (TT.out W (gr_trans HG3.out gg)).mono fun e w' h => ⟨h.1, h.2, gr_trans gg h.2⟩
  have CL3 : Hid (∀ W : World, w3.grownBy W none → Calls Tryz.prog 69 #[.slice ca os.length cc] W fun e w' => ∃ la lc, e = .returned (.slice la os.length lc) ∧ w'.ownsRow w3.heap.size 3 1 (.slice la os.length lc) os.length (ints cs) ∧ W.grownBy w' none ∧ w3.grownBy w' none) := fun W gg => (CL.out W (gr_trans HG3.out gg)).mono fun e w' h => by
    obtain ⟨la, lc, e1, o1, g1⟩ := h
    exact ⟨la, lc, e1, own_base o1 gg.size, g1, gr_trans gg g1⟩
  have hX3 := lt_of_cell z0
  clear g2 g3 TT TT2 CL x0 x1
  go_upto_region 11 with (fail)
  go_cut [13] (fun s wx => ∃ (g : Nat) (la : Option Addr) (lc : Nat), s = .pointer (some ⟨g, 0, none⟩) ∧ w3.heap.size ≤ g ∧ w3.grownBy wx none ∧ wx.heap[g]? = some (.cells #[.int .i64 R, .int .i64 C, .slice a os.length c, .slice xa x.length xc, .slice none 0 0, .slice la os.length lc, .int .i64 ((x.length : Int) - cs.sum), .slice none 0 0, .int .i64 (-1)] 137 (0, 0)) ∧ wx.ownsRow w3.heap.size 3 1 (.slice la os.length lc) os.length (ints cs))
  case first =>
    go_region_law (first
      | (go_simp; go_at_call 69; (with_reducible refine (CL3.out _ ?_).mono ?_); (· first | exact gr_drew (gr_refl _ _) | exact hg35 | exact gr_drew hg35); rintro e w4 ⟨la, lc, rfl, hown, hg4, hg34⟩; have l0 := (gr_cell hg34 hX3).trans z0; have l1 := (gr_cell hg34 hX3).trans z1)
      | (go_simp; go_at_call 68; (with_reducible refine (TT3.out _ ?_).mono ?_); (· first | exact gr_drew (gr_refl _ _) | exact hg34 | exact gr_drew hg34); rintro e w5 ⟨rfl, hg5, hg35⟩; have m0 := (gr_cell hg35 hX3).trans z0; have m1 := (gr_cell hg35 hX3).trans z1; (try (have hown := own_keep0 hown hg5)))
      | fail)
    all_goals (try go_simp)
    all_goals (go_wp2_with (fail))
    all_goals go_meet
    all_goals (have hz35 := hg35.size)
    all_goals exact ⟨_, _, _, rfl, hz35, gr_alloc hg35 _, heap_alloc_new _ _, own_keep0 hown (gr_alloc (gr_refl _ none) _)⟩
  case rest =>
  obtain ⟨g, la, lc, rfl, hg, g4, hb, ho⟩ := hcut
  obtain ⟨w4, rfl⟩ : ∃ w4 : World, w4 = wc := ⟨_, rfl⟩
  have P0 : PlAt w3 w4 g R C (.slice a os.length c) (.slice xa x.length xc) [] (.slice none 0 0) (.slice la os.length lc) cs ((x.length : Int) - cs.sum) (.slice none 0 0) [] (-1) :=
    ⟨g4, hg, hb, ⟨rfl, .inl ⟨rfl, rfl⟩⟩, by rw [hcl]; exact ho, ⟨rfl, .inl ⟨rfl, rfl⟩⟩, fun q hq => by simp [Value.ownBlock] at hq⟩
  have FI : Hid (Calls Tryz.prog 77 #[.pointer (some ⟨g, 0, none⟩), .int .i64 0] w4 (PlPost w3 g R C (.slice a os.length c) (.slice xa x.length xc) [] (.slice la os.length lc) cs ((x.length : Int) - cs.sum) (keysOf os) x cs os)) :=
    FL.out w3 g la lc HG3.out x.length w4 [] _ _ _ _ _ _ P0 (PlC.start HAC.out) (NoCl.nil R C os) (.inl rfl) (Nat.zero_add _)
  have hz3 := HG3.out.size
  clear P0 hb ho g4 FL TT3 CL3 HW1 HXE HX hws hkl hcl z0 z1
  go_wp2_with (fail)
  refine FI.out.mono ?_
  rintro e w5 ⟨rfl, nv5, bv5, B5, ls5, P5, BO5⟩
  have s7 : w5.cell? ⟨g, 7, none⟩ = some bv5 := blkC P5.blk 7 rfl
  have s8 : w5.cell? ⟨g, 8, none⟩ = some (.int .i64 ls5) := blkC P5.blk 8 rfl
  have HP5 := Lib.hid P5
  have HBO := Lib.hid BO5
  clear FI P5 BO5
  by_cases hn : ls5 < 0
  · have dn : decide (ls5 < 0) = true := decide_eq_true hn
    go_wp2_with (fail)
    go_ret3
    exact ⟨gr_trans HG3.out HP5.out.gr, .inl rfl⟩
  · have dn : decide (ls5 < 0) = false := decide_eq_false hn
    obtain ⟨ba, bc, rfl, -, -, -, -⟩ := own_shape HP5.out.best
    go_upto_region 15 with (fail)
    go_quiet (fail)
    obtain ⟨w6, hw6⟩ : ∃ w6, w6 = w5.drewN nq := ⟨_, rfl⟩
    have g6 : w5.grownBy w6 none := by rw [hw6]; exact gr_drewN (gr_refl _ _) _
    rw [← hw6]
    have HG6 := Lib.hid g6
    clear hw6 g6
    go_wp2_with (fail)
    go_ret3
    rcases HBO.out with e | ⟨h0, hB, e⟩
    · omega
    · subst e
      refine ⟨gr_trans (gr_trans HG3.out HP5.out.gr) HG6.out, .inr ⟨_, B5, rfl, ?_, hB⟩⟩
      have h1 := own_keep0 (own_base HP5.out.best hz3) HG6.out
      rw [hB.len] at h1 ⊢
      exact h1
end Go.Proofs.YthikknnadmebgaaGreatDoor
