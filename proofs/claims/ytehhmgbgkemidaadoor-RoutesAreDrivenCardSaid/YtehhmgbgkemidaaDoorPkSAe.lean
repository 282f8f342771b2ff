/- Weeks of jobs, and days of jobs, as the stream makes them. -/
import Derived.Test.YtehhmgbgkemidaaDoorPkSAb
import Derived.Test.YtehhmgbgkemidaaDoorPkSAc
import Derived.Test.YtehhmgbgkemidaaDoorPkSAd
import Derived.Deep.CutRange
import Derived.Deep.OwnRows
import Derived.Deep.DeepFit
namespace Go.Proofs.YtehhmgbgkemidaaDoor
open Go.RowKit
variable {lw : Nat}

def wkPicks : List Int := [0, 1, 3, 4, 7, 10]
def wkJ0 (l : List Int) (k : Nat) (c : Nat) : List Int := (List.range c).map fun i => pickM l (k + i) wkPicks
theorem wkJ0_next (l : List Int) (k c : Nat) : wkJ0 l k (c + 1) = wkJ0 l k c ++ [pickM l (k + c) wkPicks] := by simp [wkJ0, List.range_succ]
theorem wkJ0_len (l : List Int) (k c : Nat) : (wkJ0 l k c).length = c := by simp [wkJ0]
def wkC (l : List Int) (k most : Nat) : Nat := (nxt l (k + 1) (most + 1)).toNat
def wkD (l : List Int) (k most : Nat) : Int := if flipM l (k + 2 + wkC l k most) 15 then pickM l (k + 2 + wkC l k most + 1) [0, 7, 8] else pickM l k [1, 2, 3, 5]
def wkK2 (l : List Int) (k most : Nat) : Nat := if flipM l (k + 2 + wkC l k most) 15 then k + 2 + wkC l k most + 2 else k + 2 + wkC l k most + 1
def wkJ (l : List Int) (k most : Nat) : List Int := if flipM l (wkK2 l k most) 20 then wkJ0 l (k + 2) (wkC l k most) ++ [pickM l (wkK2 l k most + 1) [-1, 10000, 10001]] else wkJ0 l (k + 2) (wkC l k most)
def wkK (l : List Int) (k most : Nat) : Nat := if flipM l (wkK2 l k most) 20 then wkK2 l k most + 2 else wkK2 l k most + 1
theorem wkC_le (l : List Int) (k most : Nat) : wkC l k most ≤ most := by
  have := nxt_range l (k + 1) ((most : Int) + 1) (by omega)
  unfold wkC; omega
theorem wkJ_len (l : List Int) (k most : Nat) : (wkJ l k most).length ≤ most + 1 := by
  have := wkC_le l k most
  unfold wkJ; split <;> simp [wkJ0_len] <;> omega
theorem wkK_le (l : List Int) (k most : Nat) : k ≤ wkK l k most ∧ wkK l k most ≤ k + most + 6 := by
  have := wkC_le l k most
  unfold wkK wkK2; split <;> split <;> omega
theorem wkD_range (l : List Int) (k most : Nat) : 0 ≤ wkD l k most ∧ wkD l k most ≤ 8 := by
  unfold wkD
  split
  · have := pickM_mem l (k + 2 + wkC l k most + 1) [0, 7, 8] (by decide)
    simp only [List.mem_cons, List.not_mem_nil, or_false] at this
    omega
  · have := pickM_mem l k [1, 2, 3, 5] (by decide)
    simp only [List.mem_cons, List.not_mem_nil, or_false] at this
    omega
def WkPost (l : List Int) (k most p lw : Nat) (w : World) (e : Ending) (w' : World) : Prop :=
  ∃ v, e = .returned (.agg #[v, .int .i64 (wkD l k most)]) ∧ w'.ownsRow w.heap.size 3 1 v (wkJ l k most).length (ints (wkJ l k most)) ∧ StreamAt w' p lw l (wkK l k most) ∧ w.grownBy w' (some p)

end Go.Proofs.YtehhmgbgkemidaaDoor

/-! Spots, as the stream makes them. -/
namespace Go.Proofs.YtehhmgbgkemidaaDoor
open Go.RowKit
variable {lw : Nat}

def spotX0 (l : List Int) (k : Nat) : Int := pickM l k [0, 5, -5, 10, 20]
def spotY (l : List Int) (k : Nat) : Int := pickM l (k + 1) [0, 0, 5, -10]
def spotX (l : List Int) (k : Nat) : Int := if flipM l (k + 2) 60 then pickM l (k + 3) [10000, 10001, -10001] else spotX0 l k
def spotK (l : List Int) (k : Nat) : Nat := if flipM l (k + 2) 60 then k + 4 else k + 3
theorem spotK_le (l : List Int) (k : Nat) : k ≤ spotK l k ∧ spotK l k ≤ k + 4 := by unfold spotK; split <;> omega

set_option maxRecDepth 100000 in
set_option maxHeartbeats 1000000 in
theorem spot_any (l : List Int) (k : Nat) (p : Nat) (w : World) (hs : StreamAt w p lw l k) (hk : k < 999000000) :
    Calls Tryd.prog 5 #[.pointer (some ⟨p, 0, none⟩)] w fun e w' => e = .returned (.agg #[.int .i64 (spotX l k), .int .i64 (spotY l k)]) ∧ StreamAt w' p lw l (spotK l k) ∧ w.grownBy w' (some p) := by
  obtain ⟨dt, hd1⟩ := und_struct (P := Tryd.prog) (t := 29) (by kernel_rfl)
  have hlt := hs.lt
  obtain ⟨w1, hw1⟩ : ∃ w1, w1 = w.alloc (.cells #[.int .i64 0, .int .i64 0] 29) := ⟨_, rfl⟩
  have hg1 : w.grownBy w1 none := by rw [hw1]; exact gr_alloc (gr_refl w none) _
  have hR1 : w1.heap[w.heap.size]? = some (.cells #[.int .i64 0, .int .i64 0] 29 (0, 0)) := by rw [hw1]; exact heap_alloc_new w _
  have hs1 := hs.keep0 hg1
  have hsz1 : w1.heap.size = w.heap.size + 1 := by rw [hw1]; simp
  have HSZ1 := Lib.hid hsz1
  clear hsz1
  go_enter Tryd.func5, Tryd.ntmps5
  go_wp2_with (fail)
  rw [← hw1, ← HSZ1.out]
  clear hw1
  refine (pick_any l k [0, 5, -5, 10, 20] p w1 hs1 (by omega) (by decide) (by decide)).mono ?_
  rintro e w2 ⟨rfl, hs2, hg2⟩
  go_wp2_with (fail)
  refine (pick_any l (k + 1) [0, 0, 5, -10] p w2 hs2 (by omega) (by decide) (by decide)).mono ?_
  rintro e w3 ⟨rfl, hs3, hg3⟩
  go_wp2_with (fail)
  obtain ⟨x0, hx0⟩ : ∃ x0, x0 = spotX0 l k := ⟨_, rfl⟩
  obtain ⟨y0, hy0⟩ : ∃ y0, y0 = spotY l k := ⟨_, rfl⟩
  have hx1 : pickM l k [0, 5, -5, 10, 20] = x0 := hx0.symm
  have hy1 : pickM l (k + 1) [0, 0, 5, -10] = y0 := hy0.symm
  rw [hx1, hy1]
  have HX0 := Lib.hid hx0
  have HY0 := Lib.hid hy0
  clear hx0 hy0 hx1 hy1
  have hR3 := (hg3.block w.heap.size (lt_of_block ((hg2.block w.heap.size (lt_of_block hR1) (by simp; omega)).trans hR1)) (by simp; omega)).trans ((hg2.block w.heap.size (lt_of_block hR1) (by simp; omega)).trans hR1)
  obtain ⟨w4, hw4⟩ : ∃ w4, w4 = w3.alloc (.cells #[.int .i64 x0, .int .i64 y0] 29) := ⟨_, rfl⟩
  have hg4 : w3.grownBy w4 none := by rw [hw4]; exact gr_alloc (gr_refl w3 none) _
  have hq4 : w4.heap[w3.heap.size]? = some (.cells #[.int .i64 x0, .int .i64 y0] 29 (0, 0)) := by rw [hw4]; exact heap_alloc_new w3 _
  have hR4 := (hg4.block w.heap.size (lt_of_block hR3) (by simp)).trans hR3
  have hs4 := hs3.keep0 hg4
  have hgr4 : w.grownBy w4 (some p) := gr_trans (gr_trans (gr_trans (gr_weak hg1 _) hg2) hg3) (gr_weak hg4 _)
  rw [← hw4]
  obtain ⟨q, hq⟩ : ∃ q, q = w3.heap.size := ⟨_, rfl⟩
  have hwq : w.heap.size < q := by have := lt_of_block hR3; omega
  rw [← hq] at hq4 ⊢
  clear hw4 hq hR3 hR1 hs1 hs2 hs3 hg1 hg2 hg3 hg4
  refine (flip_any l (k + 2) 60 p w4 hs4 (by omega) (by omega)).mono ?_
  rintro e w5 ⟨rfl, hs5, hg5⟩
  have hq5 := (hg5.block q (lt_of_block hq4) (by simp; omega)).trans hq4
  have hR5 := (hg5.block w.heap.size (lt_of_block hR4) (by simp; omega)).trans hR4
  have hgr5 := gr_trans hgr4 hg5
  clear hq4 hR4 hs4 hgr4 hg5
  cases hf : flipM l (k + 2) 60 with
  | false =>
    have HF := Lib.hid hf
    clear hf
    obtain ⟨b0, b1, _, _⟩ := blk2 hq5
    obtain ⟨r0, r1, e0, e1⟩ := blk2 hR5
    have HR := Lib.hid hR5
    clear hR5 hq5
    go_wp2_with (fail)
    refine bodyPost_ret (results_cell_row (p := 2) (by kernel_rfl) _ _ w.heap.size _ #[.int .i64 x0, .int .i64 y0] _ (.struct dt) rfl (set2_heap HR.out _ _) hd1 rfl (by kernel_rfl)) rfl ⟨?_, ?_, ?_⟩
    · have e2 : spotX l k = x0 := by unfold spotX; rw [HF.out, HX0.out]; rfl
      rw [e2, ← HY0.out]
    · have e2 : spotK l k = k + 3 := by unfold spotK; rw [HF.out]; rfl
      rw [e2]
      exact hs5.keep (set2_gr w5 _ _ _) (fun g e => by cases e; omega)
    · exact gr_grown hgr5 (set2_gr w5 _ _ _) (fun g e => by cases e; exact Nat.le_refl _)
  | true =>
    have HF := Lib.hid hf
    clear hf
    obtain ⟨b0, b1, _, _⟩ := blk2 hq5
    have HQ5 := Lib.hid hq5
    have HR5 := Lib.hid hR5
    have hql := lt_of_block hq5
    have hrl := lt_of_block hR5
    clear hR5 hq5
    go_wp2_with (fail)
    refine (pick_any l (k + 3) [10000, 10001, -10001] p w5 hs5 (by omega) (by decide) (by decide)).mono ?_
    rintro e w6 ⟨rfl, hs6, hg6⟩
    obtain ⟨x, hx⟩ : ∃ x, x = pickM l (k + 3) [10000, 10001, -10001] := ⟨_, rfl⟩
    rw [← hx]
    have HX := Lib.hid hx
    have hq6 := (hg6.block q hql (by simp; omega)).trans HQ5.out
    have hR6 := (hg6.block w.heap.size hrl (by simp; omega)).trans HR5.out
    have hgr6 := gr_trans hgr5 hg6
    obtain ⟨c0, c1, f0, f1⟩ := blk2 hq6
    obtain ⟨r0, r1, e0, e1⟩ := blk2 hR6
    have hql6 := lt_of_block hq6
    have HR6 := Lib.hid hR6
    clear hx hq6 hR6 b0 b1
    go_wp2_with (fail)
    have hgs := gr_set (q := ⟨q, 0, none⟩) (gr_refl w6 (some q)) rfl (.int .i64 x)
    have hR7 := (hgs.block w.heap.size (lt_of_block HR6.out) (by simp; omega)).trans HR6.out
    have hs7 := hs6.keep hgs (fun g e => by cases e; omega)
    have hgr7 := gr_grown hgr6 hgs (fun g e => by cases e; omega)
    refine bodyPost_ret (results_cell_row (p := 2) (by kernel_rfl) _ _ w.heap.size _ #[.int .i64 x, .int .i64 y0] _ (.struct dt) rfl (set2_heap hR7 _ _) hd1 rfl (by kernel_rfl)) rfl ⟨?_, ?_, ?_⟩
    · have e2 : spotX l k = x := by unfold spotX; rw [HF.out, HX.out]; rfl
      rw [e2, ← HY0.out]
    · have e2 : spotK l k = k + 4 := by unfold spotK; rw [HF.out]; rfl
      rw [e2]
      exact hs7.keep (set2_gr _ w.heap.size _ _) (fun g e => by cases e; omega)
    · exact gr_grown hgr7 (set2_gr _ w.heap.size _ _) (fun g e => by cases e; exact Nat.le_refl _)
end Go.Proofs.YtehhmgbgkemidaaDoor
