/- Weeks of jobs, and days of jobs, as the stream makes them. -/
import Derived.Test.YtdjnomeabadbnaaMake
import Derived.Test.YtdjnomeabadbnaaMakeInts
import Derived.Test.YtdjnomeabadbnaaStepApp
import Derived.Deep.CutRange
import Derived.Deep.OwnRows
import Derived.Deep.DeepFit
namespace Go.Proofs.Ytdjnomeabadbnaa
open Go.RowKit
variable {lw : Nat}

def wkPicks : List Int := [0, 1, 3, 4, 7, 10]
def wkJ0 (l : List Int) (k : Nat) (c : Nat) : List Int := (List.range c).map fun i => pickM l (k + i) wkPicks
theorem wkJ0_next (l : List Int) (k c : Nat) : wkJ0 l k (c + 1) = wkJ0 l k c ++ [pickM l (k + c) wkPicks] := by simp [wkJ0, List.range_succ]
theorem wkJ0_len (l : List Int) (k c : Nat) : (wkJ0 l k c).length = c := by simp [wkJ0]
def wkC (l : List Int) (k most : Nat) : Nat := (nxt l (k + 1) (most + 1)).toNat
def wkD (l : List Int) (k most : Nat) : Int := if flipM l (k + 2 + wkC l k most) 15 then pickM l (k + 2 + wkC l k most + 1) [0, 7, 8] else pickM l k [1, 2, 3, 5]
def wkK2 (l : List Int) (k most : Nat) : Nat := if flipM l (k + 2 + wkC l k most) 15 then k + 2 + wkC l k most + 2 else k + 2 + wkC l k most + 1
def wkJ (l : List Int) (k most : Nat) : List Int := if flipM l (wkK2 l k most) 20 then wkJ0 l (k + 2) (wkC l k most) ++ [pickM l (wkK2 l k most + 1) [-1, 10000, 10001]] else wkJ0 l (k + 2) (wkC l k most)
def wkK (l : List Int) (k most : Nat) : Nat := if flipM l (wkK2 l k most) 20 then wkK2 l k most + 2 else wkK2 l k most + 1
theorem wkC_le (l : List Int) (k most : Nat) : wkC l k most ≤ most := by
  have := nxt_range l (k + 1) ((most : Int) + 1) (by omega)
  unfold wkC; omega
theorem wkJ_len (l : List Int) (k most : Nat) : (wkJ l k most).length ≤ most + 1 := by
  have := wkC_le l k most
  unfold wkJ; split <;> simp [wkJ0_len] <;> omega
theorem wkK_le (l : List Int) (k most : Nat) : k ≤ wkK l k most ∧ wkK l k most ≤ k + most + 6 := by
  have := wkC_le l k most
  unfold wkK wkK2; split <;> split <;> omega
theorem wkD_range (l : List Int) (k most : Nat) : 0 ≤ wkD l k most ∧ wkD l k most ≤ 8 := by
  unfold wkD
  split
  · have := pickM_mem l (k + 2 + wkC l k most + 1) [0, 7, 8] (by decide)
    simp only [List.mem_cons, List.not_mem_nil, or_false] at this
    omega
  · have := pickM_mem l k [1, 2, 3, 5] (by decide)
    simp only [List.mem_cons, List.not_mem_nil, or_false] at this
    omega
def WkPost (l : List Int) (k most p lw : Nat) (w : World) (e : Ending) (w' : World) : Prop :=
  ∃ v, e = .returned (.agg #[v, .int .i64 (wkD l k most)]) ∧ w'.ownsRow w.heap.size 3 1 v (wkJ l k most).length (ints (wkJ l k most)) ∧ StreamAt w' p lw l (wkK l k most) ∧ w.grownBy w' (some p)

set_option maxRecDepth 100000 in
set_option maxHeartbeats 1600000 in
theorem wkWeek_any (l : List Int) (k most : Nat) (p : Nat) (w : World) (hs : StreamAt w p lw l k) (hk : k < 999000000) (hn : most ≤ 1000) :
    Calls Try.prog 7 #[.pointer (some ⟨p, 0, none⟩), .int .i64 most] w (WkPost l k most p lw w) := by
  obtain ⟨dt, hd1⟩ := und_struct (P := Try.prog) (t := 30) (by kernel_rfl)
  have hlt := hs.lt
  obtain ⟨w1, hw1⟩ : ∃ w1, w1 = w.alloc (.cells #[.slice none 0 0, .int .i64 0] 30) := ⟨_, rfl⟩
  have hg1 : w.grownBy w1 none := by rw [hw1]; exact gr_alloc (gr_refl w none) _
  have hR1 : w1.heap[w.heap.size]? = some (.cells #[.slice none 0 0, .int .i64 0] 30 (0, 0)) := by rw [hw1]; exact heap_alloc_new w _
  have hs1 := hs.keep0 hg1
  have hsz1 : w1.heap.size = w.heap.size + 1 := by rw [hw1]; simp
  have HSZ1 := Lib.hid hsz1
  clear hsz1
  go_enter Try.func7, Try.ntmps7
  go_wp2_with (fail)
  rw [← hw1, ← HSZ1.out]
  clear hw1
  refine (pick_any l k [1, 2, 3, 5] p w1 hs1 (by omega) (by decide) (by decide)).mono ?_
  rintro e w2 ⟨rfl, hs2, hg2⟩
  obtain ⟨d0, hd0⟩ : ∃ d0, d0 = pickM l k [1, 2, 3, 5] := ⟨_, rfl⟩
  rw [← hd0]
  have hR2 := (hg2.block w.heap.size (lt_of_block hR1) (by simp; omega)).trans hR1
  have hs3 := hs2.keep0 (gr_alloc (gr_refl w2 none) (.cells #[.slice none 0 0, .int .i64 d0] 30))
  have HD0 := Lib.hid hd0
  clear hd0
  go_wp2_with (fail)
  obtain ⟨w3, hw3⟩ : ∃ w3, w3 = w2.alloc (.cells #[.slice none 0 0, .int .i64 d0] 30) := ⟨_, rfl⟩
  have hg3 : w2.grownBy w3 none := by rw [hw3]; exact gr_alloc (gr_refl w2 none) _
  have hq3 : w3.heap[w2.heap.size]? = some (.cells #[.slice none 0 0, .int .i64 d0] 30 (0, 0)) := by rw [hw3]; exact heap_alloc_new w2 _
  have hR3 := (hg3.block w.heap.size (lt_of_block hR2) (by simp)).trans hR2
  rw [← hw3] at hs3 ⊢
  obtain ⟨q, hq⟩ : ∃ q, q = w2.heap.size := ⟨_, rfl⟩
  rw [← hq] at hq3 ⊢
  have hwq : w.heap.size < q := by have := lt_of_block hR2; omega
  have hgr3 := gr_trans (gr_trans (gr_weak hg1 (some p)) hg2) (gr_weak hg3 _)
  clear hw3 hq hg1 hR1 hs1 hs2 hg2 hR2 hg3
  refine (next_any l (k + 1) ((most : Int) + 1) p w3 hs3 (by omega) (by omega)).mono ?_
  rintro e w4 ⟨rfl, hs4, hg4⟩
  have hrg := nxt_range l (k + 1) ((most : Int) + 1) (by omega)
  have hcle := wkC_le l k most
  obtain ⟨c, hc⟩ : ∃ c, c = wkC l k most := ⟨_, rfl⟩
  have hcn : nxt l (k + 1) ((most : Int) + 1) = (c : Int) := by rw [hc]; unfold wkC; omega
  rw [hcn]
  rw [← hc] at hcle
  have HC := Lib.hid hc.symm
  have hq4 := (hg4.block q (lt_of_block hq3) (by simp; omega)).trans hq3
  have hR4 := (hg4.block w.heap.size (lt_of_block hR3) (by simp; omega)).trans hR3
  have hgr4 := gr_trans hgr3 hg4
  clear hrg hc hcn hq3 hR3 hgr3 hg4 hs3
  go_wp2_with (fail)
  go_loopw [14] (fun i wr => ∃ (m : Nat) (v : Value), m ≤ c ∧ i = .int .i64 m ∧ wr.heap[q]? = some (.cells #[v, .int .i64 d0] 30 (0, 0)) ∧ wr.heap[w.heap.size]? = some (.cells #[.slice none 0 0, .int .i64 0] 30 (0, 0)) ∧ wr.ownsRow w.heap.size 3 1 v m (ints (wkJ0 l (k + 2) m)) ∧ StreamAt wr p lw l (k + 2 + m) ∧ w.grownBy wr (some p)) (fun i _ => c - (intOf i).toNat)
  case atStart => exact ⟨0, _, by omega, rfl, hq4, hR4, World.ownsRow_nil _ _ _ _, hs4, hgr4⟩
  case round =>
    obtain ⟨m, v, hm, rfl, hq5, hR5, hown, hsr, hgr⟩ := hrel
    obtain ⟨wo, rfl⟩ : ∃ wo : World, wo = wr := ⟨_, rfl⟩
    have hszo := hgr.size
    by_cases hlt2 : m < c
    · obtain ⟨b0, b1, f0, f1⟩ := blk2 hq5
      have hgd := gr_drew (gr_refl wo none)
      obtain ⟨x, hx⟩ : ∃ x, x = pickM l (k + 2 + m) wkPicks := ⟨_, rfl⟩
      have PK : Hid (Calls Try.prog 29 #[.pointer (some ⟨p, 0, none⟩), .slice (some ⟨wo.heap.size, 0, none⟩) 6 6] (wo.alloc (.cells #[.int .i64 0, .int .i64 1, .int .i64 3, .int .i64 4, .int .i64 7, .int .i64 10] 3)).drew fun e w' => e = .returned (.int .i64 x) ∧ StreamAt w' p lw l (k + 2 + m + 1) ∧ wo.grownBy w' (some p)) := by
        rw [hx]; exact (pick_any l (k + 2 + m) [0, 1, 3, 4, 7, 10] p wo.drew (hsr.keep0 hgd) (by omega) (by decide) (by decide)).mono fun e w' h => ⟨h.1, h.2.1, gr_trans (gr_weak hgd _) h.2.2⟩
      have HX := Lib.hid hx
      have HQ := Lib.hid hq5
      have HR := Lib.hid hR5
      have HOWN := Lib.hid hown
      have hqlt := lt_of_block hq5
      have hRlt := lt_of_block hR5
      have HVQ := Lib.hid (own_ne hown hq5 (by decide))
      have HVR := Lib.hid (own_ne hown hR5 (by decide))
      clear hx hq5 hR5 hown
      go_wp2_with (fail)
      go_region_law (first | (go_simp; go_at_call 29; (with_reducible refine PK.out.mono ?_); rintro e w5 ⟨rfl, hs5, hg5⟩; have hq5 := (hg5.block q hqlt (by simp; omega)).trans HQ.out; have hR5 := (hg5.block w.heap.size hRlt (by simp; omega)).trans HR.out; obtain ⟨c0, c1, g0, g1⟩ := blk2 hq5; have hown5 := own_keepS HOWN.out hg5 hlt; have hs5s := hg5.size; have hql5 := lt_of_block hq5)
                           | (refine step_app1 eInt rfl _ _ rfl w.heap.size _ m _ rfl w5 #[.int .i64 x] rfl hown5 _ rfl rfl rfl rfl ?_ ?_ ?_; (· omega); (· omega); intro v6 w6 hown6 hg6 hlt6 hk6; have hq6 := (hg6.block q (lt_of_block hq5) (fun e => HVQ.out e.symm)).trans hq5; obtain ⟨i0, i1, j0, j1⟩ := blk2 hq6; obtain ⟨g6, c6, rfl, _, _, _, _⟩ := own_some hown6 (by omega))
                           | fail)
      all_goals (go_wp2_with (fail))
      all_goals go_roundw
      all_goals first | (simp [intOf]; omega) | skip
      all_goals
        have hR6 := (hg6.block w.heap.size (lt_of_block hR5) (fun e => HVR.out e.symm)).trans hR5
        have hgs := gr_set (q := ⟨q, 0, none⟩) (gr_refl w6 (some q)) rfl (.slice (some ⟨g6, 0, none⟩) (m + 1) c6)
        have hs7 : StreamAt w6 p lw l (k + 2 + m + 1) := hs5.keep hg6 (fun g e => by have := hlt6 g e; omega)
        exact ⟨m + 1, .slice (some ⟨g6, 0, none⟩) (m + 1) c6, by omega, by go_num, heap_setCell_same w6 q 0 _ _ _ hq6, (hgs.block w.heap.size (lt_of_block hR6) (by simp; omega)).trans hR6, own_keep (by rw [wkJ0_next, ← HX.out]; simpa [ints] using hown6) hgs (.inr (own_ne hown6 hq6 (by decide))), by rw [← Nat.add_assoc]; exact hs7.keep hgs (fun g e => by cases e; omega), gr_grown (gr_grown (gr_trans hgr hg5) hg6 hlt6) hgs (fun g e => by cases e; omega)⟩
    · obtain rfl : m = c := by omega
      obtain ⟨va, vc, rfl, _, _, _, _⟩ := own_shape hown
      go_wp2_with (fail)
      refine (flip_any l (k + 2 + m) 15 p wo hsr (by omega) (by omega)).mono ?_
      rintro e w6 ⟨rfl, hs6, hg6⟩
      have hown6 := own_keepS hown hg6 hlt
      have hq6 := (hg6.block q (lt_of_block hq5) (by simp; omega)).trans hq5
      have hR6 := (hg6.block w.heap.size (lt_of_block hR5) (by simp; omega)).trans hR5
      have hgr6 := gr_trans hgr hg6
      have hsz6 := hgr6.size
      clear hown hq5 hR5 hgr hsr hg6
      cases hf1 : flipM l (k + 2 + m) 15 with
      | false =>
        obtain ⟨wz, hwz⟩ : ∃ wz, wz = w6 := ⟨_, rfl⟩
        rw [← hwz] at hown6 hq6 hR6 hgr6 hs6 hsz6
        obtain ⟨K2, hK2⟩ : ∃ K2, K2 = k + 2 + m + 1 := ⟨_, rfl⟩
        rw [← hK2] at hs6
        have HK2 : Hid (wkK2 l k most = K2) := by show _ = _; unfold wkK2; rw [HC.out, hf1, hK2]; rfl
        obtain ⟨D, hD⟩ : ∃ D, D = d0 := ⟨_, rfl⟩
        have HD : Hid (wkD l k most = D) := by show _ = _; unfold wkD; rw [HC.out, hf1, hD, HD0.out]; rfl
        have hK2b : K2 ≤ k + most + 3 := by omega
        rw [← hD] at hq6
        have hownz := hown6
        have hqz := hq6
        have hRz := hR6
        have hgrz := hgr6
        have hsz := hs6
        obtain ⟨c, hmc⟩ : ∃ c, c = m := ⟨_, rfl⟩
        rw [← hmc] at hownz hqz HC
        have hcle := hmc ▸ hcle
        clear hf1 hK2 hown6 hq6 hR6 hgr6 hs6
        subst hmc hwz hD
        go_wp2_with (fail)
        refine (flip_any l K2 20 p wz hsz (by omega) (by omega)).mono ?_
        rintro e w8 ⟨rfl, hs8, hg8⟩
        have hown8 := own_keepS hownz hg8 hlt
        have hqb := lt_of_block hqz
        have hq8 := (hg8.block q hqb (by simp; omega)).trans hqz
        have hR8 := (hg8.block w.heap.size (lt_of_block hRz) (by simp; omega)).trans hRz
        have hgr8 := gr_trans hgrz hg8
        have hsz8 := hgr8.size
        clear hownz hqz hRz hgrz hsz hg8
        cases hf2 : flipM l K2 20 with
        | false =>
          have HF2 := Lib.hid hf2
          clear hf2
          obtain ⟨b0, b1, f0, f1⟩ := blk2 hq8
          obtain ⟨r0, r1, e0, e1⟩ := blk2 hR8
          have HQ8 := Lib.hid hq8
          have HR8 := Lib.hid hR8
          have HOWN8 := Lib.hid hown8
          clear hq8 hR8 hown8
          go_wp2_with (fail)
          refine bodyPost_ret (results_cell_row (p := 4) (by kernel_rfl) _ _ w.heap.size _ #[.slice va c vc, .int .i64 D] _ (.struct dt) rfl (set2_heap HR8.out _ _) hd1 rfl (by kernel_rfl)) rfl ⟨.slice va c vc, ?_, ?_, ?_, ?_⟩
          · rw [HD.out]
          · have e1 : wkJ l k most = wkJ0 l (k + 2) c := by unfold wkJ; rw [HK2.out, HF2.out, HC.out]; rfl
            rw [e1, wkJ0_len]
            exact own_keep HOWN8.out (set2_gr w8 _ _ _) (.inr (own_ne HOWN8.out HR8.out (by decide)))
          · have e1 : wkK l k most = K2 + 1 := by unfold wkK; rw [HK2.out, HF2.out]; rfl
            rw [e1]
            exact hs8.keep (set2_gr w8 _ _ _) (fun g e => by cases e; omega)
          · exact gr_grown hgr8 (set2_gr w8 _ _ _) (fun g e => by cases e; exact Nat.le_refl _)
        | true =>
          have HF2 := Lib.hid hf2
          clear hf2
          obtain ⟨b0, b1, f0, f1⟩ := blk2 hq8
          have hgd := gr_drew (gr_refl w8 none)
          obtain ⟨x, hx⟩ : ∃ x, x = pickM l (K2 + 1) [-1, 10000, 10001] := ⟨_, rfl⟩
          have PK : Hid (Calls Try.prog 29 #[.pointer (some ⟨p, 0, none⟩), .slice (some ⟨w8.heap.size, 0, none⟩) 3 3] (w8.alloc (.cells #[.int .i64 (-1), .int .i64 10000, .int .i64 10001] 3)).drew fun e w' => e = .returned (.int .i64 x) ∧ StreamAt w' p lw l (K2 + 1 + 1) ∧ w8.grownBy w' (some p)) := by
            rw [hx]; exact (pick_any l (K2 + 1) [-1, 10000, 10001] p w8.drew (hs8.keep0 hgd) (by omega) (by decide) (by decide)).mono fun e w' h => ⟨h.1, h.2.1, gr_trans (gr_weak hgd _) h.2.2⟩
          have HX := Lib.hid hx
          have HQ8 := Lib.hid hq8
          have HR8 := Lib.hid hR8
          have HOWN8 := Lib.hid hown8
          have hqlt := lt_of_block hq8
          have hRlt := lt_of_block hR8
          have HVQ := Lib.hid (own_ne hown8 hq8 (by decide))
          have HVR := Lib.hid (own_ne hown8 hR8 (by decide))
          clear hx hq8 hR8 hown8
          go_wp2_with (fail)
          go_region_law (first | (go_simp; go_at_call 29; (with_reducible refine PK.out.mono ?_); rintro e w5 ⟨rfl, hs5, hg5⟩; have hq5 := (hg5.block q hqlt (by simp; omega)).trans HQ8.out; have hR5 := (hg5.block w.heap.size hRlt (by simp; omega)).trans HR8.out; obtain ⟨c0, c1, g0, g1⟩ := blk2 hq5; have hown5 := own_keepS HOWN8.out hg5 hlt; have hs5s := hg5.size; have hql5 := lt_of_block hq5)
                               | (refine step_app1 eInt rfl _ _ rfl w.heap.size _ c _ rfl w5 #[.int .i64 x] rfl hown5 _ rfl rfl rfl rfl ?_ ?_ ?_; (· omega); (· omega); intro v6 w6 hown6 hg6 hlt6 hk6; have hq6 := (hg6.block q (lt_of_block hq5) (fun e => HVQ.out e.symm)).trans hq5; have hR6 := (hg6.block w.heap.size (lt_of_block hR5) (fun e => HVR.out e.symm)).trans hR5; obtain ⟨i0, i1, j0, j1⟩ := blk2 hq6; obtain ⟨l0, l1, m0, m1⟩ := blk2 hR6; obtain ⟨g6, c6, rfl, _, _, _, _⟩ := own_some hown6 (by omega))
                               | fail)
          all_goals (go_wp2_with (fail))
          all_goals
            have hq7 := heap_setCell_same w6 q 0 _ _ (.slice (some ⟨g6, 0, none⟩) (c + 1) c6) hq6
            have hgs := gr_set (q := ⟨q, 0, none⟩) (gr_refl w6 (some q)) rfl (.slice (some ⟨g6, 0, none⟩) (c + 1) c6)
            have hR7 := (hgs.block w.heap.size (lt_of_block hR6) (by simp; omega)).trans hR6
            have hown7 := own_keep hown6 hgs (.inr (own_ne hown6 hq6 (by decide)))
            have hs7 : StreamAt w6 p lw l (K2 + 1 + 1) := hs5.keep hg6 (fun g e => by have := hlt6 g e; omega)
            have hs7' := hs7.keep hgs (fun g e => by cases e; omega)
            have hgr7 := gr_grown (gr_grown (gr_trans hgr8 hg5) hg6 hlt6) hgs (fun g e => by cases e; omega)
            refine bodyPost_ret (results_cell_row (p := 4) (by kernel_rfl) _ _ w.heap.size _ #[.slice (some ⟨g6, 0, none⟩) (c + 1) c6, .int .i64 D] _ (.struct dt) rfl (set2_heap hR7 _ _) hd1 rfl (by kernel_rfl)) rfl ⟨.slice (some ⟨g6, 0, none⟩) (c + 1) c6, ?_, ?_, ?_, ?_⟩
            · rw [HD.out]
            · have e1 : wkJ l k most = wkJ0 l (k + 2) c ++ [x] := by unfold wkJ; rw [HK2.out, HF2.out, HC.out, HX.out]; rfl
              have e2 : (wkJ l k most).length = c + 1 := by rw [e1]; simp [wkJ0_len]
              rw [e2, e1]
              have := own_keep hown7 (set2_gr _ w.heap.size (.slice (some ⟨g6, 0, none⟩) (c + 1) c6) (.int .i64 D)) (.inr (own_ne hown7 hR7 (by decide)))
              simpa [ints] using this
            · have e1 : wkK l k most = K2 + 1 + 1 := by unfold wkK; rw [HK2.out, HF2.out]; rfl
              rw [e1]
              exact hs7'.keep (set2_gr _ w.heap.size _ _) (fun g e => by cases e; omega)
            · exact gr_grown hgr7 (set2_gr _ w.heap.size _ _) (fun g e => by cases e; exact Nat.le_refl _)
      | true =>
        obtain ⟨b0, b1, f0, f1⟩ := blk2 hq6
        have HQ6 := Lib.hid hq6
        have HR6 := Lib.hid hR6
        have HOWN6 := Lib.hid hown6
        have HF1 := Lib.hid hf1
        have hqlt := lt_of_block hq6
        have hRlt := lt_of_block hR6
        clear hq6 hR6 hown6 hf1
        go_wp2_with (fail)
        refine (pick_any l (k + 2 + m + 1) [0, 7, 8] p w6 hs6 (by omega) (by decide) (by decide)).mono ?_
        rintro e w7 ⟨rfl, hs7, hg7⟩
        have hq7 := (hg7.block q hqlt (by simp; omega)).trans HQ6.out
        have hR7 := (hg7.block w.heap.size hRlt (by simp; omega)).trans HR6.out
        have hown7 := own_keepS HOWN6.out hg7 hlt
        obtain ⟨c0, c1, g0, g1⟩ := blk2 hq7
        obtain ⟨D, hD⟩ : ∃ D, D = pickM l (k + 2 + m + 1) [0, 7, 8] := ⟨_, rfl⟩
        rw [← hD]
        have HD : Hid (wkD l k most = D) := by show _ = _; unfold wkD; rw [HC.out, HF1.out, hD]; rfl
        obtain ⟨K2, hK2⟩ : ∃ K2, K2 = k + 2 + m + 1 + 1 := ⟨_, rfl⟩
        rw [← hK2] at hs7
        have HK2 : Hid (wkK2 l k most = K2) := by show _ = _; unfold wkK2; rw [HC.out, HF1.out, hK2]; rfl
        have hK2b : K2 ≤ k + most + 4 := by omega
        have hgs := gr_set (q := ⟨q, 1, none⟩) (gr_refl w7 (some q)) rfl (.int .i64 D)
        obtain ⟨wz, hwz⟩ : ∃ wz, wz = w7.setCell ⟨q, 1, none⟩ (.int .i64 D) := ⟨_, rfl⟩
        have hownz := own_keep hown7 hgs (.inr (own_ne hown7 hq7 (by decide)))
        have hqz := heap_setCell_same w7 q 1 _ _ (.int .i64 D) hq7
        have hRz := (hgs.block w.heap.size (lt_of_block hR7) (by simp; omega)).trans hR7
        have hsz := hs7.keep hgs (fun g e => by cases e; omega)
        have hgrz := gr_grown (gr_trans hgr6 hg7) hgs (fun g e => by cases e; omega)
        rw [← hwz] at hownz hqz hRz hsz hgrz
        change wz.heap[q]? = some (.cells #[.slice va m vc, .int .i64 D] 30 (0, 0)) at hqz
        obtain ⟨c, hmc⟩ : ∃ c, c = m := ⟨_, rfl⟩
        rw [← hmc] at hownz hqz HC
        have hcle := hmc ▸ hcle
        have HWZ := Lib.hid hwz
        clear hK2 hD hq7 hR7 hown7 hgs hs7 hg7 hwz hgr6 hs6
        subst hmc
        go_wp2_with (fail)
        rw [← HWZ.out]
        refine (flip_any l K2 20 p wz hsz (by omega) (by omega)).mono ?_
        rintro e w8 ⟨rfl, hs8, hg8⟩
        have hown8 := own_keepS hownz hg8 hlt
        have hqb := lt_of_block hqz
        have hq8 := (hg8.block q hqb (by simp; omega)).trans hqz
        have hR8 := (hg8.block w.heap.size (lt_of_block hRz) (by simp; omega)).trans hRz
        have hgr8 := gr_trans hgrz hg8
        have hsz8 := hgr8.size
        clear hownz hqz hRz hgrz hsz hg8
        cases hf2 : flipM l K2 20 with
        | false =>
          have HF2 := Lib.hid hf2
          clear hf2
          obtain ⟨b0, b1, f0, f1⟩ := blk2 hq8
          obtain ⟨r0, r1, e0, e1⟩ := blk2 hR8
          have HQ8 := Lib.hid hq8
          have HR8 := Lib.hid hR8
          have HOWN8 := Lib.hid hown8
          clear hq8 hR8 hown8
          go_wp2_with (fail)
          refine bodyPost_ret (results_cell_row (p := 4) (by kernel_rfl) _ _ w.heap.size _ #[.slice va c vc, .int .i64 D] _ (.struct dt) rfl (set2_heap HR8.out _ _) hd1 rfl (by kernel_rfl)) rfl ⟨.slice va c vc, ?_, ?_, ?_, ?_⟩
          · rw [HD.out]
          · have e1 : wkJ l k most = wkJ0 l (k + 2) c := by unfold wkJ; rw [HK2.out, HF2.out, HC.out]; rfl
            rw [e1, wkJ0_len]
            exact own_keep HOWN8.out (set2_gr w8 _ _ _) (.inr (own_ne HOWN8.out HR8.out (by decide)))
          · have e1 : wkK l k most = K2 + 1 := by unfold wkK; rw [HK2.out, HF2.out]; rfl
            rw [e1]
            exact hs8.keep (set2_gr w8 _ _ _) (fun g e => by cases e; omega)
          · exact gr_grown hgr8 (set2_gr w8 _ _ _) (fun g e => by cases e; exact Nat.le_refl _)
        | true =>
          have HF2 := Lib.hid hf2
          clear hf2
          obtain ⟨b0, b1, f0, f1⟩ := blk2 hq8
          have hgd := gr_drew (gr_refl w8 none)
          obtain ⟨x, hx⟩ : ∃ x, x = pickM l (K2 + 1) [-1, 10000, 10001] := ⟨_, rfl⟩
          have PK : Hid (Calls Try.prog 29 #[.pointer (some ⟨p, 0, none⟩), .slice (some ⟨w8.heap.size, 0, none⟩) 3 3] (w8.alloc (.cells #[.int .i64 (-1), .int .i64 10000, .int .i64 10001] 3)).drew fun e w' => e = .returned (.int .i64 x) ∧ StreamAt w' p lw l (K2 + 1 + 1) ∧ w8.grownBy w' (some p)) := by
            rw [hx]; exact (pick_any l (K2 + 1) [-1, 10000, 10001] p w8.drew (hs8.keep0 hgd) (by omega) (by decide) (by decide)).mono fun e w' h => ⟨h.1, h.2.1, gr_trans (gr_weak hgd _) h.2.2⟩
          have HX := Lib.hid hx
          have HQ8 := Lib.hid hq8
          have HR8 := Lib.hid hR8
          have HOWN8 := Lib.hid hown8
          have hqlt := lt_of_block hq8
          have hRlt := lt_of_block hR8
          have HVQ := Lib.hid (own_ne hown8 hq8 (by decide))
          have HVR := Lib.hid (own_ne hown8 hR8 (by decide))
          clear hx hq8 hR8 hown8
          go_wp2_with (fail)
          go_region_law (first | (go_simp; go_at_call 29; (with_reducible refine PK.out.mono ?_); rintro e w5 ⟨rfl, hs5, hg5⟩; have hq5 := (hg5.block q hqlt (by simp; omega)).trans HQ8.out; have hR5 := (hg5.block w.heap.size hRlt (by simp; omega)).trans HR8.out; obtain ⟨c0, c1, g0, g1⟩ := blk2 hq5; have hown5 := own_keepS HOWN8.out hg5 hlt; have hs5s := hg5.size; have hql5 := lt_of_block hq5)
                               | (refine step_app1 eInt rfl _ _ rfl w.heap.size _ c _ rfl w5 #[.int .i64 x] rfl hown5 _ rfl rfl rfl rfl ?_ ?_ ?_; (· omega); (· omega); intro v6 w6 hown6 hg6 hlt6 hk6; have hq6 := (hg6.block q (lt_of_block hq5) (fun e => HVQ.out e.symm)).trans hq5; have hR6 := (hg6.block w.heap.size (lt_of_block hR5) (fun e => HVR.out e.symm)).trans hR5; obtain ⟨i0, i1, j0, j1⟩ := blk2 hq6; obtain ⟨l0, l1, m0, m1⟩ := blk2 hR6; obtain ⟨g6, c6, rfl, _, _, _, _⟩ := own_some hown6 (by omega))
                               | fail)
          all_goals (go_wp2_with (fail))
          all_goals
            have hq7 := heap_setCell_same w6 q 0 _ _ (.slice (some ⟨g6, 0, none⟩) (c + 1) c6) hq6
            have hgs := gr_set (q := ⟨q, 0, none⟩) (gr_refl w6 (some q)) rfl (.slice (some ⟨g6, 0, none⟩) (c + 1) c6)
            have hR7 := (hgs.block w.heap.size (lt_of_block hR6) (by simp; omega)).trans hR6
            have hown7 := own_keep hown6 hgs (.inr (own_ne hown6 hq6 (by decide)))
            have hs7 : StreamAt w6 p lw l (K2 + 1 + 1) := hs5.keep hg6 (fun g e => by have := hlt6 g e; omega)
            have hs7' := hs7.keep hgs (fun g e => by cases e; omega)
            have hgr7 := gr_grown (gr_grown (gr_trans hgr8 hg5) hg6 hlt6) hgs (fun g e => by cases e; omega)
            refine bodyPost_ret (results_cell_row (p := 4) (by kernel_rfl) _ _ w.heap.size _ #[.slice (some ⟨g6, 0, none⟩) (c + 1) c6, .int .i64 D] _ (.struct dt) rfl (set2_heap hR7 _ _) hd1 rfl (by kernel_rfl)) rfl ⟨.slice (some ⟨g6, 0, none⟩) (c + 1) c6, ?_, ?_, ?_, ?_⟩
            · rw [HD.out]
            · have e1 : wkJ l k most = wkJ0 l (k + 2) c ++ [x] := by unfold wkJ; rw [HK2.out, HF2.out, HC.out, HX.out]; rfl
              have e2 : (wkJ l k most).length = c + 1 := by rw [e1]; simp [wkJ0_len]
              rw [e2, e1]
              have := own_keep hown7 (set2_gr _ w.heap.size (.slice (some ⟨g6, 0, none⟩) (c + 1) c6) (.int .i64 D)) (.inr (own_ne hown7 hR7 (by decide)))
              simpa [ints] using this
            · have e1 : wkK l k most = K2 + 1 + 1 := by unfold wkK; rw [HK2.out, HF2.out]; rfl
              rw [e1]
              exact hs7'.keep (set2_gr _ w.heap.size _ _) (fun g e => by cases e; omega)
            · exact gr_grown hgr7 (set2_gr _ w.heap.size _ _) (fun g e => by cases e; exact Nat.le_refl _)
end Go.Proofs.Ytdjnomeabadbnaa
