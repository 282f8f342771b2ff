/- Days of jobs, as the stream makes them. -/
import Derived.Test.YtbgfflbddflokaaWkMake
namespace Go.Proofs.Ytbgfflbddflokaa
open Go.RowKit
variable {lw : Nat}

def JobDaysPost (n p : Nat) (w : World) (e : Ending) (w' : World) : Prop := ∃ v Q, e = .returned v ∧ w'.ownsRow w.heap.size 3 1 v Q.length (ints Q) ∧ Q.length ≤ n + 1 ∧ w.grownBy w' (some p)

set_option maxRecDepth 100000 in
set_option maxHeartbeats 2000000 in
theorem jobDays_any (l : List Int) (k : Nat) (p : Nat) (ja : Option Addr) (n jc : Nat) (D : Int) (w : World) (hs : StreamAt w p lw l k) (hk : k < 999000000) (hn : n ≤ 100) (hD : D ≤ 100) (hD0 : 0 ≤ D) :
    Calls Try.prog 41 #[.pointer (some ⟨p, 0, none⟩), .agg #[.slice ja n jc, .int .i64 D]] w (JobDaysPost n p w) := by
  have hlt := hs.lt
  obtain ⟨w1, hw1⟩ : ∃ w1, w1 = w.alloc (.cells #[.slice ja n jc, .int .i64 D] 79) := ⟨_, rfl⟩
  have hg1 : w.grownBy w1 none := by rw [hw1]; exact gr_alloc (gr_refl w none) _
  have hP1 : w1.heap[w.heap.size]? = some (.cells #[.slice ja n jc, .int .i64 D] 79 (0, 0)) := by rw [hw1]; exact heap_alloc_new w _
  obtain ⟨b0, b1, _, _⟩ := blk2 hP1
  have hP := lt_of_block hP1
  have hs1 := hs.keep0 hg1
  clear hP1
  go_enter Try.func41, Try.ntmps41
  go_wp2_with (fail)
  rw [← hw1]
  clear hw1
  go_loopw [5, 9] (fun v i wr => ∃ (m : Nat) (xs : List Int), m ≤ n ∧ i = .int .i64 m ∧ xs.length = m ∧ wr.ownsRow w1.heap.size 3 1 v xs.length (ints xs) ∧ StreamAt wr p lw l (k + m) ∧ w1.grownBy wr (some p)) (fun _ i _ => n - (intOf i).toNat)
  case atStart => exact ⟨0, [], Nat.zero_le _, rfl, rfl, World.ownsRow_nil _ _ _ _, hs1, gr_refl _ _⟩
  case round =>
    obtain ⟨m, xs, hm, rfl, hxl, hown, hsr, hgr⟩ := hrel
    obtain ⟨wo, rfl⟩ : ∃ wo : World, wo = wr := ⟨_, rfl⟩
    have hsz := hgr.size
    have c1 := hgr.cell b1 (by simp; omega)
    rw [hxl] at hown
    have HXL := Lib.hid hxl
    clear hxl
    by_cases hlt2 : m < n
    · by_cases hD1 : D < 1
      · go_wp2_with (fail)
        refine (next_any l _ 1 p wo hsr (by omega) (by omega)).mono ?_
        rintro e w3 ⟨rfl, hs3, hg3⟩
        obtain ⟨x, hx⟩ : ∃ x, x = nxt l (k + m) 1 := ⟨_, rfl⟩
        rw [← hx]
        clear hx
        have hown3 := own_keepS hown hg3 (show p < w1.heap.size by omega)
        have hsz3 := hg3.size
        go_wp2_with (at_builtin; refine wpList_app1 eInt rfl _ _ rfl w1.heap.size _ _ _ rfl _ _ rfl hown3 _ rfl (by simp) rfl rfl (by omega) (by omega) ?_; intro v4 w4 hown4 hg4 hlt4)
        go_wp2_with (fail)
        go_roundw
        case rel => exact ⟨m + 1, xs ++ [x], by omega, by go_num, by simp [HXL.out], by rw [List.length_append, HXL.out]; simpa [ints] using hown4, by rw [← Nat.add_assoc]; exact hs3.keep hg4 (fun q hq => by have := hlt4 q hq; omega), gr_grown (gr_trans hgr hg3) hg4 hlt4⟩
        case measure => simp [intOf]; omega
      · go_wp2_with (fail)
        refine (next_any l _ D p wo hsr (by omega) (by omega)).mono ?_
        rintro e w3 ⟨rfl, hs3, hg3⟩
        obtain ⟨x, hx⟩ : ∃ x, x = nxt l (k + m) D := ⟨_, rfl⟩
        rw [← hx]
        clear hx
        have hown3 := own_keepS hown hg3 (show p < w1.heap.size by omega)
        have hsz3 := hg3.size
        go_wp2_with (at_builtin; refine wpList_app1 eInt rfl _ _ rfl w1.heap.size _ _ _ rfl _ _ rfl hown3 _ rfl (by simp) rfl rfl (by omega) (by omega) ?_; intro v4 w4 hown4 hg4 hlt4)
        go_wp2_with (fail)
        go_roundw
        case rel => exact ⟨m + 1, xs ++ [x], by omega, by go_num, by simp [HXL.out], by rw [List.length_append, HXL.out]; simpa [ints] using hown4, by rw [← Nat.add_assoc]; exact hs3.keep hg4 (fun q hq => by have := hlt4 q hq; omega), gr_grown (gr_trans hgr hg3) hg4 hlt4⟩
        case measure => simp [intOf]; omega
    · obtain rfl : m = n := by omega
      clear hlt2
      obtain ⟨n, hnm⟩ : ∃ n, n = m := ⟨_, rfl⟩
      rw [← hnm] at hsr hown
      have HNM := Lib.hid hnm
      have hn : n ≤ 100 := by omega
      clear hnm
      go_wp2_with (fail)
      refine (flip_any l _ 15 p wo hsr (by omega) (by omega)).mono ?_
      rintro e w3 ⟨rfl, hs3, hg3⟩
      have hown3 := own_keepS hown hg3 (show p < w1.heap.size by omega)
      have hgr3 := gr_trans hgr hg3
      have hsz3 := hg3.size
      clear hown hg3 hgr hsr
      have hwg1 : w.grownBy w1 (some p) := gr_weak hg1 _
      cases hf : flipM l (k + n) 15 with
      | true =>
        clear hf
        go_wp2_with (at_builtin; refine wpList_app1 eInt rfl _ _ rfl w1.heap.size _ _ _ rfl _ _ rfl hown3 _ rfl (by simp) rfl rfl (by omega) (by omega) ?_; intro v4 w4 hown4 hg4 hlt4)
        have hxn : xs.length = n := by rw [HXL.out, HNM.out]
        have hown4' : w4.ownsRow w.heap.size 3 1 v4 (xs ++ [0]).length (ints (xs ++ [0])) := by
          rw [List.length_append, hxn]; exact own_base (by simpa [ints] using hown4) hg1.size
        have hsY := hs3.keep hg4 (fun q hq => by have := hlt4 q hq; omega)
        have hgqY := gr_grown hgr3 hg4 hlt4
        have hgrY := gr_trans hwg1 hgqY
        clear hown4
        obtain ⟨wY, hwY⟩ : ∃ wY, wY = w4 := ⟨_, rfl⟩
        rw [← hwY] at hown4' hsY hgqY hgrY
        obtain ⟨ys, hys⟩ : ∃ ys, ys = xs ++ [0] := ⟨_, rfl⟩
        have hyl : ys.length ≤ m + 1 := by rw [hys, List.length_append, hxn, HNM.out]; exact Nat.le_refl _
        have hownY := hown4'
        rw [← hys] at hownY
        clear hys hxn hown4'
        subst hwY
        obtain ⟨va, vc, rfl, _, _, _, _⟩ := own_shape hownY
        go_wp2_with (fail)
        refine (flip_any l (k + n + 1) 20 p wY hsY (by omega) (by omega)).mono ?_
        rintro e w5 ⟨rfl, hs5, hg5⟩
        have hown5 := own_keepS hownY hg5 hlt
        have hgr5 := gr_trans hgrY hg5
        have cY := (gr_trans (gr_trans hgqY hg5) (gr_refl _ _)).cell b1 (by simp; omega)
        cases hf2 : flipM l (k + n + 1) 20 with
        | false =>
          clear hf2
          go_wp2_with (fail)
          go_ret
          exact ⟨_, ys, rfl, hown5, hyl, hgr5⟩
        | true =>
          clear hf2
          by_cases h0 : ys.length = 0
          · have hb0 : decide (0 < ys.length) = false := by rw [h0]; rfl
            clear h0
            go_wp2_with (fail)
            go_ret
            exact ⟨_, ys, rfl, hown5, hyl, hgr5⟩
          · have hpos : 0 < ys.length := by omega
            clear h0
            obtain ⟨g, gc, he, hgl, hgw, _, _⟩ := own_some hown5 hpos
            cases he
            go_wp2_with (fail)
            refine (pick_any l _ [-1, D] p w5 hs5 (by omega) (by simp) (by simp)).mono ?_
            rintro e w7 ⟨rfl, hs7, hg7⟩
            obtain ⟨x, hx⟩ : ∃ x, x = pickM l (k + n + 1 + 1) [-1, D] := ⟨_, rfl⟩
            rw [← hx]
            clear hx
            have hown7 := own_keepS hown5 hg7 hlt
            have hgr7 := gr_trans hgr5 hg7
            obtain ⟨d0, d1, d2⟩ := own_int hown7 0 hpos
            have HD2 := Lib.hid (d2 x); clear d2
            go_wp2_with (fail)
            go_ret
            refine ⟨_, ys.set 0 x, rfl, ?_, by rw [List.length_set]; exact hyl, gr_new hgr7 hgl _⟩
            have := HD2.out
            rw [List.length_set]
            exact this
      | false =>
        clear hf
        have hxn : xs.length = n := by rw [HXL.out, HNM.out]
        obtain ⟨wY, hwY⟩ : ∃ wY, wY = w3 := ⟨_, rfl⟩
        have hgrY := gr_trans hwg1 hgr3
        have hgqY := hgr3
        have hsY := hs3
        rw [← hxn] at hown3
        have hownY := own_base hown3 hg1.size
        rw [← hwY] at hownY hsY hgqY hgrY
        obtain ⟨ys, hys⟩ : ∃ ys, ys = xs := ⟨_, rfl⟩
        have hyl : ys.length ≤ m + 1 := by rw [hys, hxn, HNM.out]; exact Nat.le_succ _
        rw [← hys] at hownY
        rw [hxn, ← hxn, ← hys] at *
        subst hwY
        obtain ⟨va, vc, rfl, _, _, _, _⟩ := own_shape hownY
        go_wp2_with (fail)
        refine (flip_any l (k + n + 1) 20 p wY hsY (by omega) (by omega)).mono ?_
        rintro e w5 ⟨rfl, hs5, hg5⟩
        have hown5 := own_keepS hownY hg5 hlt
        have hgr5 := gr_trans hgrY hg5
        have cY := (gr_trans (gr_trans hgqY hg5) (gr_refl _ _)).cell b1 (by simp; omega)
        cases hf2 : flipM l (k + n + 1) 20 with
        | false =>
          clear hf2
          go_wp2_with (fail)
          go_ret
          exact ⟨_, ys, rfl, hown5, hyl, hgr5⟩
        | true =>
          clear hf2
          by_cases h0 : ys.length = 0
          · have hb0 : decide (0 < ys.length) = false := by rw [h0]; rfl
            clear h0
            go_wp2_with (fail)
            go_ret
            exact ⟨_, ys, rfl, hown5, hyl, hgr5⟩
          · have hpos : 0 < ys.length := by omega
            clear h0
            obtain ⟨g, gc, he, hgl, hgw, _, _⟩ := own_some hown5 hpos
            cases he
            go_wp2_with (fail)
            refine (pick_any l _ [-1, D] p w5 hs5 (by omega) (by simp) (by simp)).mono ?_
            rintro e w7 ⟨rfl, hs7, hg7⟩
            obtain ⟨x, hx⟩ : ∃ x, x = pickM l (k + n + 1 + 1) [-1, D] := ⟨_, rfl⟩
            rw [← hx]
            clear hx
            have hown7 := own_keepS hown5 hg7 hlt
            have hgr7 := gr_trans hgr5 hg7
            obtain ⟨d0, d1, d2⟩ := own_int hown7 0 hpos
            have HD2 := Lib.hid (d2 x); clear d2
            go_wp2_with (fail)
            go_ret
            refine ⟨_, ys.set 0 x, rfl, ?_, by rw [List.length_set]; exact hyl, gr_new hgr7 hgl _⟩
            have := HD2.out
            rw [List.length_set]
            exact this
end Go.Proofs.Ytbgfflbddflokaa
