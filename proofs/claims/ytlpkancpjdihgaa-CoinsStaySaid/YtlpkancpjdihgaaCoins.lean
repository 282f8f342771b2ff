/- Numbers of coins, as the stream makes them. -/
import Derived.Test.YtlpkancpjdihgaaMake
import Derived.Test.YtlpkancpjdihgaaMakeInts
namespace Go.Proofs.Ytlpkancpjdihgaa
open Go.RowKit

def CoinsIn (n : Nat) (xs : List Int) : Prop := xs.length ≤ n ∧ ∀ x ∈ xs, -1 ≤ x ∧ x ≤ 10001
theorem coins_next {n : Nat} {xs : List Int} {x : Int} (h : CoinsIn n xs) (h0 : -1 ≤ x) (h1 : x ≤ 10001) : CoinsIn (n + 1) (xs ++ [x]) := by
  refine ⟨by have := h.1; simp; omega, fun y hy => ?_⟩
  rcases List.mem_append.1 hy with hy | hy
  · exact h.2 y hy
  · simp only [List.mem_cons, List.not_mem_nil, or_false] at hy; omega
theorem coins_more {n : Nat} {xs : List Int} (h : CoinsIn n xs) : CoinsIn (n + 1) xs := ⟨by have := h.1; omega, h.2⟩
theorem coins_set {n : Nat} {xs : List Int} {x : Int} (h : CoinsIn n xs) (k : Nat) (h0 : -1 ≤ x) (h1 : x ≤ 10001) : CoinsIn n (xs.set k x) := by
  refine ⟨by simpa using h.1, fun y hy => ?_⟩
  rcases List.mem_or_eq_of_mem_set hy with hy | hy
  · exact h.2 y hy
  · omega
def CoinsPost (n p : Nat) (w : World) (e : Ending) (w' : World) : Prop := ∃ v xs, e = .returned v ∧ w'.ownsRow w.heap.size 3 1 v xs.length (ints xs) ∧ CoinsIn (n + 1) xs ∧ w.grownBy w' (some p)

set_option maxRecDepth 100000 in
set_option maxHeartbeats 2000000 in
theorem coins_any (l : List Int) (k n : Nat) (p : Nat) (w : World) (hs : StreamAt w p l k) (hk : k < 999000000) (hn : n ≤ 1000) :
    Calls Try.prog 26 #[.pointer (some ⟨p, 0, none⟩), .int .i64 n] w (CoinsPost n p w) := by
  have hlt := hs.lt
  go_enter Try.func26, Try.ntmps26
  go_wp2_with (fail)
  go_loopw [5, 7] (fun v i wr => ∃ (m : Nat) (xs : List Int), m ≤ n ∧ i = .int .i64 m ∧ CoinsIn m xs ∧ wr.ownsRow w.heap.size 3 1 v xs.length (ints xs) ∧ StreamAt wr p l (k + m) ∧ w.grownBy wr (some p)) (fun _ i _ => n - (intOf i).toNat)
  case atStart => exact ⟨0, [], Nat.zero_le _, rfl, ⟨Nat.le_refl _, fun x hx => by cases hx⟩, World.ownsRow_nil _ _ _ _, hs, gr_refl _ _⟩
  case round =>
    obtain ⟨m, xs, hm, rfl, hxs, hown, hsr, hgr⟩ := hrel
    obtain ⟨wo, rfl⟩ : ∃ wo : World, wo = wr := ⟨_, rfl⟩
    have hxl := hxs.1
    have HXS := Lib.hid hxs; clear hxs
    have hsz := hgr.size
    by_cases hlt2 : m < n
    · go_wp2_with (fail)
      refine (pick_any l _ [0, 1, 2, 9] p wo hsr (by omega) (by decide) (by decide)).mono ?_
      rintro e w3 ⟨rfl, hs3, hg3⟩
      have hpm := pickM_mem l (k + m) [0, 1, 2, 9] (by decide)
      obtain ⟨x, hx⟩ : ∃ x, x = pickM l (k + m) [0, 1, 2, 9] := ⟨_, rfl⟩
      rw [← hx] at hpm
      rw [← hx]
      have HNX : Hid (CoinsIn (m + 1) (xs ++ [x])) := by
        simp only [List.mem_cons, List.not_mem_nil, or_false] at hpm
        exact coins_next HXS.out (by omega) (by omega)
      clear hpm hx
      have hown3 := own_keepS hown hg3 hlt
      have hsz3 := hg3.size
      go_wp2_with (at_builtin; refine wpList_app1 eInt rfl _ _ rfl w.heap.size _ _ _ rfl _ _ rfl hown3 _ rfl (by simp) rfl rfl (by omega) (by omega) ?_; intro v4 w4 hown4 hg4 hlt4)
      go_wp2_with (fail)
      go_roundw
      case rel => exact ⟨m + 1, xs ++ [x], by omega, by go_num, HNX.out, by simpa [ints] using hown4, by rw [← Nat.add_assoc]; exact hs3.keep hg4 (fun q hq => by have := hlt4 q hq; omega), gr_grown (gr_trans hgr hg3) hg4 hlt4⟩
      case measure => simp [intOf]; omega
    · have hmn : m = n := by omega
      subst hmn
      clear hlt2
      go_wp2_with (fail)
      refine (flip_any l _ 12 p wo hsr (by omega) (by omega)).mono ?_
      rintro e w3 ⟨rfl, hs3, hg3⟩
      have hown3 := own_keepS hown hg3 hlt
      have hgr3 := gr_trans hgr hg3
      have hsz3 := hg3.size
      clear hown hg3 hgr hsr
      cases hf : flipM l (k + m) 12 with
      | true =>
        clear hf
        go_wp2_with (at_builtin; refine wpList_app1 eInt rfl _ _ rfl w.heap.size _ _ _ rfl _ _ rfl hown3 _ rfl (by simp) rfl rfl (by omega) (by omega) ?_; intro v4 w4 hown4 hg4 hlt4)
        have hown4' : w4.ownsRow w.heap.size 3 1 v4 (xs ++ [1]).length (ints (xs ++ [1])) := by simpa [ints] using hown4
        have hs4 := hs3.keep hg4 (fun q hq => by have := hlt4 q hq; omega)
        have hgr4 := gr_grown hgr3 hg4 hlt4
        have HC : Hid (CoinsIn (m + 1) (xs ++ [1])) := coins_next HXS.out (by omega) (by omega)
        clear hown4
        obtain ⟨ys, hys⟩ : ∃ ys, ys = xs ++ [1] := ⟨_, rfl⟩
        have hin2 : CoinsIn (m + 1) ys := by rw [hys]; exact HC.out
        have hownY := hown4'
        rw [← hys] at hownY
        clear hys
        have hyl := hin2.1
        have HIN := Lib.hid hin2; clear hin2
        obtain ⟨va, vc, rfl, _, _, _, _⟩ := own_shape hownY
        go_wp2_with (fail)
        refine (flip_any l (k + m + 1) 12 p w4 hs4 (by omega) (by omega)).mono ?_
        rintro e w5 ⟨rfl, hs5, hg5⟩
        have hown5 := own_keepS hownY hg5 hlt
        have hgr5 := gr_trans hgr4 hg5
        cases hf2 : flipM l (k + m + 1) 12 with
        | false =>
          clear hf2
          go_wp2_with (fail)
          go_ret
          exact ⟨_, ys, rfl, hown5, HIN.out, hgr5⟩
        | true =>
          clear hf2
          by_cases h0 : ys.length = 0
          · have hb0 : decide (0 < ys.length) = false := by rw [h0]; rfl
            clear h0
            go_wp2_with (fail)
            go_ret
            exact ⟨_, ys, rfl, hown5, HIN.out, hgr5⟩
          · have hpos : 0 < ys.length := by omega
            clear h0
            obtain ⟨g, gc, he, hgl, hgw, _, _⟩ := own_some hown5 hpos
            cases he
            go_wp2_with (fail)
            refine (next_any l _ ys.length p w5 hs5 (by omega) (by omega)).mono ?_
            rintro e w6 ⟨rfl, hs6, hg6⟩
            have hr := nxt_range l (k + m + 1 + 1) ys.length (by omega)
            obtain ⟨i, hi⟩ : ∃ i : Nat, nxt l (k + m + 1 + 1) ys.length = i := ⟨(nxt l (k + m + 1 + 1) ys.length).toNat, by omega⟩
            rw [hi]
            have hil : i < ys.length := by omega
            clear hr hi
            have hown6 := own_keepS hown5 hg6 hlt
            have hgr6 := gr_trans hgr5 hg6
            go_wp2_with (fail)
            refine (pick_any l _ [-1, 10001, 10000] p w6 hs6 (by omega) (by decide) (by decide)).mono ?_
            rintro e w7 ⟨rfl, hs7, hg7⟩
            have hpm := pickM_mem l (k + m + 1 + 1 + 1) [-1, 10001, 10000] (by decide)
            obtain ⟨x, hx⟩ : ∃ x, x = pickM l (k + m + 1 + 1 + 1) [-1, 10001, 10000] := ⟨_, rfl⟩
            rw [← hx] at hpm
            rw [← hx]
            have HSET : Hid (CoinsIn (m + 1) (ys.set i x)) := by
              simp only [List.mem_cons, List.not_mem_nil, or_false] at hpm
              exact coins_set HIN.out i (by omega) (by omega)
            clear hpm hx
            have hown7 := own_keepS hown6 hg7 hlt
            have hgr7 := gr_trans hgr6 hg7
            obtain ⟨d0, d1, d2⟩ := own_int hown7 i hil
            have HD2 := Lib.hid (d2 x); clear d2
            go_wp2_with (fail)
            go_ret
            refine ⟨_, ys.set i x, rfl, ?_, HSET.out, gr_new hgr7 hgl _⟩
            have := HD2.out
            rw [List.length_set]
            exact this
      | false =>
        clear hf
        obtain ⟨ys, hys⟩ : ∃ ys, ys = xs := ⟨_, rfl⟩
        have hin2 : CoinsIn (m + 1) ys := by rw [hys]; exact (coins_more HXS.out)
        have hownY := hown3
        rw [← hys] at hownY
        clear hys
        have hyl := hin2.1
        have HIN := Lib.hid hin2; clear hin2
        obtain ⟨va, vc, rfl, _, _, _, _⟩ := own_shape hownY
        go_wp2_with (fail)
        refine (flip_any l (k + m + 1) 12 p w3 hs3 (by omega) (by omega)).mono ?_
        rintro e w5 ⟨rfl, hs5, hg5⟩
        have hown5 := own_keepS hownY hg5 hlt
        have hgr5 := gr_trans hgr3 hg5
        cases hf2 : flipM l (k + m + 1) 12 with
        | false =>
          clear hf2
          go_wp2_with (fail)
          go_ret
          exact ⟨_, ys, rfl, hown5, HIN.out, hgr5⟩
        | true =>
          clear hf2
          by_cases h0 : ys.length = 0
          · have hb0 : decide (0 < ys.length) = false := by rw [h0]; rfl
            clear h0
            go_wp2_with (fail)
            go_ret
            exact ⟨_, ys, rfl, hown5, HIN.out, hgr5⟩
          · have hpos : 0 < ys.length := by omega
            clear h0
            obtain ⟨g, gc, he, hgl, hgw, _, _⟩ := own_some hown5 hpos
            cases he
            go_wp2_with (fail)
            refine (next_any l _ ys.length p w5 hs5 (by omega) (by omega)).mono ?_
            rintro e w6 ⟨rfl, hs6, hg6⟩
            have hr := nxt_range l (k + m + 1 + 1) ys.length (by omega)
            obtain ⟨i, hi⟩ : ∃ i : Nat, nxt l (k + m + 1 + 1) ys.length = i := ⟨(nxt l (k + m + 1 + 1) ys.length).toNat, by omega⟩
            rw [hi]
            have hil : i < ys.length := by omega
            clear hr hi
            have hown6 := own_keepS hown5 hg6 hlt
            have hgr6 := gr_trans hgr5 hg6
            go_wp2_with (fail)
            refine (pick_any l _ [-1, 10001, 10000] p w6 hs6 (by omega) (by decide) (by decide)).mono ?_
            rintro e w7 ⟨rfl, hs7, hg7⟩
            have hpm := pickM_mem l (k + m + 1 + 1 + 1) [-1, 10001, 10000] (by decide)
            obtain ⟨x, hx⟩ : ∃ x, x = pickM l (k + m + 1 + 1 + 1) [-1, 10001, 10000] := ⟨_, rfl⟩
            rw [← hx] at hpm
            rw [← hx]
            have HSET : Hid (CoinsIn (m + 1) (ys.set i x)) := by
              simp only [List.mem_cons, List.not_mem_nil, or_false] at hpm
              exact coins_set HIN.out i (by omega) (by omega)
            clear hpm hx
            have hown7 := own_keepS hown6 hg7 hlt
            have hgr7 := gr_trans hgr6 hg7
            obtain ⟨d0, d1, d2⟩ := own_int hown7 i hil
            have HD2 := Lib.hid (d2 x); clear d2
            go_wp2_with (fail)
            go_ret
            refine ⟨_, ys.set i x, rfl, ?_, HSET.out, gr_new hgr7 hgl _⟩
            have := HD2.out
            rw [List.length_set]
            exact this
end Go.Proofs.Ytlpkancpjdihgaa
