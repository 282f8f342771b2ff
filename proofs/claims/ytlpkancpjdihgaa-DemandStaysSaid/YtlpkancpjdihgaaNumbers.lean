/- Numbers: as the stream makes them. -/
import Derived.Test.YtlpkancpjdihgaaMakeInts
import Derived.Test.YtlpkancpjdihgaaMake
namespace Go.Proofs.Ytlpkancpjdihgaa
open Go.RowKit
variable {lw : Nat}

/-- Numbers below m that are drawn one behind the other. -/
def genM (l : List Int) (k : Nat) (m : Int) : Nat → List Int
  | 0 => []
  | n + 1 => genM l k m n ++ [nxt l (k + n) m]
theorem genM_len (l : List Int) (k : Nat) (m : Int) (n : Nat) : (genM l k m n).length = n := by
  induction n with
  | zero => rfl
  | succ n ih => simp [genM, ih]
def numsA (l : List Int) (k n : Nat) (most : Int) : List Int := if flipM l (k + n) 15 then genM l k (most + 1) n ++ [1] else genM l k (most + 1) n
def numsB (l : List Int) (k n : Nat) (most : Int) : Bool := flipM l (k + n + 1) 15 && decide (0 < (numsA l k n most).length)
def numsM (l : List Int) (k n : Nat) (most : Int) : List Int :=
  if numsB l k n most then (numsA l k n most).set (nxt l (k + n + 2) (numsA l k n most).length).toNat (pickM l (k + n + 3) [-1, 1000001, 1099511627776]) else numsA l k n most
def numsK (l : List Int) (k n : Nat) (most : Int) : Nat := if numsB l k n most then k + n + 4 else k + n + 2
theorem numsA_len (l : List Int) (k n : Nat) (most : Int) : (numsA l k n most).length ≤ n + 1 := by
  unfold numsA; split <;> simp [genM_len]
theorem numsM_len (l : List Int) (k n : Nat) (most : Int) : (numsM l k n most).length ≤ n + 1 := by
  unfold numsM; split <;> simp [numsA_len]
theorem numsK_le (l : List Int) (k n : Nat) (most : Int) : numsK l k n most ≤ k + n + 4 := by
  unfold numsK; split <;> omega

set_option maxRecDepth 100000 in
set_option maxHeartbeats 1000000 in
theorem numbers_any (l : List Int) (k n : Nat) (most : Int) (p : Nat) (w : World) (hs : StreamAt w p lw l k) (hk : k < 900000000) (hn : n ≤ 1000) (hm0 : 0 ≤ most) (hm : most ≤ 1000000000000) :
    Calls Try.prog 40 #[.pointer (some ⟨p, 0, none⟩), .int .i64 n, .int .i64 most] w
      fun e w' => ∃ v, e = .returned v ∧ w'.ownsRow w.heap.size 3 1 v (numsM l k n most).length (ints (numsM l k n most)) ∧ StreamAt w' p lw l (numsK l k n most) ∧ w.grownBy w' (some p) := by
  have hlt := hs.lt
  go_enter Try.func40, Try.ntmps40
  go_wp2_with (fail)
  go_loopw [7, 9] (fun v c wr => ∃ i : Nat, i ≤ n ∧ c = .int .i64 i ∧ wr.ownsRow w.heap.size 3 1 v i (ints (genM l k (most + 1) i)) ∧ StreamAt wr p lw l (k + i) ∧ w.grownBy wr (some p))
    (fun _ c _ => n - (intOf c).toNat)
  case atStart => exact ⟨0, Nat.zero_le _, rfl, World.ownsRow_nil _ _ _ _, hs, gr_refl _ _⟩
  case round =>
    obtain ⟨i, hi, rfl, hown, hsr, hgr⟩ := hrel
    obtain ⟨wo, rfl⟩ : ∃ wo : World, wo = wr := ⟨_, rfl⟩
    have hsz := hgr.size
    by_cases hlt2 : i < n
    · go_wp2_with (fail)
      refine (next_any l _ _ p wo hsr (by omega) (by omega)).mono ?_
      rintro e w3 ⟨rfl, hs3, hg3⟩
      have hown3 := own_keepS hown hg3 (by omega)
      have hgr3 := gr_trans hgr hg3
      have hsz3 := hg3.size
      go_wp2_with (at_builtin; refine wpList_app1 eInt rfl _ _ rfl w.heap.size _ _ _ rfl _ _ rfl hown3 _ rfl (by simp) rfl rfl (by omega) (by omega) ?_; intro v6 w6 hown6 hg6 hlt6)
      go_wp2_with (fail)
      go_roundw
      case rel =>
        refine ⟨i + 1, by omega, by go_num, ?_, ?_, gr_grown hgr3 hg6 (fun r hr => by have := hlt6 r hr; omega)⟩
        · simp only [genM, ints, List.map_append]
          exact hown6
        · exact hs3.keep hg6 (fun r hr => by have := hlt6 r hr; omega)
      case measure => simp [intOf]; omega
    · have hin : i = n := by omega
      subst hin
      clear hlt2
      obtain ⟨A, hA⟩ : ∃ A, A = numsA l k i most := ⟨_, rfl⟩
      obtain ⟨G, hG⟩ : ∃ G, G = genM l k (most + 1) i := ⟨_, rfl⟩
      have hGl : G.length = i := by rw [hG, genM_len]
      rw [← hG] at hown
      have HG := Lib.hid hG; clear hG
      have HGL := Lib.hid hGl; clear hGl
      have HA := Lib.hid hA; clear hA
      go_wp2_with (fail)
      refine (flip_any l _ 15 p wo hsr (by omega) (by omega)).mono ?_
      rintro e w3 ⟨rfl, hs3, hg3⟩
      have hown3 := own_keepS hown hg3 (by omega)
      have hgr3 := gr_trans hgr hg3
      have hsz3 := hg3.size
      have hfl : ∃ fl, fl = flipM l (k + i) 15 := ⟨_, rfl⟩
      obtain ⟨fl, hfl⟩ := hfl
      rw [← hfl]
      have HFL := Lib.hid hfl; clear hfl
      cases fl with
      | true =>
        have hAe : A = G ++ [1] := by rw [HA.out]; unfold numsA; rw [← HFL.out, ← HG.out]; rfl
        have HAE := Lib.hid hAe; clear hAe
        go_wp2_with (at_builtin; refine wpList_app1 eInt rfl _ _ rfl w.heap.size _ _ _ rfl _ _ rfl hown3 _ rfl (by simp) rfl rfl (by omega) (by omega) ?_; intro v6 w6 hown6 hg6 hlt6)
        have hownA : w6.ownsRow w.heap.size 3 1 v6 A.length (ints A) := by
          rw [HAE.out, List.length_append, HGL.out]
          simp only [ints, List.map_append]
          exact hown6
        have hgrA := gr_grown hgr3 hg6 (fun r hr => by have := hlt6 r hr; omega)
        have hsA := hs3.keep hg6 (fun r hr => by have := hlt6 r hr; omega)
        clear hown6 hg6 hlt6 hown3 hgr3 hs3 hsz3 hg3
        go_wp2_with (fail)
        obtain ⟨aA, cA, rfl, hiA, hoA, hcA, hfrA⟩ := own_shape hownA
        refine (flip_any l _ 15 p _ hsA (by omega) (by omega)).mono ?_
        rintro e w7 ⟨rfl, hs7, hg7⟩
        have hown7 := own_keepS hownA hg7 (by omega)
        have hgr7 := gr_trans hgrA hg7
        have hal := numsA_len l k i most
        rw [← HA.out] at hal
        obtain ⟨f2, hf2⟩ : ∃ f2, f2 = flipM l (k + i + 1) 15 := ⟨_, rfl⟩
        rw [← hf2]
        have HF2 := Lib.hid hf2; clear hf2
        by_cases hB : f2 = true ∧ 0 < A.length
        · obtain ⟨rfl, hpos⟩ := hB
          have hnm : numsM l k i most = A.set (nxt l (k + i + 2) A.length).toNat (pickM l (k + i + 3) [-1, 1000001, 1099511627776]) ∧ numsK l k i most = k + i + 4 := by
            have hb : numsB l k i most = true := by unfold numsB; rw [← HF2.out, ← HA.out]; simp; exact hpos
            unfold numsM numsK
            rw [hb, ← HA.out]
            exact ⟨rfl, rfl⟩
          have HNM := Lib.hid hnm; clear hnm
          have hd : (decide ((0 : Int) < (A.length : Int))) = true := by simpa using hpos
          have hr := nxt_range l (k + i + 2) A.length (by omega)
          obtain ⟨x, hx⟩ : ∃ x : Nat, nxt l (k + i + 2) A.length = x := ⟨(nxt l (k + i + 2) A.length).toNat, by omega⟩
          rw [hx] at hr
          have hxl : x < A.length := by omega
          obtain ⟨gA, cA2, eA, hgA, hgA2, _, _⟩ := own_some hownA hpos
          cases eA
          have HR := Lib.hid hr; clear hr
          have HX := Lib.hid hx; clear hx
          go_wp2_with (fail)
          refine (next_any l (k + i + 2) _ p w7 hs7 (by omega) (by omega)).mono ?_
          rintro e w8 ⟨rfl, hs8, hg8⟩
          rw [HX.out]
          go_wp2_with (fail)
          refine (pick_any l (k + i + 3) [-1, 1000001, 1099511627776] p w8 hs8 (by omega) (by decide) (by decide)).mono ?_
          rintro e w9 ⟨rfl, hs9, hg9⟩
          obtain ⟨y, hy⟩ : ∃ y, y = pickM l (k + i + 3) [-1, 1000001, 1099511627776] := ⟨_, rfl⟩
          rw [← hy]
          have HY := Lib.hid hy; clear hy
          have hg79 := gr_trans hg8 hg9
          have hown9 := own_keepS hown7 hg79 (by omega)
          have hgr9 := gr_trans hgr7 hg79
          obtain ⟨d1, d2, d3⟩ := own_int hown9 x hxl
          have D3 := Lib.hid (d3 y); clear d3
          go_wp2_with (fail)
          go_ret
          refine ⟨_, rfl, ?_, ?_, ?_⟩
          · rw [HNM.out.1, HX.out, ← HY.out, List.length_set]
            exact D3.out
          · rw [HNM.out.2]
            exact hs9.keep (gr_set (gr_refl _ _) rfl _) (fun q hq => by cases hq; show p < gA; omega)
          · exact gr_new hgr9 (by show w.heap.size ≤ gA; omega) _
        · have hnm : numsM l k i most = A ∧ numsK l k i most = k + i + 2 := by
            have hb : numsB l k i most = false := by
              unfold numsB; rw [← HF2.out, ← HA.out]
              cases f2 with
              | false => rfl
              | true => rw [decide_eq_false (fun h => hB ⟨rfl, h⟩)]; rfl
            unfold numsM numsK
            rw [hb, ← HA.out]
            exact ⟨rfl, rfl⟩
          have HNM := Lib.hid hnm; clear hnm
          cases f2 with
          | true =>
            have h0 : ¬ 0 < A.length := fun h => hB ⟨rfl, h⟩
            clear hB
            cases A with
            | cons x xs => exact absurd (Nat.succ_pos _) h0
            | nil =>
              clear h0
              go_wp2_with (fail)
              go_ret
              refine ⟨_, rfl, ?_, ?_, hgr7⟩
              · rw [HNM.out.1]; exact hown7
              · rw [HNM.out.2]; exact hs7
          | false =>
            clear hB
            go_wp2_with (fail)
            go_ret
            refine ⟨_, rfl, ?_, ?_, hgr7⟩
            · rw [HNM.out.1]; exact hown7
            · rw [HNM.out.2]; exact hs7
      | false =>
        have hAe : A = G := by rw [HA.out]; unfold numsA; rw [← HFL.out, ← HG.out]; rfl
        have HAE := Lib.hid hAe; clear hAe
        have hownA : w3.ownsRow w.heap.size 3 1 u7 A.length (ints A) := by
          rw [HAE.out, HGL.out]; exact hown3
        have hgrA := hgr3
        have hsA := hs3
        clear hown3 hgr3 hs3 hsz3 hg3
        go_wp2_with (fail)
        obtain ⟨aA, cA, rfl, hiA, hoA, hcA, hfrA⟩ := own_shape hownA
        refine (flip_any l _ 15 p _ hsA (by omega) (by omega)).mono ?_
        rintro e w7 ⟨rfl, hs7, hg7⟩
        have hown7 := own_keepS hownA hg7 (by omega)
        have hgr7 := gr_trans hgrA hg7
        have hal := numsA_len l k i most
        rw [← HA.out] at hal
        obtain ⟨f2, hf2⟩ : ∃ f2, f2 = flipM l (k + i + 1) 15 := ⟨_, rfl⟩
        rw [← hf2]
        have HF2 := Lib.hid hf2; clear hf2
        by_cases hB : f2 = true ∧ 0 < A.length
        · obtain ⟨rfl, hpos⟩ := hB
          have hnm : numsM l k i most = A.set (nxt l (k + i + 2) A.length).toNat (pickM l (k + i + 3) [-1, 1000001, 1099511627776]) ∧ numsK l k i most = k + i + 4 := by
            have hb : numsB l k i most = true := by unfold numsB; rw [← HF2.out, ← HA.out]; simp; exact hpos
            unfold numsM numsK
            rw [hb, ← HA.out]
            exact ⟨rfl, rfl⟩
          have HNM := Lib.hid hnm; clear hnm
          have hd : (decide ((0 : Int) < (A.length : Int))) = true := by simpa using hpos
          have hr := nxt_range l (k + i + 2) A.length (by omega)
          obtain ⟨x, hx⟩ : ∃ x : Nat, nxt l (k + i + 2) A.length = x := ⟨(nxt l (k + i + 2) A.length).toNat, by omega⟩
          rw [hx] at hr
          have hxl : x < A.length := by omega
          obtain ⟨gA, cA2, eA, hgA, hgA2, _, _⟩ := own_some hownA hpos
          cases eA
          have HR := Lib.hid hr; clear hr
          have HX := Lib.hid hx; clear hx
          go_wp2_with (fail)
          refine (next_any l (k + i + 2) _ p w7 hs7 (by omega) (by omega)).mono ?_
          rintro e w8 ⟨rfl, hs8, hg8⟩
          rw [HX.out]
          go_wp2_with (fail)
          refine (pick_any l (k + i + 3) [-1, 1000001, 1099511627776] p w8 hs8 (by omega) (by decide) (by decide)).mono ?_
          rintro e w9 ⟨rfl, hs9, hg9⟩
          obtain ⟨y, hy⟩ : ∃ y, y = pickM l (k + i + 3) [-1, 1000001, 1099511627776] := ⟨_, rfl⟩
          rw [← hy]
          have HY := Lib.hid hy; clear hy
          have hg79 := gr_trans hg8 hg9
          have hown9 := own_keepS hown7 hg79 (by omega)
          have hgr9 := gr_trans hgr7 hg79
          obtain ⟨d1, d2, d3⟩ := own_int hown9 x hxl
          have D3 := Lib.hid (d3 y); clear d3
          go_wp2_with (fail)
          go_ret
          refine ⟨_, rfl, ?_, ?_, ?_⟩
          · rw [HNM.out.1, HX.out, ← HY.out, List.length_set]
            exact D3.out
          · rw [HNM.out.2]
            exact hs9.keep (gr_set (gr_refl _ _) rfl _) (fun q hq => by cases hq; show p < gA; omega)
          · exact gr_new hgr9 (by show w.heap.size ≤ gA; omega) _
        · have hnm : numsM l k i most = A ∧ numsK l k i most = k + i + 2 := by
            have hb : numsB l k i most = false := by
              unfold numsB; rw [← HF2.out, ← HA.out]
              cases f2 with
              | false => rfl
              | true => rw [decide_eq_false (fun h => hB ⟨rfl, h⟩)]; rfl
            unfold numsM numsK
            rw [hb, ← HA.out]
            exact ⟨rfl, rfl⟩
          have HNM := Lib.hid hnm; clear hnm
          cases f2 with
          | true =>
            have h0 : ¬ 0 < A.length := fun h => hB ⟨rfl, h⟩
            clear hB
            cases A with
            | cons x xs => exact absurd (Nat.succ_pos _) h0
            | nil =>
              clear h0
              go_wp2_with (fail)
              go_ret
              refine ⟨_, rfl, ?_, ?_, hgr7⟩
              · rw [HNM.out.1]; exact hown7
              · rw [HNM.out.2]; exact hs7
          | false =>
            clear hB
            go_wp2_with (fail)
            go_ret
            refine ⟨_, rfl, ?_, ?_, hgr7⟩
            · rw [HNM.out.1]; exact hown7
            · rw [HNM.out.2]; exact hs7
end Go.Proofs.Ytlpkancpjdihgaa
