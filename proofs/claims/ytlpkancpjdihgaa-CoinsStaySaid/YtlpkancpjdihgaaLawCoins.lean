/- The walk of CoinsStay. -/
import Derived.Test.YtlpkancpjdihgaaFloat
import Derived.Test.YtlpkancpjdihgaaSettle2
import Derived.Test.YtlpkancpjdihgaaCoins
namespace Go.Proofs.Ytlpkancpjdihgaa
open Go.RowKit

theorem tubeAt_append (T : List Tube) (x : Tube) (j : Nat) (h : j < T.length) : tubeAt (T ++ [x]) j = tubeAt T j := by
  unfold tubeAt
  rw [List.getD_eq_getElem?_getD, List.getD_eq_getElem?_getD, List.getElem?_append_left h]
theorem tubeAt_last (T : List Tube) (x : Tube) : tubeAt (T ++ [x]) T.length = x := by
  unfold tubeAt
  simp [List.getD_eq_getElem?_getD]
structure TubesInv (T : List Tube) (i : Nat) : Prop where
  len : T.length ≤ i
  ok : ∀ j, j < T.length → OkTube T j
  val : ∀ j, j < T.length → ∃ i0, i0 < i ∧ (tubeAt T j).value = coinValues.getD i0 0
theorem coinValues_up : ∀ i, i < 5 → ∀ j, j < i → coinValues.getD j 0 < coinValues.getD i 0 := by decide
theorem coinValues_in : ∀ i, i < 5 → 1 ≤ coinValues.getD i 0 ∧ coinValues.getD i 0 ≤ 100 := by decide
theorem tubesTo_inv (l : List Int) (k i : Nat) (hi : i ≤ 5) : TubesInv (tubesTo l k i).1 i := by
  induction i with
  | zero => exact ⟨Nat.le_refl _, fun j hj => by simp [tubesTo] at hj, fun j hj => by simp [tubesTo] at hj⟩
  | succ i ih =>
    have ih := ih (by omega)
    simp only [tubesTo]
    split
    · exact ⟨by have := ih.len; simp; omega, ih.ok, fun j hj => by obtain ⟨i0, h1, h2⟩ := ih.val j hj; exact ⟨i0, by omega, h2⟩⟩
    · obtain ⟨T, hT⟩ : ∃ T, T = (tubesTo l k i).1 := ⟨_, rfl⟩
      rw [← hT] at ih
      simp only [← hT]
      have hpm := pickM_mem l ((tubesTo l k i).2 + 1) [0, 1, 3, 8, 20] (by decide)
      obtain ⟨m, hm⟩ : ∃ m, m = pickM l ((tubesTo l k i).2 + 1) [0, 1, 3, 8, 20] := ⟨_, rfl⟩
      rw [← hm] at hpm
      simp only [← hm]
      have hm0 : 0 ≤ m ∧ m ≤ 20 := by simp only [List.mem_cons, List.not_mem_nil, or_false] at hpm; omega
      have hnx := nxt_range l ((tubesTo l k i).2 + 2) (m + 1) (by omega)
      obtain ⟨c, hc⟩ : ∃ c, c = nxt l ((tubesTo l k i).2 + 2) (m + 1) := ⟨_, rfl⟩
      rw [← hc] at hnx
      simp only [← hc]
      have hv := coinValues_in i (by omega)
      refine ⟨by have := ih.len; simp; omega, fun j hj => ?_, fun j hj => ?_⟩
      · simp only [List.length_append, List.length_cons, List.length_nil] at hj
        rcases (show j < T.length ∨ j = T.length by omega) with h | h
        · have o := ih.ok j h
          have e := tubeAt_append T ⟨coinValues.getD i 0, c, m⟩ j h
          exact ⟨by rw [e]; exact o.v0, by rw [e]; exact o.v1, fun h0 => by rw [e, tubeAt_append T _ (j - 1) (by omega)]; exact o.up h0, by rw [e]; exact o.m0, by rw [e]; exact o.m1, by rw [e]; exact o.c0, by rw [e]; exact o.c1⟩
        · subst h
          have e := tubeAt_last T ⟨coinValues.getD i 0, c, m⟩
          refine ⟨by rw [e]; exact hv.1, by rw [e]; show coinValues.getD i 0 ≤ 10000; omega, fun h0 => ?_, by rw [e]; exact hm0.1, by rw [e]; show m ≤ 1000; omega, by rw [e]; exact hnx.1, by rw [e]; show c ≤ m; omega⟩
          obtain ⟨i0, h1, h2⟩ := ih.val (T.length - 1) (by omega)
          rw [e, tubeAt_append T _ (T.length - 1) (by omega), h2]
          exact coinValues_up i (by omega) i0 h1
      · simp only [List.length_append, List.length_cons, List.length_nil] at hj
        rcases (show j < T.length ∨ j = T.length by omega) with h | h
        · obtain ⟨i0, h1, h2⟩ := ih.val j h
          exact ⟨i0, by omega, by rw [tubeAt_append T _ j h]; exact h2⟩
        · subst h
          exact ⟨i, by omega, by rw [tubeAt_last]⟩
theorem tubesM_ok (l : List Int) (k : Nat) : OkTubes (tubesM l k) := by
  have h := tubesTo_inv l k 5 (Nat.le_refl _)
  exact ⟨by have := h.len; unfold tubesM; omega, h.ok⟩

set_option maxRecDepth 100000 in
set_option maxHeartbeats 1500000 in
theorem coinsStay_any (l : List Int) (a : Option Addr) (cap : Nat) (w : World) (hc : CellsAt w a (ints l)) (hl : l.length ≤ 9223372036854775807) :
    Calls Try.prog 5 #[.slice a l.length cap] w fun e w' => e = .returned (.bool true) ∧ w.grownBy w' none := by
  have hs0 := StreamAt.made cap hc hl
  have hg0 : w.grownBy (w.alloc (.cells #[.slice a l.length cap, .int .i64 0] 25)) none := gr_alloc (gr_refl _ _) _
  go_enter Try.func5, Try.ntmps5
  go_wp2_with (fail)
  refine (rightTubes_any l 0 _ _ hs0 (by omega)).mono ?_
  rintro e w1 ⟨v, rfl, hown, hs1, hg1⟩
  have hk1 := tubesTo_k l 0 5
  have ho := tubesM_ok l 0
  obtain ⟨q, hq⟩ : ∃ q, q = tubesK l 0 := ⟨_, rfl⟩
  have hq15 : q ≤ 15 := by rw [hq]; unfold tubesK; omega
  rw [← hq] at hs1
  clear hq hk1
  obtain ⟨t, ht⟩ : ∃ t, t = tubesM l 0 := ⟨_, rfl⟩
  rw [← ht] at hown ho
  clear ht hs0 hc
  have htl := ho.len
  have hbase : w.heap.size < (w.alloc (.cells #[.slice a l.length cap, .int .i64 0] 25)).heap.size := by simp
  obtain ⟨ta, tc, rfl, _, _, _, _⟩ := own_shape hown
  have hnil : ta = none → t.length = 0 ∧ tc = 0 := own_nil hown
  have HNIL := Lib.hid hnil; clear hnil
  go_wp2_with (fail)
  refine (next_any l _ _ _ _ hs1 (by omega) (by omega)).mono ?_
  rintro e w2 ⟨rfl, hs2, hg2⟩
  have hr := nxt_range l q 3000 (by omega)
  obtain ⟨want, hwant⟩ : ∃ x, x = nxt l q 3000 := ⟨_, rfl⟩
  rw [← hwant] at hr
  rw [← hwant]
  obtain ⟨hw0, hw1⟩ := hr
  clear hwant
  have hown2 := own_keepS hown hg2 hbase
  have hgr2 := gr_trans hg1 hg2
  clear hown hg1 hg2
  go_wp2_with (fail)
  refine (coins_any l _ t.length _ _ hs2 (by omega) (by omega)).mono ?_
  rintro e w3 ⟨v3, add, rfl, hown3, hin, hg3⟩
  obtain ⟨aa, ac, rfl, _, _, hca, _⟩ := own_shape hown3
  obtain ⟨_, _, he, _, _, hct, _⟩ := own_shape (own_keepS hown2 hg3 hbase)
  cases he
  have hgr3 : w.grownBy w3 none := gr_grown hg0 (gr_trans hgr2 hg3) (fun r hr => by cases hr; omega)
  clear hown2 hg3 hgr2 hown3 hs1 hs2 hg0 hbase
  have hal := hin.1
  have HIN := Lib.hid hin; clear hin
  go_wp2_with (fail)
  refine (float_any t want ta tc _ hct ho hw0 (by omega)).mono ?_
  rintro e w4 ⟨v4, f, rfl, hown4, hg4, g, hfit, hgw, hfl, hfk⟩
  rw [← hfl] at hown4
  obtain ⟨fa, fc, rfl, _, _, hcf, _⟩ := own_shape hown4
  clear hown4
  replace hct := hct.keep0 hg4
  replace hca := hca.keep0 hg4
  have hgr4 := gr_trans hgr3 hg4
  clear hgr3 hg4
  have hlb : ((f.length : Int) != (t.length : Int)) = false := by simp; omega
  have HFIT := Lib.hid hfit; clear hfit
  have HFL := Lib.hid hfl; clear hfl
  have HFK := Lib.hid hfk; clear hfk
  have hgb : ∀ x ∈ g, -1000000 ≤ x ∧ x ≤ 1000000 := by
    intro x hx
    obtain ⟨k, hk, rfl⟩ := List.getElem_of_mem hx
    have hkt : k < t.length := by have := HFIT.out.1; omega
    have h1 := HFIT.out.2 k hkt
    rw [getD_eq _ _ _ hk] at h1
    have := (ho.ok k hkt).m1
    omega
  have hgl := HFIT.out.1
  have hWL := worthL_len t g (by omega)
  have hB := Lib.hid (sum_bound (worthL t g) (-10000000000) 10000000000 (by decide) (by decide) (worthL_mem t g (by omega) ho hgb))
  have hN := Lib.hid (sum_next (worthL t g))
  have hM := Lib.hid (worthL_mem t g (by omega) ho hgb)
  have hG := Lib.hid (worthL_get t g)
  have HWL := Lib.hid hWL; clear hWL
  have HGL := Lib.hid hgl; clear hgl
  clear hgb
  have hft : f.length ≤ t.length := by rw [HFL.out]; exact Nat.le_refl _
  have htf : t.length ≤ f.length := by rw [HFL.out]; exact Nat.le_refl _
  go_wp2_with (fail)
  go_loopw [9, 48] (fun s i wr => ∃ k : Nat, k ≤ f.length ∧ i = .int .i64 k ∧ s = .int .i64 ((worthL t g).take k).sum ∧ ∃ n, wr = w4.drewN n) (fun _ i _ => f.length - (intOf i).toNat)
  case atStart => exact ⟨0, Nat.zero_le _, rfl, rfl, 0, rfl⟩
  case round =>
    obtain ⟨k, hk, rfl, rfl, nd, rfl⟩ := hrel
    have hb := hB.out k
    obtain ⟨s, hs⟩ : ∃ s, s = ((worthL t g).take k).sum := ⟨_, rfl⟩
    rw [← hs] at hb
    rw [← hs]
    obtain ⟨hb0, hb1⟩ := hb
    have HS := Lib.hid hs; clear hs
    by_cases hlt : k < f.length
    · have hkt : k < t.length := by omega
      obtain ⟨b, off, rfl, hcs⟩ := tubes_cells hct k hkt
      obtain ⟨c0, c1, c2⟩ := hcs k hkt
      obtain ⟨b2, o2, rfl, d0⟩ := hcf k _ (ints_get f k hlt)
      have hgk := HFIT.out.2 k hkt
      have hfk := HFK.out k hkt
      have hnx := hN.out k (by rw [HWL.out, HGL.out]; exact hkt)
      have hmm := hM.out ((worthL t g).getD k 0) (by rw [getD_eq _ _ _ (by rw [HWL.out, HGL.out]; exact hkt)]; exact List.getElem_mem _)
      have hgg := hG.out k (by rw [HGL.out]; exact Nat.le_refl _) (by rw [HGL.out]; exact hkt)
      have o := ho.ok k hkt
      have o1 := o.m1
      have o2' := o.c0
      have o3 := o.c1
      rw [hgg] at hmm
      rw [hgg, ← HS.out] at hnx
      obtain ⟨y, hy⟩ : ∃ y, y = f.getD k 0 := ⟨_, rfl⟩
      obtain ⟨x, hx⟩ : ∃ x, x = tubeAt t k := ⟨_, rfl⟩
      rw [← hy] at d0 hfk
      rw [← hx] at c0 c1 c2 hgk hfk hnx hmm o1 o2' o3
      have he : g.getD k 0 = x.count + y := by omega
      rw [he] at hnx hmm hgk
      obtain ⟨hm0, hm1⟩ := hmm
      obtain ⟨hg0, hg1⟩ := hgk
      have HNX := Lib.hid hnx
      clear hcs o hgg hnx hfk he
      have HY := Lib.hid hy; clear hy
      have HX := Lib.hid hx; clear hx
      go_wp2_with (fail)
      go_quiet (fail)
      go_wp2_with (fail)
      go_roundw
      case rel => exact ⟨k + 1, by omega, by go_num, by rw [HNX.out], _, rfl⟩
      case measure => simp [intOf]; omega
    · have hkl : k = f.length := by omega
      have hsw : s = worthM t g := by rw [HS.out, worthM, hkl, HFL.out, ← HGL.out, ← HWL.out, List.take_length]
      have hsl : s ≤ want := by omega
      clear hsw hkl hcf hB hN hM hG HS hb0 hb1 hgw HFK HFIT
      obtain ⟨w5, hw5⟩ : ∃ w5, w5 = w4.drewN nd := ⟨_, rfl⟩
      replace hct : CellsAt w5 ta (tubes t) := by rw [hw5]; exact hct
      replace hca : CellsAt w5 aa (ints add) := by rw [hw5]; exact hca
      replace hgr4 : w.grownBy w5 none := by rw [hw5]; exact gr_drewN hgr4 nd
      rw [← hw5]
      clear hw5
      have hal2 : add.length ≤ 20 := by omega
      go_wp2_with (fail)
      refine (settleFault_any t add ta tc aa ac _ hca (by omega)).mono ?_
      rintro e w6 ⟨r, rfl, hr, hg6⟩
      replace hct := hct.keep0 hg6
      replace hca := hca.keep0 hg6
      replace hgr4 := gr_trans hgr4 hg6
      clear hg6
      by_cases hok : OkAdd t add
      · have hr0 := hr.2 hok
        subst hr0; clear hr
        go_wp2_with (fail)
        refine (total_ok t ta tc _ hct ho).mono ?_
        rintro e w7 ⟨rfl, hg7⟩
        replace hct := hct.keep0 hg7
        replace hca := hca.keep0 hg7
        replace hgr4 := gr_trans hgr4 hg7
        clear hg7
        go_wp2_with (fail)
        refine (settle_ok t add ta tc aa ac _ hct HNIL.out hca ho hok).mono ?_
        rintro e w8 ⟨v8, rfl, hown8, hg8⟩
        replace hct := hct.keep0 hg8
        replace hca := hca.keep0 hg8
        replace hgr4 := gr_trans hgr4 hg8
        clear hg8
        rw [← settled_len t add hok.1] at hown8
        obtain ⟨xa, xc, rfl, _, _, hcx, _⟩ := own_shape hown8
        clear hown8
        go_wp2_with (fail)
        refine (total_ok (settledT t add) xa xc _ hcx (settled_ok t add ho hok)).mono ?_
        rintro e w9 ⟨rfl, hg9⟩
        replace hct := hct.keep0 hg9
        replace hca := hca.keep0 hg9
        replace hgr4 := gr_trans hgr4 hg9
        clear hg9 hcx
        have hbx : ∀ x ∈ add, -1000000 ≤ x ∧ x ≤ 1000000 := fun x hx => by have := hok.2 x hx; omega
        have e1 := settle_even t add hok.1
        have n1 := sum_bound_all (totL t) 0 10000000000 (by decide) (by decide) (totL_mem ho)
        have n2 := sum_bound_all (totL (settledT t add)) 0 10000000000 (by decide) (by decide) (totL_mem (settled_ok t add ho hok))
        have n3 := sum_bound_all (restL t add) 0 10000000000 (by decide) (by decide) (restL_mem t add ho hok)
        have n4 := sum_bound_all (worthL t add) (-10000000000) 10000000000 (by decide) (by decide) (worthL_mem t add (by rw [hok.1]; exact Nat.le_refl _) ho hbx)
        have l1 : (totL t).length = t.length := by simp [totL]
        have l2 : (totL (settledT t add)).length = t.length := by simp [totL, settled_len t add hok.1]
        have l3 : (restL t add).length = t.length := by simp [restL, hok.1]
        have l4 : (worthL t add).length = add.length := worthL_len t add (by rw [hok.1]; exact Nat.le_refl _)
        rw [l1] at n1
        rw [l2] at n2
        rw [l3] at n3
        rw [l4, hok.1] at n4
        have hwl : add.length ≤ t.length := by rw [hok.1]; exact Nat.le_refl _
        obtain ⟨A, hA⟩ : ∃ A, A = totT t := ⟨_, rfl⟩
        obtain ⟨C, hC⟩ : ∃ C, C = totT (settledT t add) := ⟨_, rfl⟩
        obtain ⟨D, hD⟩ : ∃ D, D = restT t add := ⟨_, rfl⟩
        obtain ⟨B, hB⟩ : ∃ B, B = worthM t add := ⟨_, rfl⟩
        have n1' : 0 ≤ A ∧ A ≤ 100000000000 := by rw [hA]; unfold totT; omega
        have n2' : 0 ≤ C ∧ C ≤ 100000000000 := by rw [hC]; unfold totT; omega
        have n3' : 0 ≤ D ∧ D ≤ 100000000000 := by rw [hD]; unfold restT; omega
        have n4' : -100000000000 ≤ B ∧ B ≤ 100000000000 := by rw [hB]; unfold worthM; omega
        rw [← hA, ← hB, ← hC, ← hD] at e1
        rw [← hA, ← hC, ← hD]
        have heq : (A + B == C + D) = true := by simp [e1]
        obtain ⟨n1a, n1b⟩ := n1'
        obtain ⟨n2a, n2b⟩ := n2'
        obtain ⟨n3a, n3b⟩ := n3'
        obtain ⟨n4a, n4b⟩ := n4'
        have HB := Lib.hid hB
        have HBX := Lib.hid hbx
        clear n1 n2 n3 n4 l1 l2 l3 l4 e1 hA hB hC hD hbx
        go_wp2_with (fail)
        refine (vends_any _).mono ?_
        rintro e w10 ⟨rfl, hg10⟩
        replace hct := hct.keep0 hg10
        replace hca := hca.keep0 hg10
        replace hgr4 := gr_trans hgr4 hg10
        clear hg10
        go_wp2_with (fail)
        refine (worth_any t add ta tc aa ac _ hct hca hwl ho HBX.out).mono ?_
        rintro e w11 ⟨rfl, hg11⟩
        rw [← HB.out]
        go_wp2_with (fail)
        go_ret
        exact ⟨rfl, gr_trans hgr4 hg11⟩
      · have hrb : (r != 0) = true := by
          simp only [bne_iff_ne, ne_eq]
          exact fun h => hok (hr.1 h)
        clear hr
        go_wp2_with (go_at_call 29; refine (vends_any _).mono ?_; rintro e w7 ⟨rfl, hg7⟩)
        go_ret
        exact ⟨rfl, gr_trans hgr4 hg7⟩
end Go.Proofs.Ytlpkancpjdihgaa
