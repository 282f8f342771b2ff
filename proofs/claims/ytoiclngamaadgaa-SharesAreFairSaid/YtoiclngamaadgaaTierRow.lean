/- Tiers, as the stream makes them: few. -/
import Derived.Test.YtoiclngamaadgaaLots
import Derived.Test.YtoiclngamaadgaaStepApp
import Derived.Test.YtoiclngamaadgaaFlatSet
import Derived.Test.YtoiclngamaadgaaTiers
namespace Go.Proofs.Ytoiclngamaadgaa
open Go.RowKit
variable {lw : Nat}

theorem eTier : ElemT Try.prog 36 98 (.agg #[.int .i64 0, .int .i64 0]) 2 16 := ⟨by kernel_rfl, by kernel_rfl, by decide, by decide, by decide⟩
theorem own_tier {w : World} {g base : Nat} {R : Int} (h : w.heap[g]? = some (.cells #[.int .i64 0, .int .i64 R] 98 (0, 0))) (hb : base ≤ g) : w.ownsRow base 98 2 (.slice (some ⟨g, 0, none⟩) 1 1) 1 (flat encTier [⟨0, R⟩]) :=
  ⟨rfl, .inr ⟨g, 1, _, rfl, hb, h, Nat.le_refl _, by unfold maxLen; omega, rfl, rfl⟩⟩
/-- What stands while the tiers are made. -/
structure TierW (wr w : World) (p lw : Nat) (l : List Int) (q : Nat) (v : Value) (N : List Tier) : Prop where
  own : wr.ownsRow w.heap.size 98 2 v N.length (flat encTier N)
  str : StreamAt wr p lw l q
  gr : w.grownBy wr (some p)
  pB : p < w.heap.size
theorem TierW.draw {wr w1 w : World} {p lw : Nat} {l : List Int} {q q2 : Nat} {v : Value} {N : List Tier} (h : TierW wr w p lw l q v N) (g : wr.grownBy w1 (some p)) (hs : StreamAt w1 p lw l q2) : TierW w1 w p lw l q2 v N :=
  ⟨own_keepS h.own g h.pB, hs, gr_trans h.gr g, h.pB⟩
theorem TierW.app {wr w1 w : World} {p lw : Nat} {l : List Int} {q : Nat} {v v1 : Value} {N : List Tier} {x : Tier} (h : TierW wr w p lw l q v N) (o : w1.ownsRow w.heap.size 98 2 v1 (N.length + 1) (flat encTier N ++ encTier x)) (g : wr.grownBy w1 v.ownBlock) (hl : ∀ b, v.ownBlock = some b → w.heap.size ≤ b) : TierW w1 w p lw l q v1 (N ++ [x]) := by
  refine ⟨?_, h.str.keep g (fun b e => by have := hl b e; have := h.pB; omega), gr_grown h.gr g (fun b e => by have := hl b e; omega), h.pB⟩
  rw [List.length_append, flat_append, flat_one]; exact o
def TierPost (l : List Int) (lw k p : Nat) (w : World) (e : Ending) (w' : World) : Prop :=
  ∃ v N, e = .returned v ∧ w'.ownsRow w.heap.size 98 2 v N.length (flat encTier N) ∧ N.length ≤ 5 ∧ (∃ q, q ≤ k + 100 ∧ StreamAt w' p lw l q) ∧ w.grownBy w' (some p)
set_option maxRecDepth 100000 in
set_option maxHeartbeats 4000000 in
theorem tiers_any (l : List Int) (k : Nat) (p : Nat) (w : World) (hs : StreamAt w p lw l k) (hk : k < 800000000) :
    Calls Try.prog 12 #[.pointer (some ⟨p, 0, none⟩)] w (TierPost l lw k p w) := by
  have hlt := hs.lt
  have hs1 := Lib.hid hs
  clear hs
  go_enter Try.func12, Try.ntmps12
  go_wp2_with (fail)
  refine (pick_any l k [0, 333, 1000] p w hs1.out (by omega) (by decide) (by decide)).mono ?_
  rintro e w1 ⟨rfl, hs2, hg2⟩
  obtain ⟨R, hR⟩ : ∃ y, y = pickM l k [0, 333, 1000] := ⟨_, rfl⟩
  rw [← hR]
  have K0 : Hid (TierW (w1.alloc (.cells #[.int .i64 0, .int .i64 R] 98)) w p lw l (k + 1) (.slice (some ⟨w1.heap.size, 0, none⟩) 1 1) [⟨0, R⟩]) :=
    ⟨own_tier (heap_alloc_new w1 _) hg2.size, hs2.keep0 (gr_alloc (gr_refl w1 none) _), gr_trans hg2 (gr_weak (gr_alloc (gr_refl w1 none) _) _), hlt⟩
  clear hR hs1 hs2 hg2
  go_wp2_with (fail)
  refine (next_any l (k + 1) 3 p _ K0.out.str (by omega) (by decide)).mono ?_
  rintro e w2 ⟨rfl, hs3, hg3⟩
  have hnx := nxt_range l (k + 1) 3 (by decide)
  obtain ⟨z, hz⟩ : ∃ y, y = nxt l (k + 1) 3 := ⟨_, rfl⟩
  rw [← hz] at hnx
  rw [← hz]
  have K2 := Lib.hid (K0.out.draw hg3 hs3)
  clear hz hs3 hg3 K0
  go_wp2_with (fail)
  go_loopw [3, 4, 12] (fun o a i wr => ∃ (t q : Nat) (v : Value) (A : Int) (N : List Tier), (t : Int) ≤ z ∧ i = .int .i64 t ∧ a = .int .i64 A ∧ v = o ∧ N.length = t + 1 ∧ q ≤ k + 2 + 2 * t ∧ TierW wr w p lw l q v N) (fun _ _ i _ => 3 - (intOf i).toNat)
  case atStart => exact ⟨0, k + 1 + 1, _, 0, _, hnx.1, rfl, rfl, rfl, rfl, by omega, K2.out⟩
  case round =>
    clear K2
    obtain ⟨t, q, v, A, N, ht, rfl, rfl, rfl, hN, hq, hW⟩ := hrel
    obtain ⟨wo, rfl⟩ : ∃ wo : World, wo = wr := ⟨_, rfl⟩
    have HW := Lib.hid hW
    have HN := Lib.hid hN
    have hN3 : N.length ≤ 3 := by omega
    have hN0 : 0 < N.length := by omega
    clear hW hN
    by_cases htl : (t : Int) < z
    · have htd : decide ((t : Int) < z) = true := decide_eq_true htl
      go_wp2_with (fail)
      refine (pick_any l q [1, 99, 10000] p wo HW.out.str (by omega) (by decide) (by decide)).mono ?_
      rintro e w3 ⟨rfl, hs3, hg3⟩
      obtain ⟨y, hy⟩ : ∃ y, y = pickM l q [1, 99, 10000] := ⟨_, rfl⟩
      rw [← hy]
      have HW3 := Lib.hid (HW.out.draw hg3 hs3)
      clear hy hs3 hg3 HW
      go_wp2_with (fail)
      refine (pick_any l (q + 1) [0, 1, 777, 10000] p w3 HW3.out.str (by omega) (by decide) (by decide)).mono ?_
      rintro e w4 ⟨rfl, hs4, hg4⟩
      obtain ⟨x, hx⟩ : ∃ y, y = pickM l (q + 1) [0, 1, 777, 10000] := ⟨_, rfl⟩
      rw [← hx]
      have HW4 := Lib.hid (HW3.out.draw hg4 hs4)
      have hz4 := HW4.out.gr.size
      clear hx hs4 hg4 HW3
      obtain ⟨u, hu⟩ : ∃ u, wrap64 (A + y) = u := ⟨_, rfl⟩
      rw [hu]
      go_wp2_with (at_builtin; refine wpList_app1F eTier rfl _ _ rfl w.heap.size _ N.length (flat encTier N) rfl w4 #[.int .i64 u, .int .i64 x] rfl HW4.out.own _ rfl rfl rfl rfl (by omega) (by omega) ?_; intro v6 w6 o6 g6 hl6 _; have HW6 := Lib.hid (HW4.out.app (x := ⟨u, x⟩) o6 g6 hl6); clear o6 g6 hl6)
      go_roundw
      case rel => exact ⟨t + 1, q + 1 + 1, _, u, N ++ [⟨u, x⟩], by omega, by go_num, rfl, rfl, by rw [List.length_append, HN.out]; rfl, by omega, HW6.out⟩
      case measure => simp [intOf]; omega
    · have htd : decide ((t : Int) < z) = false := decide_eq_false htl
      go_wp2_with (fail)
      refine (flip_any l q 12 p wo HW.out.str (by omega) (by omega)).mono ?_
      rintro e w3 ⟨rfl, hs3, hg3⟩
      have HW3 := Lib.hid (HW.out.draw hg3 hs3)
      obtain ⟨b, hb⟩ : ∃ b, b = flipM l q 12 := ⟨_, rfl⟩
      rw [← hb]
      clear hb hs3 hg3 HW
      cases b with
      | false =>
        obtain ⟨va, vc, rfl, -, -, -, -⟩ := own_shape HW3.out.own
        go_wp2_with (fail)
        go_ret
        exact ⟨_, N, rfl, HW3.out.own, by omega, ⟨_, by omega, HW3.out.str⟩, HW3.out.gr⟩
      | true =>
        go_wp2_with (fail)
        refine (next_any l (q + 1) 4 p w3 HW3.out.str (by omega) (by decide)).mono ?_
        rintro e w4 ⟨rfl, hs4, hg4⟩
        have HW4 := Lib.hid (HW3.out.draw hg4 hs4)
        obtain ⟨r, hr⟩ : ∃ y, y = nxt l (q + 1) 4 := ⟨_, rfl⟩
        rw [← hr]
        clear hr hs4 hg4 HW3
        by_cases r0 : r = 0
        · subst r0
          go_wp2_with (fail)
          go_ret
          exact ⟨_, [], rfl, World.ownsRow_nil _ _ _ _, by simp, ⟨_, by omega, HW4.out.str⟩, HW4.out.gr⟩
        · by_cases r1 : r = 1
          · subst r1
            go_wp2_with (fail)
            refine (pick_any l (q + 1 + 1) [1, -1] p w4 HW4.out.str (by omega) (by decide) (by decide)).mono ?_
            rintro e w5 ⟨rfl, hs5, hg5⟩
            obtain ⟨y, hy⟩ : ∃ y, y = pickM l (q + 1 + 1) [1, -1] := ⟨_, rfl⟩
            rw [← hy]
            have HW5 := Lib.hid (HW4.out.draw hg5 hs5)
            clear hy hs5 hg5 HW4
            obtain ⟨g, cap, rfl, hgb⟩ : ∃ g cap, v = .slice (some ⟨g, 0, none⟩) N.length cap ∧ w.heap.size ≤ g := by
              rcases HW5.out.own.2 with ⟨_, h0⟩ | ⟨g, cap, cur, h1, h2, -⟩
              · omega
              · exact ⟨g, cap, h1, h2⟩
            obtain ⟨c0, f0, st⟩ := own_cellE encTier_len HW5.out.own 0 hN0 0 (by decide) (.int .i64 N[0].from_) rfl rfl
            have ST := Lib.hid (st (.int .i64 y) ⟨y, N[0].rate⟩ rfl)
            have i0 : decide ((0 : Int) < (N.length : Int)) = true := by simp; omega
            have i1 : (0 : Int) < (N.length : Int) := by omega
            simp only [Nat.zero_mul, Nat.zero_add] at c0 f0 ST
            obtain ⟨F, hF⟩ : ∃ F, F = N[0].from_ := ⟨_, rfl⟩
            rw [← hF] at c0
            clear st hF
            go_wp2_with (fail)
            go_ret
            exact ⟨_, N.set 0 (⟨y, N[0].rate⟩ : Tier), rfl, by rw [List.length_set]; exact ST.out, by rw [List.length_set]; omega, ⟨_, by omega, HW5.out.str.keep (gr_set (q := ⟨g, 0, none⟩) (gr_refl _ (some g)) rfl _) (fun b e => by cases e; have := hlt; omega)⟩, gr_new HW5.out.gr hgb _⟩
          · have d0 : decide (r = 0) = false := decide_eq_false r0
            have d1 : decide (r = 1) = false := decide_eq_false r1
            go_wp2_with (fail)
            refine (pick_any l (q + 1 + 1) [0, 1000000000, 1000000001] p w4 HW4.out.str (by omega) (by decide) (by decide)).mono ?_
            rintro e w5 ⟨rfl, hs5, hg5⟩
            obtain ⟨y, hy⟩ : ∃ y, y = pickM l (q + 1 + 1) [0, 1000000000, 1000000001] := ⟨_, rfl⟩
            rw [← hy]
            have HW5 := Lib.hid (HW4.out.draw hg5 hs5)
            clear hy hs5 hg5 HW4
            go_wp2_with (fail)
            refine (pick_any l (q + 1 + 1 + 1) [-1, 5, 10001] p w5 HW5.out.str (by omega) (by decide) (by decide)).mono ?_
            rintro e w6 ⟨rfl, hs6, hg6⟩
            obtain ⟨x, hx⟩ : ∃ y, y = pickM l (q + 1 + 1 + 1) [-1, 5, 10001] := ⟨_, rfl⟩
            rw [← hx]
            have HW6 := Lib.hid (HW5.out.draw hg6 hs6)
            have hz6 := HW6.out.gr.size
            clear hx hs6 hg6 HW5
            go_wp2_with (at_builtin; refine wpList_app1F eTier rfl _ _ rfl w.heap.size _ N.length (flat encTier N) rfl w6 #[.int .i64 y, .int .i64 x] rfl HW6.out.own _ rfl rfl rfl rfl (by omega) (by omega) ?_; intro v7 w7 o7 g7 hl7 _; have HW7 := Lib.hid (HW6.out.app (x := ⟨y, x⟩) o7 g7 hl7); clear o7 g7 hl7)
            go_wp2_with (fail)
            go_ret
            exact ⟨_, N ++ [(⟨y, x⟩ : Tier)], rfl, HW7.out.own, by rw [List.length_append]; simp; omega, ⟨_, by omega, HW7.out.str⟩, HW7.out.gr⟩
end Go.Proofs.Ytoiclngamaadgaa
