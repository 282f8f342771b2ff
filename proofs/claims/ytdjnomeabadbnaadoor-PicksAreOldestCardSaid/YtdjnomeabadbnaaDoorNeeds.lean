/- Needs, as the stream makes them: few, with short names and bounded counts. -/
import Derived.Test.YtdjnomeabadbnaaDoorLots
import Derived.Test.YtdjnomeabadbnaaDoorStepApp
namespace Go.Proofs.YtdjnomeabadbnaaDoor
open Go.RowKit
variable {lw : Nat}

structure Need where
  place : ByteArray
  prod : ByteArray
  many : Int
def encNeed (x : Need) : List Value := [.string x.place, .string x.prod, .int .i64 x.many]
theorem encNeed_len (x : Need) : (encNeed x).length = 3 := rfl
theorem eNeed : ElemT Tryd.prog 121 194 (.agg #[.string ⟨#[]⟩, .string ⟨#[]⟩, .int .i64 0]) 3 40 := ⟨by kernel_rfl, by kernel_rfl, by decide, by decide, by decide⟩
def NeedSm (x : Need) : Prop := x.place.size ≤ 3 ∧ x.prod.size ≤ 3 ∧ -1 ≤ x.many ∧ x.many ≤ 100001
structure NeedsSm (N : List Need) : Prop where
  len : N.length ≤ 7
  all : ∀ x ∈ N, NeedSm x
/-- What stands while the needs are made. -/
structure NeedsW (wr w : World) (p lw : Nat) (l : List Int) (q B : Nat) (v : Value) (N : List Need) : Prop where
  own : wr.ownsRow (B + 1) 194 3 v N.length (flat encNeed N)
  blk : wr.heap[B]? = some (.cells #[.string ⟨#[120]⟩, .string ⟨#[121]⟩, .string ⟨#[122]⟩] 9 (0, 0))
  str : StreamAt wr p lw l q
  all : ∀ x ∈ N, NeedSm x
  gr : w.grownBy wr (some p)
  pB : p < B
theorem NeedsW.keep0 {wr w1 w : World} {p lw : Nat} {l : List Int} {q B : Nat} {v : Value} {N : List Need} (h : NeedsW wr w p lw l q B v N) (g : wr.grownBy w1 none) : NeedsW w1 w p lw l q B v N :=
  ⟨own_keep0 h.own g, (g.block B (lt_of_block h.blk) (by simp)).trans h.blk, h.str.keep0 g, h.all, gr_trans h.gr (gr_weak g _), h.pB⟩
theorem NeedsW.draw {wr w1 w : World} {p lw : Nat} {l : List Int} {q q2 B : Nat} {v : Value} {N : List Need} (h : NeedsW wr w p lw l q B v N) (g : wr.grownBy w1 (some p)) (hs : StreamAt w1 p lw l q2) : NeedsW w1 w p lw l q2 B v N :=
  ⟨own_keepS h.own g (by have := h.pB; omega), (g.block B (lt_of_block h.blk) (fun e => by have := h.pB; cases e; omega)).trans h.blk, hs, h.all, gr_trans h.gr g, h.pB⟩
theorem NeedsW.app {wr w1 w : World} {p lw : Nat} {l : List Int} {q B : Nat} {v v1 : Value} {N : List Need} {x : Need} (h : NeedsW wr w p lw l q B v N) (hx : NeedSm x) (hw : w.heap.size ≤ B + 1) (o : w1.ownsRow (B + 1) 194 3 v1 (N.length + 1) (flat encNeed N ++ encNeed x)) (g : wr.grownBy w1 v.ownBlock) (hl : ∀ b, v.ownBlock = some b → B + 1 ≤ b) : NeedsW w1 w p lw l q B v1 (N ++ [x]) := by
  refine ⟨?_, (g.block B (lt_of_block h.blk) (fun e => own_ne h.own h.blk (by decide) e.symm)).trans h.blk, h.str.keep g (fun b e => by have := hl b e; have := h.pB; omega), fun y hy => ?_, gr_grown h.gr g (fun b e => by have := hl b e; omega), h.pB⟩
  · rw [List.length_append, flat_append, flat_one]; exact o
  · rcases List.mem_append.1 hy with hy | hy
    · exact h.all y hy
    · have : y = x := by simpa using hy
      rw [this]; exact hx
def NeedsPost (p : Nat) (w : World) (e : Ending) (w' : World) : Prop :=
  ∃ v N, e = .returned v ∧ w'.ownsRow w.heap.size 194 3 v N.length (flat encNeed N) ∧ NeedsSm N ∧ w.grownBy w' (some p)
set_option maxRecDepth 100000 in
set_option maxHeartbeats 4000000 in
theorem needs_any (l : List Int) (k : Nat) (p : Nat) (w : World) (hs : StreamAt w p lw l k) (hk : k < 800000000) :
    Calls Tryd.prog 65 #[.pointer (some ⟨p, 0, none⟩)] w (NeedsPost p w) := by
  have hlt := hs.lt
  have hB := heap_alloc_new w (.cells #[.string ⟨#[120]⟩, .string ⟨#[121]⟩, .string ⟨#[122]⟩] 9)
  have ga := gr_alloc (gr_refl w none) (.cells #[.string ⟨#[120]⟩, .string ⟨#[121]⟩, .string ⟨#[122]⟩] 9)
  have K0 : Hid (NeedsW (w.alloc (.cells #[.string ⟨#[120]⟩, .string ⟨#[121]⟩, .string ⟨#[122]⟩] 9)) w p lw l k w.heap.size (.slice none 0 0) []) :=
    ⟨World.ownsRow_nil _ _ _ _, hB, hs.keep0 ga, (fun x hx => by cases hx), gr_weak ga _, hlt⟩
  clear hB ga hs
  go_enter Tryd.func65, Tryd.ntmps65
  go_wp2_with (fail)
  go_loopw [3, 10] (fun o i wr => ∃ (j q : Nat) (v : Value) (N : List Need), j ≤ 3 ∧ i = .int .i64 j ∧ v = o ∧ N.length ≤ 2 * j ∧ q ≤ k + 10 * j ∧ NeedsW wr w p lw l q w.heap.size v N) (fun _ i _ => 3 - (intOf i).toNat)
  case atStart => exact ⟨0, k, _, [], by omega, rfl, rfl, Nat.le_refl _, Nat.le_refl _, K0.out⟩
  case round =>
    clear K0
    obtain ⟨j, q, v, N, hj, rfl, rfl, hN, hq, hW⟩ := hrel
    obtain ⟨wo, rfl⟩ : ∃ wo : World, wo = wr := ⟨_, rfl⟩
    by_cases hjl : j < 3
    · obtain ⟨s, hs, d0⟩ : ∃ s : ByteArray, s.size ≤ 3 ∧ wo.cell? ⟨w.heap.size, j, none⟩ = some (.string s) := by
        have : j = 0 ∨ j = 1 ∨ j = 2 := by omega
        rcases this with rfl | rfl | rfl
        · exact ⟨_, by decide, blkC hW.blk 0 rfl⟩
        · exact ⟨_, by decide, blkC hW.blk 1 rfl⟩
        · exact ⟨_, by decide, blkC hW.blk 2 rfl⟩
      have hB2 := heap_alloc_new wo (.cells #[.string ⟨#[98, 97, 114]⟩, .string ⟨#[99, 97, 110]⟩] 9)
      have K1 : Hid (NeedsW (wo.alloc (.cells #[.string ⟨#[98, 97, 114]⟩, .string ⟨#[99, 97, 110]⟩] 9)) w p lw l q w.heap.size v N) := hW.keep0 (gr_alloc (gr_refl _ _) _)
      have HB2 := Lib.hid hB2
      have hlo : w.heap.size < wo.heap.size := lt_of_block hW.blk
      have hjd : decide ((j : Int) < 3) = true := by simp; omega
      clear hB2 hW
      go_wp2_with (fail)
      go_loopw [3, 16] (fun o i wr => ∃ (t q2 : Nat) (v : Value) (M : List Need), t ≤ 2 ∧ i = .int .i64 t ∧ v = o ∧ M.length ≤ N.length + t ∧ q2 ≤ q + 5 * t ∧ NeedsW wr w p lw l q2 w.heap.size v M ∧ wr.heap[wo.heap.size]? = some (.cells #[.string ⟨#[98, 97, 114]⟩, .string ⟨#[99, 97, 110]⟩] 9 (0, 0))) (fun _ i _ => 2 - (intOf i).toNat)
      case atStart => exact ⟨0, q, _, N, by omega, rfl, rfl, Nat.le_refl _, Nat.le_refl _, K1.out, HB2.out⟩
      case round =>
        clear K1 HB2
        obtain ⟨t, q2, v, M, ht, rfl, rfl, hM, hq2, hW, hB2⟩ := hrel
        obtain ⟨wi, rfl⟩ : ∃ wi : World, wi = wr := ⟨_, rfl⟩
        by_cases htl : t < 2
        · obtain ⟨u, hu, d1⟩ : ∃ u : ByteArray, u.size ≤ 3 ∧ wi.cell? ⟨wo.heap.size, t, none⟩ = some (.string u) := by
            have : t = 0 ∨ t = 1 := by omega
            rcases this with rfl | rfl
            · exact ⟨_, by decide, blkC hB2 0 rfl⟩
            · exact ⟨_, by decide, blkC hB2 1 rfl⟩
          have HW := Lib.hid hW
          have HB2 := Lib.hid hB2
          clear hW hB2
          go_wp2_with (fail)
          refine (flip_any l q2 2 p wi HW.out.str (by omega) (by omega)).mono ?_
          rintro e w3 ⟨rfl, hs3, hg3⟩
          have HW3 := Lib.hid (HW.out.draw hg3 hs3)
          have HB3 := Lib.hid ((hg3.block _ (lt_of_block HB2.out) (fun e => by cases e; omega)).trans HB2.out)
          obtain ⟨b, hb⟩ : ∃ b, b = flipM l q2 2 := ⟨_, rfl⟩
          rw [← hb]
          have hz3 : wo.heap.size < w3.heap.size := lt_of_block HB3.out
          clear hb hs3 hg3 HW HB2 d1
          cases b with
          | false =>
            go_wp2_with (fail)
            go_roundw
            case rel => exact ⟨t + 1, q2 + 1, _, M, by omega, by go_num, rfl, by omega, by omega, HW3.out, HB3.out⟩
            case measure => simp [intOf]; omega
          | true =>
            go_wp2_with (fail)
            refine (pick_any l (q2 + 1) [0, 1, 3, 6, 9] p w3 HW3.out.str (by omega) (by decide) (by decide)).mono ?_
            rintro e w5 ⟨rfl, hs5, hg5⟩
            have hpk := pickM_mem l (q2 + 1) [0, 1, 3, 6, 9] (by decide)
            simp only [List.mem_cons, List.not_mem_nil, or_false] at hpk
            obtain ⟨y, hy⟩ : ∃ y, y = pickM l (q2 + 1) [0, 1, 3, 6, 9] := ⟨_, rfl⟩
            rw [← hy] at hpk
            rw [← hy]
            have HW5 := Lib.hid (HW3.out.draw hg5 hs5)
            have HB5 := Lib.hid ((hg5.block _ (lt_of_block HB3.out) (fun e => by cases e; omega)).trans HB3.out)
            have HSM : Hid (NeedSm ⟨s, u, y⟩) := ⟨hs, hu, by simp only; omega, by simp only; omega⟩
            have hz5 : w.heap.size < w5.heap.size := lt_of_block HW5.out.blk
            clear hy hs5 hg5 HW3 HB3 hpk
            go_wp2_with (at_builtin; refine wpList_app1F eNeed rfl _ _ rfl (w.heap.size + 1) _ M.length (flat encNeed M) rfl w5 #[.string s, .string u, .int .i64 y] rfl HW5.out.own _ rfl rfl rfl rfl (by omega) (by omega) ?_; intro v6 w6 o6 g6 hl6 _; have HW6 := Lib.hid (HW5.out.app (x := ⟨s, u, y⟩) HSM.out (by omega) o6 g6 hl6); have HB6 := Lib.hid ((g6.block _ (lt_of_block HB5.out) (fun e => own_ne HW5.out.own HB5.out (by decide) e.symm)).trans HB5.out); clear o6 g6 hl6)
            go_roundw
            case rel => exact ⟨t + 1, q2 + 1 + 1, _, M ++ [⟨s, u, y⟩], by omega, by go_num, rfl, by rw [List.length_append]; simp; omega, by omega, HW6.out, HB6.out⟩
            case measure => simp [intOf]; omega
        · have HW := Lib.hid hW
          clear hW hB2
          go_wp2_with (fail)
          go_roundw
          case rel => exact ⟨j + 1, q2, _, M, by omega, by go_num, rfl, by omega, by omega, HW.out⟩
          case measure => simp [intOf]; omega
    · have HW := Lib.hid hW
      clear hW
      go_wp2_with (fail)
      refine (flip_any l q 15 p wo HW.out.str (by omega) (by omega)).mono ?_
      rintro e w3 ⟨rfl, hs3, hg3⟩
      have HW3 := Lib.hid (HW.out.draw hg3 hs3)
      obtain ⟨b, hb⟩ : ∃ b, b = flipM l q 15 := ⟨_, rfl⟩
      rw [← hb]
      clear hb hs3 hg3 HW
      cases b with
      | false =>
        obtain ⟨va, vc, rfl, -, -, -, -⟩ := own_shape HW3.out.own
        go_wp2_with (fail)
        go_ret
        exact ⟨_, N, rfl, own_base HW3.out.own (by omega), ⟨by omega, HW3.out.all⟩, HW3.out.gr⟩
      | true =>
        go_wp2_with (fail)
        refine (one_any l (q + 1) [⟨#[]⟩, ⟨#[120]⟩, ⟨#[122, 122]⟩] p w3 HW3.out.str (by omega) (by decide) (by decide)).mono ?_
        rintro e w4 ⟨rfl, hs4, hg4⟩
        have h1 := oneS_mem l (q + 1) [⟨#[]⟩, ⟨#[120]⟩, ⟨#[122, 122]⟩] (by decide)
        have HW4 := Lib.hid (HW3.out.draw hg4 hs4)
        obtain ⟨s, hs⟩ : ∃ y, y = oneS l (q + 1) [⟨#[]⟩, ⟨#[120]⟩, ⟨#[122, 122]⟩] := ⟨_, rfl⟩
        rw [← hs] at h1
        rw [← hs]
        have hs1 : s.size ≤ 3 := by
          simp only [List.mem_cons, List.not_mem_nil, or_false] at h1
          rcases h1 with rfl | rfl | rfl <;> decide
        clear hs hs4 hg4 h1 HW3
        go_wp2_with (fail)
        refine (one_any l (q + 1 + 1) [⟨#[]⟩, ⟨#[99, 97, 110]⟩] p w4 HW4.out.str (by omega) (by decide) (by decide)).mono ?_
        rintro e w5 ⟨rfl, hs5, hg5⟩
        have h1 := oneS_mem l (q + 1 + 1) [⟨#[]⟩, ⟨#[99, 97, 110]⟩] (by decide)
        have HW5 := Lib.hid (HW4.out.draw hg5 hs5)
        obtain ⟨u, hu⟩ : ∃ y, y = oneS l (q + 1 + 1) [⟨#[]⟩, ⟨#[99, 97, 110]⟩] := ⟨_, rfl⟩
        rw [← hu] at h1
        rw [← hu]
        have hu1 : u.size ≤ 3 := by
          simp only [List.mem_cons, List.not_mem_nil, or_false] at h1
          rcases h1 with rfl | rfl <;> decide
        clear hu hs5 hg5 h1 HW4
        go_wp2_with (fail)
        refine (pick_any l (q + 1 + 1 + 1) [-1, 5, 100000, 100001] p w5 HW5.out.str (by omega) (by decide) (by decide)).mono ?_
        rintro e w6 ⟨rfl, hs6, hg6⟩
        have hpk := pickM_mem l (q + 1 + 1 + 1) [-1, 5, 100000, 100001] (by decide)
        simp only [List.mem_cons, List.not_mem_nil, or_false] at hpk
        obtain ⟨y, hy⟩ : ∃ y, y = pickM l (q + 1 + 1 + 1) [-1, 5, 100000, 100001] := ⟨_, rfl⟩
        rw [← hy] at hpk
        rw [← hy]
        have HW6 := Lib.hid (HW5.out.draw hg6 hs6)
        have HSM : Hid (NeedSm ⟨s, u, y⟩) := ⟨hs1, hu1, by simp only; omega, by simp only; omega⟩
        have hz6 : w.heap.size < w6.heap.size := lt_of_block HW6.out.blk
        clear hy hs6 hg6 HW5 hpk
        go_wp2_with (at_builtin; refine wpList_app1F eNeed rfl _ _ rfl (w.heap.size + 1) _ N.length (flat encNeed N) rfl w6 #[.string s, .string u, .int .i64 y] rfl HW6.out.own _ rfl rfl rfl rfl (by omega) (by omega) ?_; intro v7 w7 o7 g7 hl7 _; have HW7 := Lib.hid (HW6.out.app (x := ⟨s, u, y⟩) HSM.out (by omega) o7 g7 hl7); clear o7 g7 hl7)
        go_wp2_with (fail)
        go_ret
        exact ⟨_, N ++ [⟨s, u, y⟩], rfl, own_base HW7.out.own (by omega), ⟨by rw [List.length_append]; simp; omega, HW7.out.all⟩, HW7.out.gr⟩
end Go.Proofs.YtdjnomeabadbnaaDoor
