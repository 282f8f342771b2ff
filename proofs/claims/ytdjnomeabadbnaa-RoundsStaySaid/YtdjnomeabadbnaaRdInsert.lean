/- The best route with a further stop; round.Insert: no panic; what comes out is new memory. -/
import Derived.Test.YtdjnomeabadbnaaDriveE
import Derived.Test.YtdjnomeabadbnaaInsInt
import Derived.Test.YtdjnomeabadbnaaCloneInt
import Derived.Test.YtdjnomeabadbnaaWkRows
import Derived.Deep.QuietTactic
namespace Go.Proofs.Ytdjnomeabadbnaa
open Go.RowKit

def BoolOf (b : Bool) (w : World) (e : Ending) (w' : World) : Prop := e = .returned (.bool b) ∧ w = w'
set_option maxRecDepth 100000 in
/-- slices.Index of ints: the place, or -1. -/
theorem index_gen (a : Option Addr) (L : List Int) (c : Nat) (x : Int) (w : World) (hc : CellsAt w a (ints L)) (hl : L.length ≤ 1000000) :
    Calls Try.prog 44 #[.slice a L.length c, .int .i64 x] w fun e w' => e = .returned (.int .i64 (findA (fun y => x == y) L)) ∧ w = w' := by
  go_enter Try.func44, Try.ntmps44
  go_wp2_with (fail)
  go_loop [8] (fun i => ∃ k : Nat, k ≤ L.length ∧ i = .int .i64 k ∧ (∀ j (hj : j < L.length), j < k → (x == L[j]) = false)) (fun i => L.length - (intOf i).toNat)
  case atStart => exact ⟨0, by omega, rfl, fun j _ hj => by omega⟩
  case round =>
    obtain ⟨k, hk, rfl, hno⟩ := hrel
    have HNO := Lib.hid hno
    clear hno
    by_cases hlt : k < L.length
    · obtain ⟨b2, o2, rfl, dk⟩ := hc k _ (ints_get L k hlt)
      obtain ⟨y, hy⟩ : ∃ y, y = L.getD k 0 := ⟨_, rfl⟩
      rw [← hy] at dk
      have hy2 : L[k] = y := by rw [hy, getD_eq L k 0 hlt]
      have HY := Lib.hid hy2
      clear hy hy2
      by_cases hxy : x = y
      · subst hxy
        go_wp2_with (fail)
        go_ret
        exact ⟨ret_int (findA_at hlt (by rw [HY.out]; simp) (fun j hj => HNO.out j (by omega) hj)).symm, rfl⟩
      · have hb : (x == y) = false := by simpa using hxy
        have HB := Lib.hid hb
        go_wp2_with (fail)
        go_round
        case rel =>
          refine ⟨k + 1, by omega, by go_num, fun j hjl hj => ?_⟩
          by_cases hjk : j = k
          · subst hjk; rw [HY.out]; exact HB.out
          · exact HNO.out j hjl (by omega)
        case measure => simp [intOf]; omega
    · obtain rfl : k = L.length := by omega
      go_wp2_with (fail)
      go_ret
      exact ⟨ret_int (findA_none (fun j hj => HNO.out j hj hj)).symm, rfl⟩
theorem contains_int (a : Option Addr) (L : List Int) (c : Nat) (x : Int) (w : World) (hc : CellsAt w a (ints L)) (hl : L.length ≤ 1000000) :
    Calls Try.prog 38 #[.slice a L.length c, .int .i64 x] w (BoolOf (L.any (fun y => x == y)) w) := by
  have HA := Lib.hid (any_findA (fun y => x == y) L)
  go_enter Try.func38, Try.ntmps38
  go_wp2_with (fail)
  refine (index_gen a L c x w hc hl).mono ?_
  rintro e w1 ⟨rfl, rfl⟩
  go_wp2_with (fail)
  go_ret
  exact ⟨ret_bool (by rw [HA.out]), rfl⟩

def InsertedPost (w : World) (e : Ending) (w' : World) : Prop :=
  ∃ (bv : Value) (n : Nat) (B : List Int) (y : Int) (ok : Bool), e = .returned (.tuple #[bv, .int .i64 y, .bool ok]) ∧ n ≤ 1001 ∧ w'.ownsRow w.heap.size 3 1 bv n (ints B) ∧ w.grownBy w' none
set_option maxRecDepth 100000 in
set_option maxHeartbeats 4000000 in
theorem inserted_any (hx hy st : Int) (xs : List Stop) (a : Option Addr) (c : Nat) (O : List Int) (ao : Option Addr) (co : Nat) (s : Int) (w : World) (hc : CellsAt w a (flat encStop xs)) (hl : xs.length ≤ 1000)
    (hco : CellsAt w ao (ints O)) (hlo : O.length ≤ 900) (hO : ∀ i ∈ O, 0 ≤ i ∧ i < xs.length) (hnil : ao = none → O.length = 0 ∧ co = 0) (hs0 : 0 ≤ s) (hs1 : s < xs.length) :
    Calls Try.prog 39 #[.agg #[.int .i64 hx, .int .i64 hy, .slice a xs.length c, .int .i64 st], .slice ao O.length co, .int .i64 s] w (InsertedPost w) := by
  have b1 := heap_alloc_new w (.cells #[.int .i64 hx, .int .i64 hy, .slice a xs.length c, .int .i64 st] 77)
  have g1 := gr_alloc (gr_refl w none) (.cells #[.int .i64 hx, .int .i64 hy, .slice a xs.length c, .int .i64 st] 77)
  obtain ⟨w1, hw1⟩ : ∃ w1, w1 = w.alloc (.cells #[.int .i64 hx, .int .i64 hy, .slice a xs.length c, .int .i64 st] 77) := ⟨_, rfl⟩
  rw [← hw1] at b1 g1
  have HW1 := Lib.hid hw1
  obtain ⟨T, hT⟩ : ∃ T, T = w.heap.size := ⟨_, rfl⟩
  rw [← hT] at b1
  have HT := Lib.hid hT
  have hTw : w.heap.size ≤ T := by omega
  have HB1 := Lib.hid b1
  have HO := Lib.hid hO
  have HN := Lib.hid hnil
  clear hw1 hT b1 hO hnil
  go_enter Try.func39, Try.ntmps39
  go_wp2_with (fail)
  rw [← HW1.out, ← HT.out]
  go_loopw [9, 10, 11, 19] (fun bv y ok i wr => ∃ (k n : Nat) (B : List Int) (y1 : Int) (f : Bool), k ≤ O.length + 1 ∧ i = .int .i64 k ∧ y = .int .i64 y1 ∧ ok = .bool f ∧ n ≤ 1001 ∧ wr.ownsRow w.heap.size 3 1 bv n (ints B) ∧ w1.grownBy wr none) (fun _ _ _ i _ => O.length + 1 - (intOf i).toNat)
  case atStart => exact ⟨0, 0, [], 0, false, by omega, rfl, rfl, rfl, by omega, World.ownsRow_nil _ _ _ _, gr_refl _ _⟩
  case round =>
    obtain ⟨k, n, B, y1, f, hk, rfl, rfl, rfl, hn, hown, hgr⟩ := hrel
    obtain ⟨wo, rfl⟩ : ∃ wo : World, wo = wr := ⟨_, rfl⟩
    have hgr0 := gr_trans g1 hgr
    by_cases hlt : k < O.length + 1
    · have CL := Lib.hid (cloneInt_any ao O.length co (ints O) wo (by rw [Nat.mul_one, ints_length]) (hco.keep0 hgr0) HN.out (ints_one _) (by omega))
      go_wp2_with (fail)
      refine CL.out.mono ?_
      rintro e w2 ⟨v2, rfl, hown2, hg2⟩
      have IN := Lib.hid (insert_int wo.heap.size O.length k O s v2 w2 hown2 (by omega) (by omega) hg2.size)
      have hlt2 : ∀ q, v2.ownBlock = some q → wo.heap.size ≤ q := fun q e => (hown2.lt q e).1
      clear CL hown2
      go_wp2_with (fail)
      refine IN.out.mono ?_
      rintro e w3 ⟨v3, rfl, hown3, hg3, _⟩
      clear IN
      have hg3 := gr_grown hg2 hg3 hlt2
      have hgr3 := gr_trans hgr hg3
      have hown3b := own_keep0 hown hg3
      have hT3 := (hgr3.block T (lt_of_block HB1.out) (by simp)).trans HB1.out
      obtain ⟨t0, t1, t2, t3⟩ := blk4 hT3
      obtain ⟨va, vc, rfl, _, _, cc3, _⟩ := own_shape hown3
      have hil := insAt_len O k s (by omega)
      have hO3 : ∀ i ∈ insAt O k s, 0 ≤ i ∧ i < xs.length := by
        intro i hi
        unfold insAt at hi
        simp only [List.mem_append, List.mem_cons, List.not_mem_nil, or_false] at hi
        rcases hi with (hi | hi) | hi
        · exact HO.out i (List.mem_of_mem_take hi)
        · subst hi; exact ⟨hs0, hs1⟩
        · exact HO.out i (List.mem_of_mem_drop hi)
      have DR := Lib.hid (drive_any hx hy st xs a c (insAt O k s) va vc w3 (hc.keep0 (gr_trans g1 hgr3)) hl cc3 (by omega) hO3)
      rw [hil] at DR
      have hown3 := own_base hown3 (show w.heap.size ≤ wo.heap.size from hgr0.size)
      clear hg3 hg2 hlt2 hown cc3 hO3 hil hT3
      go_wp2_with (fail)
      refine DR.out.mono ?_
      rintro e w4 ⟨⟨ba, bn, bc, x4, y4, z4, ok, rfl⟩, hg4⟩
      clear DR
      have hown4 := own_keep0 hown3 hg4
      have hown4b := own_keep0 hown3b hg4
      have hgr4 := gr_trans hgr3 hg4
      have hgL := gr_alloc (gr_refl w4 none) (.cells #[.slice ba bn bc, .int .i64 x4, .int .i64 y4, .int .i64 z4] 72)
      have hown5 := own_keep0 hown4 hgL
      have hown5b := own_keep0 hown4b hgL
      have hgr5 := gr_trans hgr4 hgL
      have HO5 := Lib.hid hown5
      have HO5b := Lib.hid hown5b
      have HG5 := Lib.hid hgr5
      clear t0 t1 t2 t3 hown3 hown3b hg4 hown4 hown4b hgr4 hgL hown5 hown5b hgr5 hgr3
      cases ok with
      | false =>
        go_wp2_with (fail)
        go_roundw
        case rel => exact ⟨k + 1, n, B, y1, f, by omega, by go_num, rfl, rfl, hn, HO5b.out, HG5.out⟩
        case measure => simp [intOf]; omega
      | true =>
        cases f with
        | false =>
          go_wp2_with (fail)
          go_quiet (fail)
          go_wp2_with (fail)
          go_roundw
          case rel => exact ⟨k + 1, O.length + 1, insAt O k s, y4, true, by omega, by go_num, rfl, rfl, by omega, own_keep0 HO5.out (gr_drewN (gr_refl _ _) _), gr_drewN HG5.out _⟩
          case measure => simp [intOf]; omega
        | true =>
          by_cases hy : y4 < y1
          · go_wp2_with (fail)
            go_quiet (fail)
            go_wp2_with (fail)
            go_roundw
            case rel => exact ⟨k + 1, O.length + 1, insAt O k s, y4, true, by omega, by go_num, rfl, rfl, by omega, own_keep0 HO5.out (gr_drewN (gr_refl _ _) _), gr_drewN HG5.out _⟩
            case measure => simp [intOf]; omega
          · go_wp2_with (fail)
            go_roundw
            case rel => exact ⟨k + 1, n, B, y1, true, by omega, by go_num, rfl, rfl, hn, HO5b.out, HG5.out⟩
            case measure => simp [intOf]; omega
    · obtain rfl : k = O.length + 1 := by omega
      go_wp2_with (fail)
      go_ret3
      exact ⟨_, n, B, y1, f, rfl, hn, hown, hgr0⟩

def RouteOut (w : World) (e : Ending) (w' : World) : Prop :=
  ∃ (bv : Value) (n : Nat) (B : List Int) (r : Int), e = .returned (.tuple #[bv, .int .i64 r]) ∧ n ≤ 1001 ∧ w'.ownsRow w.heap.size 3 1 bv n (ints B) ∧ w.grownBy w' none
set_option maxRecDepth 100000 in
set_option maxHeartbeats 2000000 in
theorem insertE_any (hx hy st : Int) (xs : List Stop) (a : Option Addr) (c : Nat) (O : List Int) (ao : Option Addr) (co : Nat) (s : Int) (w : World) (hc : CellsAt w a (flat encStop xs)) (hl : xs.length ≤ 1000) (hcap : xs.length ≤ c) (hk : ∀ x ∈ xs, x.key.size ≤ 100)
    (hco : CellsAt w ao (ints O)) (hlo : O.length ≤ 900) (hnil : ao = none → O.length = 0 ∧ co = 0) :
    Calls Try.prog 9 #[.agg #[.int .i64 hx, .int .i64 hy], .slice a xs.length c, .int .i64 st, .slice ao O.length co, .int .i64 s] w (RouteOut w) := by
  have b1 := heap_alloc_new w (.cells #[.int .i64 hx, .int .i64 hy] 36)
  have g1 := gr_alloc (gr_refl w none) (.cells #[.int .i64 hx, .int .i64 hy] 36)
  obtain ⟨w1, hw1⟩ : ∃ w1, w1 = w.alloc (.cells #[.int .i64 hx, .int .i64 hy] 36) := ⟨_, rfl⟩
  rw [← hw1] at b1 g1
  have HW1 := Lib.hid hw1
  obtain ⟨T, hT⟩ : ∃ T, T = w.heap.size := ⟨_, rfl⟩
  rw [← hT] at b1
  have HT := Lib.hid hT
  have HB1 := Lib.hid b1
  have HN := Lib.hid hnil
  have DR := Lib.hid (driveE_any hx hy st xs a c O ao co w1 (hc.keep0 g1) hl hcap hk (hco.keep0 g1) (by omega))
  clear hw1 hT b1 hnil hk hcap
  go_enter Try.func9, Try.ntmps9
  go_wp2_with (fail)
  rw [← HW1.out, ← HT.out]
  refine DR.out.mono ?_
  rintro e w2 ⟨⟨ba, bn, bc, x2, y2, z2, r, rfl, hr⟩, hg2⟩
  have HR := Lib.hid hr
  have hgL := gr_alloc (gr_refl w2 none) (.cells #[.slice ba bn bc, .int .i64 x2, .int .i64 y2, .int .i64 z2] 72)
  obtain ⟨w3, hw3⟩ : ∃ w3, w3 = w2.alloc (.cells #[.slice ba bn bc, .int .i64 x2, .int .i64 y2, .int .i64 z2] 72) := ⟨_, rfl⟩
  rw [← hw3] at hgL
  have HW3 := Lib.hid hw3
  have hg13 := gr_trans hg2 hgL
  have hgr3 := gr_trans g1 hg13
  have hT3 := (hg13.block T (lt_of_block HB1.out) (by simp)).trans HB1.out
  have t0 : w3.cell? ⟨T, 0, none⟩ = some (.int .i64 hx) := blkC hT3 0 rfl
  have t1 : w3.cell? ⟨T, 1, none⟩ = some (.int .i64 hy) := blkC hT3 1 rfl
  clear hw3 hg2 hgL hg13 hr DR hT3
  by_cases hr0 : r = 0
  · subst hr0
    have HO := Lib.hid (HR.out rfl)
    clear HR
    go_wp2_with (fail)
    rw [← HW3.out]
    refine (out_any s 0 ((xs.length : Int) - 1) w3).mono ?_
    rintro e w4 ⟨rfl, rfl⟩
    cases hb : (decide (s < 0) || decide ((xs.length : Int) - 1 < s)) with
    | true =>
      have HB := Lib.hid hb
      clear hb
      go_wp2_with (fail)
      go_ret2
      exact ⟨_, 0, [], 1, rfl, by omega, World.ownsRow_nil _ _ _ _, hgr3⟩
    | false =>
      simp only [Bool.or_eq_false_iff, decide_eq_false_iff_not] at hb
      have hs0 : 0 ≤ s := by omega
      have hs1 : s < xs.length := by omega
      have CT := Lib.hid (contains_int ao O co s w3 (hco.keep0 hgr3) (by omega))
      have IA := Lib.hid (inserted_any hx hy st xs a c O ao co s w3 (hc.keep0 hgr3) hl (hco.keep0 hgr3) hlo HO.out HN.out hs0 hs1)
      clear hb
      go_wp2_with (fail)
      refine CT.out.mono ?_
      rintro e w4 ⟨rfl, rfl⟩
      obtain ⟨b, hb⟩ : ∃ b, b = O.any (fun y => s == y) := ⟨_, rfl⟩
      rw [← hb]
      clear hb CT
      cases b with
      | true =>
        go_wp2_with (fail)
        go_ret2
        exact ⟨_, 0, [], 6, rfl, by omega, World.ownsRow_nil _ _ _ _, hgr3⟩
      | false =>
        go_wp2_with (fail)
        refine IA.out.mono ?_
        rintro e w5 ⟨bv, n, B, y, ok, rfl, hn, hown, hg5⟩
        have hgr5 := gr_trans hgr3 hg5
        clear IA hg5
        cases ok with
        | false =>
          go_wp2_with (fail)
          go_ret2
          exact ⟨_, 0, [], 8, rfl, by omega, World.ownsRow_nil _ _ _ _, hgr5⟩
        | true =>
          go_wp2_with (fail)
          go_ret2
          exact ⟨bv, n, B, 0, rfl, hn, own_base hown hgr3.size, hgr5⟩
  · have hr1 : (r != 0) = true := by simpa using hr0
    have hr2 : (r == 0) = false := by simpa using hr0
    clear hr0 HR
    go_wp2_with (fail)
    rw [← HW3.out]
    go_ret2
    exact ⟨_, 0, [], r, rfl, by omega, World.ownsRow_nil _ _ _ _, hgr3⟩
end Go.Proofs.Ytdjnomeabadbnaa
