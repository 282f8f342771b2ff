/- round's inserted: a route with a further stop, and its way. -/
import Derived.Test.YtehhmgbgkemidaaDoorPkSAo
import Derived.Test.YtehhmgbgkemidaaDoorPkSAt
import Derived.Test.YtehhmgbgkemidaaDoorPkSAc
import Derived.Test.YtehhmgbgkemidaaDoorPkSAu
import Derived.Test.YtehhmgbgkemidaaDoorPkSAk
import Derived.Deep.QuietTactic
import Derived.Test.YtehhmgbgkemidaaDoorPkSAr
import Derived.Test.YtehhmgbgkemidaaDoorPkSAg
import Derived.Test.YtehhmgbgkemidaaDoorPkSAd
namespace Go.Proofs.YtehhmgbgkemidaaDoor
open Go.RowKit

theorem insAt_perm (L : List Int) (i : Nat) (x : Int) : (insAt L i x).Perm (x :: L) := by
  unfold insAt
  have h : (L.take i ++ [x] ++ L.drop i).Perm (x :: (L.take i ++ L.drop i)) := by
    rw [List.append_assoc]
    exact List.perm_middle
  rwa [List.take_append_drop] at h
def RtInsPost (hx hy st : Int) (xs : List Stop) (O : List Int) (s : Int) (w : World) (e : Ending) (w' : World) : Prop :=
  ∃ (bv : Value) (B : List Int) (y : Int) (f : Bool), e = .returned (.tuple #[bv, .int .i64 y, .bool f]) ∧ w'.ownsRow w.heap.size 3 1 bv B.length (ints B) ∧ w.grownBy w' none ∧ (f = true → B.Perm (s :: O) ∧ drvM hx hy st xs B = some y)
set_option maxRecDepth 100000 in
set_option maxHeartbeats 4000000 in
theorem inserted_val (hx hy st : Int) (xs : List Stop) (a : Option Addr) (c : Nat) (O : List Int) (ao : Option Addr) (co : Nat) (s : Int) (w : World) (hc : CellsAt w a (flat encStop xs)) (hl : xs.length ≤ 60) (ht : TripOk hx hy st xs)
    (hco : CellsAt w ao (ints O)) (hlo : O.length ≤ 90) (hO : ∀ i ∈ O, 0 ≤ i ∧ i < xs.length) (hnil : ao = none → O.length = 0 ∧ co = 0) (hs0 : 0 ≤ s) (hs1 : s < xs.length) :
    Calls Tryd.prog 32 #[.agg #[.int .i64 hx, .int .i64 hy, .slice a xs.length c, .int .i64 st], .slice ao O.length co, .int .i64 s] w (RtInsPost hx hy st xs O s w) := by
  have b1 := heap_alloc_new w (.cells #[.int .i64 hx, .int .i64 hy, .slice a xs.length c, .int .i64 st] 60)
  have g1 := gr_alloc (gr_refl w none) (.cells #[.int .i64 hx, .int .i64 hy, .slice a xs.length c, .int .i64 st] 60)
  obtain ⟨w1, hw1⟩ : ∃ w1, w1 = w.alloc (.cells #[.int .i64 hx, .int .i64 hy, .slice a xs.length c, .int .i64 st] 60) := ⟨_, rfl⟩
  rw [← hw1] at b1 g1
  have HW1 := Lib.hid hw1
  obtain ⟨T, hT⟩ : ∃ T, T = w.heap.size := ⟨_, rfl⟩
  rw [← hT] at b1
  have HT := Lib.hid hT
  have hTw : w.heap.size ≤ T := by omega
  have HB1 := Lib.hid b1
  have HO := Lib.hid hO
  have HN := Lib.hid hnil
  have HTO := Lib.hid ht
  clear hw1 hT b1 hO hnil ht
  go_enter Tryd.func32, Tryd.ntmps32
  go_wp2_with (fail)
  rw [← HW1.out, ← HT.out]
  go_loopw [9, 10, 11, 19] (fun bv y ok i wr => ∃ (k : Nat) (B : List Int) (y1 : Int) (f : Bool), k ≤ O.length + 1 ∧ i = .int .i64 k ∧ y = .int .i64 y1 ∧ ok = .bool f ∧ wr.ownsRow w.heap.size 3 1 bv B.length (ints B) ∧ w1.grownBy wr none ∧ (f = true → B.Perm (s :: O) ∧ drvM hx hy st xs B = some y1)) (fun _ _ _ i _ => O.length + 1 - (intOf i).toNat)
  case atStart => exact ⟨0, [], 0, false, by omega, rfl, rfl, rfl, World.ownsRow_nil _ _ _ _, gr_refl _ _, fun h => by cases h⟩
  case round =>
    obtain ⟨k, B, y1, f, hk, rfl, rfl, rfl, hown, hgr, hbst⟩ := hrel
    have HBS := Lib.hid hbst
    clear hbst
    obtain ⟨wo, rfl⟩ : ∃ wo : World, wo = wr := ⟨_, rfl⟩
    have hgr0 := gr_trans g1 hgr
    by_cases hlt : k < O.length + 1
    · have CL := Lib.hid (cloneInt_any ao O.length co (ints O) wo (by rw [Nat.mul_one, ints_length]) (hco.keep0 hgr0) HN.out (ints_one _) (by omega))
      go_wp2_with (fail)
      refine CL.out.mono ?_
      rintro e w2 ⟨v2, rfl, hown2, hg2⟩
      have IN := Lib.hid (insert_int wo.heap.size O.length k O s v2 w2 hown2 (by omega) (by omega) hg2.size)
      have hlt2 : ∀ q, v2.ownBlock = some q → wo.heap.size ≤ q := fun q e => (hown2.lt q e).1
      clear CL hown2
      go_wp2_with (fail)
      refine IN.out.mono ?_
      rintro e w3 ⟨v3, rfl, hown3, hg3, _⟩
      clear IN
      have hg3 := gr_grown hg2 hg3 hlt2
      have hgr3 := gr_trans hgr hg3
      have hown3b := own_keep0 hown hg3
      have hT3 := (hgr3.block T (lt_of_block HB1.out) (by simp)).trans HB1.out
      obtain ⟨t0, t1, t2, t3⟩ := blk4 hT3
      obtain ⟨va, vc, rfl, _, _, cc3, _⟩ := own_shape hown3
      have hil := insAt_len O k s (by omega)
      have hO3 : ∀ i ∈ insAt O k s, 0 ≤ i ∧ i < xs.length := by
        intro i hi
        unfold insAt at hi
        simp only [List.mem_append, List.mem_cons, List.not_mem_nil, or_false] at hi
        rcases hi with (hi | hi) | hi
        · exact HO.out i (List.mem_of_mem_take hi)
        · subst hi; exact ⟨hs0, hs1⟩
        · exact HO.out i (List.mem_of_mem_drop hi)
      have DR := Lib.hid (drive_val hx hy st xs a c (insAt O k s) va vc w3 (hc.keep0 (gr_trans g1 hgr3)) hl HTO.out cc3 (by omega) hO3)
      rw [hil] at DR
      have HIL := Lib.hid hil
      obtain ⟨rr, hrr⟩ : ∃ rr, rr = drvM hx hy st xs (insAt O k s) := ⟨_, rfl⟩
      rw [← hrr] at DR
      have HRR := Lib.hid hrr
      clear hrr
      have hown3 := own_base hown3 (show w.heap.size ≤ wo.heap.size from hgr0.size)
      clear hg3 hg2 hlt2 hown cc3 hO3 hil hT3
      go_wp2_with (fail)
      refine DR.out.mono ?_
      rintro e w4 ⟨⟨ba, bn, bc, x4, y4, z4, rfl, hyw⟩, hg4⟩
      have HYW := Lib.hid hyw
      clear hyw
      clear DR
      have hown4 := own_keep0 hown3 hg4
      have hown4b := own_keep0 hown3b hg4
      have hgr4 := gr_trans hgr3 hg4
      have hgL := gr_alloc (gr_refl w4 none) (.cells #[.slice ba bn bc, .int .i64 x4, .int .i64 y4, .int .i64 z4] 40)
      have hown5 := own_keep0 hown4 hgL
      have hown5b := own_keep0 hown4b hgL
      have hgr5 := gr_trans hgr4 hgL
      have HO5 := Lib.hid hown5
      have HO5b := Lib.hid hown5b
      have HG5 := Lib.hid hgr5
      clear t0 t1 t2 t3 hown3 hown3b hg4 hown4 hown4b hgr4 hgL hown5 hown5b hgr5 hgr3
      cases rr with
      | none =>
        simp only [Option.isSome_none]
        go_wp2_with (fail)
        go_roundw
        case rel => exact ⟨k + 1, B, y1, f, by omega, by go_num, rfl, rfl, HO5b.out, HG5.out, HBS.out⟩
        case measure => simp [intOf]; omega
      | some W =>
        simp only [Option.isSome_some]
        have hyW : y4 = W := HYW.out W rfl
        have HYE : Hid (drvM hx hy st xs (insAt O k s) = some y4) := by show _ = _; rw [hyW]; exact HRR.out.symm
        clear hyW
        cases f with
        | false =>
          go_wp2_with (fail)
          go_quiet (fail)
          go_wp2_with (fail)
          go_roundw
          case rel => exact ⟨k + 1, insAt O k s, y4, true, by omega, by go_num, rfl, rfl, by rw [HIL.out]; exact own_keep0 HO5.out (gr_drewN (gr_refl _ _) _), gr_drewN HG5.out _, fun _ => ⟨insAt_perm O k s, HYE.out⟩⟩
          case measure => simp [intOf]; omega
        | true =>
          by_cases hy : y4 < y1
          · go_wp2_with (fail)
            go_quiet (fail)
            go_wp2_with (fail)
            go_roundw
            case rel => exact ⟨k + 1, insAt O k s, y4, true, by omega, by go_num, rfl, rfl, by rw [HIL.out]; exact own_keep0 HO5.out (gr_drewN (gr_refl _ _) _), gr_drewN HG5.out _, fun _ => ⟨insAt_perm O k s, HYE.out⟩⟩
            case measure => simp [intOf]; omega
          · go_wp2_with (fail)
            go_roundw
            case rel => exact ⟨k + 1, B, y1, true, by omega, by go_num, rfl, rfl, HO5b.out, HG5.out, HBS.out⟩
            case measure => simp [intOf]; omega
    · obtain rfl : k = O.length + 1 := by omega
      go_wp2_with (fail)
      go_ret3
      exact ⟨_, B, y1, f, rfl, hown, hgr0, HBS.out⟩
end Go.Proofs.YtehhmgbgkemidaaDoor

/-! round.Improve: a route of the same stops that is not longer. -/
namespace Go.Proofs.YtehhmgbgkemidaaDoor
open Go.RowKit

theorem OrdOk.perm {A B : List Int} {n : Nat} (h : OrdOk A n) (hp : B.Perm A) : OrdOk B n := ⟨fun i hi => h.rng i (hp.mem_iff.1 hi), hp.nodup_iff.2 h.nd⟩
def ImpPost (hx hy st : Int) (xs : List Stop) (n : Nat) (W : Int) (w : World) (e : Ending) (w' : World) : Prop :=
  ∃ (bv : Value) (B : List Int) (y : Int), e = .returned (.tuple #[bv, .int .i64 y, .int .i64 0]) ∧ B.length = n ∧ OrdOk B xs.length ∧ drvM hx hy st xs B = some y ∧ y ≤ W ∧ w'.ownsRow w.heap.size 3 1 bv B.length (ints B) ∧ w.grownBy w' none
set_option maxRecDepth 100000 in
set_option maxHeartbeats 8000000 in
theorem improve_val (hx hy st : Int) (xs : List Stop) (a : Option Addr) (c : Nat) (O : List Int) (ao : Option Addr) (co : Nat) (M : Nat) (w : World) (hc : CellsAt w a (flat encStop xs)) (hl : xs.length ≤ 60) (hcap : xs.length ≤ c) (hk : ∀ x ∈ xs, x.key.size ≤ 100) (hok : StopsOk xs) (ht : TripOk hx hy st xs) (ho : OrdOk O xs.length) (W : Int) (hW : drvM hx hy st xs O = some W)
    (hco : CellsAt w ao (ints O)) (hlo : O.length ≤ 90) (hnil : ao = none → O.length = 0 ∧ co = 0) (hM : M ≤ 100) :
    Calls Tryd.prog 12 #[.agg #[.int .i64 hx, .int .i64 hy], .slice a xs.length c, .int .i64 st, .slice ao O.length co, .int .i64 M] w (ImpPost hx hy st xs O.length W w) := by
  have b1 := heap_alloc_new w (.cells #[.int .i64 hx, .int .i64 hy] 29)
  have g1 := gr_alloc (gr_refl w none) (.cells #[.int .i64 hx, .int .i64 hy] 29)
  obtain ⟨w1, hw1⟩ : ∃ w1, w1 = w.alloc (.cells #[.int .i64 hx, .int .i64 hy] 29) := ⟨_, rfl⟩
  rw [← hw1] at b1 g1
  have HW1 := Lib.hid hw1
  obtain ⟨T, hT⟩ : ∃ T, T = w.heap.size := ⟨_, rfl⟩
  rw [← hT] at b1
  have HT := Lib.hid hT
  have HB1 := Lib.hid b1
  have HN := Lib.hid hnil
  have DR := Lib.hid (driveE_val hx hy st xs a c O ao co w1 (hc.keep0 g1) hl hcap hk hok ht ho W hW (hco.keep0 g1) (by omega))
  have HTO := Lib.hid ht
  have HO := Lib.hid ho
  have HWE := Lib.hid hW
  clear hw1 hT b1 hnil hk hcap hok ht ho hW
  go_enter Tryd.func12, Tryd.ntmps12
  go_wp2_with (fail)
  rw [← HW1.out, ← HT.out]
  refine DR.out.mono ?_
  rintro e w2 ⟨⟨ba, bn, bc, x2, z2, rfl⟩, hg2⟩
  have hU3 := heap_alloc_new w2 (.cells #[.slice ba bn bc, .int .i64 x2, .int .i64 W, .int .i64 z2] 40)
  have hgL := gr_alloc (gr_refl w2 none) (.cells #[.slice ba bn bc, .int .i64 x2, .int .i64 W, .int .i64 z2] 40)
  obtain ⟨w3, hw3⟩ : ∃ w3, w3 = w2.alloc (.cells #[.slice ba bn bc, .int .i64 x2, .int .i64 W, .int .i64 z2] 40) := ⟨_, rfl⟩
  rw [← hw3] at hgL hU3
  obtain ⟨U, hU⟩ : ∃ U, U = w2.heap.size := ⟨_, rfl⟩
  rw [← hU] at hU3
  have HU := Lib.hid hU
  have HW3 := Lib.hid hw3
  have hg13 := gr_trans hg2 hgL
  have hgr3 := gr_trans g1 hg13
  have hT3 := (hg13.block T (lt_of_block HB1.out) (by simp)).trans HB1.out
  have t0 : w3.cell? ⟨T, 0, none⟩ = some (.int .i64 hx) := blkC hT3 0 rfl
  have t1 : w3.cell? ⟨T, 1, none⟩ = some (.int .i64 hy) := blkC hT3 1 rfl
  have HU3 := Lib.hid hU3
  clear hw3 hg2 hgL hg13 DR hT3 hU hU3
  have hout : (decide ((M : Int) < 0) || decide ((100 : Int) < (M : Int))) = false := by simp; omega
  have HOUT := Lib.hid hout
  have hQ4 := heap_alloc_new w3 (.cells #[.int .i64 hx, .int .i64 hy, .slice a xs.length c, .int .i64 st] 60)
  have hgQ := gr_alloc (gr_refl w3 none) (.cells #[.int .i64 hx, .int .i64 hy, .slice a xs.length c, .int .i64 st] 60)
  clear hout
  go_wp2_with (fail)
  rw [← HW3.out, ← HU.out]
  refine (out_any (M : Int) 0 100 w3).mono ?_
  rintro e w4 ⟨rfl, rfl⟩
  rw [HOUT.out]
  go_wp2_with (fail)
  obtain ⟨w4, hw4⟩ : ∃ w4, w4 = w3.alloc (.cells #[.int .i64 hx, .int .i64 hy, .slice a xs.length c, .int .i64 st] 60) := ⟨_, rfl⟩
  rw [← hw4] at hQ4 hgQ
  rw [← hw4]
  obtain ⟨Q, hQ⟩ : ∃ Q, Q = w3.heap.size := ⟨_, rfl⟩
  rw [← hQ] at hQ4
  rw [← hQ]
  have hU4 := (hgQ.block U (lt_of_block HU3.out) (by simp)).trans HU3.out
  have hgr4 := gr_trans hgr3 hgQ
  have u2 : w4.cell? ⟨U, 2, none⟩ = some (.int .i64 W) := blkC hU4 2 rfl
  have hsz4 := hgr4.size
  have HQ4 := Lib.hid hQ4
  have HGR4 := Lib.hid hgr4
  have hUl := lt_of_block hU4
  have CL := Lib.hid (fun (wx : World) (hx : w4.grownBy wx none) => cloneInt_any ao O.length co (ints O) wx (by rw [Nat.mul_one, ints_length]) (hco.keep0 (gr_trans hgr4 hx)) HN.out (ints_one _) (by omega))
  clear hw4 hQ hgQ hU4 hgr4 t0 t1 hgr3 hQ4
  have hgd := gr_drew (gr_refl w4 none)
  go_cut [16, 17] (fun s16 s17 wx => wx.ownsRow w.heap.size 3 1 s16 O.length (ints O) ∧ s17 = .int .i64 W ∧ w4.grownBy wx none)
  case first =>
    go_region_law (first | (go_simp; go_at_call 16; (with_reducible refine (CL.out _ ?_).mono ?_); (· first | exact hgd | exact gr_refl _ _); rintro e w5 ⟨v5, rfl, ho5, hg5⟩; have hg5' := gr_trans hgd hg5; have v2 := (gr_cell hg5' hUl).trans u2)
                         | fail)
    all_goals (go_wp2_with (fail))
    all_goals (try go_simp)
    all_goals go_meet
    all_goals exact ⟨own_base ho5 hsz4, rfl, hg5'⟩
  case rest =>
  obtain ⟨hown0, rfl, hg5⟩ := hcut
  obtain ⟨w5, rfl⟩ : ∃ w5 : World, w5 = wc := ⟨_, rfl⟩
  clear CL u2 hgd
  go_wp2_with (fail)
  go_loopw [16, 17, 46] (fun bv y i wr => ∃ (k : Nat) (y1 : Int) (L : List Int), k ≤ M ∧ i = .int .i64 k ∧ y = .int .i64 y1 ∧ (OrdOk L xs.length ∧ drvM hx hy st xs L = some y1 ∧ y1 ≤ W) ∧ wr.ownsRow w.heap.size 3 1 bv O.length (ints L) ∧ w4.grownBy wr none) (fun _ _ i _ => M - (intOf i).toNat)
  case atStart => exact ⟨0, W, O, by omega, rfl, rfl, ⟨HO.out, HWE.out, Int.le_refl _⟩, hown0, hg5⟩
  case round =>
    clear hown0 hg5
    obtain ⟨k, y1, L, hk, rfl, rfl, hin, hown, hgr⟩ := hrel
    obtain ⟨wo, rfl⟩ : ∃ wo : World, wo = wr := ⟨_, rfl⟩
    have HIN := Lib.hid hin
    clear hin
    by_cases hlt : k < M
    · obtain ⟨va, vc, rfl, hvc, hvm, _, _⟩ := own_shape hown
      have hvm2 := hvm
      unfold maxLen at hvm2
      clear hvm
      go_wp2_with (fail)
      go_loopw [16, 17, 51] (fun bv y i wr => ∃ (p : Nat) (y1 : Int) (L' : List Int), p ≤ O.length ∧ i = .int .i64 p ∧ y = .int .i64 y1 ∧ (OrdOk L' xs.length ∧ drvM hx hy st xs L' = some y1 ∧ y1 ≤ W) ∧ wr.ownsRow w.heap.size 3 1 bv O.length (ints L') ∧ wr.ownsRow w.heap.size 3 1 (.slice va O.length vc) O.length (ints L) ∧ w4.grownBy wr none) (fun _ _ i _ => O.length - (intOf i).toNat)
      case atStart => exact ⟨0, y1, L, by omega, rfl, rfl, HIN.out, hown, hown, hgr⟩
      case round =>
        clear hown hgr
        obtain ⟨p, y3, L', hp, rfl, rfl, hin', hown', hownB, hgr⟩ := hrel
        obtain ⟨wi, rfl⟩ : ∃ wi : World, wi = wr := ⟨_, rfl⟩
        have HIN' := Lib.hid hin'
        clear hin'
        by_cases hpn : p < O.length
        · go_wp2_with (fail)
          go_loopw [16, 17, 20] (fun bv y j wr => ∃ (q : Nat) (y1 : Int) (L' : List Int), p + 1 ≤ q ∧ q ≤ O.length ∧ j = .int .i64 q ∧ y = .int .i64 y1 ∧ (OrdOk L' xs.length ∧ drvM hx hy st xs L' = some y1 ∧ y1 ≤ W) ∧ wr.ownsRow w.heap.size 3 1 bv O.length (ints L') ∧ wr.ownsRow w.heap.size 3 1 (.slice va O.length vc) O.length (ints L) ∧ w4.grownBy wr none) (fun _ _ j _ => O.length - (intOf j).toNat)
          case atStart => exact ⟨p + 1, y3, L', by omega, by omega, by go_num, rfl, HIN'.out, hown', hownB, hgr⟩
          case round =>
            clear hown' hownB hgr
            obtain ⟨q, y4, L4, hpq, hq, rfl, rfl, hin4, hown4, hownB, hgr⟩ := hrel
            obtain ⟨wj, rfl⟩ : ∃ wj : World, wj = wr := ⟨_, rfl⟩
            have HIN4 := Lib.hid hin4
            clear hin4
            by_cases hqn : q < O.length
            · have hcB : CellsAt wj va (ints L) := by
                obtain ⟨_, _, he, _, _, hcc, _⟩ := own_shape hownB
                cases he
                exact hcc
              have hnb := own_nil hownB
              have CL := Lib.hid (cloneInt_any va O.length vc (ints L) wj (by have := hownB.1; omega) hcB hnb (ints_one _) (by omega))
              clear hcB hnb
              go_wp2_with (fail)
              refine CL.out.mono ?_
              rintro e w6 ⟨v6, rfl, ho6, hg6⟩
              obtain ⟨g, cg, rfl, hgb, hgl, hgc, hgm⟩ := own_some ho6 (by omega)
              unfold maxLen at hgm
              have RV := Lib.hid (reverse_perm wj.heap.size g O.length cg p (q + 1 - p) (cg - p) L w6 ho6 (by omega) (by omega))
              have hown6 := own_keep0 hown4 hg6
              have hownB6 := own_keep0 hownB hg6
              have hgr6 := gr_trans hgr hg6
              have hjsz := HGR4.out.size
              have hjsz2 := hgr.size
              have hpcg : ¬ cg = p := by omega
              have hnat : ((q : Int) + 1).toNat = q + 1 := by omega
              have HV4 := Lib.hid (own_freshLe hown4 hgb)
              have HVB := Lib.hid (own_freshLe hownB hgb)
              clear CL ho6 hg6 hown4 hownB hgr
              go_wp2_with (fail)
              refine RV.out.mono ?_
              rintro e w7 ⟨rfl, ⟨L7, hm7, ho7⟩, hg7⟩
              have hll := own_len ho7
              have hgr7 := gr_grown hgr6 hg7 (fun r e => by cases e; omega)
              have hown7 := own_keep hown6 hg7 (.inr HV4.out)
              have hownB7 := own_keep hownB6 hg7 (.inr HVB.out)
              have hO7 : OrdOk L7 xs.length := HIN.out.1.perm hm7
              have hc7 : CellsAt w7 (some ⟨g, 0, none⟩) (ints L7) := by
                obtain ⟨_, _, he, _, _, hcc, _⟩ := own_shape ho7
                cases he
                exact hcc
              have DR := Lib.hid (drive_val hx hy st xs a c L7 (some ⟨g, 0, none⟩) cg w7 (hc.keep0 (gr_trans HGR4.out hgr7)) hl HTO.out hc7 (by omega) hO7.rng)
              obtain ⟨rr, hrr⟩ : ∃ rr, rr = drvM hx hy st xs L7 := ⟨_, rfl⟩
              rw [← hrr] at DR
              have HRR := Lib.hid hrr
              clear hrr
              rw [hll] at DR
              have hQ7 := (hgr7.block Q (lt_of_block HQ4.out) (by simp)).trans HQ4.out
              obtain ⟨t0, t1, t2, t3⟩ := blk4 hQ7
              have HO7 := Lib.hid hO7
              have ho7b := own_base ho7 (show w.heap.size ≤ wj.heap.size by omega)
              clear RV hg7 hm7 hll hc7 hO7 hQ7 hpcg hnat hgr6 hown6 hownB6 ho7
              go_wp2_with (fail)
              refine DR.out.mono ?_
              rintro e w8 ⟨⟨ba8, bn8, bc8, x8, y8, z8, rfl, hyw⟩, hg8⟩
              have HYW := Lib.hid hyw
              clear hyw
              clear DR t0 t1 t2 t3
              have hgL := gr_trans hg8 (gr_alloc (gr_refl w8 none) (.cells #[.slice ba8 bn8 bc8, .int .i64 x8, .int .i64 y8, .int .i64 z8] 40))
              have HOV := Lib.hid (own_keep0 ho7b hgL)
              have HO4 := Lib.hid (own_keep0 hown7 hgL)
              have HOB := Lib.hid (own_keep0 hownB7 hgL)
              have HG9 := Lib.hid (gr_trans hgr7 hgL)
              clear hg8 hgL ho7b hown7 hownB7 hgr7
              cases rr with
              | none =>
                simp only [Option.isSome_none]
                go_wp2_with (fail)
                go_roundw
                case rel => exact ⟨q + 1, y4, L4, by omega, by omega, by go_num, rfl, HIN4.out, HO4.out, HOB.out, HG9.out⟩
                case measure => simp [intOf]; omega
              | some V =>
                simp only [Option.isSome_some]
                have hyV : y8 = V := HYW.out V rfl
                have HYE : Hid (drvM hx hy st xs L7 = some y8) := by show _ = _; rw [hyV]; exact HRR.out.symm
                clear hyV
                by_cases hyy : y8 < y4
                · have HLE : Hid (y8 ≤ W) := by show _ ≤ _; have := HIN4.out.2.2; omega
                  go_wp2_with (fail)
                  go_quiet (fail)
                  go_wp2_with (fail)
                  go_roundw
                  case rel => exact ⟨q + 1, y8, L7, by omega, by omega, by go_num, rfl, ⟨HO7.out, HYE.out, HLE.out⟩, own_keep0 HOV.out (gr_drewN (gr_refl _ _) _), own_keep0 HOB.out (gr_drewN (gr_refl _ _) _), gr_drewN HG9.out _⟩
                  case measure => simp [intOf]; omega
                · go_wp2_with (fail)
                  go_roundw
                  case rel => exact ⟨q + 1, y4, L4, by omega, by omega, by go_num, rfl, HIN4.out, HO4.out, HOB.out, HG9.out⟩
                  case measure => simp [intOf]; omega
            · go_wp2_with (fail)
              go_roundw
              case rel => exact ⟨p + 1, y4, L4, by omega, by go_num, rfl, HIN4.out, hown4, hownB, hgr⟩
              case measure => simp [intOf]; omega
        · have hll := own_len hownB
          have hll' := own_len hown'
          have hcB : CellsAt wi va (ints L) := by
            obtain ⟨_, _, he, _, _, hcc, _⟩ := own_shape hownB
            cases he
            exact hcc
          obtain ⟨va', vc', rfl, _, _, hcc', _⟩ := own_shape hown'
          have EQ := Lib.hid (equal_gen L L' va va' vc vc' wi hcB hcc' (by omega))
          rw [hll, hll'] at EQ
          clear hll hll' hcB hcc'
          go_wp2_with (fail)
          refine EQ.out.mono ?_
          rintro e w6 ⟨⟨b, rfl⟩, hg6⟩
          have hown6 := own_keep0 hown' hg6
          have hgr6 := gr_trans hgr hg6
          clear EQ hg6 hgr hown' hownB
          cases b with
          | true =>
            go_wp2_with (fail)
            go_ret3
            exact ⟨_, L', y3, rfl, own_len hown6, HIN'.out.1, HIN'.out.2.1, HIN'.out.2.2, by rw [own_len hown6]; exact hown6, gr_trans HGR4.out hgr6⟩
          | false =>
            go_wp2_with (fail)
            go_roundw
            case rel => exact ⟨k + 1, y3, L', by omega, by go_num, rfl, HIN'.out, hown6, hgr6⟩
            case measure => simp [intOf]; omega
    · go_wp2_with (fail)
      go_ret3
      exact ⟨_, L, y1, rfl, own_len hown, HIN.out.1, HIN.out.2.1, HIN.out.2.2, by rw [own_len hown]; exact hown, gr_trans HGR4.out hgr⟩
end Go.Proofs.YtehhmgbgkemidaaDoor

/-! round.Split at two cars: each car's route is driven; no stop is in two. -/
namespace Go.Proofs.YtehhmgbgkemidaaDoor
open Go.RowKit

theorem getD_set' {α : Type} (V : List α) (k m : Nat) (x d : α) (hm : m < V.length) : (V.set m x).getD k d = if k = m then x else V.getD k d := by
  rw [List.getD_eq_getElem?_getD, List.getElem?_set]
  by_cases h : m = k
  · subst h; simp [hm]
  · rw [if_neg h, if_neg (fun e => h e.symm), ← List.getD_eq_getElem?_getD]
structure SpAt (w : World) (base g gw : Nat) (V : List Value) (T : List (List Int)) (Y : List Int) : Prop where
  rows : w.ownsRow base 22 1 (.slice (some ⟨g, 0, none⟩) 2 2) 2 V
  ways : w.ownsRow base 3 1 (.slice (some ⟨gw, 0, none⟩) 2 2) 2 (ints Y)
  own : ∀ k, k < 2 → w.ownsRow base 3 1 (V.getD k (.slice none 0 0)) (T.getD k []).length (ints (T.getD k []))
  ap : ∀ k, k < 2 → (V.getD k (.slice none 0 0)).ownBlock ≠ some gw
  tl : T.length = 2
theorem SpAt.keep0 {w w1 : World} {base g gw : Nat} {V : List Value} {T : List (List Int)} {Y : List Int} (h : SpAt w base g gw V T Y) (e : w.grownBy w1 none) : SpAt w1 base g gw V T Y :=
  ⟨own_keep0 h.rows e, own_keep0 h.ways e, fun k hk => own_keep0 (h.own k hk) e, h.ap, h.tl⟩
theorem SpAt.low {w : World} {base b0 g gw : Nat} {V : List Value} {T : List (List Int)} {Y : List Int} (h : SpAt w base g gw V T Y) (e : b0 ≤ base) : SpAt w b0 g gw V T Y :=
  ⟨own_base h.rows e, own_base h.ways e, fun k hk => own_base (h.own k hk) e, h.ap, h.tl⟩
theorem SpAt.vl {w : World} {base g gw : Nat} {V : List Value} {T : List (List Int)} {Y : List Int} (h : SpAt w base g gw V T Y) : V.length = 2 := by
  have := h.rows.1
  simpa using this
theorem SpAt.row {w : World} {base g gw : Nat} {V : List Value} {T : List (List Int)} {Y : List Int} (h : SpAt w base g gw V T Y) (k : Nat) (hk : k < 2) : w.cell? ⟨g, k, none⟩ = some (V.getD k (.slice none 0 0)) ∧ w.frozen? ⟨g, k, none⟩ = false := by
  have hv := h.vl
  refine ⟨?_, h.rows.frozenAt k⟩
  rw [h.rows.cellAt k (by omega), List.getD_eq_getElem?_getD, List.getElem?_eq_getElem (by omega)]
  rfl
theorem SpAt.put {w : World} {base g gw b2 m : Nat} {V : List Value} {T : List (List Int)} {Y R : List Int} {rv : Value} {z : Int} (h : SpAt w base g gw V T Y) (hm : m < 2) (hr : w.ownsRow b2 3 1 rv R.length (ints R)) (hb : base ≤ b2) (hg : gw < b2) :
    SpAt ((w.setCell ⟨g, m, none⟩ rv).setCell ⟨gw, m, none⟩ (.int .i64 z)) base g gw (V.set m rv) (T.set m R) (Y.set m z) := by
  have hv := h.vl
  have htl := h.tl
  have gs1 : w.grownBy (w.setCell ⟨g, m, none⟩ rv) (some g) := gr_set (q := ⟨g, m, none⟩) (gr_refl w (some g)) rfl _
  have hr1 := (h.rows.stored m rv).1
  have hw1 := own_keep h.ways gs1 (.inr (own_types h.rows h.ways (by decide) g rfl))
  have hR1 := own_keep hr gs1 (.inr (own_types h.rows hr (by decide) g rfl))
  have gs2 : (w.setCell ⟨g, m, none⟩ rv).grownBy ((w.setCell ⟨g, m, none⟩ rv).setCell ⟨gw, m, none⟩ (.int .i64 z)) (some gw) := gr_set (q := ⟨gw, m, none⟩) (gr_refl _ (some gw)) rfl _
  have hrv : rv.ownBlock ≠ some gw := fun e => by
    have := (hr.lt gw e).1
    omega
  refine ⟨own_keep hr1 gs2 (.inr (own_types hw1 hr1 (by decide) gw rfl)), (own_int hw1 m hm).2.2 z, fun k hk => ?_, fun k hk => ?_, by rw [List.length_set]; exact htl⟩
  · rw [getD_set' V k m rv _ (by omega), getD_set' T k m R _ (by omega)]
    by_cases e : k = m
    · rw [if_pos e, if_pos e]
      exact own_base (own_keep hR1 gs2 (.inr hrv)) hb
    · rw [if_neg e, if_neg e]
      exact own_keep (own_keep (h.own k hk) gs1 (.inr (own_types h.rows (h.own k hk) (by decide) g rfl))) gs2 (.inr (h.ap k hk))
  · rw [getD_set' V k m rv _ (by omega)]
    by_cases e : k = m
    · rw [if_pos e]; exact hrv
    · rw [if_neg e]; exact h.ap k hk
/-- What is known of the cars' routes behind i stops. -/
structure SpOk (hx hy st : Int) (xs : List Stop) (T : List (List Int)) (i : Nat) : Prop where
  ok : ∀ k, k < 2 → OrdOk (T.getD k []) xs.length ∧ ∃ W, drvM hx hy st xs (T.getD k []) = some W
  nd : (T.getD 0 [] ++ T.getD 1 []).Nodup
  lt : ∀ x ∈ T.getD 0 [] ++ T.getD 1 [], x < (i : Int)
theorem SpOk.next {hx hy st : Int} {xs : List Stop} {T : List (List Int)} {i : Nat} (h : SpOk hx hy st xs T i) : SpOk hx hy st xs T (i + 1) := ⟨h.ok, h.nd, fun x hx => by have := h.lt x hx; omega⟩
theorem SpOk.put {hx hy st : Int} {xs : List Stop} {T : List (List Int)} {i m : Nat} {R : List Int} {W : Int} (h : SpOk hx hy st xs T i) (htl : T.length = 2) (hm : m < 2) (hi : i < xs.length) (hp : R.Perm ((i : Int) :: T.getD m [])) (hw : drvM hx hy st xs R = some W) : SpOk hx hy st xs (T.set m R) (i + 1) := by
  have hn : ∀ k, k < 2 → (i : Int) ∉ T.getD k [] := fun k hk hin => by
    have : (i : Int) ∈ T.getD 0 [] ++ T.getD 1 [] := by
      rcases (show k = 0 ∨ k = 1 by omega) with e | e <;> subst e
      · exact List.mem_append_left _ hin
      · exact List.mem_append_right _ hin
    have := h.lt _ this
    omega
  have hperm : ((T.set m R).getD 0 [] ++ (T.set m R).getD 1 []).Perm ((i : Int) :: (T.getD 0 [] ++ T.getD 1 [])) := by
    rw [getD_set' T 0 m R _ (by omega), getD_set' T 1 m R _ (by omega)]
    rcases (show m = 0 ∨ m = 1 by omega) with e | e <;> subst e
    · simp only [if_true, if_neg (show ¬ (1 = 0) by omega)]
      exact hp.append_right _
    · simp only [if_true, if_neg (show ¬ (0 = 1) by omega)]
      exact (List.Perm.append_left _ hp).trans List.perm_middle
  refine ⟨fun k hk => ?_, ?_, fun x hx => ?_⟩
  · rw [getD_set' T k m R _ (by omega)]
    by_cases e : k = m
    · rw [if_pos e]
      refine ⟨⟨fun j hj => ?_, ?_⟩, W, hw⟩
      · rcases List.mem_cons.1 (hp.mem_iff.1 hj) with e2 | e2
        · subst e2; omega
        · exact (h.ok m hm).1.rng j e2
      · exact hp.nodup_iff.2 (List.nodup_cons.2 ⟨hn m hm, (h.ok m hm).1.nd⟩)
    · rw [if_neg e]; exact h.ok k hk
  · refine hperm.nodup_iff.2 (List.nodup_cons.2 ⟨fun hin => ?_, h.nd⟩)
    have := h.lt _ hin
    omega
  · rcases List.mem_cons.1 (hperm.mem_iff.1 hx) with e2 | e2
    · subst e2; omega
    · have := h.lt x e2; omega
def SplitPost (hx hy st : Int) (xs : List Stop) (w : World) (e : Ending) (w' : World) : Prop :=
  ∃ (g gw : Nat) (V : List Value) (T : List (List Int)) (Y : List Int), e = .returned (.tuple #[.slice (some ⟨g, 0, none⟩) 2 2, .int .i64 0]) ∧ SpAt w' w.heap.size g gw V T Y ∧ SpOk hx hy st xs T xs.length ∧ w.grownBy w' none
theorem sp_mk0 {w : World} {g base n e : Nat} {z : Value} (h : w.heap[g]? = some (.cells (madeCells #[z] n) e (0, 0))) (hb : base ≤ g) (hn : n ≤ 1000) : w.ownsRow base e 1 (.slice (some ⟨g, 0, none⟩) n n) n (List.replicate n z) := by
  have e1 : (madeCells #[z] n).toList = List.replicate n z := by
    rw [toList_madeCells_one]
  have e2 : (madeCells #[z] n).size = n := by rw [← Array.length_toList, e1]; simp
  refine ⟨by simp, .inr ⟨g, n, _, rfl, hb, h, Nat.le_refl _, by unfold maxLen; omega, by omega, ?_⟩⟩
  rw [e1, List.take_of_length_le (by simp)]
theorem drv_nil (hx hy st : Int) (xs : List Stop) : ∃ W, drvM hx hy st xs [] = some W := ⟨_, rfl⟩
set_option maxRecDepth 100000 in
set_option maxHeartbeats 8000000 in
theorem split_val (hx hy st : Int) (xs : List Stop) (a : Option Addr) (c : Nat) (w : World) (hc : CellsAt w a (flat encStop xs)) (hl : xs.length ≤ 60) (hcap : xs.length ≤ c) (hk : ∀ x ∈ xs, x.key.size ≤ 100) (hok : StopsOk xs) (ht : TripOk hx hy st xs) :
    Calls Tryd.prog 13 #[.agg #[.int .i64 hx, .int .i64 hy], .slice a xs.length c, .int .i64 st, .int .i64 2] w (SplitPost hx hy st xs w) := by
  obtain ⟨b1, b2⟩ := heap_2 w (.cells #[.int .i64 hx, .int .i64 hy] 29) (.cells #[.int .i64 hx, .int .i64 hy, .slice a xs.length c, .int .i64 st] 60)
  have g1 := gr_alloc (gr_alloc (gr_refl w none) (.cells #[.int .i64 hx, .int .i64 hy] 29)) (.cells #[.int .i64 hx, .int .i64 hy, .slice a xs.length c, .int .i64 st] 60)
  obtain ⟨w1, hw1⟩ : ∃ w1, w1 = (w.alloc (.cells #[.int .i64 hx, .int .i64 hy] 29)).alloc (.cells #[.int .i64 hx, .int .i64 hy, .slice a xs.length c, .int .i64 st] 60) := ⟨_, rfl⟩
  rw [← hw1] at b1 b2 g1
  obtain ⟨H, hH⟩ : ∃ H, H = w.heap.size := ⟨_, rfl⟩
  obtain ⟨T, hT⟩ : ∃ T, T = w.heap.size + 1 := ⟨_, rfl⟩
  rw [← hH] at b1
  rw [← hT] at b2
  have TF := Lib.hid (tripFault_ok hx hy st xs a c w1 (hc.keep0 g1) hl hcap hk hok ht)
  have HC := Lib.hid hc
  have HB2 := Lib.hid b2
  have HG1 := Lib.hid g1
  have HW1 := Lib.hid hw1
  have HH := Lib.hid hH
  have HT := Lib.hid hT
  have HTO := Lib.hid ht
  have ho2 : (decide ((2 : Int) < 1) || decide ((10 : Int) < 2)) = false := by decide
  have HO2 := Lib.hid ho2
  clear hc hk hok ht b1 b2 g1 hw1 hH hT ho2
  go_enter Tryd.func13, Tryd.ntmps13
  go_upto_region 2 with (fail)
  rw [← HW1.out, ← HT.out, ← HH.out]
  obtain ⟨t0, t1, t2, t3⟩ := blk4 HB2.out
  go_wp2_with (fail)
  refine TF.out.mono ?_
  rintro e w2 ⟨rfl, g2⟩
  have HG2 := Lib.hid (gr_trans HG1.out g2)
  have hTlt : T < w2.heap.size := lt_of_block ((g2.block T (lt_of_block HB2.out) (by simp)).trans HB2.out)
  have HTLT := Lib.hid hTlt
  clear hTlt
  have HBT := Lib.hid ((g2.block T (lt_of_block HB2.out) (by simp)).trans HB2.out)
  clear g2 t0 t1 t2 t3 TF HB2 HG1 HW1
  go_upto_region 5 with (fail)
  go_wp2_with (fail)
  refine (out_any 2 1 10 w2).mono ?_
  rintro e w3 ⟨rfl, rfl⟩
  rw [HO2.out]
  have RM : ∀ w' : World, (Instr.makeSlice 22 (.int .i64 (2 : Int)) (.int .i64 (2 : Int))).run Tryd.prog w' = .ok (.slice (some ⟨w'.heap.size, 0, none⟩) 2 2) (w'.alloc (.cells (madeCells #[Value.int .i64 0] 2) 3)) := fun w' =>
    run_make_row' 22 3 (.int .i64 0) 8 eInt.und eInt.info rfl .i64 .i64 2 (by omega) (by omega) w'
  have RM2 : ∀ w' : World, (Instr.makeSlice 44 (.int .i64 (2 : Int)) (.int .i64 (2 : Int))).run Tryd.prog w' = .ok (.slice (some ⟨w'.heap.size, 0, none⟩) 2 2) (w'.alloc (.cells (madeCells #[Value.slice none 0 0] 2) 22)) := fun w' =>
    run_make_row' 44 22 (.slice none 0 0) 24 eRows.und eRows.info rfl .i64 .i64 2 (by omega) (by omega) w'
  go_upto_region 7 with (fail)
  go_cut [12, 13] (fun s12 s13 wx => ∃ g gw, s12 = .slice (some ⟨g, 0, none⟩) 2 2 ∧ s13 = .slice (some ⟨gw, 0, none⟩) 2 2 ∧ SpAt wx w2.heap.size g gw [.slice none 0 0, .slice none 0 0] [[], []] [0, 0] ∧ w2.grownBy wx none)
  case first =>
    have hpp : ∀ (wx : World) (g gw : Nat), wx.heap[g]? = some (.cells (madeCells #[Value.slice none 0 0] 2) 22 (0, 0)) → wx.heap[gw]? = some (.cells (madeCells #[Value.int .i64 0] 2) 3 (0, 0)) → w2.heap.size ≤ g → w2.heap.size ≤ gw → SpAt wx w2.heap.size g gw [.slice none 0 0, .slice none 0 0] [[], []] [0, 0] := fun wx g gw h1 h2 h3 h4 =>
      ⟨sp_mk0 h1 h3 (by omega), sp_mk0 h2 h4 (by omega), fun k hk => by
        rcases (show k = 0 ∨ k = 1 by omega) with e | e <;> subst e <;> exact World.ownsRow_nil _ _ _ _, fun k hk => by
        rcases (show k = 0 ∨ k = 1 by omega) with e | e <;> subst e <;> simp [Value.ownBlock], rfl⟩
    have HPP := Lib.hid hpp
    clear hpp
    go_region
    all_goals (go_wp2_with (fail))
    all_goals (try go_simp)
    all_goals go_meet
    all_goals first
      | exact ⟨_, _, rfl, rfl, HPP.out _ _ _ (heap_2 w2 _ _).1 (heap_2 w2 _ _).2 (by omega) (by omega), gr_drew (gr_alloc (gr_alloc (gr_refl w2 none) _) _)⟩
      | exact ⟨_, _, rfl, rfl, HPP.out _ _ _ (heap_2 w2 _ _).2 (heap_2 w2 _ _).1 (by omega) (by omega), gr_drew (gr_alloc (gr_alloc (gr_refl w2 none) _) _)⟩
  case rest =>
  obtain ⟨g, gw, rfl, rfl, hsp, g4⟩ := hcut
  obtain ⟨w4, rfl⟩ : ∃ w4 : World, w4 = wc := ⟨_, rfl⟩
  have HSP := Lib.hid hsp
  have HG4 := Lib.hid (gr_trans HG2.out g4)
  have HBT4 := Lib.hid ((g4.block T (lt_of_block HBT.out) (by simp)).trans HBT.out)
  clear hsp g4 RM RM2 HBT
  go_wp2_with (fail)
  go_loopw [39] (fun i wr => ∃ (n : Nat) (V : List Value) (TT : List (List Int)) (Y : List Int), n ≤ xs.length ∧ i = .int .i64 n ∧ SpAt wr w2.heap.size g gw V TT Y ∧ SpOk hx hy st xs TT n ∧ w.grownBy wr none ∧ wr.heap[T]? = some (.cells #[.int .i64 hx, .int .i64 hy, .slice a xs.length c, .int .i64 st] 60 (0, 0))) (fun i _ => xs.length - (intOf i).toNat)
  case atStart =>
    refine ⟨0, _, _, _, Nat.zero_le _, rfl, HSP.out, ⟨fun k hk => ?_, by simp, fun x hx => by simp at hx⟩, HG4.out, HBT4.out⟩
    rcases (show k = 0 ∨ k = 1 by omega) with e | e <;> subst e <;> exact ⟨⟨(fun i hi => by cases hi), List.nodup_nil⟩, drv_nil hx hy st xs⟩
  case round =>
    obtain ⟨n, V, TT, Y, hn, rfl, hsp, hsk, hgr, hbt⟩ := hrel
    obtain ⟨wo, rfl⟩ : ∃ wo : World, wo = wr := ⟨_, rfl⟩
    have HSO := Lib.hid hsp
    have HSK := Lib.hid hsk
    have HGR := Lib.hid hgr
    have HBO := Lib.hid hbt
    clear hsp hsk hgr hbt HSP HG4 HBT4
    by_cases hlt : n < xs.length
    · go_upto_region 13 with (fail)
      go_wp2_with (fail)
      go_loopw [15, 16, 17, 44] (fun cr gs rv k wr => ∃ (q : Nat) (ci gi : Int) (R : List Int), q ≤ 2 ∧ k = .int .i64 q ∧ cr = .int .i64 ci ∧ gs = .int .i64 gi ∧ wr.ownsRow wo.heap.size 3 1 rv R.length (ints R) ∧ (ci = -1 ∨ ∃ m : Nat, m < 2 ∧ ci = (m : Int) ∧ R.Perm ((n : Int) :: TT.getD m []) ∧ ∃ W, drvM hx hy st xs R = some W) ∧ wo.grownBy wr none) (fun _ _ _ k _ => 2 - (intOf k).toNat)
      case atStart => exact ⟨0, -1, 0, [], by omega, rfl, rfl, rfl, World.ownsRow_nil _ _ _ _, .inl rfl, gr_refl _ _⟩
      case round =>
        obtain ⟨q, ci, gi, R, hq, rfl, rfl, rfl, hR, hci, hgi⟩ := hrel
        obtain ⟨wi, rfl⟩ : ∃ wi : World, wi = wr := ⟨_, rfl⟩
        have HR := Lib.hid hR
        have HCI := Lib.hid hci
        have HGI := Lib.hid hgi
        clear hR hci hgi
        by_cases hq2 : q < 2
        · obtain ⟨t0, t1, t2, t3⟩ := blk4 ((HGI.out.block T (lt_of_block HBO.out) (by simp)).trans HBO.out)
          have hSI := HSO.out.keep0 HGI.out
          obtain ⟨rc, -⟩ := hSI.row q hq2
          obtain ⟨z0, z1, z2⟩ := own_int hSI.ways q hq2
          have hrow := hSI.own q hq2
          have hok := (HSK.out.ok q hq2).1
          obtain ⟨va, vc, hve, -, -, hvc, -⟩ := own_shape hrow
          rw [hve] at rc hrow
          have hnil := own_nil hrow
          obtain ⟨O, hO⟩ : ∃ O, O = TT.getD q [] := ⟨_, rfl⟩
          rw [← hO] at rc hrow hvc hok hnil
          have hol := nodup_full _ _ hok
          obtain ⟨yq, hyq⟩ : ∃ yq, yq = Y.getD q 0 := ⟨_, rfl⟩
          rw [← hyq] at z0
          have HOE := Lib.hid hO
          have HSI := Lib.hid hSI
          have INS : Hid (∀ W, wi.grownBy W none → Calls Tryd.prog 32 #[.agg #[.int .i64 hx, .int .i64 hy, .slice a xs.length c, .int .i64 st], .slice va O.length vc, .int .i64 n] W fun e w' => ∃ (bv : Value) (B : List Int) (y : Int) (f : Bool), e = .returned (.tuple #[bv, .int .i64 y, .bool f]) ∧ w'.ownsRow wo.heap.size 3 1 bv B.length (ints B) ∧ wi.grownBy w' none ∧ (f = true → B.Perm ((n : Int) :: O) ∧ drvM hx hy st xs B = some y)) := fun W g => by
            refine (inserted_val hx hy st xs a c O va vc (n : Int) W (HC.out.keep0 (gr_trans HGR.out (gr_trans HGI.out g))) hl HTO.out (hvc.keep0 g) (by omega) hok.rng hnil (by omega) (by omega)).mono ?_
            rintro e w' ⟨bv, B, y, f, rfl, h1, h2, h3⟩
            exact ⟨bv, B, y, f, rfl, own_base h1 (gr_trans HGI.out g).size, gr_trans g h2, h3⟩
          have hgl := lt_of_cell z0
          clear hve hO hyq hSI hrow hok hvc hnil z1 z2
          go_upto_region 16 with (fail)
          go_cut [19, 20, 21] (fun s19 s20 s21 wx => ∃ (B : List Int) (y : Int) (f : Bool), s20 = .int .i64 y ∧ s21 = .bool f ∧ wx.ownsRow wo.heap.size 3 1 s19 B.length (ints B) ∧ wi.grownBy wx none ∧ (f = true → B.Perm ((n : Int) :: O) ∧ drvM hx hy st xs B = some y))
          case first =>
            clear HCI HR
            go_region_law (first
              | (go_simp; go_at_call 32; (with_reducible refine (INS.out _ ?_).mono ?_); (· first | exact gr_drew (gr_refl _ _) | exact gr_refl _ _); rintro e w5 ⟨bv, B, y, f, rfl, ho5, hg5, hf5⟩)
              | fail)
            all_goals (go_wp2_with (fail))
            all_goals (try go_simp)
            all_goals go_meet
            all_goals exact ⟨B, y, f, rfl, rfl, ho5, hg5, hf5⟩
          case rest =>
          obtain ⟨B, y, f, rfl, rfl, hB, g5, hf⟩ := hcut
          obtain ⟨w5, rfl⟩ : ∃ w5 : World, w5 = wc := ⟨_, rfl⟩
          have HB := Lib.hid hB
          have HF := Lib.hid hf
          have z5 := (gr_cell g5 hgl).trans z0
          have HG5 := Lib.hid (gr_trans HGI.out g5)
          have HR5 := Lib.hid (own_keep0 HR.out g5)
          clear hB hf g5 z0 t0 t1 t2 t3 rc INS hgl HSI HR HGI
          cases f with
          | false =>
            go_wp2_with (fail)
            go_roundw
            case rel => exact ⟨q + 1, ci, gi, R, by omega, by go_num, rfl, rfl, HR5.out, HCI.out, HG5.out⟩
            case measure => simp [intOf]; omega
          | true =>
            have HNEW : Hid ((q : Int) = -1 ∨ ∃ m : Nat, m < 2 ∧ (q : Int) = (m : Int) ∧ B.Perm ((n : Int) :: TT.getD m []) ∧ ∃ W, drvM hx hy st xs B = some W) := .inr ⟨q, hq2, rfl, by rw [← HOE.out]; exact (HF.out rfl).1, _, (HF.out rfl).2⟩
            by_cases hcn : ci < 0
            · have hd : decide (ci < 0) = true := decide_eq_true hcn
              go_upto_region 18 with (fail)
              go_quiet (fail)
              go_wp2_with (fail)
              go_roundw
              case rel => exact ⟨q + 1, (q : Int), _, B, by omega, by go_num, rfl, rfl, own_keep0 HB.out (gr_drewN (gr_refl _ _) _), HNEW.out, gr_drewN HG5.out _⟩
              case measure => simp [intOf]; omega
            · have hd : decide (ci < 0) = false := decide_eq_false hcn
              by_cases hlw : wrap64 (y - yq) < gi
              · have hd2 : decide (wrap64 (y - yq) < gi) = true := decide_eq_true hlw
                go_upto_region 18 with (fail)
                go_quiet (fail)
                go_wp2_with (fail)
                go_roundw
                case rel => exact ⟨q + 1, (q : Int), _, B, by omega, by go_num, rfl, rfl, own_keep0 HB.out (gr_drewN (gr_refl _ _) _), HNEW.out, gr_drewN HG5.out _⟩
                case measure => simp [intOf]; omega
              · have hd2 : decide (wrap64 (y - yq) < gi) = false := decide_eq_false hlw
                go_wp2_with (fail)
                go_roundw
                case rel => exact ⟨q + 1, ci, gi, R, by omega, by go_num, rfl, rfl, HR5.out, HCI.out, HG5.out⟩
                case measure => simp [intOf]; omega
        · have HSI := Lib.hid (HSO.out.keep0 HGI.out)
          have HGI2 := Lib.hid (gr_trans HGR.out HGI.out)
          have HBI := Lib.hid ((HGI.out.block T (lt_of_block HBO.out) (by simp)).trans HBO.out)
          rcases HCI.out with hci | ⟨m, hm, hci, hp, W, hW⟩
          · subst hci
            go_wp2_with (fail)
            go_roundw
            case rel => exact ⟨n + 1, V, TT, Y, by omega, by go_num, HSI.out, HSK.out.next, HGI2.out, HBI.out⟩
            case measure => simp [intOf]; omega
          · subst hci
            have HP := Lib.hid hp
            have HWW := Lib.hid hW
            obtain ⟨ra, rcp, rfl, -, -, -, -⟩ := own_shape HR.out
            obtain ⟨rc, rf⟩ := HSI.out.row m hm
            have hd : decide (0 ≤ (m : Int)) = true := decide_eq_true (by omega)
            have hgs : wi.grownBy (wi.setCell ⟨g, m, none⟩ (.slice ra R.length rcp)) (some g) := gr_set (q := ⟨g, m, none⟩) (gr_refl wi (some g)) rfl _
            obtain ⟨z0, z1, -⟩ := own_int (own_keep HSI.out.ways hgs (.inr (own_types HSI.out.rows HSI.out.ways (by decide) g rfl))) m hm
            have hlg := (HSI.out.rows.lt g rfl)
            have hlw := (HSI.out.ways.lt gw rfl)
            have hTb := HBO.out
            obtain ⟨w6, hw6⟩ : ∃ w6, w6 = wi.setCell ⟨g, m, none⟩ (.slice ra R.length rcp) := ⟨_, rfl⟩
            rw [← hw6] at z0 z1 hgs
            have HW6 := Lib.hid hw6
            obtain ⟨ym, hym⟩ : ∃ ym, ym = Y.getD m 0 := ⟨_, rfl⟩
            rw [← hym] at z0
            have hfin : ∀ z, SpAt (w6.setCell ⟨gw, m, none⟩ (.int .i64 z)) w2.heap.size g gw (V.set m (.slice ra R.length rcp)) (TT.set m R) (Y.set m z) := fun z => by
              rw [hw6]
              exact HSI.out.put (b2 := wo.heap.size) hm HR.out (by have := HSO.out.rows.lt g rfl; omega) (by have := HSO.out.ways.lt gw rfl; omega)
            have HFIN := Lib.hid hfin
            have hfg : ∀ z, w.grownBy (w6.setCell ⟨gw, m, none⟩ (.int .i64 z)) none ∧ (w6.setCell ⟨gw, m, none⟩ (.int .i64 z)).heap[T]? = some (.cells #[.int .i64 hx, .int .i64 hy, .slice a xs.length c, .int .i64 st] 60 (0, 0)) := fun z => by
              have h2s := HG2.out.size
              have hT := HTLT.out
              have gs2 : w6.grownBy (w6.setCell ⟨gw, m, none⟩ (.int .i64 z)) (some gw) := gr_set (q := ⟨gw, m, none⟩) (gr_refl _ (some gw)) rfl _
              have b6 := (hgs.block T (lt_of_block HBI.out) (by simp; omega)).trans HBI.out
              exact ⟨gr_grown (gr_grown HGI2.out hgs (fun k e => by cases e; omega)) gs2 (fun k e => by cases e; omega), (gs2.block T (lt_of_block b6) (by simp; omega)).trans b6⟩
            have HFG := Lib.hid hfg
            clear hfg
            clear hp hW hw6 hym hfin
            go_upto_region 22 with (fail)
            rw [← HW6.out]
            go_wp2_with (fail)
            go_roundw
            case rel => exact ⟨n + 1, _, _, _, by omega, by go_num, HFIN.out _, HSK.out.put HSI.out.tl hm hlt HP.out HWW.out, (HFG.out _).1, (HFG.out _).2⟩
            case measure => simp [intOf]; omega
    · obtain rfl : n = xs.length := by omega
      go_wp2_with (fail)
      go_ret2
      exact ⟨g, gw, V, TT, Y, rfl, HSO.out.low HG2.out.size, HSK.out, HGR.out⟩
end Go.Proofs.YtehhmgbgkemidaaDoor
