/- demand.Instead: its code, and what it sells and loses. -/
import Derived.Test.YtlpkancpjdihgaaTable2
import Derived.Test.YtlpkancpjdihgaaInstPure
import Derived.Test.YtlpkancpjdihgaaTill
import Derived.Deep.OwnRows
import Derived.Deep.CutRange
namespace Go.Proofs.Ytlpkancpjdihgaa
open Go.RowKit

theorem oddJ_fn : IsFn 109 := fun _ _ => by kernel_rfl
theorem oddJ_any (x : Int) (w : World) : Calls Try.prog 109 #[.int .i64 x] w fun e w' => e = .returned (.bool (oddM x)) ∧ w = w' := by
  go_enter Try.func109, Try.ntmps109
  go_wp2_with (fail)
  refine (out_any x 0 1000000 w).mono ?_
  rintro e w1 ⟨rfl, rfl⟩
  go_wp2_with (fail)
  go_ret
  exact ⟨rfl, rfl⟩
theorem cell_set1 {w : World} {b o g j : Nat} {v : Value} (h : w.cell? ⟨b, o, none⟩ = some v) (hn : b ≠ g) (x : Value) : (w.setCell ⟨g, j, none⟩ x).cell? ⟨b, o, none⟩ = some v := (World.cell?_of_block (w := w) ((gr_set (gr_refl w (some g)) (q := ⟨g, j, none⟩) rfl x).block b (lt_of_cell h) (by simpa using hn))).trans h
/-- Three slices of ints that the call owns, apart from each other. -/
structure Own3 (w : World) (base n cl gs gl gb : Nat) (A L B : List Int) : Prop where
  a : w.ownsRow base 3 1 (.slice (some ⟨gs, 0, none⟩) n n) n (ints A)
  l : w.ownsRow base 3 1 (.slice (some ⟨gl, 0, none⟩) n cl) n (ints L)
  b : w.ownsRow base 3 1 (.slice (some ⟨gb, 0, none⟩) n n) n (ints B)
  sl : gs ≠ gl
  sb : gs ≠ gb
  lb : gl ≠ gb
theorem Own3.setA {w : World} {base n cl gs gl gb : Nat} {A L B : List Int} (h : Own3 w base n cl gs gl gb A L B) (k : Nat) (hk : k < n) (x : Int) : Own3 (w.setCell ⟨gs, k, none⟩ (.int .i64 x)).drew base n cl gs gl gb (A.set k x) L B :=
  ⟨own_keep0 ((own_int h.a k hk).2.2 x) (gr_drew (gr_refl _ _)), own_keep h.l (gr_drew (gr_set (gr_refl w (some gs)) rfl _)) (.inr (fun e => h.sl (Option.some.inj e).symm)), own_keep h.b (gr_drew (gr_set (gr_refl w (some gs)) rfl _)) (.inr (fun e => h.sb (Option.some.inj e).symm)), h.sl, h.sb, h.lb⟩
theorem Own3.setL {w : World} {base n cl gs gl gb : Nat} {A L B : List Int} (h : Own3 w base n cl gs gl gb A L B) (k : Nat) (hk : k < n) (x : Int) : Own3 (w.setCell ⟨gl, k, none⟩ (.int .i64 x)).drew base n cl gs gl gb A (L.set k x) B :=
  ⟨own_keep h.a (gr_drew (gr_set (gr_refl w (some gl)) rfl _)) (.inr (fun e => h.sl (Option.some.inj e))), own_keep0 ((own_int h.l k hk).2.2 x) (gr_drew (gr_refl _ _)), own_keep h.b (gr_drew (gr_set (gr_refl w (some gl)) rfl _)) (.inr (fun e => h.lb (Option.some.inj e).symm)), h.sl, h.sb, h.lb⟩
theorem Own3.setB {w : World} {base n cl gs gl gb : Nat} {A L B : List Int} (h : Own3 w base n cl gs gl gb A L B) (k : Nat) (hk : k < n) (x : Int) : Own3 (w.setCell ⟨gb, k, none⟩ (.int .i64 x)).drew base n cl gs gl gb A L (B.set k x) :=
  ⟨own_keep h.a (gr_drew (gr_set (gr_refl w (some gb)) rfl _)) (.inr (fun e => h.sb (Option.some.inj e))), own_keep h.l (gr_drew (gr_set (gr_refl w (some gb)) rfl _)) (.inr (fun e => h.lb (Option.some.inj e))), own_keep0 ((own_int h.b k hk).2.2 x) (gr_drew (gr_refl _ _)), h.sl, h.sb, h.lb⟩
theorem Own3.undrew {w : World} {base n cl gs gl gb : Nat} {A L B : List Int} (h : Own3 w.drew base n cl gs gl gb A L B) : Own3 w base n cl gs gl gb A L B :=
  ⟨own_keep0 h.a ⟨rfl, rfl, rfl, Nat.le_refl _, fun _ _ _ => rfl⟩, own_keep0 h.l ⟨rfl, rfl, rfl, Nat.le_refl _, fun _ _ _ => rfl⟩, own_keep0 h.b ⟨rfl, rfl, rfl, Nat.le_refl _, fun _ _ _ => rfl⟩, h.sl, h.sb, h.lb⟩
theorem Own3.low {w : World} {base n cl gs gl gb : Nat} {A L B : List Int} (h : Own3 w base n cl gs gl gb A L B) : (base ≤ gs ∧ gs < w.heap.size) ∧ (base ≤ gl ∧ gl < w.heap.size) ∧ (base ≤ gb ∧ gb < w.heap.size) := ⟨h.a.lt gs rfl, h.l.lt gl rfl, h.b.lt gb rfl⟩
theorem Own3.at {w : World} {base n cl gs gl gb : Nat} {A L B : List Int} (h : Own3 w base n cl gs gl gb A L B) (k : Nat) (hk : k < n) :
    (w.cell? ⟨gs, k, none⟩ = some (.int .i64 (A.getD k 0)) ∧ w.frozen? ⟨gs, k, none⟩ = false) ∧ (w.cell? ⟨gl, k, none⟩ = some (.int .i64 (L.getD k 0)) ∧ w.frozen? ⟨gl, k, none⟩ = false) ∧ (w.cell? ⟨gb, k, none⟩ = some (.int .i64 (B.getD k 0)) ∧ w.frozen? ⟨gb, k, none⟩ = false) :=
  ⟨⟨(own_int h.a k hk).1, (own_int h.a k hk).2.1⟩, ⟨(own_int h.l k hk).1, (own_int h.l k hk).2.1⟩, ⟨(own_int h.b k hk).1, (own_int h.b k hk).2.1⟩⟩
def InsteadPost (T : List (List Int)) (W S : List Int) (w : World) (e : Ending) (w' : World) : Prop :=
  (insteadCode T W S ≠ 0 ∧ e = .returned (.tuple #[.slice none 0 0, .slice none 0 0, .int .i64 (insteadCode T W S)]) ∧ w.grownBy w' none) ∨
  (insteadCode T W S = 0 ∧ ∃ A B L ga gb, e = .returned (.tuple #[.slice (some ⟨ga, 0, none⟩) T.length T.length, .slice (some ⟨gb, 0, none⟩) T.length T.length, .int .i64 0]) ∧ InsInv T.length W S A L B ∧
    w'.ownsRow w.heap.size 3 1 (.slice (some ⟨ga, 0, none⟩) T.length T.length) T.length (ints A) ∧ w'.ownsRow w.heap.size 3 1 (.slice (some ⟨gb, 0, none⟩) T.length T.length) T.length (ints B) ∧ ga ≠ gb ∧ w.grownBy w' none)

set_option maxRecDepth 100000 in
set_option maxHeartbeats 1000000 in
theorem instead_any (T : List (List Int)) (W S : List Int) (a a1 a2 : Option Addr) (c c1 c2 : Nat) (w : World) (hT : RowsAt w a T) (hl : T.length ≤ 1000000) (hr : ∀ r ∈ T, r.length ≤ 1000000)
    (hW : CellsAt w a1 (ints W)) (hS : CellsAt w a2 (ints S)) (hn2 : a2 = none → c2 = 0) (hl1 : W.length ≤ 100000) (hl2 : S.length ≤ 100000) (hc2 : S.length ≤ c2) :
    Calls Try.prog 42 #[.agg #[.slice a T.length c], .slice a1 W.length c1, .slice a2 S.length c2] w (InsteadPost T W S w) := by
  have hg0 := gr_alloc (gr_refl w none) (.cells #[.slice a T.length c] 72)
  obtain ⟨w0, hw0⟩ : ∃ w0, w0 = w.alloc (.cells #[.slice a T.length c] 72) := ⟨_, rfl⟩
  have t0 : w0.cell? ⟨w.heap.size, 0, none⟩ = some (.slice a T.length c) := by rw [hw0]; exact World.cell?_alloc_at _ _ _ _ rfl
  have hs0 : w0.heap.size = w.heap.size + 1 := by rw [hw0]; simp
  rw [← hw0] at hg0
  go_enter Try.func42, Try.ntmps42
  go_wp2_with (fail)
  rw [← hw0]
  have HW0 := Lib.hid hw0; clear hw0
  refine (checkTable_any T a c w0 (hT.keep0 hg0) hl hr).mono ?_
  rintro e w1 ⟨rfl, hg1⟩
  have hg01 := gr_trans hg0 hg1
  have t1 := (gr_cell hg1 (lt_of_cell t0)).trans t0
  by_cases ht : tableCode T = 0
  · rw [ht]
    by_cases hW1 : W.length = T.length
    · have q1 : ((W.length : Int) != (T.length : Int)) = false := by simp [hW1]
      have Q1 := Lib.hid hW1; clear hW1
      by_cases hS1 : S.length = T.length
      · have q2 : ((S.length : Int) != (T.length : Int)) = false := by simp [hS1]
        have hfin : Hid (insteadCode T W S = if (W ++ S).any oddM = true then 1 else 0) := by
          show _ = _; unfold insteadCode; rw [if_neg (by omega), if_neg (by have := Q1.out; omega)]
        have Q2 := Lib.hid hS1; clear hS1
        have HT := Lib.hid ht; clear ht
        go_wp2_with (fail)
        refine (containsFunc_int 109 oddM W a1 c1 w1 (hW.keep0 hg01) (by omega) oddJ_fn (fun x _ w1 _ => (oddJ_any x w1).mono (by rintro e w2 ⟨rfl, rfl⟩; exact ⟨rfl, gr_refl _ _⟩))).mono ?_
        rintro e w2 ⟨rfl, hg2⟩
        have hg02 := gr_trans hg01 hg2
        have t2 := (gr_cell hg2 (lt_of_cell t1)).trans t1
        cases hb : W.any oddM with
        | true =>
          have hfin2 : Hid (insteadCode T W S = 1) := by show _ = _; rw [hfin.out, if_pos (by rw [List.any_append, hb]; rfl)]
          clear hb
          go_wp2_with (fail)
          refine bodyPost_ret (results_tmp3 rfl _ _ _) rfl (.inl ⟨by rw [hfin2.out]; decide, by rw [hfin2.out]; rfl, hg02⟩)
        | false =>
          go_wp2_with (fail)
          refine (containsFunc_int 109 oddM S a2 c2 w2 (hS.keep0 hg02) (by omega) oddJ_fn (fun x _ w1 _ => (oddJ_any x w1).mono (by rintro e w2 ⟨rfl, rfl⟩; exact ⟨rfl, gr_refl _ _⟩))).mono ?_
          rintro e w3 ⟨rfl, hg3⟩
          have hg03 := gr_trans hg02 hg3
          have t3 := (gr_cell hg3 (lt_of_cell t2)).trans t2
          cases hb2 : S.any oddM with
          | true =>
            have hfin2 : Hid (insteadCode T W S = 1) := by show _ = _; rw [hfin.out, if_pos (by rw [List.any_append, hb2]; simp)]
            clear hb hb2
            go_wp2_with (fail)
            refine bodyPost_ret (results_tmp3 rfl _ _ _) rfl (.inl ⟨by rw [hfin2.out]; decide, by rw [hfin2.out]; rfl, hg03⟩)
          | false =>
            obtain ⟨hn1, hn30, hrow⟩ := tableCode_ok T HT.out
            have hfin2 : Hid (insteadCode T W S = 0) := by show _ = _; rw [hfin.out, if_neg (by rw [List.any_append, hb, hb2]; decide)]
            clear hb hb2
            go_wp2_with (fail)
            obtain ⟨Z, hZ⟩ : ∃ Z, Z = madeCells #[Value.int .i64 0] T.length := ⟨_, rfl⟩
            have hmk : ∀ w' : World, (Instr.makeSlice 22 (.int .i64 (T.length : Int)) (.int .i64 (T.length : Int))).run Try.prog w' = .ok (.slice (some ⟨w'.heap.size, 0, none⟩) T.length T.length) (w'.alloc (.cells Z 3)) := by
              intro w'
              rw [hZ]
              exact run_make_row' 22 3 (.int .i64 0) 8 eInt.und eInt.info rfl .i64 .i64 T.length (by omega) (by omega) w'
            have hZl : Z.toList = ints (List.replicate T.length 0) := by rw [hZ, toList_madeCells_one]; simp [ints]
            have HZ := Lib.hid hZl; clear hZl hZ
            have hwl := hg03.size
            have hZs : Z.size = T.length * 1 := by rw [← Array.length_toList, HZ.out]; simp [ints]
            have h1 := own_keep0 (World.ownsRow_lit (base := w.heap.size) (e := 3) (size := 1) w3 Z T.length hwl (by unfold maxLen; omega) hZs) (gr_drew (gr_alloc (gr_refl _ _) (.cells Z 3)))
            have h2 := own_keep0 (World.ownsRow_lit (base := w.heap.size) (e := 3) (size := 1) (w3.alloc (.cells Z 3)) Z T.length (by simp; omega) (by unfold maxLen; omega) hZs) (gr_drew (gr_refl _ _))
            rw [HZ.out] at h1 h2
            rw [show (w3.alloc (.cells Z 3)).heap.size = w3.heap.size + 1 by simp] at h2
            have hgz := gr_drew (gr_alloc (gr_alloc (gr_refl w3 none) (.cells Z 3)) (.cells Z 3))
            have H1 := Lib.hid h1
            have H2 := Lib.hid h2
            have HGZ := Lib.hid hgz
            have HZS := Lib.hid hZs
            clear h1 h2 hgz hZs
            go_cut [6, 7] from 45 to 48 (fun s b wx => ∃ gs gb, s = .slice (some ⟨gs, 0, none⟩) T.length T.length ∧ b = .slice (some ⟨gb, 0, none⟩) T.length T.length ∧ gs ≠ gb ∧ w3.heap.size ≤ gs ∧ w3.heap.size ≤ gb ∧
              wx.ownsRow w.heap.size 3 1 (.slice (some ⟨gs, 0, none⟩) T.length T.length) T.length (ints (List.replicate T.length 0)) ∧
              wx.ownsRow w.heap.size 3 1 (.slice (some ⟨gb, 0, none⟩) T.length T.length) T.length (ints (List.replicate T.length 0)) ∧ w3.grownBy wx none)
            case first =>
              go_region
              all_goals (go_wp2_with (fail); go_meet; first | exact ⟨_, _, rfl, rfl, by omega, by omega, by omega, H1.out, H2.out, HGZ.out⟩ | exact ⟨_, _, rfl, rfl, by omega, by omega, by omega, H2.out, H1.out, HGZ.out⟩)
            case rest =>
            obtain ⟨gs, gb, rfl, rfl, hgsb, hgs, hgb, hownA, hownB, hg4⟩ := hcut
            have hg04 := gr_trans hg03 hg4
            have t4 := (gr_cell hg4 (lt_of_cell t3)).trans t3
            obtain ⟨n, hn⟩ : ∃ n, n = T.length := ⟨_, rfl⟩
            obtain ⟨_, hWl, hSl, hWb, hSb⟩ := insteadCode_ok T W S hfin2.out
            obtain ⟨b1, o1, rfl, _⟩ := hW 0 _ (ints_get W 0 (by omega))
            obtain ⟨b2, o2, rfl, _⟩ := hS 0 _ (ints_get S 0 (by omega))
            obtain ⟨b0, o0, _, _, rfl, _, _⟩ := hT 0 (by omega)
            simp only [Q1.out, Q2.out]
            rw [Q2.out] at hc2
            rw [← hn] at hownA hownB t0 t1 t2 t3 t4 hn1 hn30 hrow hWl hSl hWb hSb hc2 hmk
            simp only [← hn]
            have HN := Lib.hid hn
            have HROW := Lib.hid hrow
            have HWB := Lib.hid hWb
            have HSB := Lib.hid hSb
            have HMK := Lib.hid hmk
            clear hrow hWb hSb hn hmk
            go_wp2_with (fail)
            refine (clone_int (some ⟨b2, o2, none⟩) n c2 (ints S) wc (by simp [ints, hSl]) (hS.keep0 hg04) (fun h => by cases h) (ints_one S) (by omega)).mono ?_
            rintro e w5 ⟨vl, rfl, hownL, hg5⟩
            obtain ⟨gl, cl, rfl, hgl1, hgl2, _, _⟩ := own_some hownL (by omega)
            have hA5 := own_keep0 hownA hg5
            have hB5 := own_keep0 hownB hg5
            have ha1 := (hownA.lt gs rfl).2
            have hb1 := (hownB.lt gb rfl).2
            have hL5 := own_base hownL hg04.size
            have hg05 := gr_trans hg04 hg5
            have t5 := (gr_cell hg5 (lt_of_cell t4)).trans t4
            have m0 := lt_of_cell t3
            have m1 : w.heap.size ≠ gs := by omega
            have m2 : w.heap.size ≠ gl := by omega
            have m3 : w.heap.size ≠ gb := by omega
            have n1 : gl ≠ gs := by omega
            have n2 : gl ≠ gb := by omega
            have n3 : gs ≠ gl := by omega
            have n4 : gb ≠ gl := by omega
            have n5 : gb ≠ gs := by omega
            clear hownA hownB hownL hg1 hg2 hg3 hg4 hg5 hg01 hg02 hg03 hg04 t0 t1 t2 t3 t4 hg0 H1 H2 HGZ HZS HZ
            go_wp2_with (fail)
            go_loopw [53] (fun i wr => ∃ (k : Nat) (A L B : List Int), k ≤ n ∧ i = .int .i64 k ∧ InsOne n k W S A L B ∧ Own3 wr w.heap.size n cl gs gl gb A L B ∧
              w.grownBy wr none ∧ wr.cell? ⟨w.heap.size, 0, none⟩ = some (.slice (some ⟨b0, o0, none⟩) n c)) (fun i _ => n - (intOf i).toNat)
            case atStart => exact ⟨0, _, _, _, Nat.zero_le _, rfl, InsOne.start n W S hSl, ⟨by rw [HN.out] at hA5 ⊢; exact hA5, hL5, by rw [HN.out] at hB5 ⊢; exact hB5, n3, hgsb, n2⟩, hg05, t5⟩
            case round =>
              obtain ⟨k, A, L, B, hk, rfl, hone, hown, hgr, tr⟩ := hrel
              obtain ⟨wo, rfl⟩ : ∃ wo : World, wo = wr := ⟨_, rfl⟩
              have hlow := hown.low
              obtain ⟨⟨ls1, _⟩, ⟨ll1, _⟩, ⟨lb1, _⟩⟩ := hlow
              by_cases hlt : k < n
              · obtain ⟨x, hx⟩ : ∃ x, x = W.getD k 0 := ⟨_, rfl⟩
                obtain ⟨y, hy⟩ : ∃ y, y = S.getD k 0 := ⟨_, rfl⟩
                obtain ⟨hx0, hx1⟩ := HWB.out k hlt
                obtain ⟨hy0, hy1⟩ := HSB.out k hlt
                obtain ⟨_, _, he, cw⟩ := (hW.keep0 hgr) k _ (ints_get W k (by omega))
                cases he
                obtain ⟨_, _, he, cs⟩ := (hS.keep0 hgr) k _ (ints_get S k (by omega))
                cases he
                have hLk := (hone.td k hlt (Nat.le_refl _)).2.1
                obtain ⟨⟨ca, fa⟩, _, _⟩ := hown.at k hlt
                rw [← hx] at cw hx0 hx1
                rw [← hy] at cs hy0 hy1 hLk
                obtain ⟨m, hm⟩ : ∃ m, m = min x y := ⟨_, rfl⟩
                have hm0 : 0 ≤ m := by omega
                have hmx : m ≤ x := by omega
                have hmy : m ≤ y := by omega
                have HM := Lib.hid hm
                have HX := Lib.hid hx
                have HY := Lib.hid hy
                have HONE := Lib.hid hone
                have HLK := Lib.hid hLk
                have htr : w.heap.size < wo.heap.size := lt_of_cell tr
                clear hx hy hone hLk hm
                go_wp2_with (fail)
                go_cut [] from 56 to 67 (fun wx => wx = (wo.setCell ⟨gs, k, none⟩ (.int .i64 m)).drew)
                case first =>
                  go_region
                  all_goals (go_wp2_with (fail))
                  all_goals (go_meet; first | (rw [show m = x by have := HM.out; omega]) | (rw [show m = y by have := HM.out; omega]))
                case rest =>
                have hown1 : Own3 wc w.heap.size n cl gs gl gb (A.set k m) L B := by rw [hcut]; exact hown.setA k hlt m
                have hgr1 : w.grownBy wc none := by rw [hcut]; exact gr_drew (gr_new hgr ls1 _)
                have tr1 : wc.cell? ⟨w.heap.size, 0, none⟩ = some (.slice (some ⟨b0, o0, none⟩) n c) := by rw [hcut]; exact cell_set1 tr m1 _
                clear hcut ca fa cw cs tr hown
                obtain ⟨wA, rfl⟩ : ∃ wA : World, wA = wc := ⟨_, rfl⟩
                obtain ⟨⟨ca, fa⟩, ⟨cl1, fl1⟩, _⟩ := hown1.at k hlt
                rw [getD_set _ _ _ _ (by rw [HONE.out.la]; exact hlt), if_pos rfl] at ca
                rw [HLK.out] at cl1
                go_wp2_with (fail)
                go_cut [] from 68 to 77 (fun wx => wx = (wA.setCell ⟨gl, k, none⟩ (.int .i64 (y - m))).drew)
                case first =>
                  go_region
                  all_goals (go_wp2_with (fail))
                  all_goals (go_meet; rfl)
                case rest =>
                have hown2 : Own3 wc w.heap.size n cl gs gl gb (A.set k m) (L.set k (y - m)) B := by rw [hcut]; exact hown1.setL k hlt (y - m)
                have hgr2 : w.grownBy wc none := by rw [hcut]; exact gr_drew (gr_new hgr1 ll1 _)
                have tr2 : wc.cell? ⟨w.heap.size, 0, none⟩ = some (.slice (some ⟨b0, o0, none⟩) n c) := by rw [hcut]; exact cell_set1 tr1 m2 _
                clear hcut ca fa cl1 fl1 tr1 hown1 hgr1
                obtain ⟨wB, rfl⟩ : ∃ wB : World, wB = wc := ⟨_, rfl⟩
                obtain ⟨⟨ca, fa⟩, _, ⟨cb1, fb1⟩⟩ := hown2.at k hlt
                rw [getD_set _ _ _ _ (by rw [HONE.out.la]; exact hlt), if_pos rfl] at ca
                obtain ⟨_, _, he, cw⟩ := (hW.keep0 hgr2) k _ (ints_get W k (by omega))
                cases he
                rw [← HX.out] at cw
                go_wp2_with (fail)
                have h3 : Own3 (wB.setCell ⟨gb, k, none⟩ (.int .i64 (x - m))).drew w.heap.size n cl gs gl gb (A.set k m) (L.set k (y - m)) (B.set k (x - m)) := hown2.setB k hlt (x - m)
                have g3 : w.grownBy (wB.setCell ⟨gb, k, none⟩ (.int .i64 (x - m))).drew none := gr_drew (gr_new hgr2 lb1 _)
                have tr3 : (wB.setCell ⟨gb, k, none⟩ (.int .i64 (x - m))).drew.cell? ⟨w.heap.size, 0, none⟩ = some (.slice (some ⟨b0, o0, none⟩) n c) := cell_set1 tr2 m3 _
                have H3 := Lib.hid h3
                have G3 := Lib.hid g3
                have TR3 := Lib.hid tr3
                clear h3 g3 tr3 tr2 hown2 hgr2
                go_region
                all_goals (go_wp2_with (fail))
                all_goals go_roundw
                case rel =>
                  have hnx := HONE.out.next hlt hWl m (by rw [HM.out, HX.out, HY.out])
                  rw [← HX.out, ← HY.out] at hnx
                  exact ⟨k + 1, _, _, _, Nat.succ_le_of_lt hlt, by go_num, hnx, H3.out, G3.out, TR3.out⟩
                case measure => simp [intOf]; omega
              · have hkn : k = n := by omega
                subst hkn
                have hinv := hone.done hWl (fun q hq => (HWB.out q hq).1) (fun q hq => (HSB.out q hq).1)
                have HINV := Lib.hid hinv
                clear hlt hone hinv
                go_wp2_with (fail)
                go_loopw [93] (fun i wr => ∃ (i' : Nat) (A L B : List Int), i' ≤ k ∧ i = .int .i64 i' ∧ InsInv k W S A L B ∧ Own3 wr w.heap.size k cl gs gl gb A L B ∧
                  w.grownBy wr none ∧ wr.cell? ⟨w.heap.size, 0, none⟩ = some (.slice (some ⟨b0, o0, none⟩) k c)) (fun i _ => k - (intOf i).toNat)
                case atStart => exact ⟨0, _, _, _, Nat.zero_le _, rfl, HINV.out, hown, hgr, tr⟩
                case round =>
                  clear hown hgr tr HINV
                  obtain ⟨i', A, L, B, hi', rfl, hinv, hown, hgr, tr⟩ := hrel
                  obtain ⟨wi, rfl⟩ : ∃ wi : World, wi = wr := ⟨_, rfl⟩
                  by_cases hlt : i' < k
                  · obtain ⟨many, hmany⟩ : ∃ many, many = B.getD i' 0 := ⟨_, rfl⟩
                    have hm0 := hinv.b0 i' hlt
                    have hm1 := hinv.bw i' hlt
                    have hm2 := (HWB.out i' hlt).2
                    rw [← hmany] at hm0 hm1
                    have hm3 : many ≤ 1000000 := by omega
                    obtain ⟨_, _, ⟨cb, fb⟩⟩ := hown.at i' hlt
                    rw [← hmany] at cb
                    obtain ⟨_, _, ra, rc, he, d0w, hrow⟩ := hT i' (by rw [← HN.out]; exact hlt)
                    cases he
                    have d0 := (gr_cell hgr (lt_of_cell d0w)).trans d0w
                    clear d0w
                    obtain ⟨R, hR⟩ : ∃ R, R = T.getD i' [] := ⟨_, rfl⟩
                    obtain ⟨hRl, hRx, hRs⟩ := HROW.out i' hlt
                    rw [← hR] at d0 hrow hRl hRx hRs
                    rw [hRl] at d0
                    obtain ⟨b3, o3, rfl, _⟩ := hrow 0 _ (ints_get R 0 (by omega))
                    have HINV := Lib.hid hinv
                    have HROW0 : Hid (InsRow i' 0 many R B) := by show InsRow _ _ _ _ _; unfold InsRow; rw [← hmany]; simp
                    have HRX := Lib.hid hRx
                    clear hinv hRx hR hmany hm1 hm2
                    go_wp2_with (fail)
                    go_loopw [106] (fun i wr => ∃ (j : Nat) (A L B : List Int), j ≤ k ∧ i = .int .i64 j ∧ InsInv k W S A L B ∧ InsRow i' j many R B ∧ Own3 wr w.heap.size k cl gs gl gb A L B ∧
                      w.grownBy wr none ∧ wr.cell? ⟨w.heap.size, 0, none⟩ = some (.slice (some ⟨b0, o0, none⟩) k c)) (fun i _ => k - (intOf i).toNat)
                    case atStart => exact ⟨0, _, _, _, Nat.zero_le _, rfl, HINV.out, HROW0.out, hown, hgr, tr⟩
                    case round =>
                      clear hown hgr tr HINV HROW0 cb fb
                      obtain ⟨j, A, L, B, hj, rfl, hinv, hrow0, hown, hgr, tr⟩ := hrel
                      obtain ⟨wj, rfl⟩ : ∃ wj : World, wj = wr := ⟨_, rfl⟩
                      by_cases hltj : j < k
                      · obtain ⟨sh, hsh⟩ : ∃ sh, sh = R.getD j 0 := ⟨_, rfl⟩
                        have hshm : sh ∈ R := by rw [hsh, List.getD_eq_getElem?_getD, List.getElem?_eq_getElem (by omega)]; exact List.getElem_mem _
                        obtain ⟨hs0, hs1⟩ := HRX.out sh hshm
                        obtain ⟨_, _, he, cr⟩ := (hrow.keep0 hgr) j _ (ints_get R j (by omega))
                        cases he
                        rw [← hsh] at cr
                        obtain ⟨p, hp⟩ : ∃ p, p = many * sh := ⟨_, rfl⟩
                        have hp0 : 0 ≤ p := by rw [hp]; exact Int.mul_nonneg hm0 hs0
                        have hp1 : p ≤ 1000000 * 100 := by rw [hp]; exact Int.mul_le_mul hm3 hs1 hs0 (by omega)
                        obtain ⟨q, hq⟩ : ∃ q, q = p / 100 := ⟨_, rfl⟩
                        have hq0 : 0 ≤ q := by omega
                        have hq1 : q ≤ 1000000 := by omega
                        have hqt : p.tdiv 100 = q := by rw [hq]; exact Int.tdiv_eq_ediv_of_nonneg hp0
                        obtain ⟨y, hy⟩ : ∃ y, y = L.getD j 0 := ⟨_, rfl⟩
                        have hy0 := hinv.l0 j hltj
                        rw [← hy] at hy0
                        have hal := hinv.al j hltj
                        have ham := hinv.am j hltj
                        have hwj := HWB.out j hltj
                        have hsj := HSB.out j hltj
                        obtain ⟨x, hx⟩ : ∃ x, x = A.getD j 0 := ⟨_, rfl⟩
                        rw [← hx, ← hy] at hal
                        rw [← hx] at ham
                        have hx0 : 0 ≤ x := by omega
                        have hx1 : x ≤ 1000000 := by omega
                        have hy1 : y ≤ 1000000 := by omega
                        obtain ⟨z, hz⟩ : ∃ z, z = B.getD i' 0 := ⟨_, rfl⟩
                        have hz0 := hinv.b0 i' hlt
                        have hz1 := hinv.bw i' hlt
                        have hz2 := (HWB.out i' hlt).2
                        rw [← hz] at hz0 hz1
                        have hz3 : z ≤ 1000000 := by omega
                        obtain ⟨m, hm⟩ : ∃ m, m = min q y := ⟨_, rfl⟩
                        have hm_0 : 0 ≤ m := by omega
                        have hm_q : m ≤ q := by omega
                        have hmin : (if y < q then y else q) = m := by rw [hm]; split <;> omega
                        obtain ⟨⟨ca, fa⟩, ⟨cl1, fl1⟩, _⟩ := hown.at j hltj
                        rw [← hx] at ca
                        rw [← hy] at cl1
                        have o1 := (hown.setA j hltj (x + m)).undrew
                        have o2 := (o1.setL j hltj (y - m)).undrew
                        have o3 := (o2.setB i' hlt (z - m)).undrew
                        obtain ⟨_, ⟨cl2, fl2⟩, _⟩ := o1.at j hltj
                        obtain ⟨_, _, ⟨cb3, fb3⟩⟩ := o2.at i' hlt
                        rw [← hy] at cl2
                        rw [← hz] at cb3
                        have hnx := hinv.next hlt hltj hRl HRX.out hRs hm0 (k := m) (by rw [hm, hq, hp, hsh, hy]) hrow0
                        rw [← hx, ← hy, ← hz] at hnx
                        have g3 := gr_new (gr_new (gr_new hgr (hown.low.1.1) (.int .i64 (x + m)) (q := ⟨gs, j, none⟩)) (hown.low.2.1.1) (.int .i64 (y - m)) (q := ⟨gl, j, none⟩)) (hown.low.2.2.1) (.int .i64 (z - m)) (q := ⟨gb, i', none⟩)
                        have tr3 := cell_set1 (j := i') (cell_set1 (j := j) (cell_set1 (j := j) tr m1 (.int .i64 (x + m))) m2 (.int .i64 (y - m))) m3 (.int .i64 (z - m))
                        have HNX := Lib.hid hnx
                        have G3 := Lib.hid g3
                        have TR3 := Lib.hid tr3
                        have O3 := Lib.hid o3
                        have hpx : many * sh = p := hp.symm
                        clear hnx g3 tr3 o1 o2 o3 hown hgr tr hinv hrow0 hm hz hx hy hq hp hsh hshm hal ham hwj hsj hz1 hz2
                        go_wp2_with (fail)
                        go_roundw
                        case rel => exact ⟨j + 1, _, _, _, Nat.succ_le_of_lt hltj, by go_num, HNX.out.1, HNX.out.2.1, O3.out, G3.out, TR3.out⟩
                        case measure => simp [intOf]; omega
                      · have hjk : j = k := by omega
                        subst hjk
                        have HINV2 := Lib.hid hinv
                        clear hltj hinv hrow0
                        go_wp2_with (fail)
                        go_roundw
                        case rel => exact ⟨i' + 1, _, _, _, Nat.succ_le_of_lt hlt, by go_num, HINV2.out, hown, hgr, tr⟩
                        case measure => simp [intOf]; omega
                  · have hik : i' = k := by omega
                    subst hik
                    have HINV2 := Lib.hid hinv
                    clear hlt hinv
                    go_wp2_with (fail)
                    refine bodyPost_ret (results_tmp3 rfl _ _ _) rfl (.inr ⟨hfin2.out, A, B, L, gs, gb, ?_⟩)
                    rw [← HN.out]
                    exact ⟨rfl, HINV2.out, hown.a, hown.b, hown.sb, hgr⟩
      · have q2 : ((S.length : Int) != (T.length : Int)) = true := by simp; omega
        have hfin : Hid (insteadCode T W S = 3) := by show _ = _; unfold insteadCode; rw [if_neg (by omega), if_pos (.inr hS1)]
        clear hS1 ht
        go_wp2_with (fail)
        refine bodyPost_ret (results_tmp3 rfl _ _ _) rfl (.inl ⟨by rw [hfin.out]; decide, by rw [hfin.out]; rfl, hg01⟩)
    · have q1 : ((W.length : Int) != (T.length : Int)) = true := by simp; omega
      have hfin : Hid (insteadCode T W S = 3) := by show _ = _; unfold insteadCode; rw [if_neg (by omega), if_pos (.inl hW1)]
      clear hW1 ht
      go_wp2_with (fail)
      refine bodyPost_ret (results_tmp3 rfl _ _ _) rfl (.inl ⟨by rw [hfin.out]; decide, by rw [hfin.out]; rfl, hg01⟩)
  · have q0 : (tableCode T == 0) = false := beq_eq_false_iff_ne.2 ht
    have hfin : Hid (insteadCode T W S = tableCode T) := by show _ = _; unfold insteadCode; rw [if_pos ht]
    have HT := Lib.hid ht
    clear ht
    go_wp2_with (fail)
    refine bodyPost_ret (results_tmp3 rfl _ _ _) rfl (.inl ⟨by rw [hfin.out]; exact HT.out, by rw [hfin.out]; rfl, hg01⟩)
end Go.Proofs.Ytlpkancpjdihgaa
