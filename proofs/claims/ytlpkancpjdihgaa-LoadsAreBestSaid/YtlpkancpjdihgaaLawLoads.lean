/- The walk of LoadsAreBest. -/
import Derived.Test.YtlpkancpjdihgaaLoadsPure
import Derived.Test.YtlpkancpjdihgaaTogether
import Derived.Test.YtlpkancpjdihgaaDemands
import Derived.Deep.DeepFit
namespace Go.Proofs.Ytlpkancpjdihgaa
open Go.RowKit

theorem set_two {w : World} {p : Nat} {u0 u1 : Value} {t : TypeId} (h : w.heap[p]? = some (.cells #[u0, u1] t (0, 0))) (v0 v1 : Value) : ((w.setCell ⟨p, 0, none⟩ v0).setCell ⟨p, 1, none⟩ v1).heap[p]? = some (.cells #[v0, v1] t (0, 0)) :=
  heap_setCell_same _ p 1 _ t v1 (heap_setCell_same w p 0 _ t v0 h)

set_option maxRecDepth 100000 in
set_option maxHeartbeats 2000000 in
theorem loadsAreBest_any (l : List Int) (a : Option Addr) (cap : Nat) (w : World) (hc : CellsAt w a (ints l)) (hl : l.length ≤ 9223372036854775807) :
    Calls Try.prog 8 #[.slice a l.length cap] w fun e w' => e = .returned (.bool true) ∧ w.grownBy w' none := by
  have hs0 := StreamAt.made cap hc hl
  have hg0 : w.grownBy (w.alloc (.cells #[.slice a l.length cap, .int .i64 0] 25)) none := gr_alloc (gr_refl _ _) _
  obtain ⟨w0, hw0⟩ : ∃ w0, w0 = w.alloc (.cells #[.slice a l.length cap, .int .i64 0] 25) := ⟨_, rfl⟩
  have hz0 : w0.heap.size = w.heap.size + 1 := by rw [hw0]; simp
  rw [← hw0] at hs0 hg0
  go_enter Try.func8, Try.ntmps8
  go_wp2_with (fail)
  rw [← hw0]
  have HW0 := Lib.hid hw0; clear hw0
  refine (histogram_any l 0 _ w0 hs0 (by omega)).mono ?_
  rintro e w1 ⟨v1, rfl, hown1, hs1, hg1⟩
  have hk1 := histM_k l 0
  have hHl := histM_len l 0
  have hHm := histM_mem l 0
  obtain ⟨h, hh⟩ : ∃ h, h = (histM l 0).1 := ⟨_, rfl⟩
  obtain ⟨k1, hk1e⟩ : ∃ k1, k1 = (histM l 0).2 := ⟨_, rfl⟩
  rw [← hh] at hown1 hHl hHm
  rw [← hk1e] at hs1 hk1
  have HH := Lib.hid hh
  clear hh hk1e
  obtain ⟨ah, ch, rfl, hch, _, _, _⟩ := own_shape hown1
  go_wp2_with (fail)
  refine (pick_any l k1 [0, 50, 100] _ w1 hs1 (by omega) (by decide) (by decide)).mono ?_
  rintro e w2 ⟨rfl, hs2, hg2⟩
  have hmm := pickM_mem l k1 [0, 50, 100] (by decide)
  obtain ⟨mar, hmar⟩ : ∃ mar, mar = pickM l k1 [0, 50, 100] := ⟨_, rfl⟩
  rw [← hmar] at hmm
  rw [← hmar]
  clear hmar
  simp only [List.mem_cons, List.not_mem_nil, or_false] at hmm
  have hm0 : 0 ≤ mar := by omega
  have hm1 : mar ≤ 100 := by omega
  clear hmm
  go_wp2_with (fail)
  refine (pick_any l (k1 + 1) [0, 10, 60] _ w2 hs2 (by omega) (by decide) (by decide)).mono ?_
  rintro e w3 ⟨rfl, hs3, hg3⟩
  have hmm := pickM_mem l (k1 + 1) [0, 10, 60] (by decide)
  obtain ⟨was, hwas⟩ : ∃ was, was = pickM l (k1 + 1) [0, 10, 60] := ⟨_, rfl⟩
  rw [← hwas] at hmm
  rw [← hwas]
  clear hwas
  simp only [List.mem_cons, List.not_mem_nil, or_false] at hmm
  have hw0 : 0 ≤ was := by omega
  have hw1 : was ≤ 60 := by omega
  clear hmm
  have hg13 := gr_trans hg2 hg3
  have hown3 := own_keepS hown1 hg13 (by omega)
  have hgr3 := gr_grown hg0 (gr_trans hg1 hg13) (fun k e => by cases e; exact Nat.le_refl _)
  obtain ⟨_, _, he, _, _, hcH, _⟩ := own_shape hown3
  cases he
  clear hs0 hs1 hs2 hs3 hg0 hg1 hg2 hg3 hg13 hown1 hown3 hc hl
  have HF := Lib.hid (histFault_any h ah ch w3 hcH (by omega) (fun x hx => by have := hHm x hx; omega))
  have HHM := Lib.hid hHm
  clear hHm
  go_wp2_with (fail)
  refine HF.out.mono ?_
  rintro e w4 ⟨rfl, hg4⟩
  have hgr4 := gr_trans hgr3 hg4
  have hcH4 := hcH.keep0 hg4
  clear hgr3 hg4 hcH HF
  by_cases hcode : histCode h = 0
  · rw [hcode]
    by_cases h20 : h.length ≤ 20
    · have hlight := hist_light l 0 h HH.out hcode h20
      obtain ⟨_, hb, hs0, hs1⟩ := histCode_ok h hcode
      have HB := Lib.hid hb
      have HLI := Lib.hid hlight
      have HCO := Lib.hid hcode
      clear hb hlight hcode hHl
      go_wp2_with (fail)
      refine (order_any h 12 mar was ah ch w4 hcH4 HCO.out (by omega) (by omega) hm0 (by omega) hw0 (by omega)).mono ?_
      rintro e w5 ⟨best, rfl, hbest, hg5⟩
      have hgr5 := gr_trans hgr4 hg5
      have hcH5 := hcH4.keep0 hg5
      have hble := hbest.le
      have HBE := Lib.hid hbest
      have hbb := gain_facts h best mar was (fun x hx => (HB.out x hx).1) (by omega) (by omega) hm0 hm1 hw0 hw1
      obtain ⟨⟨hx0, hx1⟩, hy0, hy1⟩ := gain_small h best mar was (fun x hx => (HB.out x hx).1) hs0 HLI.out (by omega) (by omega) hm0 hm1 hw0 hw1
      have hfr := (frac_facts (gainM h best mar was) h.sum hs0).2.2.1
      have HPR := Lib.hid (profit_any h best mar was ah ch w5 hcH5 HCO.out (by omega) (by omega) (by omega) hm0 (by omega) hw0 (by omega) (by omega) (by omega))
      obtain ⟨tx, htx⟩ : ∃ tx, tx = gainM h best mar was / Int.gcd (gainM h best mar was) h.sum := ⟨_, rfl⟩
      obtain ⟨ty, hty⟩ : ∃ ty, ty = h.sum / Int.gcd (gainM h best mar was) h.sum := ⟨_, rfl⟩
      rw [← htx, ← hty] at HPR hfr
      rw [← htx] at hx0 hx1
      rw [← hty] at hy0 hy1
      have HFR := Lib.hid hfr
      clear htx hty hfr hbb hbest hgr4 hcH4 hg5
      go_wp2_with (fail)
      refine HPR.out.mono ?_
      rintro e w6 ⟨rfl, hg6⟩
      have hgr6 := gr_trans hgr5 hg6
      have hcH6 := hcH5.keep0 hg6
      clear HPR hgr5 hcH5 hg6
      have hb12 : (best : Int) ≤ 12 := by omega
      go_wp2_with (fail)
      have hga := gr_alloc (gr_alloc (gr_refl w6 none) (.cells #[.int .i64 tx, .int .i64 ty] 28)) (.cells #[.int .i64 1, .int .i64 1] 28)
      have T7 := heap_alloc2_old w6 (.cells #[.int .i64 tx, .int .i64 ty] 28) (.cells #[.int .i64 1, .int .i64 1] 28)
      have B7 := heap_alloc2_new w6 (.cells #[.int .i64 tx, .int .i64 ty] 28) (.cells #[.int .i64 1, .int .i64 1] 28)
      have hz6 := hgr6.size
      go_loopw [70] (fun i wr => ∃ (n : Nat) (C bx by_ : Int), n ≤ 13 ∧ i = .int .i64 n ∧ wr.heap[w6.heap.size]? = some (.cells #[.int .i64 tx, .int .i64 ty] 28 (0, 0)) ∧
        wr.heap[w6.heap.size + 1]? = some (.cells #[.int .i64 bx, .int .i64 by_] 28 (0, 0)) ∧ 0 ≤ bx ∧ bx ≤ 1000000000 ∧ 1 ≤ by_ ∧ by_ ≤ 1000000000 ∧ bx * h.sum = C * by_ ∧ chanceM h n ≤ C ∧ w6.grownBy wr none) (fun i _ => 13 - (intOf i).toNat)
      case atStart => exact ⟨0, h.sum, 1, 1, by omega, rfl, T7, B7, by omega, by omega, by omega, by omega, by omega, (chance_le h (fun x hx => (HB.out x hx).1) 0).2.2, hga⟩
      case round =>
        clear T7 B7 hga
        obtain ⟨n, C, bx, by_, hn, rfl, ht, hbf, hbx0, hbx1, hby0, hby1, hbC, hcC, hg6o⟩ := hrel
        obtain ⟨wo, rfl⟩ : ∃ wo : World, wo = wr := ⟨_, rfl⟩
        have hgr := gr_trans hgr6 hg6o
        have hcH := hcH6.keep0 hg6o
        have HBC := Lib.hid hbC
        have HCC := Lib.hid hcC
        have HT := Lib.hid ht
        have HBF := Lib.hid hbf
        have hb7 := lt_of_block hbf
        clear hbC hcC ht hbf
        by_cases hlt : n < 13
        · have hbb := gain_facts h n mar was (fun x hx => (HB.out x hx).1) (by omega) (by omega) hm0 hm1 hw0 hw1
          obtain ⟨⟨hp0, hp1⟩, hq0, hq1⟩ := gain_small h n mar was (fun x hx => (HB.out x hx).1) hs0 HLI.out (by omega) (by omega) hm0 hm1 hw0 hw1
          have hfr := (frac_facts (gainM h n mar was) h.sum hs0).2.2.1
          have HPR := Lib.hid (profit_any h n mar was ah ch wo hcH HCO.out (by omega) (by omega) (by omega) hm0 (by omega) hw0 (by omega) (by omega) (by omega))
          have HCH := Lib.hid (fun (w' : World) (g : wo.grownBy w' none) => chance2_any h n ah ch w' (hcH.keep0 g) HCO.out hch)
          obtain ⟨px, hpx⟩ : ∃ px, px = gainM h n mar was / Int.gcd (gainM h n mar was) h.sum := ⟨_, rfl⟩
          obtain ⟨py, hpy⟩ : ∃ py, py = h.sum / Int.gcd (gainM h n mar was) h.sum := ⟨_, rfl⟩
          rw [← hpx, ← hpy] at HPR hfr
          rw [← hpx] at hp0 hp1
          rw [← hpy] at hq0 hq1
          obtain ⟨hcc1, hcc0, hccs⟩ := chance_le h (fun x hx => (HB.out x hx).1) n
          obtain ⟨hd0, hd1, hfc, hcb, _⟩ := frac_facts (chanceM h n) h.sum hs0
          obtain ⟨hc0, hc1⟩ := hcb 1000000000 (by omega) (by omega) (by omega)
          have hc00 : 0 ≤ chanceM h n / Int.gcd (chanceM h n) h.sum := Int.ediv_nonneg hcc0 (by omega)
          obtain ⟨cx, hcx⟩ : ∃ cx, cx = chanceM h n / Int.gcd (chanceM h n) h.sum := ⟨_, rfl⟩
          obtain ⟨cy, hcy⟩ : ∃ cy, cy = h.sum / Int.gcd (chanceM h n) h.sum := ⟨_, rfl⟩
          rw [← hcx, ← hcy] at HCH hfc
          rw [← hcx] at hc1 hc00
          rw [← hcy] at hd0 hd1
          have hle := cross_le hs0 hq0 hy0 hfr HFR.out (HBE.out.top n (by omega))
          have hltb : n < best → px * ty < tx * py := fun e => cross_lt hs0 hq0 hy0 hfr HFR.out (HBE.out.first n e)
          have hcl := cross_le hs0 hd0 hby0 hfc HBC.out HCC.out
          obtain ⟨A, hA⟩ : ∃ A, px * ty = A := ⟨_, rfl⟩
          obtain ⟨B, hB⟩ : ∃ B, tx * py = B := ⟨_, rfl⟩
          obtain ⟨D, hD⟩ : ∃ D, cx * by_ = D := ⟨_, rfl⟩
          obtain ⟨E, hE⟩ : ∃ E, bx * cy = E := ⟨_, rfl⟩
          have hA1 : A ≤ 400000000 * 200000 := by
            rw [← hA]
            have h1 : px * ty ≤ 400000000 * ty := Int.mul_le_mul_of_nonneg_right hp1 (by omega)
            omega
          have hA0 : -(400000000 * 200000) ≤ A := by
            rw [← hA]
            have h1 : -400000000 * ty ≤ px * ty := Int.mul_le_mul_of_nonneg_right hp0 (by omega)
            omega
          have hB1 : B ≤ 400000000 * 200000 := by
            rw [← hB]
            have h1 : tx * py ≤ 400000000 * py := Int.mul_le_mul_of_nonneg_right hx1 (by omega)
            omega
          have hB0 : -(400000000 * 200000) ≤ B := by
            rw [← hB]
            have h1 : -400000000 * py ≤ tx * py := Int.mul_le_mul_of_nonneg_right hx0 (by omega)
            omega
          have hD0 : 0 ≤ D := by rw [← hD]; exact Int.mul_nonneg hc00 (by omega)
          have hD1 : D ≤ 1000000000 * 1000000000 := by rw [← hD]; exact Int.mul_le_mul hc1 hby1 (by omega) (by omega)
          have hE0 : 0 ≤ E := by rw [← hE]; exact Int.mul_nonneg hbx0 (by omega)
          have hE1 : E ≤ 1000000000 * 1000000000 := by rw [← hE]; exact Int.mul_le_mul hbx1 (by omega) (by omega) (by omega)
          rw [hA, hB] at hle hltb
          rw [hD, hE] at hcl
          have HFC := Lib.hid hfc
          have HC1 := Lib.hid hcc1
          have HLB := Lib.hid hltb
          clear hfr hpx hpy hcc1 hcc0 hccs hfc hcb hc0 hcx hcy hltb hbb
          go_wp2_with (fail)
          refine HPR.out.mono ?_
          rintro e w8 ⟨rfl, hg8⟩
          go_wp2_with (fail)
          have hgp := gr_alloc (gr_refl w8 none) (.cells #[.int .i64 px, .int .i64 py] 28)
          refine (HCH.out _ (gr_trans hg8 hgp)).mono ?_
          rintro e w9 ⟨rfl, hg9⟩
          have hgz := gr_trans (gr_trans hg8 hgp) (gr_alloc hg9 (.cells #[.int .i64 cx, .int .i64 cy] 28))
          have hpz := gr_alloc hg9 (.cells #[.int .i64 cx, .int .i64 cy] 28)
          have pz0 := made_cell hpz 0 (v := .int .i64 px) rfl
          have pz1 := made_cell hpz 1 (v := .int .i64 py) rfl
          have htz := hgz.block w6.heap.size (by omega) (by simp)
          rw [HT.out] at htz
          have hbz := hgz.block (w6.heap.size + 1) hb7 (by simp)
          rw [HBF.out] at hbz
          have tz0 : (w9.alloc (.cells #[.int .i64 cx, .int .i64 cy] 28)).cell? ⟨w6.heap.size, 0, none⟩ = some (.int .i64 tx) := cell_of_row _ _ 0 _ _ _ htz
          have tz1 : (w9.alloc (.cells #[.int .i64 cx, .int .i64 cy] 28)).cell? ⟨w6.heap.size, 1, none⟩ = some (.int .i64 ty) := cell_of_row _ _ 1 _ _ _ htz
          have bz0 : (w9.alloc (.cells #[.int .i64 cx, .int .i64 cy] 28)).cell? ⟨w6.heap.size + 1, 0, none⟩ = some (.int .i64 bx) := cell_of_row _ _ 0 _ _ _ hbz
          have bz1 : (w9.alloc (.cells #[.int .i64 cx, .int .i64 cy] 28)).cell? ⟨w6.heap.size + 1, 1, none⟩ = some (.int .i64 by_) := cell_of_row _ _ 1 _ _ _ hbz
          have fz0 : (w9.alloc (.cells #[.int .i64 cx, .int .i64 cy] 28)).frozen? ⟨w6.heap.size + 1, 0, none⟩ = false := by simp [World.frozen?, hbz]
          have fz1 : (w9.alloc (.cells #[.int .i64 cx, .int .i64 cy] 28)).frozen? ⟨w6.heap.size + 1, 1, none⟩ = false := by simp [World.frozen?, hbz]
          have g6z := gr_trans hg6o hgz
          have HTZ := Lib.hid htz
          have HBZ := Lib.hid hbz
          have G6Z := Lib.hid g6z
          clear htz hbz g6z hgz hpz hgp hg8 hg9 hgr hcH HPR HCH
          rcases Nat.lt_or_ge n best with hnb | hnb
          · have hAB := HLB.out hnb
            have hnbI : (n : Int) < (best : Int) := by omega
            clear hle
            go_wp2_with (fail)
            go_roundw
            case rel =>
              refine ⟨n + 1, chanceM h n, cx, cy, by omega, by go_num, ?_, set_two HBZ.out _ _, hc00, hc1, hd0, Int.le_trans hd1 hs1, HFC.out, HC1.out, gr_new (gr_new G6Z.out (by simp) _) (by simp) _⟩
              rw [heap_setCell_other _ _ _ _ (by simp), heap_setCell_other _ _ _ _ (by simp)]
              exact HTZ.out
            case measure => simp [intOf]; omega
          · have hnbI : ¬ ((n : Int) < (best : Int)) := by omega
            go_wp2_with (fail)
            go_roundw
            case rel =>
              refine ⟨n + 1, chanceM h n, cx, cy, by omega, by go_num, ?_, set_two HBZ.out _ _, hc00, hc1, hd0, Int.le_trans hd1 hs1, HFC.out, HC1.out, gr_new (gr_new G6Z.out (by simp) _) (by simp) _⟩
              rw [heap_setCell_other _ _ _ _ (by simp), heap_setCell_other _ _ _ _ (by simp)]
              exact HTZ.out
            case measure => simp [intOf]; omega
        · have hn13 : n = 13 := by omega
          subst hn13
          clear hlt
          go_wp2_with (fail)
          refine (together_any h 2 ah ch wo hcH HCO.out (by omega) (by omega)).mono ?_
          rintro e w10 (⟨_, rfl, hg10⟩ | ⟨v, N, rfl, hN, hNs, hNb, hNl, hg10⟩)
          · go_wp2_with (fail)
            refine (demands_any _).mono ?_
            rintro e w11 ⟨rfl, hg11⟩
            go_wp2_with (fail)
            go_ret
            exact ⟨rfl, gr_trans (gr_trans hgr hg10) hg11⟩
          · obtain ⟨av, cv, rfl, _, _, hcN, _⟩ := own_shape hN
            have hcHx := hcH.keep0 hg10
            obtain ⟨S, hS⟩ : ∃ S, S = h.sum := ⟨_, rfl⟩
            have hS0 := hs0
            have hS1 := hs1
            rw [← hS] at hS0 hS1
            obtain ⟨Q, hQ⟩ : ∃ Q, S * S = Q := ⟨_, rfl⟩
            have hQ0 : 0 ≤ Q := by rw [← hQ]; exact Int.mul_nonneg (by omega) (by omega)
            have hQ1 : Q ≤ 1000000000 * 1000000000 := by rw [← hQ]; exact Int.mul_le_mul hS1 hS1 (by omega) (by omega)
            have hNQ : N.sum = Q := by rw [hNs, ← hQ, hS]; simp [pw]
            have CN := Lib.hid (fun (w' : World) (g : w10.grownBy w' none) => keepTotal_any N av cv w' (hcN.keep0 g) (by omega) (fun x hx => by have := hNb x hx; omega))
            have CH := Lib.hid (fun (w' : World) (g : w10.grownBy w' none) => keepTotal_any h ah ch w' (hcHx.keep0 g) (by omega) (fun x hx => by have := HB.out x hx; omega))
            rw [hNQ] at CN
            rw [← hS] at CH
            have hgr10 := gr_trans hgr hg10
            clear hN hNs hNb hcN hcHx hNQ hS hg10 hs0 hs1
            go_wp2_with (fail)
            refine (demands_any _).mono ?_
            rintro e w11 ⟨rfl, hg11⟩
            go_wp2_with (fail)
            refine (CN.out w11 hg11).mono ?_
            rintro e w12 ⟨rfl, hg12⟩
            have g1 := gr_trans hg11 hg12
            go_wp2_with (fail)
            refine (CH.out w12 g1).mono ?_
            rintro e w13 ⟨rfl, hg13⟩
            have g2 := gr_trans g1 hg13
            go_wp2_with (fail)
            refine (CH.out w13 g2).mono ?_
            rintro e w14 ⟨rfl, hg14⟩
            go_wp2_with (fail)
            go_ret
            exact ⟨ret_bool (by simp), gr_trans hgr10 (gr_trans g2 hg14)⟩
    · have h20' : 20 < h.length := by omega
      clear h20 hcode
      go_wp2_with (fail)
      refine (demands_any _).mono ?_
      rintro e w5 ⟨rfl, hg5⟩
      go_wp2_with (fail)
      go_ret
      exact ⟨rfl, gr_trans hgr4 hg5⟩
  · have q0 : (histCode h == 0) = false := beq_eq_false_iff_ne.2 hcode
    have q1 : (histCode h != 0) = true := by simpa using hcode
    clear hcode
    go_wp2_with (fail)
    refine (demands_any _).mono ?_
    rintro e w5 ⟨rfl, hg5⟩
    go_wp2_with (fail)
    go_ret
    exact ⟨rfl, gr_trans hgr4 hg5⟩
end Go.Proofs.Ytlpkancpjdihgaa
