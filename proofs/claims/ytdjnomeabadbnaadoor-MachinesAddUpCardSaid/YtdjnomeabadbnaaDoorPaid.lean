/- vend.paid, vend.Change. -/
import Derived.Test.YtdjnomeabadbnaaDoorPayments
import Derived.Test.YtdjnomeabadbnaaDoorGreedy
namespace Go.Proofs.YtdjnomeabadbnaaDoor
open Go.RowKit

theorem sum_put (f : List Int) (k : Nat) (y : Int) (hk : k < f.length) : (f.set k y).sum = f.sum + (y - f.getD k 0) := by
  induction f generalizing k with
  | nil => simp at hk
  | cons x f ih =>
    cases k with
    | zero => simp; omega
    | succ k =>
      have := ih k (by simpa using hk)
      simp at this
      simp [this]; omega
def PaidPost (l : List Tube) (amount : Nat) (w : World) (e : Ending) (w' : World) : Prop :=
  ∃ R : Nat → Int, RowOk (vT l) (cT l) l.length (amount + 1) R ∧ w.grownBy w' none ∧
    ((1073741824 ≤ R amount ∧ e = .returned (.tuple #[.slice none 0 0, .bool false])) ∨
     (R amount < 1073741824 ∧ ∃ v f, e = .returned (.tuple #[v, .bool true]) ∧ w'.ownsRow w.heap.size 3 1 v l.length (ints f) ∧ (∀ k, k < l.length → 0 ≤ f.getD k 0 ∧ f.getD k 0 ≤ (tubeAt l k).count) ∧ worthM l f = amount ∧ f.sum = R amount))
/-- A row of rows that are read, and its number at a place. -/
theorem rows_num {w : World} {a : Option Addr} {T : List (List Int)} (h : RowsAt w a T) (i j : Nat) (hi : i < T.length) (hj : j < (T.getD i []).length) :
    ∃ b off rb ro rc, a = some ⟨b, off, none⟩ ∧ w.cell? ⟨b, off + i, none⟩ = some (.slice (some ⟨rb, ro, none⟩) (T.getD i []).length rc) ∧ w.cell? ⟨rb, ro + j, none⟩ = some (.int .i64 ((T.getD i []).getD j 0)) := by
  obtain ⟨b, off, ra, rc, rfl, hc, hr⟩ := h i hi
  obtain ⟨rb, ro, rfl, hx⟩ := hr j _ (ints_get _ j hj)
  exact ⟨b, off, rb, ro, rc, rfl, hc, hx⟩

set_option maxRecDepth 100000 in
set_option maxHeartbeats 4000000 in
theorem paid_any (l : List Tube) (amount : Nat) (a : Option Addr) (c : Nat) (w : World) (hc : CellsAt w a (tubes l)) (ho : OkTubes l) (hmo : amount ≤ 20000) :
    Calls Tryd.prog 97 #[.slice a l.length c, .int .i64 amount] w (PaidPost l amount w) := by
  have hl := ho.len
  go_enter Tryd.func97, Tryd.ntmps97
  go_wp2_with (fail)
  refine (payments_any l amount a c w hc ho hmo).mono ?_
  rintro e w2 ⟨v, T, vs, rfl, hrows, hg2, hpays⟩
  have hTl := hpays.len
  have hRl := hpays.row
  obtain ⟨g0, cap0, rfl, hg0b, hg0w, hg0c, _⟩ := own_some hrows.outer (by omega)
  have hrw := pays_row ho (Nat.le_refl _) hpays
  have hra := hrows.rows.2
  obtain ⟨_, _, rb, ro, rc, he, hcell, hnum⟩ := rows_num hra l.length amount (by omega) (by rw [hRl _ (Nat.le_refl _)]; omega)
  cases he
  rw [Nat.zero_add] at hcell
  have hlast := hrw l.length (Nat.le_refl _)
  obtain ⟨x, hx⟩ : ∃ x, x = (T.getD l.length []).getD amount 0 := ⟨_, rfl⟩
  rw [← hx] at hnum
  have hRL := hRl l.length (Nat.le_refl _)
  rw [hRL] at hcell
  have HX := Lib.hid hx
  have HRW := Lib.hid hrw
  have HLAST := Lib.hid hlast
  have HRA := Lib.hid hra
  have HRL := Lib.hid hRl
  have HP := Lib.hid hpays
  have HTL := Lib.hid hTl
  rw [hTl]
  clear hx hrw hlast hra hRl hpays hTl hRL hrows
  by_cases hxn : 1073741824 ≤ x
  · go_wp2_with (fail)
    go_ret2
    exact ⟨_, HLAST.out, hg2, .inl ⟨by rw [← HX.out]; exact hxn, rfl⟩⟩
  · go_wp2_with (at_make; refine wpList_mk _ eInt rfl _ _ rfl w2.heap.size _ l.length rfl rfl rfl ?_ ?_ ?_; (· omega); (· omega); intro w3 hown3 hg3)
    go_wp2_with (fail)
    have hz0 : ∀ k, k < l.length → 0 ≤ (List.replicate l.length (0 : Int)).getD k 0 ∧ (List.replicate l.length (0 : Int)).getD k 0 ≤ (tubeAt l k).count := fun k hk => by
      have := (ho.ok k hk).c0
      rw [repl_getD]; omega
    go_loopw [1, 8] (fun s i wr => ∃ (j A : Nat) (f : List Int), j ≤ l.length ∧ i = .int .i64 ((j : Int) - 1) ∧ s = .int .i64 A ∧ A ≤ amount ∧ wr.ownsRow w2.heap.size 3 1 (.slice (some ⟨w2.heap.size, 0, none⟩) l.length l.length) l.length (ints f) ∧ w2.grownBy wr none ∧
      (∀ k, k < l.length → 0 ≤ f.getD k 0 ∧ f.getD k 0 ≤ (tubeAt l k).count) ∧ (∀ k, k < j → f.getD k 0 = 0) ∧ worthM l f + A = amount ∧ (T.getD j []).getD A 0 < 1073741824 ∧ f.sum + (T.getD j []).getD A 0 = x) (fun _ i _ => (intOf i + 1).toNat)
    case atStart => exact ⟨l.length, amount, _, Nat.le_refl _, by go_num, rfl, Nat.le_refl _, hown3, hg3, hz0, fun k _ => repl_getD _ _, by rw [worth_zero]; omega, by rw [← HX.out]; omega, by rw [← HX.out]; simp⟩
    case round =>
      obtain ⟨j, A, f, hj, rfl, rfl, hA, hown, hgr, hb, hz, hwa, hTA, hsum⟩ := hrel
      obtain ⟨wo, rfl⟩ : ∃ wo : World, wo = wr := ⟨_, rfl⟩
      have HB := Lib.hid hb
      have HZ := Lib.hid hz
      have HWA := Lib.hid hwa
      have HTA := Lib.hid hTA
      have HS := Lib.hid hsum
      clear hb hz hwa hTA hsum
      cases j with
      | zero =>
        have hA0 : A = 0 ∧ (T.getD 0 []).getD A 0 = 0 := by
          have := HP.out.first.2 A (by omega)
          have := HTA.out
          by_cases e : A = 0
          · subst e; simp_all
          · simp_all
        have hA1 := hA0.1
        have hA2 := hA0.2
        have HA1 := Lib.hid hA1
        have HA2 := Lib.hid hA2
        clear hA0 hA1 hA2
        go_wp2_with (fail)
        go_ret2
        refine ⟨_, HLAST.out, gr_trans hg2 hgr, .inr ⟨by rw [← HX.out]; omega, _, f, rfl, own_base hown hg2.size, HB.out, ?_, ?_⟩⟩
        · have h1 := HWA.out; have h2 := HA1.out; rw [h2] at h1; simpa using h1
        · have h1 := HS.out; rw [HA2.out] at h1; rw [← HX.out]; simpa using h1
      | succ k =>
        have hki : ((k + 1 : Nat) : Int) - 1 = (k : Int) := by omega
        rw [hki]
        have hlt : k < l.length := hj
        obtain ⟨b, off, rfl, hcs⟩ := tubes_cells (hc.keep0 (gr_trans hg2 hgr)) k hlt
        obtain ⟨c0, c1, _⟩ := hcs k hlt
        obtain ⟨hv1, hv2, hv3⟩ := v_pos ho hlt
        obtain ⟨hn1, hn2⟩ := c_pos ho hlt
        have hstep := HP.out.step k hlt
        obtain ⟨j0, hj1, hj2, hj3, hj4⟩ := paid_find hstep (A := A) (by omega) HTA.out
        have hrk := HRW.out k (by omega)
        have hrk1 := HRW.out (k + 1) (by omega)
        obtain ⟨V, hV⟩ : ∃ V, V = vT l k := ⟨_, rfl⟩
        obtain ⟨C, hC⟩ : ∃ C, C = cT l k := ⟨_, rfl⟩
        rw [← hv3, ← hV] at c0
        rw [← hn2, ← hC] at c1
        rw [← hV] at hv1 hv2 hj2 hj3 hj4
        rw [← hC] at hn1 hj1
        obtain ⟨y, hy⟩ : ∃ y, y = (T.getD (k + 1) []).getD A 0 := ⟨_, rfl⟩
        have hyb := row_bound hrk1 A (by omega)
        have hyl := HTA.out
        rw [← hy] at hj4 hyb hyl
        obtain ⟨hy0, hy1⟩ := hyb
        have hrows := HRA.out.keep0 hgr
        obtain ⟨_, _, rb1, ro1, rc1, he, hcell1, hnum1⟩ := rows_num hrows (k + 1) A (by have := HTL.out; omega) (by rw [HRL.out _ (by omega)]; omega)
        cases he
        rw [Nat.zero_add, HRL.out _ (by omega)] at hcell1
        rw [← hy] at hnum1
        have hrows2 := Lib.hid hrows
        have HV := Lib.hid hV
        have HC := Lib.hid hC
        have HY := Lib.hid hy
        have HJ4 := Lib.hid hj4
        have HRK := Lib.hid hrk
        have HV3 := Lib.hid hv3
        have HN2 := Lib.hid hn2
        have hq0 : (0 : Int) ≤ (A : Int) / (V : Int) := Int.ediv_nonneg (by omega) (by omega)
        have hqn : ((A / V : Nat) : Int) = (A : Int) / (V : Int) := by omega
        obtain ⟨q, hq⟩ : ∃ q : Nat, q = A / V := ⟨_, rfl⟩
        have hqd : (A : Int) / (V : Int) = (q : Int) := by rw [hq]; exact hqn.symm
        have hqA : q ≤ A := by rw [hq]; exact Nat.div_le_self _ _
        rw [← hq] at hj2
        have hqv : q * V ≤ A := by rw [hq]; exact Nat.div_mul_le_self _ _
        have hvz : ((V : Int) == 0) = false := beq_eq_false_iff_ne.2 (by omega)
        have HQ := Lib.hid hq
        clear hcs hstep hrk1 hV hC hy hj4 hrk hv3 hn2 hqn hq hq0 hrows
        go_wp2_with (fail)
        go_cut [10] from 38 to 46 (fun s wx => ∃ m0 : Nat, s = .int .i64 m0 ∧ j0 ≤ m0 ∧ m0 ≤ C ∧ m0 ≤ q ∧ wo.grownBy wx none)
        case first =>
          go_region
          all_goals (go_wp2_with (fail))
          all_goals (go_meet; first | exact ⟨C, rfl, by omega, by omega, by omega, gr_drew (gr_refl _ _)⟩ | exact ⟨q, by first | rfl | rw [hqd], by omega, by omega, by omega, gr_drew (gr_refl _ _)⟩)
        case rest =>
        obtain ⟨m0, rfl, hm0, hm1, hm2, hgc⟩ := hcut
        have hownc := own_keep0 hown hgc
        have hgrc := gr_trans hgr hgc
        have hcell1c := (gr_cell hgc (lt_of_cell hcell1)).trans hcell1
        have hnum1c := (gr_cell hgc (lt_of_cell hnum1)).trans hnum1
        have hrowsc := Lib.hid (hrows2.out.keep0 hgc)
        clear hqd hqv hvz hown hgr hcell1 hnum1 hrows2 c0 c1 hgc hqA
        go_wp2_with (fail)
        go_loopw [10] (fun s wr => ∃ m : Nat, s = .int .i64 m ∧ j0 ≤ m ∧ m ≤ C ∧ m ≤ q ∧ wc.grownBy wr none) (fun s _ => (intOf s).toNat)
        case atStart => exact ⟨m0, rfl, hm0, hm1, hm2, gr_refl _ _⟩
        case round =>
          obtain ⟨m, rfl, hm3, hm4, hm5, hgi⟩ := hrel
          obtain ⟨wi, rfl⟩ : ∃ wi : World, wi = wr := ⟨_, rfl⟩
          have hmv : m * V ≤ A := Nat.le_trans (Nat.mul_le_mul_right V hm5) (by rw [HQ.out]; exact Nat.div_mul_le_self _ _)
          obtain ⟨P, hP⟩ : ∃ P, P = m * V := ⟨_, rfl⟩
          have hPi : (m : Int) * (V : Int) = (P : Int) := by rw [hP]; simp
          rw [← hP] at hmv
          obtain ⟨B, hB⟩ : ∃ B, B = A - P := ⟨_, rfl⟩
          have hBi : (A : Int) - (P : Int) = (B : Int) := by omega
          have hrowsi := hrowsc.out.keep0 hgi
          obtain ⟨_, _, rb2, ro2, rc2, he, hcell2, hnum2⟩ := rows_num hrowsi k B (by have := HTL.out; omega) (by rw [HRL.out _ (by omega)]; omega)
          cases he
          rw [Nat.zero_add, HRL.out _ (by omega)] at hcell2
          obtain ⟨z, hz⟩ : ∃ z, z = (T.getD k []).getD B 0 := ⟨_, rfl⟩
          rw [← hz] at hnum2
          have hzb := row_bound HRK.out B (by omega)
          have hcell1i := (gr_cell hgi (lt_of_cell hcell1c)).trans hcell1c
          have hnum1i := (gr_cell hgi (lt_of_cell hnum1c)).trans hnum1c
          rw [← hz] at hzb
          obtain ⟨hz0, hz1⟩ := hzb
          have HP2 := Lib.hid hP
          have HB2 := Lib.hid hB
          have HZ2 := Lib.hid hz
          have hBA : B ≤ A := by omega
          have hkw : IntKind.i64.wrap ((k : Int) + 1) = (k : Int) + 1 := IntWalk.i64_in _ (by omega)
          have hPw : IntKind.i64.wrap (P : Int) = (P : Int) := IntWalk.i64_in _ (by omega)
          have hBw : IntKind.i64.wrap (B : Int) = (B : Int) := IntWalk.i64_in _ (by omega)
          have hzw : IntKind.i64.wrap (z + (m : Int)) = z + (m : Int) := IntWalk.i64_in _ (by omega)
          clear hP hB hz
          by_cases hxy : z + (m : Int) = y
          · have hne : (z + (m : Int) != y) = false := by simp [hxy]
            have HXY := Lib.hid hxy
            clear hxy
            have howni := own_keep0 hownc hgi
            obtain ⟨d0, d1, d2⟩ := own_int howni k hlt
            have D2 := Lib.hid (d2 (m : Int))
            clear d2
            go_wp2_with (fail)
            go_quiet (fail)
            go_wp2_with (fail)
            all_goals (try go_quiet (fail))
            all_goals (try go_wp2_with (fail))
            all_goals go_roundw
            case rel =>
              have hfl : k < f.length := by rw [own_len hownc]; exact hlt
              have hzk := HZ.out k (by omega)
              have hsp := sum_put f k (m : Int) hfl
              have hwp := worth_put l f k (m : Int) (own_len hownc) hlt
              rw [hzk, Int.sub_zero] at hsp hwp
              rw [← HV3.out, ← HV.out, hPi] at hwp
              have h1 := HZ2.out
              have h2 := HXY.out
              have h3 := HY.out
              refine ⟨k, B, f.set k m, by omega, by go_num, by first | rfl | rw [hBi], by omega, own_of_heap D2.out rfl, gr_new_of (gr_trans hgrc hgi) (gr_drewN (gr_set (q := ⟨w2.heap.size, k, none⟩) (gr_drewN (gr_refl wi (some w2.heap.size)) _) rfl _) 0) (Nat.le_refl _), ?_, ?_, ?_, ?_, ?_⟩
              · intro i hi
                rw [getD_set _ _ _ _ hfl]
                split
                · rename_i e
                  subst e
                  rw [← HN2.out, ← HC.out]; omega
                · exact HB.out i hi
              · intro i hi
                rw [getD_set _ _ _ _ hfl, if_neg (by omega)]
                exact HZ.out i (by omega)
              · have := HWA.out
                rw [hwp]; omega
              · rw [← h1]; omega
              · have := HS.out
                rw [← h3] at this
                rw [hsp, ← h1]; omega
            case measure => simp [intOf]
          · have hne : (z + (m : Int) != y) = true := by simp [hxy]
            have hmj : m ≠ j0 := by
              intro e
              apply hxy
              rw [e] at HP2
              have := HJ4.out
              rw [← HP2.out, ← HB2.out, ← HZ2.out] at this
              rw [e]; exact this
            clear hxy
            go_wp2_with (fail)
            go_quiet (fail)
            go_wp2_with (fail)
            go_roundw
            case rel => exact ⟨m - 1, by congr 1; omega, by omega, by omega, by omega, gr_drewN hgi _⟩
            case measure => simp [intOf]; omega
end Go.Proofs.YtdjnomeabadbnaaDoor
