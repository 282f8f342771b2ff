/- vend.payments. -/
import Derived.Test.YtdjnomeabadbnaaDoorFurther
import Derived.Test.YtdjnomeabadbnaaDoorStepApp
import Derived.Deep.RegionHeld3
import Derived.IntWalk
namespace Go.Proofs.YtdjnomeabadbnaaDoor
open Go.RowKit

def FirstTo (n k : Nat) (f : List Int) : Prop := f.length = n ∧ ∀ a, a < n → f.getD a 0 = if a = 0 then 0 else if a < k then 1073741824 else 0
theorem first_next {n k : Nat} {f : List Int} (h : FirstTo n k f) (hk0 : 1 ≤ k) (hk : k < n) : FirstTo n (k + 1) (f.set k 1073741824) := by
  refine ⟨by simp [h.1], fun a ha => ?_⟩
  rw [getD_set _ _ _ _ (by rw [h.1]; exact hk), h.2 a ha]
  by_cases e : a = k
  · subst e
    simp; omega
  · simp only [e, if_false]
    have : a < k + 1 ↔ a < k := by omega
    simp [this]
theorem first_all {n : Nat} {f : List Int} (h : FirstTo n n f) : FirstOk n f := by
  refine ⟨h.1, fun a ha => ?_⟩
  rw [h.2 a ha, if_pos ha]
theorem rows_single {w : World} {base ga m ca : Nat} {R : List Int} (h : w.ownsRow base 3 1 (.slice (some ⟨ga, 0, none⟩) m ca) m (ints R)) (hm : R.length = m) (hb : base ≤ w.heap.size) :
    OwnRows (w.alloc (.cells #[.slice (some ⟨ga, 0, none⟩) m ca] 22)) base (.slice (some ⟨w.heap.size, 0, none⟩) 1 1) [R] [.slice (some ⟨ga, 0, none⟩) m ca] := by
  refine ⟨⟨rfl, .inr ⟨w.heap.size, 1, _, rfl, hb, heap_alloc_new w _, Nat.le_refl _, by decide, rfl, rfl⟩⟩, ?_, ?_⟩
  · intro i hi
    obtain rfl : i = 0 := by simpa using hi
    simp only [List.getD_cons_zero, hm]
    exact h.alloc _
  · intro i j hij hj
    simp at hj; omega

def PaysPost (l : List Tube) (n : Nat) (w : World) (e : Ending) (w' : World) : Prop := ∃ v T vs, e = .returned v ∧ OwnRows w' w.heap.size v T vs ∧ w.grownBy w' none ∧ PaysTo l n l.length T

set_option maxRecDepth 100000 in
set_option maxHeartbeats 4000000 in
theorem payments_any (l : List Tube) (most : Nat) (a : Option Addr) (c : Nat) (w : World) (hc : CellsAt w a (tubes l)) (ho : OkTubes l) (hmo : most ≤ 20000) :
    Calls Tryd.prog 147 #[.slice a l.length c, .int .i64 most] w (PaysPost l (most + 1) w) := by
  have hl := ho.len
  go_enter Tryd.func147, Tryd.ntmps147
  go_wp2_with (at_make; refine wpList_mk _ eInt rfl _ _ rfl w.heap.size _ (most + 1) rfl rfl ?_ ?_ ?_ ?_; (· omega); (· omega); (· omega); intro w2 hown2 hg2)
  go_loopw [6] (fun i wr => ∃ (k : Nat) (f : List Int), 1 ≤ k ∧ k ≤ most + 1 ∧ i = .int .i64 k ∧ wr.ownsRow w.heap.size 3 1 (.slice (some ⟨w.heap.size, 0, none⟩) (most + 1) (most + 1)) (most + 1) (ints f) ∧ FirstTo (most + 1) k f ∧ w.grownBy wr none) (fun i _ => most + 1 - (intOf i).toNat)
  case atStart => exact ⟨1, _, Nat.le_refl _, by omega, rfl, hown2, ⟨by simp, fun a ha => by rw [repl_getD]; split; rfl; rw [if_neg (by omega)]⟩, hg2⟩
  case round =>
    obtain ⟨k, f, hk0, hk1, rfl, hown, hf, hgr⟩ := hrel
    obtain ⟨wo, rfl⟩ : ∃ wo : World, wo = wr := ⟨_, rfl⟩
    have HF := Lib.hid hf
    clear hf
    by_cases hlt : k ≤ most
    · obtain ⟨d0, d1, d2⟩ := own_int hown k (by omega)
      have D2 := Lib.hid (d2 1073741824)
      clear d2
      go_wp2_with (fail)
      go_roundw
      case rel => exact ⟨k + 1, f.set k 1073741824, by omega, by omega, by go_num, D2.out, first_next HF.out hk0 (by omega), gr_new hgr (by simp) _⟩
      case measure => simp [intOf]; omega
    · have hke : k = most + 1 := by omega
      have hf2 := HF.out
      rw [hke] at hf2
      have HF2 := Lib.hid (first_all hf2)
      clear hke hf2 HF
      go_wp2_with (fail)
      have hrows := rows_single hown (own_len hown) hgr.size
      have hgr2 := gr_alloc hgr (.cells #[.slice (some ⟨w.heap.size, 0, none⟩) (most + 1) (most + 1)] 22)
      go_loopw [7, 25] (fun v i wr => ∃ (k : Nat) (T : List (List Int)) (vs : List Value), k ≤ l.length ∧ i = .int .i64 k ∧ OwnRows wr w.heap.size v T vs ∧ PaysTo l (most + 1) k T ∧ w.grownBy wr none) (fun _ i _ => l.length - (intOf i).toNat)
      case atStart => exact ⟨0, _, _, Nat.zero_le _, rfl, hrows, ⟨rfl, fun i hi => by rw [show i = 0 from Nat.le_zero.1 hi]; exact HF2.out.1, HF2.out, fun i hi => absurd hi (Nat.not_lt_zero _)⟩, hgr2⟩
      case round =>
        obtain ⟨k, T, vs, hkl, rfl, hrows, hpays, hgr⟩ := hrel
        obtain ⟨wi, rfl⟩ : ∃ wi : World, wi = wr := ⟨_, rfl⟩
        by_cases hlt : k < l.length
        · obtain ⟨b, off, rfl, hcs⟩ := tubes_cells (hc.keep0 hgr) k hlt
          obtain ⟨c0, c1, c2⟩ := hcs k hlt
          obtain ⟨hv1, hv2, hv3⟩ := v_pos ho hlt
          obtain ⟨hn1, hn2⟩ := c_pos ho hlt
          have hTl := hpays.len
          have hRl := hpays.row k (Nat.le_refl _)
          have hrow := pays_row ho hkl hpays k (Nat.le_refl _)
          obtain ⟨g0, cap0, rfl, hg0b, hg0w, hg0c, _⟩ := own_some hrows.outer (by omega)
          obtain ⟨_, _, ra, rc, he, hcell, hra⟩ := hrows.rows.2 k (by omega)
          cases he
          rw [Nat.zero_add] at hcell
          obtain ⟨R0, hR0⟩ : ∃ R0, R0 = T.getD k [] := ⟨_, rfl⟩
          rw [← hR0] at hcell hra hRl
          have hrb : ∀ i, i < R0.length → 0 ≤ R0.getD i 0 ∧ R0.getD i 0 ≤ 1073741824 := by
            intro i hi
            have := row_bound hrow i (by omega)
            rw [hR0]; exact this
          obtain ⟨V, hV⟩ : ∃ V, V = vT l k := ⟨_, rfl⟩
          obtain ⟨C, hC⟩ : ∃ C, C = cT l k := ⟨_, rfl⟩
          obtain ⟨M, hM⟩ : ∃ M, M = (tubeAt l k).most := ⟨_, rfl⟩
          rw [← hv3, ← hV] at c0
          rw [← hn2, ← hC] at c1
          rw [← hM] at c2
          rw [← hV] at hv1 hv2
          rw [← hC] at hn1
          have FUR := Lib.hid (fun (w' : World) (h : CellsAt w' ra (ints R0)) => further_any R0 V C M ra rc w' h (by omega) hrb hv1 hv2 hn1)
          have HR0 := Lib.hid hR0
          have HV := Lib.hid hV
          have HC := Lib.hid hC
          have HP := Lib.hid hpays
          have HROW := Lib.hid hrows
          have HRL := Lib.hid hRl
          have hRp : 0 < R0.length := by omega
          have HTL := Lib.hid hTl
          have hout := hrows.outer
          have hinn := hrows.inner
          rw [hTl] at hout
          clear hR0 hV hC hM hv3 hn2 hpays hrows hRl hTl hrow hrb hcs
          rw [HTL.out]
          have hk2 : k ≤ 10 := by omega
          go_wp2_with (fail)
          obtain ⟨wa, hwa⟩ : ∃ wa, wa = wi.alloc (.cells #[.int .i64 V, .int .i64 C, .int .i64 M] 41) := ⟨_, rfl⟩
          have ga : wi.grownBy wa none := by rw [hwa]; exact gr_alloc (gr_refl _ _) _
          have hsza : wa.heap.size = wi.heap.size + 1 := by rw [hwa]; simp
          have ta0 : wa.cell? ⟨wi.heap.size, 0, none⟩ = some (.int .i64 V) := by rw [hwa]; exact made_cell (gr_refl _ _) 0 rfl
          have ta1 : wa.cell? ⟨wi.heap.size, 1, none⟩ = some (.int .i64 C) := by rw [hwa]; exact made_cell (gr_refl _ _) 1 rfl
          have ta2 : wa.cell? ⟨wi.heap.size, 2, none⟩ = some (.int .i64 M) := by rw [hwa]; exact made_cell (gr_refl _ _) 2 rfl
          have hcella := (gr_cell ga (lt_of_cell hcell)).trans hcell
          have hraa := hra.keep0 ga
          have houta := own_keep0 hout ga
          rw [← hwa]
          have HWA := Lib.hid hwa
          have hgd := gr_drew (gr_refl wa none)
          have hrad := hraa.keep0 (gr_drew (gr_refl wa none))
          have hgwa := gr_trans hgr ga
          have hw0 := hgr.size
          have hneg : Hid (¬ g0 = wi.heap.size) := by show ¬ _; omega
          have HG0 := Lib.hid (And.intro hg0b hg0w)
          clear hwa hcell hra hout c0 c1 c2 hgr
          have hk0i : (0 : Int) ≤ (k : Int) := by omega
          have hk1i : (k : Int) < (k : Int) + 1 := by omega
          have hkw : IntKind.i64.wrap (k : Int) = (k : Int) := IntWalk.i64_in _ (by omega)
          have hkw1 : IntKind.i64.wrap ((k : Int) + 1) = (k : Int) + 1 := IntWalk.i64_in _ (by omega)
          go_region_held3 (fun w' => w'.cell? ⟨g0, k, none⟩ = some (.slice ra R0.length rc) ∧ w'.cell? ⟨wi.heap.size, 0, none⟩ = some (.int .i64 V) ∧ w'.cell? ⟨wi.heap.size, 1, none⟩ = some (.int .i64 C) ∧ w'.cell? ⟨wi.heap.size, 2, none⟩ = some (.int .i64 M))
            (first | exact ⟨hcella, ta0, ta1, ta2⟩ | exact ⟨hcell3, tb0, tb1, tb2⟩ | exact ⟨cellA hcell3 _, cellA tb0 _, cellA tb1 _, cellA tb2 _⟩ | exact ⟨hc6, tc0, tc1, tc2⟩)
            (first | (go_at_call 174; go_fit (FUR.out wa.drew hrad); rintro e w3 ⟨v3, R, rfl, hown3, hg3', hst⟩; obtain ⟨g3, c3, rfl, hg3b, hg3w, hg3c, hg3m⟩ := own_some hown3 hRp; have hg3 := gr_trans hgd hg3'; have hS := Lib.hid hst; clear hst; have hcell3 := (gr_cell hg3 (lt_of_cell hcella)).trans hcella; have tb0 := (gr_cell hg3 (lt_of_cell ta0)).trans ta0; have tb1 := (gr_cell hg3 (lt_of_cell ta1)).trans ta1; have tb2 := (gr_cell hg3 (lt_of_cell ta2)).trans ta2; have hout3 := own_keep0 houta hg3; have hsz3 := hg3.size) | (revert tb0; intro tb0; refine step_app1 eRows rfl _ _ rfl w.heap.size _ _ vs rfl w3 _ rfl hout3 _ rfl rfl rfl rfl ?_ ?_ ?_; (· omega); (· omega); intro v6 w6 hown6 hg6 hlt6 hk6; have hc6 := hk6 _ _ _ hcell3 (fun e => by cases e; omega); have tc0 := hk6 _ _ _ tb0 (fun e => absurd (Option.some.inj (show some g0 = some wi.heap.size from e)) hneg.out); have tc1 := hk6 _ _ _ tb1 (fun e => absurd (Option.some.inj (show some g0 = some wi.heap.size from e)) hneg.out); have tc2 := hk6 _ _ _ tb2 (fun e => absurd (Option.some.inj (show some g0 = some wi.heap.size from e)) hneg.out)))
          go_wp2_with (fail)
          go_roundw
          case rel =>
            have hr3 := HROW.out.keep0 (gr_trans ga hg3)
            rw [HTL.out] at hr3
            refine ⟨k + 1, T ++ [R], _, by omega, by go_num, hr3.push hown3 (own_len hown3) (by have := hgwa.size; have : wa.drew.heap.size = wa.heap.size := rfl; omega) ?_ (by rw [HTL.out]; exact hown6) hg6, ?_, gr_grown (gr_trans hgwa hg3) hg6 hlt6⟩
            · intro i hi e
              have := ((HROW.out.inner i hi).lt g3 e).2
              have : wa.drew.heap.size = wa.heap.size := rfl
              omega
            · refine HP.out.push (by rw [own_len hown3]; exact HRL.out) ?_
              have := hS.out
              rw [HRL.out, HV.out, HC.out, HR0.out] at this
              exact this
          case measure => simp [intOf]; omega
        · have hkl2 : k = l.length := by omega
          have HK := Lib.hid hkl2
          have HP := Lib.hid hpays
          clear hkl2 hpays
          go_wp2_with (fail)
          go_ret
          exact ⟨_, T, vs, rfl, hrows, hgr, by rw [← HK.out]; exact HP.out⟩
end Go.Proofs.YtdjnomeabadbnaaDoor
