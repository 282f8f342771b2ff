/- What is wrong with needs: as the reference says it, and the program. -/
import Derived.Test.YtdjnomeabadbnaaDoorNeeds
import Derived.Test.YtdjnomeabadbnaaDoorRotCmp
import Derived.Test.YtdjnomeabadbnaaDoorKey
import Derived.Test.YtdjnomeabadbnaaDoorLotsF
namespace Go.Proofs.YtdjnomeabadbnaaDoor
open Go.RowKit
attribute [local go_sem ↓] Go.wp_at_zero Go.wp_at_succ

theorem need_cells {w : World} {a : Option Addr} {N : List Need} (h : CellsAt w a (flat encNeed N)) (k : Nat) (hk : k < N.length) :
    ∃ b off, a = some ⟨b, off, none⟩ ∧ w.cell? ⟨b, off + k * 3, none⟩ = some (.string N[k].place) ∧ w.cell? ⟨b, off + k * 3 + 1, none⟩ = some (.string N[k].prod) ∧ w.cell? ⟨b, off + k * 3 + 2, none⟩ = some (.int .i64 N[k].many) := by
  obtain ⟨b, off, rfl, hcs⟩ := flat_cells encNeed_len (by decide) h (by omega)
  exact ⟨b, off, rfl, hcs k hk 0 _ rfl, hcs k hk 1 _ rfl, hcs k hk 2 _ rfl⟩
structure NeedOk (N : List Need) (i : Nat) (hi : i < N.length) : Prop where
  kp : keyB N[i].place = true
  kr : keyB N[i].prod = true
  up : ∀ (h : 0 < i), orI (cmpB (N[i - 1]'(by omega)).place N[i].place) (cmpB (N[i - 1]'(by omega)).prod N[i].prod) < 0
  lo : 0 ≤ N[i].many
  hi : N[i].many ≤ 100000
def NeedsOk (N : List Need) : Prop := ∀ i (hi : i < N.length), NeedOk N i hi
theorem cmpB_anti (a b : ByteArray) : cmpB b a = - cmpB a b := by
  unfold cmpB
  rcases compareBytes_sign a.data.toList b.data.toList with ⟨e, h⟩ | ⟨e, h⟩ | ⟨e, h⟩ <;> rcases compareBytes_sign b.data.toList a.data.toList with ⟨f, g⟩ | ⟨f, g⟩ | ⟨f, g⟩ <;> rw [e, f] <;> first | rfl | (exfalso; first | exact ltL_irrefl _ (ltL_trans h g) | (rw [g] at h; exact ltL_irrefl _ h) | (rw [h] at g; exact ltL_irrefl _ g))
theorem orI_anti {a b c d : ByteArray} (h : orI (cmpB a b) (cmpB c d) < 0) : 0 < orI (cmpB b a) (cmpB d c) := by
  rw [cmpB_anti a b, cmpB_anti c d]
  unfold orI at *
  split at h <;> split <;> omega
theorem cmpS_grew {w : World} (a b : ByteArray) : ∀ W, w.grownBy W none → Calls Tryd.prog 115 #[.string a, .string b] W fun e w' => e = .returned (.int .i64 (cmpB a b)) ∧ W.grownBy w' none := fun W _ => (compare_any a b W).mono fun _ _ h => ⟨h.1, by rw [← h.2]; exact gr_refl _ _⟩
set_option maxRecDepth 100000 in
set_option maxHeartbeats 4000000 in
theorem needsFault_any (N : List Need) (a : Option Addr) (c : Nat) (w : World) (h : CellsAt w a (flat encNeed N)) (hsm : NeedsSm N) :
    Calls Tryd.prog 126 #[.slice a N.length c] w fun e w' => ∃ r : Int, e = .returned (.int .i64 r) ∧ (r = 0 → NeedsOk N) ∧ w.grownBy w' none := by
  have H := Lib.hid h
  have HSM := Lib.hid hsm
  have hl := hsm.len
  clear h hsm
  go_enter Tryd.func126, Tryd.ntmps126
  go_wp2_with (fail)
  go_loopw [10] (fun i wr => ∃ k : Nat, k ≤ N.length ∧ i = .int .i64 k ∧ (∀ j (hj : j < N.length), j < k → NeedOk N j hj) ∧ w.grownBy wr none) (fun i _ => N.length - (intOf i).toNat)
  case atStart => exact ⟨0, Nat.zero_le _, rfl, fun j _ h => absurd h (Nat.not_lt_zero _), gr_refl _ _⟩
  case round =>
    obtain ⟨k, hk, rfl, hok, hgr⟩ := hrel
    obtain ⟨wo, rfl⟩ : ∃ wo : World, wo = wr := ⟨_, rfl⟩
    by_cases hlt : k < N.length
    · obtain ⟨b, off, rfl, d0, d1, d2⟩ := need_cells (H.out.keep0 hgr) k hlt
      have hs := HSM.out.all _ (List.getElem_mem hlt)
      have MK : Hid (keyB N[k].place = true → keyB N[k].prod = true → (∀ (h : 0 < k), orI (cmpB (N[k - 1]'(by omega)).place N[k].place) (cmpB (N[k - 1]'(by omega)).prod N[k].prod) < 0) → 0 ≤ N[k].many → N[k].many ≤ 100000 → ∀ j (hj : j < N.length), j < k + 1 → NeedOk N j hj) := fun h1 h2 h3 h4 h5 j hj hjk => by
        by_cases e : j = k
        · subst e; exact ⟨h1, h2, h3, h4, h5⟩
        · exact hok j hj (by omega)
      have PV : Hid (∀ (h : 0 < k), wo.cell? ⟨b, off + (k - 1) * 3, none⟩ = some (.string (N[k - 1]'(by omega)).place) ∧ wo.cell? ⟨b, off + (k - 1) * 3 + 1, none⟩ = some (.string (N[k - 1]'(by omega)).prod)) := fun h => by
        obtain ⟨b', off', e', y0, y1, -⟩ := need_cells (H.out.keep0 hgr) (k - 1) (by omega)
        cases e'
        exact ⟨y0, y1⟩
      obtain ⟨x, hx⟩ : ∃ x, x = N[k] := ⟨_, rfl⟩
      rw [← hx] at d0 d1 d2 hs MK
      obtain ⟨P, R, M⟩ := x
      obtain ⟨hs1, hs2, hs3, hs4⟩ := hs
      simp only at d0 d1 d2 hs1 hs2 hs3 hs4 MK
      have HGR := Lib.hid hgr
      have hV := heap_alloc_new wo (.cells #[.string P, .string R, .int .i64 M] 194)
      have hg2 := gr_alloc (gr_refl wo none) (.cells #[.string P, .string R, .int .i64 M] 194)
      obtain ⟨w2, hw2⟩ : ∃ w2, w2 = wo.alloc (.cells #[.string P, .string R, .int .i64 M] 194) := ⟨_, rfl⟩
      rw [← hw2] at hV hg2
      have HV := Lib.hid hV
      have HG2 := Lib.hid hg2
      have HW2 := Lib.hid hw2
      clear hx hok hgr hV hg2 hw2
      go_wp2_with (fail)
      rw [← HW2.out]
      have v0 := blkC HV.out 0 rfl
      have v1 : w2.cell? ⟨wo.heap.size, 1, none⟩ = some (.string R) := blkC HV.out 1 rfl
      have v2 : w2.cell? ⟨wo.heap.size, 2, none⟩ = some (.int .i64 M) := blkC HV.out 2 rfl
      go_wp2_with (fail)
      refine (keyOf_any P w2 (by omega)).mono ?_
      rintro e w3 ⟨rfl, g3⟩
      have HV3 := Lib.hid ((g3.block _ (lt_of_block HV.out) (by simp)).trans HV.out)
      have HG3 := Lib.hid (gr_trans HG2.out g3)
      clear v0 v1 v2 g3 d0 d1 d2
      have v0 := blkC HV3.out 0 rfl
      have v1 : w3.cell? ⟨wo.heap.size, 1, none⟩ = some (.string R) := blkC HV3.out 1 rfl
      have v2 : w3.cell? ⟨wo.heap.size, 2, none⟩ = some (.int .i64 M) := blkC HV3.out 2 rfl
      cases hk1 : keyB P with
      | false =>
        go_wp2_with (fail)
        go_ret
        exact ⟨5, rfl, (fun e => by cases e), gr_trans HGR.out HG3.out⟩
      | true =>
        go_wp2_with (fail)
        refine (keyOf_any R w3 (by omega)).mono ?_
        rintro e w4 ⟨rfl, g4⟩
        have HV4 := Lib.hid ((g4.block _ (lt_of_block HV3.out) (by simp)).trans HV3.out)
        have HG4 := Lib.hid (gr_trans HG3.out g4)
        clear v0 v1 v2 g4 HV3
        have v0 := blkC HV4.out 0 rfl
        have v1 : w4.cell? ⟨wo.heap.size, 1, none⟩ = some (.string R) := blkC HV4.out 1 rfl
        have v2 : w4.cell? ⟨wo.heap.size, 2, none⟩ = some (.int .i64 M) := blkC HV4.out 2 rfl
        cases hk2 : keyB R with
        | false =>
          go_wp2_with (fail)
          go_ret
          exact ⟨5, rfl, (fun e => by cases e), gr_trans HGR.out HG4.out⟩
        | true =>
          have MK2 : Hid ((∀ (h : 0 < k), orI (cmpB (N[k - 1]'(by omega)).place P) (cmpB (N[k - 1]'(by omega)).prod R) < 0) → 0 ≤ M → M ≤ 100000 → ∀ j (hj : j < N.length), j < k + 1 → NeedOk N j hj) := MK.out hk1 hk2
          clear hk1 hk2 MK
          go_upto_region 8 with (fail)
          go_cut [26] (fun s wx => ∃ b : Bool, s = .bool b ∧ (b = false → ∀ (h : 0 < k), orI (cmpB (N[k - 1]'(by omega)).place P) (cmpB (N[k - 1]'(by omega)).prod R) < 0) ∧ w4.grownBy wx none)
          case first =>
            by_cases hk0 : 0 < k
            · obtain ⟨i, rfl⟩ : ∃ i, k = i + 1 := ⟨k - 1, by omega⟩
              obtain ⟨y0, y1⟩ := PV.out hk0
              simp only [Nat.add_sub_cancel] at y0 y1
              have y0 := (gr_cell HG4.out (lt_of_cell y0)).trans y0
              have y1 := (gr_cell HG4.out (lt_of_cell y1)).trans y1
              have hci : Hid (cmpB N[i].place P = cmpB N[i].place P) := rfl
              obtain ⟨P', hP'⟩ : ∃ x, x = N[i].place := ⟨_, rfl⟩
              obtain ⟨R', hR'⟩ : ∃ x, x = N[i].prod := ⟨_, rfl⟩
              rw [← hP'] at y0
              rw [← hR'] at y1
              have UP : Hid (orI (cmpB P' P) (cmpB R' R) < 0 → ∀ (h : 0 < i + 1), orI (cmpB (N[i + 1 - 1]'(by omega)).place P) (cmpB (N[i + 1 - 1]'(by omega)).prod R) < 0) := fun hh _ => by rw [hP', hR'] at hh; exact hh
              have gy0 := grew_cell y0
              have gy1 := grew_cell y1
              have gv0 := grew_cell v0
              have gv1 := grew_cell v1
              have hd : decide ((0 : Int) < (i : Int) + 1) = true := decide_eq_true (by omega)
              have hq0 : (0 : Int) ≤ (i : Int) := by omega
              have hq1 : (i : Int) < (N.length : Int) := by omega
              clear y0 y1 v0 v1 v2 hP' hR' hci PV
              refine wp_region_grew_tail 21 (by kernel_rfl) (by kernel_rfl) ?_
              simp only [List.take_succ_cons, List.take_zero, List.drop_succ_cons, List.drop_zero]
              repeat (go_big_quiet_step (first
                | (go_at_call 115; exact Calls.grew_of (fun W g => (compare_any _ _ W).mono fun _ _ h => ⟨h.1, by rw [← h.2]; exact gr_refl _ _⟩))))
              refine wpQuiet_nil ?_
              rintro wq ⟨nn, rfl⟩
              have gq := nn.gr
              obtain ⟨wn, hwn⟩ : ∃ wn, wn = nn.w := ⟨_, rfl⟩
              rw [← hwn] at gq
              rw [← hwn]
              obtain ⟨c1, hc1⟩ : ∃ u, u = cmpB P' P := ⟨_, rfl⟩
              obtain ⟨c2, hc2⟩ : ∃ v, v = cmpB R' R := ⟨_, rfl⟩
              rw [← hc1, ← hc2] at UP
              rw [← hc1, ← hc2]
              have gN := gr_alloc (gr_refl wn none) (.cells #[.int .i64 c1, .int .i64 c2] 3)
              have hN := heap_alloc_new wn (.cells #[.int .i64 c1, .int .i64 c2] 3)
              have OR := Lib.hid (orInt_any c1 c2 wn.heap.size 2 _ (blkC hN 0 rfl) (blkC hN 1 rfl))
              have GQ := Lib.hid (gr_trans gq gN)
              obtain ⟨o, ho⟩ : ∃ o, o = orI c1 c2 := ⟨_, rfl⟩
              rw [← ho] at UP OR
              clear gy0 gy1 gv0 gv1 hwn hc1 hc2 hN gq gN ho
              go_wp2_with (fail)
              refine OR.out.mono ?_
              rintro e w5 ⟨rfl, rfl⟩
              by_cases hoo : 0 ≤ o
              · have hd2 : decide (0 ≤ o) = true := decide_eq_true hoo
                go_wp2_with (fail)
                go_meet
                exact ⟨true, rfl, (fun e => by cases e), GQ.out⟩
              · have hd2 : decide (0 ≤ o) = false := decide_eq_false hoo
                have UP2 := Lib.hid (UP.out (by omega))
                clear UP
                go_wp2_with (fail)
                go_meet
                exact ⟨false, rfl, (fun _ => UP2.out), GQ.out⟩
            · have hk00 : k = 0 := by omega
              subst hk00
              have gv0 := grew_cell v0
              have gv1 := grew_cell v1
              clear v0 v1 v2 PV
              refine wp_region_grew_tail 21 (by kernel_rfl) (by kernel_rfl) ?_
              simp only [List.take_succ_cons, List.take_zero, List.drop_succ_cons, List.drop_zero]
              repeat (go_big_quiet_step (fail))
              refine wpQuiet_nil ?_
              rintro wq ⟨nn, rfl⟩
              have gq := nn.gr
              clear gv0 gv1
              go_wp2_with (fail)
              go_meet
              exact ⟨false, rfl, (fun _ h => absurd h (by omega)), gq⟩
          case rest =>
          obtain ⟨b, rfl, hb, g5⟩ := hcut
          obtain ⟨w5, rfl⟩ : ∃ w5 : World, w5 = wc := ⟨_, rfl⟩
          have HBB := Lib.hid hb
          have HV5 := Lib.hid ((g5.block _ (lt_of_block HV4.out) (by simp)).trans HV4.out)
          have HG5 := Lib.hid (gr_trans HG4.out g5)
          clear v0 v1 v2 g5 HV4 hb
          have v2 : w5.cell? ⟨wo.heap.size, 2, none⟩ = some (.int .i64 M) := blkC HV5.out 2 rfl
          cases b with
          | true =>
            go_wp2_with (fail)
            go_ret
            exact ⟨7, rfl, (fun e => by cases e), gr_trans HGR.out HG5.out⟩
          | false =>
            by_cases hM0 : M < 0
            · have hd : decide (M < 0) = true := decide_eq_true hM0
              go_wp2_with (fail)
              go_ret
              exact ⟨1, rfl, (fun e => by cases e), gr_trans HGR.out HG5.out⟩
            · have hd : decide (M < 0) = false := decide_eq_false hM0
              by_cases hM1 : 100000 < M
              · have hd2 : decide (100000 < M) = true := decide_eq_true hM1
                go_wp2_with (fail)
                go_ret
                exact ⟨1, rfl, (fun e => by cases e), gr_trans HGR.out HG5.out⟩
              · have hd2 : decide (100000 < M) = false := decide_eq_false hM1
                have NX := Lib.hid (MK2.out (HBB.out rfl) (by omega) (by omega))
                clear MK2 HBB
                go_wp2_with (fail)
                go_roundw
                case rel => exact ⟨k + 1, by omega, by go_num, NX.out, gr_trans HGR.out HG5.out⟩
                case measure => simp [intOf]; omega
    · obtain rfl : k = N.length := by omega
      go_wp2_with (fail)
      go_ret
      exact ⟨0, rfl, (fun _ i hi => hok i hi hi), hgr⟩
set_option maxRecDepth 100000 in
set_option maxHeartbeats 4000000 in
theorem checkNeeds_ok (N : List Need) (a : Option Addr) (c : Nat) (w : World) (h : CellsAt w a (flat encNeed N)) (hsm : NeedsSm N) (hok : NeedsOk N) :
    Calls Tryd.prog 168 #[.slice a N.length c] w fun e w' => e = .returned (.int .i64 0) ∧ w.grownBy w' none := by
  have H := Lib.hid h
  have HSM := Lib.hid hsm
  have HOK := Lib.hid hok
  have hl := hsm.len
  clear h hsm hok
  go_enter Tryd.func168, Tryd.ntmps168
  go_wp2_with (fail)
  go_loopw [10] (fun i wr => ∃ k : Nat, k ≤ N.length ∧ i = .int .i64 k ∧ w.grownBy wr none) (fun i _ => N.length - (intOf i).toNat)
  case atStart => exact ⟨0, Nat.zero_le _, rfl, gr_refl _ _⟩
  case round =>
    obtain ⟨k, hk, rfl, hgr⟩ := hrel
    obtain ⟨wo, rfl⟩ : ∃ wo : World, wo = wr := ⟨_, rfl⟩
    by_cases hlt : k < N.length
    · obtain ⟨b, off, rfl, d0, d1, d2⟩ := need_cells (H.out.keep0 hgr) k hlt
      have hs := HSM.out.all _ (List.getElem_mem hlt)
      have ho := HOK.out k hlt
      obtain ⟨hk1, hk2, hup, hlo, hhi⟩ := ho
      have PV : Hid (∀ (h : 0 < k), wo.cell? ⟨b, off + (k - 1) * 3, none⟩ = some (.string (N[k - 1]'(by omega)).place) ∧ wo.cell? ⟨b, off + (k - 1) * 3 + 1, none⟩ = some (.string (N[k - 1]'(by omega)).prod)) := fun h => by
        obtain ⟨b', off', e', y0, y1, -⟩ := need_cells (H.out.keep0 hgr) (k - 1) (by omega)
        cases e'
        exact ⟨y0, y1⟩
      obtain ⟨x, hx⟩ : ∃ x, x = N[k] := ⟨_, rfl⟩
      rw [← hx] at d0 d1 d2 hs hk1 hk2 hlo hhi
      simp only [← hx] at hup
      obtain ⟨P, R, M⟩ := x
      obtain ⟨hs1, hs2, hs3, hs4⟩ := hs
      simp only at d0 d1 d2 hs1 hs2 hs3 hs4 hk1 hk2 hlo hhi hup
      have HUP := Lib.hid hup
      have HGR := Lib.hid hgr
      have hV := heap_alloc_new wo (.cells #[.string P, .string R, .int .i64 M] 194)
      have hg2 := gr_alloc (gr_refl wo none) (.cells #[.string P, .string R, .int .i64 M] 194)
      obtain ⟨w2, hw2⟩ : ∃ w2, w2 = wo.alloc (.cells #[.string P, .string R, .int .i64 M] 194) := ⟨_, rfl⟩
      rw [← hw2] at hV hg2
      have HV := Lib.hid hV
      have HG2 := Lib.hid hg2
      have HW2 := Lib.hid hw2
      clear hx hgr hV hg2 hw2 hup
      have KP := Lib.hid (fun W : World => key_any P W (by omega))
      have KR := Lib.hid (fun W : World => key_any R W (by omega))
      rw [hk1] at KP
      rw [hk2] at KR
      have hM0 : (decide (M < 0) || decide (100000 < M)) = false := by simp; omega
      clear hk1 hk2
      go_wp2_with (fail)
      rw [← HW2.out]
      have v0 := blkC HV.out 0 rfl
      have v1 : w2.cell? ⟨wo.heap.size, 1, none⟩ = some (.string R) := blkC HV.out 1 rfl
      have v2 : w2.cell? ⟨wo.heap.size, 2, none⟩ = some (.int .i64 M) := blkC HV.out 2 rfl
      go_wp2_with (fail)
      refine (KP.out w2).mono ?_
      rintro e w3 ⟨rfl, rfl⟩
      go_wp2_with (fail)
      refine (KR.out w2).mono ?_
      rintro e w3 ⟨rfl, rfl⟩
      clear d0 d1 d2
      go_upto_region 8 with (fail)
      go_cut [26] (fun s wx => s = .bool false ∧ w2.grownBy wx none)
      case first =>
        by_cases hk0 : 0 < k
        · obtain ⟨i, rfl⟩ : ∃ i, k = i + 1 := ⟨k - 1, by omega⟩
          obtain ⟨y0, y1⟩ := PV.out hk0
          simp only [Nat.add_sub_cancel] at y0 y1
          have y0 := (gr_cell HG2.out (lt_of_cell y0)).trans y0
          have y1 := (gr_cell HG2.out (lt_of_cell y1)).trans y1
          have UP := orI_anti (HUP.out hk0)
          simp only [Nat.add_sub_cancel] at UP
          obtain ⟨P', hP'⟩ : ∃ x, x = N[i].place := ⟨_, rfl⟩
          obtain ⟨R', hR'⟩ : ∃ x, x = N[i].prod := ⟨_, rfl⟩
          rw [← hP'] at y0 UP
          rw [← hR'] at y1 UP
          have UP := Lib.hid UP
          have gy0 := grew_cell y0
          have gy1 := grew_cell y1
          have gv0 := grew_cell v0
          have gv1 := grew_cell v1
          have hd : decide ((0 : Int) < (i : Int) + 1) = true := decide_eq_true (by omega)
          have hq0 : (0 : Int) ≤ (i : Int) := by omega
          have hq1 : (i : Int) < (N.length : Int) := by omega
          clear y0 y1 v0 v1 v2 hP' hR' PV HUP
          refine wp_region_grew_tail 21 (by kernel_rfl) (by kernel_rfl) ?_
          simp only [List.take_succ_cons, List.take_zero, List.drop_succ_cons, List.drop_zero]
          repeat (go_big_quiet_step (first
            | (go_at_call 115; exact Calls.grew_of (fun W g => (compare_any _ _ W).mono fun _ _ h => ⟨h.1, by rw [← h.2]; exact gr_refl _ _⟩))))
          refine wpQuiet_nil ?_
          rintro wq ⟨nn, rfl⟩
          have gq := nn.gr
          obtain ⟨wn, hwn⟩ : ∃ wn, wn = nn.w := ⟨_, rfl⟩
          rw [← hwn] at gq
          rw [← hwn]
          obtain ⟨c1, hc1⟩ : ∃ u, u = cmpB P P' := ⟨_, rfl⟩
          obtain ⟨c2, hc2⟩ : ∃ v, v = cmpB R R' := ⟨_, rfl⟩
          rw [← hc1, ← hc2] at UP
          rw [← hc1, ← hc2]
          have gN := gr_alloc (gr_refl wn none) (.cells #[.int .i64 c1, .int .i64 c2] 3)
          have hN := heap_alloc_new wn (.cells #[.int .i64 c1, .int .i64 c2] 3)
          have OR := Lib.hid (orInt_any c1 c2 wn.heap.size 2 _ (blkC hN 0 rfl) (blkC hN 1 rfl))
          have GQ := Lib.hid (gr_trans gq gN)
          obtain ⟨o, ho⟩ : ∃ o, o = orI c1 c2 := ⟨_, rfl⟩
          rw [← ho] at UP OR
          have hoo : 0 < o := UP.out
          have hd2 : decide (o ≤ 0) = false := decide_eq_false (by omega)
          clear gy0 gy1 gv0 gv1 hwn hc1 hc2 hN gq gN ho
          go_wp2_with (fail)
          refine OR.out.mono ?_
          rintro e w5 ⟨rfl, rfl⟩
          go_wp2_with (fail)
          go_meet
          exact ⟨rfl, GQ.out⟩
        · have hk00 : k = 0 := by omega
          subst hk00
          have gv0 := grew_cell v0
          have gv1 := grew_cell v1
          clear v0 v1 v2 PV
          refine wp_region_grew_tail 21 (by kernel_rfl) (by kernel_rfl) ?_
          simp only [List.take_succ_cons, List.take_zero, List.drop_succ_cons, List.drop_zero]
          repeat (go_big_quiet_step (fail))
          refine wpQuiet_nil ?_
          rintro wq ⟨nn, rfl⟩
          have gq := nn.gr
          clear gv0 gv1
          go_wp2_with (fail)
          go_meet
          exact ⟨rfl, gq⟩
      case rest =>
      obtain ⟨rfl, g5⟩ := hcut
      obtain ⟨w5, rfl⟩ : ∃ w5 : World, w5 = wc := ⟨_, rfl⟩
      have hV5 := (g5.block _ (lt_of_block HV.out) (by simp)).trans HV.out
      have HG5 := Lib.hid (gr_trans HG2.out g5)
      clear v0 v1 v2 g5
      have v2 : w5.cell? ⟨wo.heap.size, 2, none⟩ = some (.int .i64 M) := blkC hV5 2 rfl
      clear hV5
      go_wp2_with (fail)
      refine (out_any M 0 100000 w5).mono ?_
      rintro e w6 ⟨rfl, rfl⟩
      rw [hM0]
      go_wp2_with (fail)
      go_roundw
      case rel => exact ⟨k + 1, by omega, by go_num, gr_trans HGR.out HG5.out⟩
      case measure => simp [intOf]; omega
    · obtain rfl : k = N.length := by omega
      go_wp2_with (fail)
      go_ret
      exact ⟨rfl, hgr⟩
end Go.Proofs.YtdjnomeabadbnaaDoor
