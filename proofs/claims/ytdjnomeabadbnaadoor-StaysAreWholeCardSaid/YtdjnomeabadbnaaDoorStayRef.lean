/- The reference's part of versions. -/
import Derived.Test.YtdjnomeabadbnaaDoorStayPure
namespace Go.Proofs.YtdjnomeabadbnaaDoor
open Go.RowKit
attribute [local go_sem ↓] Go.wp_at_zero Go.wp_at_succ

theorem wordFault1_fn : ∀ (args : Array Value) (w : World), (callFunc 139 args).run Tryd.prog w = .ok (.enter 139 args) w := fun _ _ => by kernel_rfl
set_option maxRecDepth 100000 in
theorem wordFault1_any (k : ByteArray) (w : World) (hs : k.size ≤ 9223372036854775807) : Calls Tryd.prog 139 #[.string k] w fun e w' => e = .returned (.bool (oddB k)) ∧ w.grownBy w' none := by
  have HS : Hid (oddB k = (!k.toList.isEmpty && !keyB k)) := rfl
  cases he : k.toList.isEmpty with
  | true =>
    have he2 : k.toList = [] := by simpa using he
    have HE : Hid (oddB k = false) := by show _ = _; rw [HS.out, he]; rfl
    go_enter Tryd.func139, Tryd.ntmps139
    go_wp2_with (fail)
    go_ret
    exact ⟨ret_bool HE.out.symm, gr_refl _ _⟩
  | false =>
    have he2 : (!k.toList.isEmpty) = true := by rw [he]; rfl
    have he3 : ¬ k.toList = [] := by intro e; rw [e] at he; cases he
    have HE : Hid (oddB k = !keyB k) := by show _ = _; rw [HS.out, he]; rfl
    go_enter Tryd.func139, Tryd.ntmps139
    go_wp2_with (fail)
    refine (keyOf_any k w hs).mono ?_
    rintro e w2 ⟨rfl, g2⟩
    go_wp2_with (fail)
    go_ret
    exact ⟨ret_bool HE.out.symm, g2⟩
set_option maxRecDepth 100000 in
theorem wordFault_any (L : List ByteArray) (la : Option Addr) (lc : Nat) (w : World) (hc : CellsAt w la (strs L)) (hl : L.length ≤ 100000) (hs : ∀ x ∈ L, x.size ≤ 9223372036854775807) :
    Calls Tryd.prog 87 #[.slice la L.length lc] w fun e w' => e = .returned (.int .i64 (if L.any oddB then 5 else 0)) ∧ w.grownBy w' none := by
  have CF := Lib.hid (containsFunc_Str0 139 oddB L la lc w (by rw [strs_flat]; exact hc) (by omega) wordFault1_fn (fun x hx W _ => wordFault1_any x W (hs x hx)))
  obtain ⟨b, hb⟩ : ∃ b, b = L.any oddB := ⟨_, rfl⟩
  rw [← hb] at CF ⊢
  clear hb hc hs
  go_enter Tryd.func87, Tryd.ntmps87
  go_wp2_with (fail)
  refine CF.out.mono ?_
  rintro e w2 ⟨rfl, g2⟩
  cases b with
  | true =>
    go_wp2_with (fail)
    go_ret
    exact ⟨rfl, g2⟩
  | false =>
    go_wp2_with (fail)
    go_ret
    exact ⟨rfl, g2⟩
set_option maxRecDepth 100000 in
set_option maxHeartbeats 4000000 in
theorem refVersions_any (base : Nat) (vs : List Ver) (a : Option Addr) (c : Nat) (w : World) (h : NestAt (VerC base) w 2 a vs) (hl : vs.length ≤ 100000) (hsz : ∀ v ∈ vs, v.lay.length ≤ 100000 ∧ ∀ s ∈ v.lay, s.size ≤ 100000) :
    Calls Tryd.prog 22 #[.slice a vs.length c] w (ChkPost vs w) := by
  have H := Lib.hid h
  have HSZ := Lib.hid hsz
  clear h hsz
  by_cases h200 : 200 < vs.length
  · go_enter Tryd.func22, Tryd.ntmps22
    go_wp2_with (fail)
    go_ret
    exact chk_no 2 (by decide) (fun h => by have := h.len; omega) (gr_refl _ _)
  · go_enter Tryd.func22, Tryd.ntmps22
    go_wp2_with (fail)
    go_loopw [11] (fun i wr => ∃ k : Nat, k ≤ vs.length ∧ i = .int .i64 k ∧ (∀ j, j < k → VerOkAt vs j) ∧ w.grownBy wr none) (fun i _ => vs.length - (intOf i).toNat)
    case atStart => exact ⟨0, Nat.zero_le _, rfl, fun j hj => absurd hj (Nat.not_lt_zero _), gr_refl _ _⟩
    case round =>
      obtain ⟨k, hk, rfl, hall, hgr⟩ := hrel
      obtain ⟨wo, rfl⟩ : ∃ wo : World, wo = wr := ⟨_, rfl⟩
      have HALL := Lib.hid hall
      clear hall
      by_cases hlt : k < vs.length
      · have hn := H.out.keep0 hgr (fun x c hx => VerC.keep0 hgr x c hx)
        obtain ⟨b, off, la, lc, rfl, d0, d1, hcl, _⟩ := vers_cells hn k hlt
        obtain ⟨b0, off0, la0, lc0, e0, z0, z1, _, _⟩ := vers_cells hn 0 (by omega)
        cases e0
        have hvm : vs.getD k ⟨0, []⟩ ∈ vs := by rw [getD_eq vs k _ hlt]; exact List.getElem_mem hlt
        obtain ⟨s1, s2⟩ := HSZ.out _ hvm
        have NO : Hid (¬ VerOkAt vs k → ¬ VersOk vs) := fun h1 h2 => h1 (h2.all k hlt)
        have MK : Hid (0 ≤ vDay vs k → vDay vs k ≤ 4000 → (0 < k → vDay vs (k - 1) < vDay vs k) → (vLay vs k).length ≤ 60 → (vLay vs k).length = (vLay vs 0).length → (vLay vs k).any oddB = false → VerOkAt vs k) := fun a b c d e f => ⟨a, b, c, d, e, f⟩
        have N1 : Hid (VerOkAt vs k → 0 ≤ vDay vs k ∧ vDay vs k ≤ 4000 ∧ (0 < k → vDay vs (k - 1) < vDay vs k) ∧ (vLay vs k).length ≤ 60 ∧ (vLay vs k).length = (vLay vs 0).length ∧ (vLay vs k).any oddB = false) := fun h => ⟨h.lo, h.hi, h.up, h.few, h.like, h.keys⟩
        have CL := Lib.hid hcl
        have S2 := Lib.hid (show ∀ s ∈ vLay vs k, s.size ≤ 100000 from s2)
        have s1' : (vLay vs k).length ≤ 100000 := s1
        have hprev : 0 < k → wo.cell? ⟨b, off + (k - 1) * 2, none⟩ = some (.int .i64 (vDay vs (k - 1))) := by
          intro h0
          obtain ⟨b', off', la', lc', e', y0, _, _, _⟩ := vers_cells hn (k - 1) (by omega)
          cases e'
          exact y0
        obtain ⟨D, hD⟩ : ∃ D, D = vDay vs k := ⟨_, rfl⟩
        obtain ⟨L, hL⟩ : ∃ L, L = vLay vs k := ⟨_, rfl⟩
        obtain ⟨Dp, hDp⟩ : ∃ D, D = vDay vs (k - 1) := ⟨_, rfl⟩
        obtain ⟨n0, hn0⟩ : ∃ n, n = (vLay vs 0).length := ⟨_, rfl⟩
        rw [← hD] at d0 MK N1
        rw [← hL] at d1 MK N1 CL S2 s1'
        rw [← hDp] at MK N1 hprev
        rw [← hn0] at MK N1 z1
        have HPV := Lib.hid hprev
        simp only [Nat.zero_mul, Nat.add_zero] at z1
        have HG := Lib.hid hgr
        clear hn hvm s1 s2 hcl hD hL hDp hn0 hprev z0 hgr
        by_cases hday : D < 0 ∨ 4000 < D
        · have HNO : Hid (¬ VersOk vs) := NO.out (fun h => by have := N1.out h; omega)
          rcases hday with hd | hd
          · have e1 : decide (D < 0) = true := by simpa using hd
            go_wp2_with (fail)
            go_ret
            exact chk_no 1 (by decide) HNO.out (gr_alloc HG.out _)
          · have e1 : decide (D < 0) = false := by simp; omega
            have e2 : decide (4000 < D) = true := by simpa using hd
            go_wp2_with (fail)
            go_ret
            exact chk_no 1 (by decide) HNO.out (gr_alloc HG.out _)
        · have hd0 : 0 ≤ D := by omega
          have hd4 : D ≤ 4000 := by omega
          have e1 : decide (D < 0) = false := by simp; omega
          have e2 : decide (4000 < D) = false := by simp; omega
          clear hday
          go_wp2_with (fail)
          have hO := heap_alloc_new wo (.cells #[.int .i64 D, .slice la L.length lc] 151)
          have hg1 := gr_alloc (gr_refl wo none) (.cells #[.int .i64 D, .slice la L.length lc] 151)
          obtain ⟨w1, hw1⟩ : ∃ w1, w1 = wo.alloc (.cells #[.int .i64 D, .slice la L.length lc] 151) := ⟨_, rfl⟩
          rw [← hw1] at hO hg1
          rw [← hw1]
          obtain ⟨O, hOe⟩ : ∃ O, O = wo.heap.size := ⟨_, rfl⟩
          rw [← hOe] at hO
          rw [← hOe]
          have HG1 := Lib.hid (gr_trans HG.out hg1)
          have HCL := Lib.hid (CL.out.keep0 hg1)
          have z2 := (gr_cell hg1 (lt_of_cell z1)).trans z1
          have HPV1 : Hid (0 < k → w1.cell? ⟨b, off + (k - 1) * 2, none⟩ = some (.int .i64 Dp)) := fun h0 => (gr_cell hg1 (lt_of_cell (HPV.out h0))).trans (HPV.out h0)
          obtain ⟨c0, c1⟩ := blk2C hO
          clear hw1 hOe d0 d1 z1 hO hg1 CL HPV
          obtain ⟨bq, hbq⟩ : ∃ bq, bq = (decide (0 < k) && decide (D ≤ Dp)) := ⟨_, rfl⟩
          have HBQ := Lib.hid hbq
          clear hbq
          have lv := lt_of_cell z2
          go_cut [25] from 26 to 38 (fun s wx => s = .bool bq ∧ ∃ nq, wx = w1.drewN nq)
          case first =>
            by_cases h0 : 0 < k
            · have m1 := HPV1.out h0
              have hkc : (((k - 1 : Nat)) : Int) = (k : Int) - 1 := by omega
              have hint1 : (0 : Int) ≤ (k : Int) - 1 := by omega
              have hint2 : (k : Int) - 1 < (vs.length : Int) := by omega
              have hint3 : (0 : Int) < (k : Int) := by omega
              have htn : ((k : Int) - 1).toNat = k - 1 := by omega
              have hwr : IntKind.i64.wrap ((k : Int) - 1) = (k : Int) - 1 := IntWalk.i64_in _ (by omega)
              have HB2 : Hid (bq = decide (D ≤ Dp)) := by show _ = _; rw [HBQ.out]; simp [h0]
              clear hkc
              go_quiet (fail)
              go_wp2_with (fail)
              go_meet
              exact ⟨by rw [HB2.out], _, rfl⟩
            · obtain rfl : k = 0 := by omega
              have hdf : decide ((0 : Int) < 0) = false := by decide
              have HB2 : Hid (bq = false) := by show _ = _; rw [HBQ.out]; simp
              go_quiet (fail)
              go_wp2_with (fail)
              go_meet
              exact ⟨by rw [HB2.out], _, rfl⟩
          case rest =>
          obtain ⟨rfl, nq, rfl⟩ := hcut
          have HGN := Lib.hid (gr_drewN HG1.out nq)
          cases bq with
          | true =>
            have HNO : Hid (¬ VersOk vs) := NO.out (fun h => by
              have h1 := N1.out h
              have h2 := HBQ.out
              simp only [Bool.true_eq, Bool.and_eq_true, decide_eq_true_eq] at h2
              have := h1.2.2.1 h2.1
              omega)
            go_wp2_with (fail)
            go_ret
            exact chk_no 7 (by decide) HNO.out HGN.out
          | false =>
            have HUP : Hid (0 < k → Dp < D) := by
              show 0 < k → Dp < D
              intro h0
              have h2 := HBQ.out
              simp only [Bool.false_eq, Bool.and_eq_false_iff, decide_eq_false_iff_not] at h2
              omega
            clear HBQ HPV1
            by_cases hl60 : 60 < L.length
            · have HNO : Hid (¬ VersOk vs) := NO.out (fun h => by have h1 := N1.out h; omega)
              go_wp2_with (fail)
              go_ret
              exact chk_no 2 (by decide) HNO.out HGN.out
            · obtain ⟨bl, hbl⟩ : ∃ bl, bl = ((L.length : Int) != (n0 : Int)) := ⟨_, rfl⟩
              have HBL := Lib.hid hbl
              go_wp2_with (fail)
              go_cut [44] from 45 to 53 (fun s wx => s = .bool bl ∧ ∃ nx, wx = (w1.drewN nq).drewN nx)
              case first =>
                clear hbl
                go_quiet (fail)
                go_wp2_with (fail)
                go_meet
                exact ⟨by rw [HBL.out], _, rfl⟩
              case rest =>
              obtain ⟨rfl, nq2, rfl⟩ := hcut
              have HGN := Lib.hid (gr_drewN HG1.out (nq + nq2))
              clear hbl
              cases bl with
              | true =>
                have HNO : Hid (¬ VersOk vs) := NO.out (fun h => by
                  have h1 := N1.out h
                  have h2 := HBL.out
                  simp at h2
                  omega)
                go_wp2_with (fail)
                go_ret
                exact chk_no 3 (by decide) HNO.out (gr_drewN (gr_drewN HG1.out nq) nq2)
              | false =>
                have hle : L.length = n0 := by
                  have h2 := HBL.out
                  simp at h2
                  omega
                have HLE := Lib.hid hle
                obtain ⟨bo, hbo⟩ : ∃ bo, bo = L.any oddB := ⟨_, rfl⟩
                have HBO := Lib.hid hbo
                have CF := Lib.hid (wordFault_any L la lc (w1.drewN (nq + nq2)) (HCL.out.keep0 (gr_drewN (gr_refl _ _) _)) (by omega) (fun x hx => by have := S2.out x hx; omega))
                rw [← hbo] at CF
                clear hle hbo HBL
                go_wp2_with (fail)
                refine CF.out.mono ?_
                rintro e w3 ⟨rfl, g3⟩
                have HG3 := Lib.hid (gr_trans HGN.out g3)
                clear CF
                cases bo with
                | true =>
                  simp only [if_true]
                  have HNO : Hid (¬ VersOk vs) := NO.out (fun h => by
                    have h1 := N1.out h
                    have h2 := HBO.out
                    rw [h1.2.2.2.2.2] at h2
                    cases h2)
                  go_wp2_with (fail)
                  go_ret
                  exact chk_no 5 (by decide) HNO.out HG3.out
                | false =>
                  simp only [Bool.false_eq_true, if_false]
                  have HOK := Lib.hid (MK.out hd0 hd4 HUP.out (by omega) HLE.out HBO.out.symm)
                  go_wp2_with (fail)
                  go_roundw
                  case rel =>
                    refine ⟨k + 1, by omega, by go_num, fun j hj => ?_, HG3.out⟩
                    by_cases hjk : j = k
                    · rw [hjk]; exact HOK.out
                    · exact HALL.out j (by omega)
                  case measure => simp [intOf]; omega
      · obtain rfl : k = vs.length := by omega
        have HOK : Hid (VersOk vs) := ⟨by omega, HALL.out⟩
        go_wp2_with (fail)
        go_ret
        exact ⟨0, rfl, ⟨fun _ => HOK.out, fun _ => rfl⟩, hgr⟩
end Go.Proofs.YtdjnomeabadbnaaDoor
