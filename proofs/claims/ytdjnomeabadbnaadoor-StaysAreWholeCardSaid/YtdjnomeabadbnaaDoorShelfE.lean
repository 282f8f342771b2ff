/- The reference's part of shelves; doing nothing; versions that are checked. -/
import Derived.Test.YtdjnomeabadbnaaDoorShelfD
import Derived.Test.YtdjnomeabadbnaaDoorTotals
import Derived.Test.YtdjnomeabadbnaaDoorVers
namespace Go.Proofs.YtdjnomeabadbnaaDoor
open Go.RowKit
attribute [local go_sem ↓] Go.wp_at_zero Go.wp_at_succ

/-- No tasks: a copy, unless there is too much. -/
def DoPost (xs : List ByteArray) (w : World) (e : Ending) (w' : World) : Prop :=
  ∃ v n L, e = .returned (.tuple #[v, .int .i64 (if 60 < xs.length then 2 else 0)]) ∧ n ≤ 60 ∧ w'.ownsRow w.heap.size 9 1 v n (strs L) ∧ w.grownBy w' none
/-! Versions that are checked. -/
def vDay (vs : List Ver) (k : Nat) : Int := (vs.getD k ⟨0, []⟩).day
def vLay (vs : List Ver) (k : Nat) : List ByteArray := (vs.getD k ⟨0, []⟩).lay
structure VerOkAt (vs : List Ver) (k : Nat) : Prop where
  lo : 0 ≤ vDay vs k
  hi : vDay vs k ≤ 4000
  up : 0 < k → vDay vs (k - 1) < vDay vs k
  few : (vLay vs k).length ≤ 60
  like : (vLay vs k).length = (vLay vs 0).length
  keys : (vLay vs k).any oddB = false
structure VersOk (vs : List Ver) : Prop where
  len : vs.length ≤ 200
  all : ∀ k, k < vs.length → VerOkAt vs k
theorem vers_cells {base : Nat} {w : World} {a : Option Addr} {vs : List Ver} (h : NestAt (VerC base) w 2 a vs) (k : Nat) (hk : k < vs.length) :
    ∃ b off la lc, a = some ⟨b, off, none⟩ ∧ w.cell? ⟨b, off + k * 2, none⟩ = some (.int .i64 (vDay vs k)) ∧ w.cell? ⟨b, off + k * 2 + 1, none⟩ = some (.slice la (vLay vs k).length lc) ∧ CellsAt w la (strs (vLay vs k)) ∧ (la = none → (vLay vs k).length = 0 ∧ lc = 0) := by
  obtain ⟨b, off, c, rfl, _, ⟨la, lc, rfl, h1, _, h3⟩, hu⟩ := h.at k hk
  have e : vs.getD k ⟨0, []⟩ = vs[k] := getD_eq vs k _ hk
  refine ⟨b, off, la, lc, rfl, ?_, ?_, ?_, ?_⟩
  · unfold vDay; rw [e]; exact hu 0 _ rfl
  · unfold vLay; rw [e]; exact hu 1 _ rfl
  · unfold vLay; rw [e]; exact h1
  · unfold vLay; rw [e]; exact h3
def ChkPost (vs : List Ver) (w : World) (e : Ending) (w' : World) : Prop := ∃ r : Int, e = .returned (.int .i64 r) ∧ (r = 0 ↔ VersOk vs) ∧ w.grownBy w' none
theorem chk_no {vs : List Ver} {w w' : World} (r : Int) (hr : r ≠ 0) (h : ¬ VersOk vs) (g : w.grownBy w' none) : ChkPost vs w (.returned (.int .i64 r)) w' := ⟨r, rfl, ⟨fun e => absurd e hr, fun e => absurd e h⟩, g⟩
theorem odd_fn : ∀ (args : Array Value) (w : World), (callFunc 143 args).run Tryd.prog w = .ok (.enter 143 args) w := fun _ _ => by kernel_rfl
set_option maxRecDepth 100000 in
set_option maxHeartbeats 4000000 in
theorem checkVersions_any (base : Nat) (vs : List Ver) (a : Option Addr) (c : Nat) (w : World) (h : NestAt (VerC base) w 2 a vs) (hl : vs.length ≤ 100000) (hsz : ∀ v ∈ vs, v.lay.length ≤ 100000 ∧ ∀ s ∈ v.lay, s.size ≤ 100000) :
    Calls Tryd.prog 89 #[.slice a vs.length c] w (ChkPost vs w) := by
  have H := Lib.hid h
  have HSZ := Lib.hid hsz
  clear h hsz
  by_cases h200 : 200 < vs.length
  · go_enter Tryd.func89, Tryd.ntmps89
    go_wp2_with (fail)
    go_ret
    exact chk_no 2 (by decide) (fun h => by have := h.len; omega) (gr_refl _ _)
  · go_enter Tryd.func89, Tryd.ntmps89
    go_wp2_with (fail)
    go_loopw [10] (fun i wr => ∃ k : Nat, k ≤ vs.length ∧ i = .int .i64 k ∧ (∀ j, j < k → VerOkAt vs j) ∧ w.grownBy wr none) (fun i _ => vs.length - (intOf i).toNat)
    case atStart => exact ⟨0, Nat.zero_le _, rfl, fun j hj => absurd hj (Nat.not_lt_zero _), gr_refl _ _⟩
    case round =>
      obtain ⟨k, hk, rfl, hall, hgr⟩ := hrel
      obtain ⟨wo, rfl⟩ : ∃ wo : World, wo = wr := ⟨_, rfl⟩
      have HALL := Lib.hid hall
      clear hall
      by_cases hlt : k < vs.length
      · have hn := H.out.keep0 hgr (fun x c hx => VerC.keep0 hgr x c hx)
        obtain ⟨b, off, la, lc, rfl, d0, d1, hcl, _⟩ := vers_cells hn k hlt
        obtain ⟨b0, off0, la0, lc0, e0, z0, z1, _, _⟩ := vers_cells hn 0 (by omega)
        cases e0
        have hvm : vs.getD k ⟨0, []⟩ ∈ vs := by rw [getD_eq vs k _ hlt]; exact List.getElem_mem hlt
        obtain ⟨s1, s2⟩ := HSZ.out _ hvm
        have NO : Hid (¬ VerOkAt vs k → ¬ VersOk vs) := fun h1 h2 => h1 (h2.all k hlt)
        have MK : Hid (0 ≤ vDay vs k → vDay vs k ≤ 4000 → (0 < k → vDay vs (k - 1) < vDay vs k) → (vLay vs k).length ≤ 60 → (vLay vs k).length = (vLay vs 0).length → (vLay vs k).any oddB = false → VerOkAt vs k) := fun a b c d e f => ⟨a, b, c, d, e, f⟩
        have N1 : Hid (VerOkAt vs k → 0 ≤ vDay vs k ∧ vDay vs k ≤ 4000 ∧ (0 < k → vDay vs (k - 1) < vDay vs k) ∧ (vLay vs k).length ≤ 60 ∧ (vLay vs k).length = (vLay vs 0).length ∧ (vLay vs k).any oddB = false) := fun h => ⟨h.lo, h.hi, h.up, h.few, h.like, h.keys⟩
        have CL := Lib.hid hcl
        have S2 := Lib.hid (show ∀ s ∈ vLay vs k, s.size ≤ 100000 from s2)
        have s1' : (vLay vs k).length ≤ 100000 := s1
        have hprev : 0 < k → wo.cell? ⟨b, off + (k - 1) * 2, none⟩ = some (.int .i64 (vDay vs (k - 1))) := by
          intro h0
          obtain ⟨b', off', la', lc', e', y0, _, _, _⟩ := vers_cells hn (k - 1) (by omega)
          cases e'
          exact y0
        obtain ⟨D, hD⟩ : ∃ D, D = vDay vs k := ⟨_, rfl⟩
        obtain ⟨L, hL⟩ : ∃ L, L = vLay vs k := ⟨_, rfl⟩
        obtain ⟨Dp, hDp⟩ : ∃ D, D = vDay vs (k - 1) := ⟨_, rfl⟩
        obtain ⟨n0, hn0⟩ : ∃ n, n = (vLay vs 0).length := ⟨_, rfl⟩
        rw [← hD] at d0 MK N1
        rw [← hL] at d1 MK N1 CL S2 s1'
        rw [← hDp] at MK N1 hprev
        rw [← hn0] at MK N1 z1
        have HPV := Lib.hid hprev
        simp only [Nat.zero_mul, Nat.add_zero] at z1
        have HG := Lib.hid hgr
        clear hn hvm s1 s2 hcl hD hL hDp hn0 hprev z0 hgr
        go_wp2_with (fail)
        have hO := heap_alloc_new wo (.cells #[.int .i64 D, .slice la L.length lc] 151)
        have hg1 := gr_alloc (gr_refl wo none) (.cells #[.int .i64 D, .slice la L.length lc] 151)
        obtain ⟨w1, hw1⟩ : ∃ w1, w1 = wo.alloc (.cells #[.int .i64 D, .slice la L.length lc] 151) := ⟨_, rfl⟩
        rw [← hw1] at hO hg1
        rw [← hw1]
        obtain ⟨O, hOe⟩ : ∃ O, O = wo.heap.size := ⟨_, rfl⟩
        rw [← hOe] at hO
        rw [← hOe]
        have HG1 := Lib.hid (gr_trans HG.out hg1)
        have HCL := Lib.hid (CL.out.keep0 hg1)
        have z2 := (gr_cell hg1 (lt_of_cell z1)).trans z1
        have HPV1 : Hid (0 < k → w1.cell? ⟨b, off + (k - 1) * 2, none⟩ = some (.int .i64 Dp)) := fun h0 => (gr_cell hg1 (lt_of_cell (HPV.out h0))).trans (HPV.out h0)
        obtain ⟨c0, c1⟩ := blk2C hO
        clear hw1 hOe d0 d1 z1 hO hg1 CL HPV
        refine (day_any D w1).mono ?_
        rintro e w2 ⟨rfl, rfl⟩
        by_cases hday : D < 0 ∨ 4000 < D
        · have hb : (!(decide (D < 0) || decide (4000 < D))) = false := by
            rcases hday with h | h <;> simp [h]
          rw [hb]
          have HNO : Hid (¬ VersOk vs) := NO.out (fun h => by have := N1.out h; omega)
          clear hday hb
          go_wp2_with (fail)
          go_ret
          exact chk_no 1 (by decide) HNO.out HG1.out
        · have hb : (!(decide (D < 0) || decide (4000 < D))) = true := by
            simp; omega
          rw [hb]
          have hd0 : 0 ≤ D := by omega
          have hd4 : D ≤ 4000 := by omega
          clear hday hb
          obtain ⟨bq, hbq⟩ : ∃ bq, bq = (decide (0 < k) && decide (D ≤ Dp)) := ⟨_, rfl⟩
          have HBQ := Lib.hid hbq
          clear hbq
          have lv := lt_of_cell z2
          go_wp2_with (fail)
          go_cut [20] from 21 to 33 (fun s wx => s = .bool bq ∧ ∃ nq, wx = w1.drewN nq)
          case first =>
            by_cases h0 : 0 < k
            · have m1 := HPV1.out h0
              have hkc : (((k - 1 : Nat)) : Int) = (k : Int) - 1 := by omega
              have hint1 : (0 : Int) ≤ (k : Int) - 1 := by omega
              have hint2 : (k : Int) - 1 < (vs.length : Int) := by omega
              have hint3 : (0 : Int) < (k : Int) := by omega
              have htn : ((k : Int) - 1).toNat = k - 1 := by omega
              have hwr : IntKind.i64.wrap ((k : Int) - 1) = (k : Int) - 1 := IntWalk.i64_in _ (by omega)
              have HB2 : Hid (bq = decide (D ≤ Dp)) := by show _ = _; rw [HBQ.out]; simp [h0]
              clear hkc
              go_quiet (fail)
              go_wp2_with (fail)
              go_meet
              exact ⟨by rw [HB2.out], _, rfl⟩
            · obtain rfl : k = 0 := by omega
              have hdf : decide ((0 : Int) < 0) = false := by decide
              have HB2 : Hid (bq = false) := by show _ = _; rw [HBQ.out]; simp
              go_quiet (fail)
              go_wp2_with (fail)
              go_meet
              exact ⟨by rw [HB2.out], _, rfl⟩
          case rest =>
          obtain ⟨rfl, nq, rfl⟩ := hcut
          have HGN := Lib.hid (gr_drewN HG1.out nq)
          cases bq with
          | true =>
            have HNO : Hid (¬ VersOk vs) := NO.out (fun h => by
              have h1 := N1.out h
              have h2 := HBQ.out
              simp only [Bool.true_eq, Bool.and_eq_true, decide_eq_true_eq] at h2
              have := h1.2.2.1 h2.1
              omega)
            go_wp2_with (fail)
            go_ret
            exact chk_no 7 (by decide) HNO.out HGN.out
          | false =>
            have HUP : Hid (0 < k → Dp < D) := by
              show 0 < k → Dp < D
              intro h0
              have h2 := HBQ.out
              simp only [Bool.false_eq, Bool.and_eq_false_iff, decide_eq_false_iff_not] at h2
              omega
            clear HBQ HPV1
            by_cases hl60 : 60 < L.length
            · have HNO : Hid (¬ VersOk vs) := NO.out (fun h => by have h1 := N1.out h; omega)
              go_wp2_with (fail)
              go_ret
              exact chk_no 2 (by decide) HNO.out HGN.out
            · obtain ⟨bl, hbl⟩ : ∃ bl, bl = ((L.length : Int) != (n0 : Int)) := ⟨_, rfl⟩
              have HBL := Lib.hid hbl
              go_wp2_with (fail)
              go_cut [39] from 40 to 48 (fun s wx => s = .bool bl ∧ ∃ nx, wx = (w1.drewN nq).drewN nx)
              case first =>
                clear hbl
                go_quiet (fail)
                go_wp2_with (fail)
                go_meet
                exact ⟨by rw [HBL.out], _, rfl⟩
              case rest =>
              obtain ⟨rfl, nq2, rfl⟩ := hcut
              have HGN := Lib.hid (gr_drewN HG1.out (nq + nq2))
              clear hbl
              cases bl with
              | true =>
                have HNO : Hid (¬ VersOk vs) := NO.out (fun h => by
                  have h1 := N1.out h
                  have h2 := HBL.out
                  simp at h2
                  omega)
                go_wp2_with (fail)
                go_ret
                exact chk_no 3 (by decide) HNO.out (gr_drewN (gr_drewN HG1.out nq) nq2)
              | false =>
                have hle : L.length = n0 := by
                  have h2 := HBL.out
                  simp at h2
                  omega
                have HLE := Lib.hid hle
                obtain ⟨bo, hbo⟩ : ∃ bo, bo = L.any oddB := ⟨_, rfl⟩
                have HBO := Lib.hid hbo
                have CF := Lib.hid (containsFunc_Str0 143 oddB L la lc (w1.drewN (nq + nq2)) (by rw [strs_flat]; exact HCL.out.keep0 (gr_drewN (gr_refl _ _) _)) (by omega) odd_fn (fun x hx W _ => odd_any x W (by have := S2.out x hx; omega)))
                rw [← hbo] at CF
                clear hle hbo HBL
                go_wp2_with (fail)
                refine CF.out.mono ?_
                rintro e w3 ⟨rfl, g3⟩
                have HG3 := Lib.hid (gr_trans HGN.out g3)
                clear CF
                cases bo with
                | true =>
                  have HNO : Hid (¬ VersOk vs) := NO.out (fun h => by
                    have h1 := N1.out h
                    have h2 := HBO.out
                    rw [h1.2.2.2.2.2] at h2
                    cases h2)
                  go_wp2_with (fail)
                  go_ret
                  exact chk_no 5 (by decide) HNO.out HG3.out
                | false =>
                  have HOK := Lib.hid (MK.out hd0 hd4 HUP.out (by omega) HLE.out HBO.out.symm)
                  go_wp2_with (fail)
                  go_roundw
                  case rel =>
                    refine ⟨k + 1, by omega, by go_num, fun j hj => ?_, HG3.out⟩
                    by_cases hjk : j = k
                    · rw [hjk]; exact HOK.out
                    · exact HALL.out j (by omega)
                  case measure => simp [intOf]; omega
      · obtain rfl : k = vs.length := by omega
        have HOK : Hid (VersOk vs) := ⟨by omega, HALL.out⟩
        go_wp2_with (fail)
        go_ret
        exact ⟨0, rfl, ⟨fun _ => HOK.out, fun _ => rfl⟩, hgr⟩
end Go.Proofs.YtdjnomeabadbnaaDoor
