/- The walk of FaultsAddUp. -/
import Derived.Test.YtehhmgbgkemidaaGreatDoorPkSBl
import Derived.Test.YtehhmgbgkemidaaGreatDoorPkSAt
import Derived.Test.YtehhmgbgkemidaaGreatDoorPkSBn
import Derived.Test.YtehhmgbgkemidaaGreatDoorPkSAe
namespace Go.Proofs.YtehhmgbgkemidaaGreatDoor
open Go.RowKit
attribute [local go_sem ↓] Go.wp_at_zero Go.wp_at_succ

/-- What Down returns, as a number. -/
def downN (l : List Cd) (Ks : List ByteArray) (a b : Int) : Int := dn (((litAll endM l Ks).mergeSort (fun x y => decide (x.fr ≤ y.fr))).foldl joinStep []) a b
theorem downN_is {l : List Cd} (h : CdsOk endM l) (Ks : List ByteArray) (a b : Int) : DownIs endM l Ks a b (downN l Ks a b) := by
  refine ⟨_, join_ok (momW endM l) (litAll endM l Ks) _ (List.mergeSort_perm _ _) ?_ (litAll_ok h (by decide) Ks).1 (litAll_ok h (by decide) Ks).2, rfl⟩
  have hs := List.pairwise_mergeSort (le := fun x y : Win => decide (x.fr ≤ y.fr)) (fun a b c h1 h2 => by simp at *; omega) (fun a b => by simp; omega) (litAll endM l Ks)
  exact hs.imp (fun h => by simpa using h)
theorem DownIs.same {l : List Cd} {Ks : List ByteArray} {a b n m : Int} (h : DownIs endM l Ks a b n) (g : DownIs endM l Ks a b m) (hab : a ≤ b) : n = m := by
  obtain ⟨J, hJ, rfl⟩ := h
  obtain ⟨A, hA, rfl⟩ := g
  have e1 := dn_eq hJ.apart hA.apart (fun m => (hJ.same m).trans (hA.same m).symm) a (b - a).toNat
  rw [show a + ((b - a).toNat : Int) = b by omega] at e1
  exact e1
theorem DownIs.bd {l : List Cd} {Ks : List ByteArray} {a b n : Int} (h : DownIs endM l Ks a b n) (hab : a ≤ b) : 0 ≤ n ∧ n ≤ b - a := by
  obtain ⟨J, hJ, rfl⟩ := h
  have e3 := dn_le hJ.apart a (b - a).toNat
  rw [show a + ((b - a).toNat : Int) = b by omega] at e3
  omega
abbrev fKeys : List ByteArray := [⟨#[100, 111, 111, 114]⟩, ⟨#[104, 101, 97, 116]⟩]
theorem fKeys_ok : ∀ s ∈ fKeys, keyB s = true ∧ s.size ≤ 100 := by
  intro s hs
  simp only [List.mem_cons, List.not_mem_nil, or_false] at hs
  rcases hs with rfl | rfl
  · exact ⟨by kernel_rfl, by decide⟩
  · exact ⟨by kernel_rfl, by decide⟩
set_option maxRecDepth 100000 in
set_option maxHeartbeats 8000000 in
theorem faultsAddUp_any (l : List Int) (a : Option Addr) (cap : Nat) (w : World) (hc : CellsAt w a (ints l)) (hl : l.length ≤ 9223372036854775807) :
    Calls Tryz.prog 3 #[.slice a l.length cap] w fun e w' => e = .returned (.bool true) ∧ w.grownBy w' none := by
  have hg0 := gr_alloc (gr_refl w none) (.cells #[.slice a l.length cap, .int .i64 0] 25)
  have sa0 := StreamAt.made cap hc hl
  obtain ⟨w0, hw0⟩ : ∃ w0, w0 = w.alloc (.cells #[.slice a l.length cap, .int .i64 0] 25) := ⟨_, rfl⟩
  have hz0 : w0.heap.size = w.heap.size + 1 := by rw [hw0]; simp
  rw [← hw0] at sa0 hg0
  obtain ⟨lw, hlw⟩ : ∃ lw, lw = w.heap.size := ⟨_, rfl⟩
  obtain ⟨p, hp⟩ : ∃ p, p = w.heap.size := ⟨_, rfl⟩
  rw [← hp] at sa0 hz0
  have HP := Lib.hid hp
  have HW0 := Lib.hid hw0
  clear hc hl hw0 hlw
  go_enter Tryz.func3, Tryz.ntmps3
  go_wp2_with (fail)
  rw [← HW0.out, ← HP.out]
  refine (codes_any l 0 p w0 sa0 (by omega)).mono ?_
  rintro e w1 ⟨v1, N, rfl, o1, hNl, hNs, ⟨q1, hq1, sa1⟩, g1⟩
  obtain ⟨ca, cc, rfl, -, -, -, -⟩ := own_shape o1
  have z1 := g1.size
  clear sa0 HW0 hp
  go_wp2_with (fail)
  refine (rules_any l q1 p w1 sa1 (by omega)).mono ?_
  rintro e w2 ⟨v2, R, rfl, o2, hRl, hRs, ⟨q2, hq2, sa2⟩, g2⟩
  have z2 := g2.size
  have o1 := own_keepS o1 g2 (by omega)
  obtain ⟨_, _, e, -, -, hcN, -⟩ := own_shape o1
  cases e
  obtain ⟨ra, rc, rfl, hRA⟩ := rls_view o2
  have hGR2 := Lib.hid (gr_grown (gr_grown hg0 g1 (fun q e => by cases e; have := HP.out; omega)) g2 (fun q e => by cases e; have := HP.out; omega))
  have HN := Lib.hid hcN
  have HRA := Lib.hid hRA
  have HO1 := Lib.hid o1
  have HO2 := Lib.hid o2
  have HNS := Lib.hid hNs
  have HRS := Lib.hid hRs
  clear sa1 g1 g2 hg0 o1 o2 hcN hRA hNs hRs
  go_wp2_with (fail)
  refine (codesFault_any N ca cc w2 HN.out HNS.out (by omega)).mono ?_
  rintro e w3 ⟨r, rfl, hr, g3⟩
  have HR := Lib.hid hr
  have HG3 := Lib.hid g3
  clear hr g3
  by_cases hr0 : r = 0
  case neg =>
    have hb0 : (r == 0) = false := by simpa using hr0
    have hb1 : (r != 0) = true := by simpa using hr0
    clear hr0
    go_wp2_with (fail)
    refine (meters_any w3).mono ?_
    rintro e w5 ⟨rfl, g5⟩
    go_wp2_with (fail)
    go_ret
    exact ⟨rfl, gr_trans (gr_trans hGR2.out HG3.out) g5⟩
  have HNF := Lib.hid (HR.out hr0)
  subst hr0
  have HRA3 := Lib.hid (HRA.out.keep0 HG3.out)
  clear HR HRA
  go_wp2_with (fail)
  refine (rulesFault_any R ra rc w3 HRA3.out HRS.out hRl).mono ?_
  rintro e w4 ⟨r, rfl, hr, g4⟩
  have HR := Lib.hid hr
  have HG4 := Lib.hid (gr_trans HG3.out g4)
  clear hr g4 HG3
  by_cases hr0 : r = 0
  case neg =>
    have hb0 : (r == 0) = false := by simpa using hr0
    have hb1 : (r != 0) = true := by simpa using hr0
    clear hr0
    go_wp2_with (fail)
    refine (meters_any w4).mono ?_
    rintro e w5 ⟨rfl, g5⟩
    go_wp2_with (fail)
    go_ret
    exact ⟨rfl, gr_trans (gr_trans hGR2.out HG4.out) g5⟩
  have HRF := Lib.hid (HR.out hr0)
  subst hr0
  have sa4 := sa2.keep0 HG4.out
  have HO14 := Lib.hid (own_keep0 HO1.out HG4.out)
  have HO24 := Lib.hid (HO2.out.keep0 HG4.out (fun x c h => h.keep0 HG4.out))
  have hGR4 := Lib.hid (gr_trans hGR2.out HG4.out)
  have z4 := hGR4.out.size
  have z24 := HG4.out.size
  clear HR HRA3 sa2 HO1 HO2 HN hGR2 HG4
  have hg5 := gr_alloc (gr_refl w4 none) (.cells (strs fKeys).toArray 9)
  have hK5 := heap_alloc_new w4 (.cells (strs fKeys).toArray 9)
  have sa5 := sa4.keep0 hg5
  have HO15 := Lib.hid (own_keep0 HO14.out hg5)
  have HO25 := Lib.hid (HO24.out.keep0 hg5 (fun x c h => h.keep0 hg5))
  have hGR5 := Lib.hid (gr_trans hGR4.out hg5)
  obtain ⟨w5, hw5⟩ : ∃ w5, w5 = w4.alloc (.cells (strs fKeys).toArray 9) := ⟨_, rfl⟩
  obtain ⟨Q, hQ⟩ : ∃ Q, Q = w4.heap.size := ⟨_, rfl⟩
  have hQ5 : Q < w5.heap.size := by rw [hw5, hQ]; simp
  rw [← hw5] at hK5 sa5 HO15 HO25 hGR5
  rw [← hQ] at hK5
  have HK5 := Lib.hid hK5
  have HW5 := Lib.hid hw5
  have HQ := Lib.hid hQ
  have hpQ : p < Q := by omega
  clear sa4 hg5 hK5 hw5 HO14 HO24 hQ hGR4
  go_upto_region 6 with (fail)
  rw [show (w4.alloc (.cells #[.string ⟨#[100, 111, 111, 114]⟩, .string ⟨#[104, 101, 97, 116]⟩] 9)) = w5 from HW5.out.symm, ← HQ.out]
  clear HW5 HQ
  go_wp2_with (fail)
  refine (next_any l q2 60 p w5 sa5 (by omega) (by omega)).mono ?_
  rintro e w6 ⟨rfl, sa6, g6⟩
  have hA := nxt_range l q2 60 (by omega)
  obtain ⟨A, hAe⟩ : ∃ A, A = nxt l q2 60 := ⟨_, rfl⟩
  rw [← hAe] at hA
  rw [← hAe]
  clear hAe sa5
  go_wp2_with (fail)
  refine (next_any l (q2 + 1) 200 p w6 sa6 (by omega) (by omega)).mono ?_
  rintro e w7 ⟨rfl, sa7, g7⟩
  have hB := nxt_range l (q2 + 1) 200 (by omega)
  obtain ⟨B, hBe⟩ : ∃ B, B = 60 + nxt l (q2 + 1) 200 := ⟨_, rfl⟩
  have hBw : IntKind.i64.wrap (60 + nxt l (q2 + 1) 200) = B := by rw [← hBe]; exact IntWalk.i64_in _ (by omega)
  have hB2 : 60 ≤ B ∧ B ≤ 259 := by omega
  have g67 := gr_trans g6 g7
  have HO17 := own_keepS HO15.out g67 (by omega)
  have HO27 := HO25.out.keepS g67 (by omega) (fun x c h => h.keepS g67 (by omega))
  obtain ⟨_, _, e, -, -, hcN, -⟩ := own_shape HO17
  cases e
  obtain ⟨_, _, e, hRA⟩ := rls_view HO27
  cases e
  have hK7 := (g67.block _ (lt_of_block HK5.out) (by simp; omega)).trans HK5.out
  have hcK : CellsAt w7 (some ⟨Q, 0, none⟩) (strs fKeys) := fun j v hj => ⟨Q, 0, rfl, by rw [Nat.zero_add]; exact blkC hK7 j (by simpa using hj)⟩
  have hGR7 := Lib.hid (gr_grown hGR5.out g67 (fun q e => by cases e; have := HP.out; omega))
  have HN := Lib.hid hcN
  have HRA := Lib.hid hRA
  have HCK := Lib.hid hcK
  have DW : Hid (∀ (W : World), w7.grownBy W none → ∀ x y : Int, 0 ≤ x → x ≤ y → y ≤ 5761440 → Calls Tryz.prog 12 #[.slice ca N.length cc, .slice (some ⟨Q, 0, none⟩) 2 2, .agg #[.int .i64 x, .int .i64 y]] W fun e w' => ∃ n, e = .returned (.tuple #[.int .i64 n, .int .i64 0]) ∧ DownIs endM N fKeys x y n ∧ W.grownBy w' none) := fun W g x y h1 h2 h3 =>
    down_any N fKeys x y ca cc (some ⟨Q, 0, none⟩) 2 W (HN.out.keep0 g) (HCK.out.keep0 g) HNF.out HNS.out hNl (by decide) fKeys_ok h1 h2 h3
  have hGR7z := hGR7.out.size
  clear sa6 sa7 g6 g7 g67 HO17 HO27 hcN hRA hK7 hcK hBe hB HO15 HO25 HK5 hGR5 HCK
  go_upto_region 7 with (fail)
  go_wp2_with (fail)
  refine (DW.out w7 (gr_refl _ _) A B (by omega) (by omega) (by omega)).mono ?_
  rintro e w8 ⟨n1, rfl, d1, g8⟩
  have D1 := Lib.hid d1
  have G8 := Lib.hid g8
  clear d1 g8
  go_wp2_with (fail)
  refine (DW.out w8 G8.out A 60 (by omega) (by omega) (by omega)).mono ?_
  rintro e w9 ⟨n2, rfl, d2, g9⟩
  have D2 := Lib.hid d2
  have G9 := Lib.hid (gr_trans G8.out g9)
  clear d2 g9 G8
  go_wp2_with (fail)
  refine (DW.out w9 G9.out 60 B (by omega) (by omega) (by omega)).mono ?_
  rintro e w10 ⟨n3, rfl, d3, g10⟩
  have hadd := D1.out.add D2.out d3 (by omega) (by omega)
  have hb1 := D1.out.bd (by omega)
  have hb2 := D2.out.bd (by omega)
  have hb3 := d3.bd (by omega)
  have G10 := Lib.hid (gr_trans G9.out g10)
  have DG := Lib.hid (diagnose_any N R ca cc ra rc w10 (HN.out.keep0 G10.out) (HRA.out.keep0 G10.out) HNF.out HNS.out hNl HRF.out HRS.out hRl)
  clear d3 g10 G9 D1 D2 DW
  go_wp2_with (fail)
  refine DG.out.mono ?_
  rintro e w11 ⟨v11, F, rfl, o11, hFl, hFo, g11⟩
  obtain ⟨fa, fc, rfl, -, -, hfc, -⟩ := own_shape o11
  have HF := Lib.hid hfc
  have HFO := Lib.hid hFo
  have G11 := Lib.hid (gr_trans G10.out g11)
  have e1 : n1 = n2 + n3 := hadd.1
  have hw1 : (n1 == n2 + n3) = true := by rw [e1]; simp
  have hw2 : IntKind.i64.wrap (B - A) = B - A := IntWalk.i64_in _ (by omega)
  have hle : n1 ≤ B - A := hadd.2
  have hd1 : decide (B - A < n1) = false := decide_eq_false (by omega)
  have hG11 := Lib.hid (gr_trans hGR7.out G11.out)
  have HN11 := Lib.hid (HN.out.keep0 G11.out)
  have HR11 := Lib.hid (HRA.out.keep0 G11.out)
  clear o11 hfc hFo g11 hadd G10 DG e1 HN HRA G11 hGR7
  go_wp2_with (fail)
  go_loopw [107] (fun i wr => ∃ k : Nat, k ≤ F.length ∧ i = .int .i64 k ∧ w11.grownBy wr none) (fun i _ => F.length - (intOf i).toNat)
  case atStart => exact ⟨0, Nat.zero_le _, rfl, gr_refl _ _⟩
  case round =>
    obtain ⟨k, hk, rfl, hgr⟩ := hrel
    obtain ⟨wo, rfl⟩ : ∃ wo : World, wo = wr := ⟨_, rfl⟩
    by_cases hlt : k < F.length
    · obtain ⟨fb, fo, rfl, d0, d1, d2⟩ := fd_cells (HF.out.keep0 hgr) k hlt
      obtain ⟨r0, hr0, hfd⟩ := HFO.out _ (List.getElem_mem hlt)
      obtain ⟨m, hm, hme⟩ := List.getElem_of_mem hr0
      rw [← hme] at hfd
      obtain ⟨f, hf⟩ : ∃ f, f = F[k] := ⟨_, rfl⟩
      rw [← hf] at d0 d1 d2 hfd
      obtain ⟨ff, f0, f1⟩ := f
      simp only at d0 d1 d2 hfd
      have hb := And.intro hfd.lo (And.intro hfd.pos hfd.hi)
      simp only [endM] at hb
      have HFD := Lib.hid hfd
      have hV := heap_alloc_new wo (.cells #[.string ff, .int .i64 f0, .int .i64 f1] 44)
      have hg2 := gr_alloc (gr_refl wo none) (.cells #[.string ff, .int .i64 f0, .int .i64 f1] 44)
      obtain ⟨w2, hw2⟩ : ∃ w2, w2 = wo.alloc (.cells #[.string ff, .int .i64 f0, .int .i64 f1] 44) := ⟨_, rfl⟩
      rw [← hw2] at hV hg2
      obtain ⟨V, hVe⟩ : ∃ V, V = wo.heap.size := ⟨_, rfl⟩
      rw [← hVe] at hV
      have HV := Lib.hid hV
      have HG2 := Lib.hid (gr_trans hgr hg2)
      have HW2 := Lib.hid hw2
      have HVE := Lib.hid hVe
      clear hr0 hme hf hfd hV hg2 hgr hw2 hVe
      go_upto_region 16 with (fail)
      rw [← HW2.out, ← HVE.out]
      clear d0 d1 d2 HW2 HVE
      go_wp2_with (fail)
      go_loopw [19, 113] (fun bv i wr => ∃ (j : Nat) (b : Bool), j ≤ R.length ∧ i = .int .i64 j ∧ bv = .bool b ∧ (b = true ∨ j ≤ m) ∧ w2.grownBy wr none) (fun _ i _ => R.length - (intOf i).toNat)
      case atStart => exact ⟨0, false, Nat.zero_le _, rfl, rfl, .inr (Nat.zero_le _), gr_refl _ _⟩
      case round =>
        obtain ⟨j, b, hj, rfl, rfl, hbm, hgr⟩ := hrel
        obtain ⟨wi, rfl⟩ : ∃ wi : World, wi = wr := ⟨_, rfl⟩
        by_cases hjl : j < R.length
        · have hGi := gr_trans HG2.out hgr
          obtain ⟨rb, ro, a1, c1, a2, c2, rfl, e0, e1, e2, e3, hRn, -, -, -, hc1⟩ := rl_cells (HR11.out.keep0 hGi) j hjl
          have hn0 := (HRF.out j hjl).n0
          have hnn := (HRF.out j hjl).needs
          have hns := (HRS.out _ (List.getElem_mem hjl)).needs
          have hl0 := (HRF.out j hjl).l0
          have hl1 := (HRF.out j hjl).l1
          have HIT : Hid (j = m → FdOf endM N R[j] ⟨ff, f0, f1⟩) := fun e => by subst e; exact HFD.out
          obtain ⟨r, hr⟩ : ∃ r, r = R[j] := ⟨_, rfl⟩
          rw [← hr] at e0 e1 e2 e3 hRn hc1 hn0 hnn hns hl0 hl1 HIT
          obtain ⟨rf, rn, rw', rl⟩ := r
          simp only at e0 e1 e2 e3 hRn hc1 hn0 hnn hns hl0 hl1
          obtain ⟨n1, rn', rfl⟩ : ∃ n1 rn', rn = n1 :: rn' := by
            cases rn with
            | nil => simp at hn0
            | cons x y => exact ⟨x, y, rfl⟩
          simp only [List.length_cons] at e1 hc1
          have hX := heap_alloc_new wi (.cells #[.string rf, .slice a1 (rn'.length + 1) c1, .slice a2 rw'.length c2, .int .i64 rl] 46)
          have hg3 := gr_alloc (gr_refl wi none) (.cells #[.string rf, .slice a1 (rn'.length + 1) c1, .slice a2 rw'.length c2, .int .i64 rl] 46)
          obtain ⟨w3, hw3⟩ : ∃ w3, w3 = wi.alloc (.cells #[.string rf, .slice a1 (rn'.length + 1) c1, .slice a2 rw'.length c2, .int .i64 rl] 46) := ⟨_, rfl⟩
          rw [← hw3] at hX hg3
          obtain ⟨X, hXe⟩ : ∃ X, X = wi.heap.size := ⟨_, rfl⟩
          rw [← hXe] at hX
          have hV3 := ((gr_trans hgr hg3).block _ (lt_of_block HV.out) (by simp)).trans HV.out
          have hcn : CellsAt w3 a1 (strs [n1]) := fun q v hq => by
            have e : q = 0 := by
              have := (List.getElem?_eq_some_iff.1 hq).1
              simp [strs] at this; omega
            subst e
            exact hRn.keep0 hg3 0 v (by simpa [strs] using hq)
          have DN : Hid (∀ W, w3.grownBy W none → Calls Tryz.prog 12 #[.slice ca N.length cc, .slice a1 1 c1, .agg #[.int .i64 f0, .int .i64 f1]] W fun e w' => e = .returned (.tuple #[.int .i64 (downN N [n1] f0 f1), .int .i64 0]) ∧ W.grownBy w' none) := fun W g => by
            have h0 := down_any N [n1] f0 f1 ca cc a1 c1 W ((HN11.out.keep0 (gr_trans hGi hg3)).keep0 g) (hcn.keep0 g) HNF.out HNS.out hNl (by simp) (fun s hs => by
              have e : s = n1 := by simpa using hs
              rw [e]
              exact ⟨hnn n1 (List.mem_cons_self ..), hns.2 n1 (List.mem_cons_self ..)⟩) (by omega) (by omega) (by omega)
            refine h0.mono ?_
            rintro e w' ⟨n, rfl, hd, g'⟩
            rw [hd.same (downN_is HNF.out.ok [n1] f0 f1) (by omega)]
            exact ⟨rfl, g'⟩
          have FULL : Hid (j = m → downN N [n1] f0 f1 = f1 - f0) := fun e => (downN_is HNF.out.ok [n1] f0 f1).full (by omega) (HIT.out e).all
          obtain ⟨D, hD⟩ : ∃ D, D = downN N [n1] f0 f1 := ⟨_, rfl⟩
          rw [← hD] at DN FULL
          have FLT : Hid (j = m → ff = rf ∧ rl ≤ f1 - f0) := fun e => ⟨(HIT.out e).fault, (HIT.out e).long⟩
          have HGN := Lib.hid (gr_trans hgr hg3)
          have v0 := grew_cell (blkC (v := .string ff) hV3 0 rfl)
          have v1 := grew_cell (blkC (v := .int .i64 f0) hV3 1 rfl)
          have v2 := grew_cell (blkC (v := .int .i64 f1) hV3 2 rfl)
          have x1 := grew_cell (blkC (v := .slice a1 (rn'.length + 1) c1) hX 1 rfl)
          have HV3 := Lib.hid hV3
          have HX := Lib.hid hX
          have HW3 := Lib.hid hw3
          have HXE := Lib.hid hXe
          clear hRn hcn hr hnn hns hD hX hg3 hw3 hXe hV3 hgr hGi HIT
          go_upto_region 20 with (fail)
          rw [← HW3.out, ← HXE.out]
          clear e0 e1 e2 e3 HW3 HXE
          refine wp_region_grew (by kernel_rfl) (by kernel_rfl) ?_
          repeat (go_big_quiet_step (first | (go_at_call 12; exact Calls.grew_of (fun W g => DN.out W g))))
          refine wpQuiet_nil ?_
          rintro wq ⟨nn, rfl⟩
          have gq := nn.gr
          obtain ⟨wn, hwn⟩ : ∃ wn, wn = nn.w := ⟨_, rfl⟩
          rw [← hwn] at gq
          rw [← hwn]
          have hVn := (gq.block _ (lt_of_block HV3.out) (by simp)).trans HV3.out
          have hXn := (gq.block _ (lt_of_block HX.out) (by simp)).trans HX.out
          have HGQ := Lib.hid (gr_trans HGN.out gq)
          clear v0 v1 v2 x1 hwn gq DN HGN HV3 HX
          have v0 : wn.cell? ⟨V, 0, none⟩ = some (.string ff) := blkC hVn 0 rfl
          have v1 : wn.cell? ⟨V, 1, none⟩ = some (.int .i64 f0) := blkC hVn 1 rfl
          have v2 : wn.cell? ⟨V, 2, none⟩ = some (.int .i64 f1) := blkC hVn 2 rfl
          have x0 : wn.cell? ⟨X, 0, none⟩ = some (.string rf) := blkC hXn 0 rfl
          have x3 : wn.cell? ⟨X, 3, none⟩ = some (.int .i64 rl) := blkC hXn 3 rfl
          have HBM := Lib.hid hbm
          clear hVn hXn hbm
          cases b with
          | true =>
            go_wp2_with (fail)
            go_roundw
            case rel => exact ⟨j + 1, true, by omega, by go_num, rfl, .inl rfl, HGQ.out⟩
            case measure => simp [intOf]; omega
          | false =>
            have hjm : j ≤ m := HBM.out.elim (fun e => by cases e) id
            clear HBM
            by_cases hje : j = m
            · obtain ⟨q1, q2⟩ := FLT.out hje
              have q3 := FULL.out hje
              subst q1 q3
              have t1 : (ff.toList == ff.toList) = true := by simp
              have t2 : decide (rl ≤ f1 - f0) = true := decide_eq_true q2
              clear FLT FULL HFD
              go_wp2_with (fail)
              go_roundw
              case rel => exact ⟨j + 1, true, by omega, by go_num, rfl, .inl rfl, HGQ.out⟩
              case measure => simp [intOf]; omega
            · clear FLT FULL HFD
              have hjm2 : j + 1 ≤ m := by omega
              clear hjm hje
              cases t1 : (rf.toList == ff.toList) with
              | false =>
                go_wp2_with (fail)
                go_roundw
                case rel => exact ⟨j + 1, false, by omega, by go_num, rfl, .inr hjm2, HGQ.out⟩
                case measure => simp [intOf]; omega
              | true =>
                by_cases q2 : rl ≤ f1 - f0
                · have t2 : decide (rl ≤ f1 - f0) = true := decide_eq_true q2
                  by_cases q3 : D = f1 - f0
                  · have t3 : (D == f1 - f0) = true := by simpa using q3
                    clear q3
                    go_wp2_with (fail)
                    go_roundw
                    case rel => exact ⟨j + 1, true, by omega, by go_num, rfl, .inl rfl, HGQ.out⟩
                    case measure => simp [intOf]; omega
                  · have t3 : (D == f1 - f0) = false := by simpa using q3
                    clear q3
                    go_wp2_with (fail)
                    go_roundw
                    case rel => exact ⟨j + 1, false, by omega, by go_num, rfl, .inr hjm2, HGQ.out⟩
                    case measure => simp [intOf]; omega
                · have t2 : decide (rl ≤ f1 - f0) = false := decide_eq_false q2
                  go_wp2_with (fail)
                  go_roundw
                  case rel => exact ⟨j + 1, false, by omega, by go_num, rfl, .inr hjm2, HGQ.out⟩
                  case measure => simp [intOf]; omega
        · have hbt : b = true := hbm.elim id (fun h => by omega)
          subst hbt
          have HGI := Lib.hid (gr_trans HG2.out hgr)
          clear hgr hbm
          go_wp2_with (fail)
          go_roundw
          case rel => exact ⟨k + 1, by omega, by go_num, HGI.out⟩
          case measure => simp [intOf]; omega
    · obtain rfl : k = F.length := by omega
      have HGI := Lib.hid (gr_trans hG11.out hgr)
      clear hgr
      go_wp2_with (fail)
      refine (meters_any wo).mono ?_
      rintro e w5 ⟨rfl, g5⟩
      go_wp2_with (fail)
      go_ret
      exact ⟨rfl, gr_trans HGI.out g5⟩
end Go.Proofs.YtehhmgbgkemidaaGreatDoor
