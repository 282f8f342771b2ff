/- The walk of DepotsStay. -/
import Derived.Test.YtakabckmiodjaaaDoorPkDAx
import Derived.Test.YtakabckmiodjaaaDoorPkDAz
import Derived.Test.YtakabckmiodjaaaDoorPkDBp
import Derived.Test.YtakabckmiodjaaaDoorPkDBj
import Derived.Test.YtakabckmiodjaaaDoorPkDBq
namespace Go.Proofs.YtakabckmiodjaaaDoor
open Go.RowKit
theorem filter_tt {α : Type} (l : List α) : l.filter (fun _ => true) = l := by simp

set_option maxRecDepth 100000 in
set_option maxHeartbeats 4000000 in
theorem depotsStay_any (l : List Int) (a : Option Addr) (cap : Nat) (w : World) (hc : CellsAt w a (ints l)) (hl : l.length ≤ 9223372036854775807) :
    Calls Tryd.prog 3 #[.slice a l.length cap] w fun e w' => e = .returned (.bool true) ∧ w.grownBy w' none := by
  have hsA := StreamAt.made cap hc hl
  have hg1 := gr_alloc (gr_refl w none) (.cells #[.slice a l.length cap, .int .i64 0] 25)
  have hsB := StreamAt.madeLow cap hg1 hc hl
  have hg2 := gr_alloc hg1 (.cells #[.slice a l.length cap, .int .i64 0] 25)
  have hsA2 := hsA.keep0 (gr_alloc (gr_refl _ none) (.cells #[.slice a l.length cap, .int .i64 0] 25))
  rw [show (w.alloc (.cells #[.slice a l.length cap, .int .i64 0] 25)).heap.size = w.heap.size + 1 by simp] at hsB
  obtain ⟨w0, hw0⟩ : ∃ w0, w0 = (w.alloc (.cells #[.slice a l.length cap, .int .i64 0] 25)).alloc (.cells #[.slice a l.length cap, .int .i64 0] 25) := ⟨_, rfl⟩
  have hz0 : w0.heap.size = w.heap.size + 2 := by rw [hw0]; simp
  rw [← hw0] at hsA2 hsB hg2
  have HW0 := Lib.hid hw0
  have HS2 := Lib.hid hsB
  have HSA2 := Lib.hid hsA2
  have HG2 := Lib.hid hg2
  have WA := Lib.hid (fun (W : World) (g : w0.grownBy W none) => streamWallets_any l w.heap.size 0 w.heap.size W (hsA2.keep0 g) (by omega))
  have WB := Lib.hid (fun (W : World) (g : w0.grownBy W (some w.heap.size)) => streamWallets_any l w.heap.size 0 (w.heap.size + 1) W (hsB.keepNe g (fun q e => by cases e; exact ⟨by omega, Nat.le_refl _⟩)) (by omega))
  clear hw0 hc hsA hsB hg2 hg1 hsA2
  go_enter Tryd.func3, Tryd.ntmps3
  go_wp2_with (fail)
  rw [← HW0.out]
  have HGD := Lib.hid (gr_drew (gr_refl w0 none))
  go_cut [5, 6] from 27 to 34 (fun s5 s6 wx => BoxPost l w.heap.size (w.heap.size + 1) w.heap.size w s5 s6 wx)
  case first =>
    obtain ⟨n0, hn0⟩ : ∃ n : Nat, (n : Int) = nxt l 0 16 := ⟨(nxt l 0 16).toNat, by have := nxt_range l 0 16 (by decide); omega⟩
    obtain ⟨A, hA⟩ : ∃ A, A = (walsM l (0 + 1) n0).1 0 := ⟨_, rfl⟩
    obtain ⟨q, hq⟩ : ∃ q, q = (walsM l (0 + 1) n0).2 := ⟨_, rfl⟩
    have HN0 := Lib.hid hn0
    have HAE := Lib.hid hA
    have HQE := Lib.hid hq
    have hsz0 := HW0.out
    have hz0' : w.heap.size + 2 ≤ w0.heap.size := by omega
    have HSAd := HSA2.out.keep0 (gr_drew (gr_refl w0 none))
    have HSBd := HS2.out.keep0 (gr_drew (gr_refl w0 none))
    have HGd := gr_drew HG2.out
    clear hn0 hA hq hsz0
    refine wp_region_planB (by kernel_rfl) (by kernel_rfl) (by kernel_rfl) (by decide) (by kernel_rfl) 12 (fun _ _ _ => True) (fun j v _ => DpV w.heap.size (w.heap.size + 1) j v) (fun _ _ _ _ _ _ _ _ _ h _ => h) (DS w w.heap.size (w.heap.size + 1) w.heap.size l q A 133) (DS.init _ rfl (by omega) HSAd HSBd HGd hz0') ?_ ?_
    · intro i o listed a wx ho hls hun hpre hde hld hS hout hval
      have hi : i < 12 := (List.getElem?_eq_some_iff.1 ho).1
      have e3 : a.eval (.tmp 3) = .pointer (some ⟨w.heap.size, 0, none⟩) := hout 3 (by decide)
      have e3' : a.tmps[3]?.getD undef = .pointer (some ⟨w.heap.size, 0, none⟩) := (Array.getD_eq_getD_getElem? ..).symm.trans e3
      have e4 : a.eval (.tmp 4) = .pointer (some ⟨w.heap.size + 1, 0, none⟩) := hout 4 (by decide)
      have e4' : a.tmps[4]?.getD undef = .pointer (some ⟨w.heap.size + 1, 0, none⟩) := (Array.getD_eq_getD_getElem? ..).symm.trans e4
      replace hls : listed.size = 12 := hls
      obtain rfl | rfl | rfl | rfl | rfl | rfl | rfl | rfl | rfl | rfl | rfl | rfl : i = 0 ∨ i = 1 ∨ i = 2 ∨ i = 3 ∨ i = 4 ∨ i = 5 ∨ i = 6 ∨ i = 7 ∨ i = 8 ∨ i = 9 ∨ i = 10 ∨ i = 11 := by omega
      · (change some _ = some o at ho; injection ho with ho; subst ho)
        go_simp
        exact ⟨_, rfl, trivial, rfl, DS.step hS.sz (by rw [hls]; decide) (by decide) ((hS.rs.move _).1)⟩
      · (change some _ = some o at ho; injection ho with ho; subst ho)
        have va : a.eval (.tmp 27) = .pointer (some ⟨w.heap.size, 0, none⟩) := hval 0 _ 27 rfl rfl (hld 0 (by kernel_rfl))
        have va' : a.tmps[27]?.getD undef = .pointer (some ⟨w.heap.size, 0, none⟩) := (Array.getD_eq_getD_getElem? ..).symm.trans va
        have hs0 := hS.rs.sA
        simp only [getD_ff hun] at hs0
        go_simp
        refine (streamWallets_any l w.heap.size 0 (w.heap.size) wx hs0 (by omega)).mono ?_
        rintro e wy ⟨wb1, n1, q1, V1, W1, pd1, sp1, rfl, K1, Y1, hW1, hq1, hn1, hqk1, sA1, hwb1, hwl1, hgA⟩
        obtain rfl : n1 = n0 := by have := HN0.out; omega
        have hA1 : W1 0 = A := by rw [hW1]; exact HAE.out.symm
        have hs1 : StreamAt wy (w.heap.size) w.heap.size l q := by rw [HQE.out]; rw [hq1] at sA1; exact sA1
        have HOKX : WOk A 1600 ∧ q ≤ 100 := ⟨by rw [← hA1]; exact Y1.ok 0 (by omega), by rw [HQE.out]; rw [hq1] at hqk1; omega⟩
        exact ⟨_, rfl, trivial, trivial, DS.step hS.sz (by rw [hls]; decide) (by decide) (hS.rs.callA (hde 2 (by kernel_rfl)) (hde 3 (by kernel_rfl)) (hde 5 (by kernel_rfl)) (hde 10 (by kernel_rfl)) hgA hs1 K1 hA1 HOKX)⟩
      · (change some _ = some o at ho; injection ho with ho; subst ho)
        obtain ⟨wb, u, k1, k2, k3, k4, k5, k6, k7⟩ := hS.rs.one (hld 1 (by kernel_rfl))
        have va : a.eval (.tmp 28) = .slice (some ⟨wb, 0, none⟩) 3 3 := k1
        have va' : a.tmps[28]?.getD undef = .slice (some ⟨wb, 0, none⟩) 3 3 := (Array.getD_eq_getD_getElem? ..).symm.trans va
        go_simp
        exact ⟨_, rfl, trivial, trivial, DS.step hS.sz (by rw [hls]; decide) (by decide) (hS.rs.ixA (hld 1 (by kernel_rfl)) k1)⟩
      · (change some _ = some o at ho; injection ho with ho; subst ho)
        obtain ⟨wb, u, k1, k2, k3, ⟨b1, o1, c1, b2, o2, c2, b3, o3, c3, rfl⟩, k5, k6, k7⟩ := hS.rs.one (hld 1 (by kernel_rfl))
        have va : a.eval (.tmp 29) = .pointer (some ⟨wb, 0, none⟩) := k5 (hld 2 (by kernel_rfl))
        have va' : a.tmps[29]?.getD undef = .pointer (some ⟨wb, 0, none⟩) := (Array.getD_eq_getD_getElem? ..).symm.trans va
        have c0 : wx.cell? ⟨wb, 0, none⟩ = some (.slice (some ⟨b1, o1, none⟩) 3 c1) := k2.c0
        have c1' : wx.cell? ⟨wb, 1, none⟩ = some (.slice (some ⟨b2, o2, none⟩) 3 c2) := k2.c1
        have c2' : wx.cell? ⟨wb, 2, none⟩ = some (.slice (some ⟨b3, o3, none⟩) 3 c3) := k2.c2
        go_simp
        exact ⟨_, rfl, trivial, trivial, DS.step hS.sz (by rw [hls]; decide) (by decide) (hS.rs.ldA (hld 1 (by kernel_rfl)) (hde 10 (by kernel_rfl)) k1 k2)⟩
      · (change some _ = some o at ho; injection ho with ho; subst ho)
        go_simp
        exact ⟨_, rfl, trivial, rfl, DS.step hS.sz (by rw [hls]; decide) (by decide) ((hS.rs.move _).2)⟩
      · (change some _ = some o at ho; injection ho with ho; subst ho)
        have va : a.eval (.tmp 31) = .pointer (some ⟨w.heap.size + 1, 0, none⟩) := hval 4 _ 31 rfl rfl (hld 4 (by kernel_rfl))
        have va' : a.tmps[31]?.getD undef = .pointer (some ⟨w.heap.size + 1, 0, none⟩) := (Array.getD_eq_getD_getElem? ..).symm.trans va
        have hs0 := hS.rs.sB
        simp only [getD_ff hun] at hs0
        go_simp
        refine (streamWallets_any l w.heap.size 0 (w.heap.size + 1) wx hs0 (by omega)).mono ?_
        rintro e wy ⟨wb1, n1, q1, V1, W1, pd1, sp1, rfl, K1, Y1, hW1, hq1, hn1, hqk1, sA1, hwb1, hwl1, hgA⟩
        obtain rfl : n1 = n0 := by have := HN0.out; omega
        have hA1 : W1 0 = A := by rw [hW1]; exact HAE.out.symm
        have hs1 : StreamAt wy (w.heap.size + 1) w.heap.size l q := by rw [HQE.out]; rw [hq1] at sA1; exact sA1
        exact ⟨_, rfl, trivial, trivial, DS.step hS.sz (by rw [hls]; decide) (by decide) (hS.rs.callB (hde 6 (by kernel_rfl)) (hde 7 (by kernel_rfl)) (hde 11 (by kernel_rfl)) hgA hs1 K1 hA1)⟩
      · (change some _ = some o at ho; injection ho with ho; subst ho)
        obtain ⟨wb, u, k1, k2, k3, k4, k5, k6, k7⟩ := hS.rs.two (hld 5 (by kernel_rfl))
        have va : a.eval (.tmp 32) = .slice (some ⟨wb, 0, none⟩) 3 3 := k1
        have va' : a.tmps[32]?.getD undef = .slice (some ⟨wb, 0, none⟩) 3 3 := (Array.getD_eq_getD_getElem? ..).symm.trans va
        go_simp
        exact ⟨_, rfl, trivial, trivial, DS.step hS.sz (by rw [hls]; decide) (by decide) (hS.rs.ixB (hld 5 (by kernel_rfl)) k1)⟩
      · (change some _ = some o at ho; injection ho with ho; subst ho)
        obtain ⟨wb, u, k1, k2, k3, ⟨b1, o1, c1, b2, o2, c2, b3, o3, c3, rfl⟩, k5, k6, k7⟩ := hS.rs.two (hld 5 (by kernel_rfl))
        have va : a.eval (.tmp 33) = .pointer (some ⟨wb, 0, none⟩) := k5 (hld 6 (by kernel_rfl))
        have va' : a.tmps[33]?.getD undef = .pointer (some ⟨wb, 0, none⟩) := (Array.getD_eq_getD_getElem? ..).symm.trans va
        have c0 : wx.cell? ⟨wb, 0, none⟩ = some (.slice (some ⟨b1, o1, none⟩) 3 c1) := k2.c0
        have c1' : wx.cell? ⟨wb, 1, none⟩ = some (.slice (some ⟨b2, o2, none⟩) 3 c2) := k2.c1
        have c2' : wx.cell? ⟨wb, 2, none⟩ = some (.slice (some ⟨b3, o3, none⟩) 3 c3) := k2.c2
        go_simp
        exact ⟨_, rfl, trivial, trivial, DS.step hS.sz (by rw [hls]; decide) (by decide) (hS.rs.ldB (hld 5 (by kernel_rfl)) (hde 11 (by kernel_rfl)) k1 k2)⟩
      · (change some _ = some o at ho; injection ho with ho; subst ho)
        go_simp
        exact ⟨_, rfl, trivial, trivial, DS.step hS.sz (by rw [hls]; decide) (by decide) (hS.rs.alA (hde 10 (by kernel_rfl)))⟩
      · (change some _ = some o at ho; injection ho with ho; subst ho)
        go_simp
        exact ⟨_, rfl, trivial, trivial, DS.step hS.sz (by rw [hls]; decide) (by decide) (hS.rs.alB (hde 11 (by kernel_rfl)))⟩
      · (change some _ = some o at ho; injection ho with ho; subst ho)
        obtain ⟨wb, u, k1, k2, k3, ⟨b1, o1, c1, b2, o2, c2, b3, o3, c3, rfl⟩, k5, k6, k7⟩ := hS.rs.one (hld 1 (by kernel_rfl))
        have k6' := k6 (hld 3 (by kernel_rfl))
        have va : a.eval (.tmp 30) = .agg #[.slice (some ⟨b1, o1, none⟩) 3 c1, .slice (some ⟨b2, o2, none⟩) 3 c2, .slice (some ⟨b3, o3, none⟩) 3 c3] := k6'
        have va' : a.tmps[30]?.getD undef = .agg #[.slice (some ⟨b1, o1, none⟩) 3 c1, .slice (some ⟨b2, o2, none⟩) 3 c2, .slice (some ⟨b3, o3, none⟩) 3 c3] := (Array.getD_eq_getD_getElem? ..).symm.trans va
        obtain ⟨P, j1, j2, j3, j4⟩ := hS.rs.al1 (hld 8 (by kernel_rfl))
        have hnil := j4 (getD_ff hun)
        have vp : a.eval (.tmp 5) = .pointer (some ⟨P, 0, none⟩) := j1
        have vp' : a.tmps[5]?.getD undef = .pointer (some ⟨P, 0, none⟩) := (Array.getD_eq_getD_getElem? ..).symm.trans vp
        obtain ⟨f0, f1, f2, f3, f4, f5⟩ := hnil.facts
        go_simp
        have hfin := hS.rs.stA (hld 1 (by kernel_rfl)) (hld 3 (by kernel_rfl)) (hld 8 (by kernel_rfl)) (hld 9 (by kernel_rfl)) (getD_ff hun) k6' j1
        simp only [setW] at hfin
        exact ⟨undef, rfl, trivial, trivial, DS.stepN hS.sz (by rw [hls]; decide) hfin⟩
      · (change some _ = some o at ho; injection ho with ho; subst ho)
        obtain ⟨wb, u, k1, k2, k3, ⟨b1, o1, c1, b2, o2, c2, b3, o3, c3, rfl⟩, k5, k6, k7⟩ := hS.rs.two (hld 5 (by kernel_rfl))
        have k6' := k6 (hld 7 (by kernel_rfl))
        have va : a.eval (.tmp 34) = .agg #[.slice (some ⟨b1, o1, none⟩) 3 c1, .slice (some ⟨b2, o2, none⟩) 3 c2, .slice (some ⟨b3, o3, none⟩) 3 c3] := k6'
        have va' : a.tmps[34]?.getD undef = .agg #[.slice (some ⟨b1, o1, none⟩) 3 c1, .slice (some ⟨b2, o2, none⟩) 3 c2, .slice (some ⟨b3, o3, none⟩) 3 c3] := (Array.getD_eq_getD_getElem? ..).symm.trans va
        obtain ⟨P, j1, j2, j3, j4⟩ := hS.rs.al2 (hld 9 (by kernel_rfl))
        have hnil := j4 (getD_ff hun)
        have vp : a.eval (.tmp 6) = .pointer (some ⟨P, 0, none⟩) := j1
        have vp' : a.tmps[6]?.getD undef = .pointer (some ⟨P, 0, none⟩) := (Array.getD_eq_getD_getElem? ..).symm.trans vp
        obtain ⟨f0, f1, f2, f3, f4, f5⟩ := hnil.facts
        go_simp
        have hfin := hS.rs.stB (hld 5 (by kernel_rfl)) (hld 7 (by kernel_rfl)) (hld 8 (by kernel_rfl)) (hld 9 (by kernel_rfl)) (getD_ff hun) k6' j1
        simp only [setW] at hfin
        exact ⟨undef, rfl, trivial, trivial, DS.stepN hS.sz (by rw [hls]; decide) hfin⟩
    · intro vs listed wx hls hall hS hval
      replace hls : listed.size = 12 := hls
      have hb := hS.rs.box (fun i hi => getD_tt (by rw [hls]; exact hi) (hall i hi))
      have h5 := (hval 8 _ 5 rfl rfl).2
      have h6 := (hval 9 _ 6 rfl rfl).2
      rw [h5, h6] at hb
      have HB := Lib.hid hb
      clear hb h5 h6 hS hval hall
      simp only [putAll]
      (try go_simp)
      go_wp2_with (fail)
      go_meet
      exact HB.out
  case rest =>
    obtain ⟨bx, by_, q, ⟨u1, u2, u3⟩, ⟨v1, v2, v3⟩, A, rfl, rfl, hbx, hby, htw, hok, hq, hgr, hbx2, hby2⟩ := hcut
    obtain ⟨wz, rfl⟩ : ∃ wz : World, wz = wc := ⟨_, rfl⟩
    have MA := rightMoves_any l q w.heap.size wz htw.sA (by omega)
    have HBX := Lib.hid hbx
    have HBY := Lib.hid hby
    have HTW := Lib.hid htw
    have HOK := Lib.hid hok
    have HGR := Lib.hid hgr
    clear hbx hby htw hok hgr WA WB HW0 HS2 HSA2 HG2 HGD
    go_wp2_with (fail)
    refine MA.mono ?_
    rintro e w3 ⟨v3', N, rfl, ho3, hN9, hNok, ⟨q3, hq3, sA3, hN, hq3e⟩, hg3⟩
    have hwz2 : w.heap.size + 2 ≤ wz.heap.size := by have := HTW.out.sB.lt; omega
    have MB := rightMoves_any l q (w.heap.size + 1) w3 (HTW.out.sB.keepNe hg3 (fun q e => by cases e; exact ⟨by omega, Nat.le_refl _⟩)) (by omega)
    obtain ⟨ma, mc, rfl, -, -, -, -⟩ := own_shape ho3
    have HO3 := Lib.hid ho3
    have HG3 := Lib.hid hg3
    have HN := Lib.hid hN
    have HNOK := Lib.hid hNok
    clear ho3 hg3 hN hNok sA3 hq3e MA
    go_wp2_with (fail)
    refine MB.mono ?_
    rintro e w4 ⟨v4', N', rfl, ho4, hN9', -, ⟨q4, hq4, sB4, hN', hq4e⟩, hg4⟩
    obtain rfl : N' = N := hN'.trans HN.out.symm
    obtain ⟨na, nc, rfl, -, -, hnC0, -⟩ := own_shape ho4
    have hmC : CellsAt w4 ma (flat encMv N') := own_cells HO3.out hg4 (by omega)
    have hnC : CellsAt w4 na (flat encMv N') := hnC0
    have hm0 := own_nil HO3.out
    have hn0 := own_nil ho4
    have hX : WalAt w4 (fun b => b < w4.heap.size) u1 u2 u3 A := ((HTW.out.wA.keep HG3.out (fun q e h => by cases e; exact h.1 rfl)).keep hg4 (fun q e h => by cases e; exact h.2 rfl)).weak (fun b hb _ => hb)
    have hY : WalAt w4 (fun b => b < w4.heap.size) v1 v2 v3 A := ((HTW.out.wB.keep HG3.out (fun q e h => by cases e; exact h.1 rfl)).keep hg4 (fun q e h => by cases e; exact h.2 rfl)).weak (fun b hb _ => hb)
    have hbx4 := (HBX.out.keep HG3.out (fun q e => by cases e; omega)).keep hg4 (fun q e => by cases e; omega)
    have hby4 := (HBY.out.keep HG3.out (fun q e => by cases e; omega)).keep hg4 (fun q e => by cases e; omega)
    have hgr4 : w.grownBy w4 none := gr_grown (gr_grown HGR.out HG3.out (fun _ e => by cases e; exact Nat.le_refl _)) hg4 (fun _ e => by cases e; omega)
    have HMC := Lib.hid hmC
    have HNC := Lib.hid hnC
    have HM0 := Lib.hid hm0
    have HN0 := Lib.hid hn0
    have HX := Lib.hid hX
    have HY := Lib.hid hY
    have HBY4 := Lib.hid hby4
    have HGR4 := Lib.hid hgr4
    have x0 : w4.cell? ⟨bx, 0, none⟩ = some u1 := hbx4.c0
    have x1 : w4.cell? ⟨bx, 1, none⟩ = some u2 := hbx4.c1
    have x2 : w4.cell? ⟨bx, 2, none⟩ = some u3 := hbx4.c2
    have HBX4 := Lib.hid hbx4
    clear hbx4
    have CR := credit_any u1 u2 u3 A 1600 (fun b => b < w4.heap.size) 0 5 w4 hX HOK.out (by omega) (by omega) (by omega)
    rw [show siteV 0 = .string { data := #[97] } from rfl] at CR
    clear MB ho4 hN' hq4e hg4 sB4 hmC hnC hm0 hn0 hX hY hby4 hgr4 HBX HBY HTW HO3 HG3 HN HGR
    go_wp2_with (fail)
    refine CR.mono ?_
    rintro e w5 ⟨xa, ya, za, vsa, rfl, howA, hg5⟩
    obtain ⟨g1, c1, g2, c2, g3, c3, rfl, rfl, rfl, -⟩ := SpW.of howA
    have SPA := Lib.hid (Sp1.of howA)
    have hbl := lt_of_cell x0
    have x0' : w5.cell? ⟨bx, 0, none⟩ = some u1 := (gr_cell hg5 hbl).trans x0
    have x1' : w5.cell? ⟨bx, 1, none⟩ = some u2 := (gr_cell hg5 hbl).trans x1
    have x2' : w5.cell? ⟨bx, 2, none⟩ = some u3 := (gr_cell hg5 hbl).trans x2
    have hbl5 := lt_of_cell x0'
    have HG5 := Lib.hid hg5
    clear howA CR x0 x1 x2 hbl hg5
    go_wp2_with (fail)
    obtain ⟨w6, hw6⟩ : ∃ w6, w6 = w5.alloc (.cells #[.slice (some ⟨g1, 0, none⟩) 3 c1, .slice (some ⟨g2, 0, none⟩) 3 c2, .slice (some ⟨g3, 0, none⟩) 3 c3] 29) := ⟨_, rfl⟩
    have hg56 : w5.grownBy w6 none := by rw [hw6]; exact gr_alloc (gr_refl _ _) _
    have hB9 : w6.heap[w5.heap.size]? = some (.cells #[.slice (some ⟨g1, 0, none⟩) 3 c1, .slice (some ⟨g2, 0, none⟩) 3 c2, .slice (some ⟨g3, 0, none⟩) 3 c3] 29 (0, 0)) := by rw [hw6]; exact heap_alloc_new w5 _
    rw [← hw6]
    have hg46 := gr_trans HG5.out hg56
    obtain ⟨b9, hb9⟩ : ∃ b9, b9 = w5.heap.size := ⟨_, rfl⟩
    rw [← hb9] at hB9
    rw [← hb9]
    have SPA6 := Lib.hid ((SPA.out.keep0 hg56).top hg56.size)
    have MG := merge_any u1 u2 u3 u1 u2 u3 A A 1600 (fun b => b < w4.heap.size) w6 (HX.out.keep0 hg46) (HX.out.keep0 hg46) HOK.out HOK.out (by omega) (fun i _ => .inl (RowLe.refl _ _))
    have HG46 := Lib.hid hg46
    have HB9 := Lib.hid hB9
    clear hw6 hg56 hg46 SPA hB9 hb9 x0' x1' x2' hbl5 HG5
    refine MG.mono ?_
    rintro e w7 ⟨xb, yb, zb, vsb, C, rfl, howB, -, hg7⟩
    obtain ⟨k1, d1, k2, d2, k3, d3, rfl, rfl, rfl, -⟩ := SpW.of howB
    have hB97 := (hg7.block b9 (lt_of_block HB9.out) (by simp)).trans HB9.out
    obtain ⟨p0, p1, p2, -⟩ := blk_cells hB97
    have hbl9 := lt_of_block hB97
    have SPB := Lib.hid (Sp1.of howB)
    have HG7 := Lib.hid hg7
    clear howB MG hg7 hB97
    go_wp2_with (fail)
    obtain ⟨w8, hw8⟩ : ∃ w8, w8 = w7.alloc (.cells #[.slice (some ⟨k1, 0, none⟩) 3 d1, .slice (some ⟨k2, 0, none⟩) 3 d2, .slice (some ⟨k3, 0, none⟩) 3 d3] 29) := ⟨_, rfl⟩
    have hg78 : w7.grownBy w8 none := by rw [hw8]; exact gr_alloc (gr_refl _ _) _
    have hsz8 : w8.heap.size = w7.heap.size + 1 := by rw [hw8]; simp
    have HSPS : Hid (Sps w4 (w8.alloc (.cells #[.slice (some ⟨g1, 0, none⟩) 3 c1, .slice (some ⟨g2, 0, none⟩) 3 c2, .slice (some ⟨g3, 0, none⟩) 3 c3, .slice (some ⟨k1, 0, none⟩) 3 d1, .slice (some ⟨k2, 0, none⟩) 3 d2, .slice (some ⟨k3, 0, none⟩) 3 d3] 29)) w8.heap.size w6.heap.size 0 (.slice (some ⟨g1, 0, none⟩) 3 c1) (.slice (some ⟨g2, 0, none⟩) 3 c2) (.slice (some ⟨g3, 0, none⟩) 3 c3) (.slice (some ⟨k1, 0, none⟩) 3 d1) (.slice (some ⟨k2, 0, none⟩) 3 d2) (.slice (some ⟨k3, 0, none⟩) 3 d3)) := by
      have g8 := gr_alloc hg78 (.cells #[.slice (some ⟨g1, 0, none⟩) 3 c1, .slice (some ⟨g2, 0, none⟩) 3 c2, .slice (some ⟨g3, 0, none⟩) 3 c3, .slice (some ⟨k1, 0, none⟩) 3 d1, .slice (some ⟨k2, 0, none⟩) 3 d2, .slice (some ⟨k3, 0, none⟩) 3 d3] 29)
      have h1 := HG46.out.size
      have h2 := HG7.out.size
      have h3 := hg78.size
      exact ⟨fun _ => ⟨_, Nat.le_refl _, SPA6.out.keep0 (gr_trans HG7.out g8)⟩, fun _ => (SPB.out.keep0 g8).top h3, heap_alloc_new w8 _, gr_trans (gr_trans HG46.out HG7.out) g8, h1, by omega⟩
    rw [← hw8]
    obtain ⟨ar, har⟩ : ∃ ar, ar = w8.heap.size := ⟨_, rfl⟩
    rw [← har] at HSPS
    (try rw [← hsz8]); (try rw [← har])
    obtain ⟨w9, hw9⟩ : ∃ w9, w9 = w8.alloc (.cells #[.slice (some ⟨g1, 0, none⟩) 3 c1, .slice (some ⟨g2, 0, none⟩) 3 c2, .slice (some ⟨g3, 0, none⟩) 3 c3, .slice (some ⟨k1, 0, none⟩) 3 d1, .slice (some ⟨k2, 0, none⟩) 3 d2, .slice (some ⟨k3, 0, none⟩) 3 d3] 29) := ⟨_, rfl⟩
    rw [← hw9] at HSPS
    (try rw [← hw9])
    have hm6 := HG46.out.size
    have hma6 : w6.heap.size ≤ ar := by have := HG7.out.size; omega
    clear hw8 hg78 hsz8 hw9 har SPA6 SPB HB9 p0 p1 p2
    go_loopw [60] (fun i wr => ∃ t : Nat, t ≤ 2 ∧ i = .int .i64 t ∧ Sps w4 wr ar w6.heap.size t (.slice (some ⟨g1, 0, none⟩) 3 c1) (.slice (some ⟨g2, 0, none⟩) 3 c2) (.slice (some ⟨g3, 0, none⟩) 3 c3) (.slice (some ⟨k1, 0, none⟩) 3 d1) (.slice (some ⟨k2, 0, none⟩) 3 d2) (.slice (some ⟨k3, 0, none⟩) 3 d3)) (fun i _ => 2 - (intOf i).toNat)
    case atStart => exact ⟨0, by omega, rfl, HSPS.out⟩
    case round =>
      clear HSPS
      obtain ⟨t, ht, rfl, hsp⟩ := hrel
      obtain ⟨wo, rfl⟩ : ∃ wo : World, wo = wr := ⟨_, rfl⟩
      by_cases hlt : t < 2
      · obtain ⟨top, low, gx, cx, gy, cy, gz, cz, vs, ⟨q0, q1, q2⟩, hin⟩ := hsp.enter hlt
        have HIN := Lib.hid hin
        clear hsp hin
        go_wp2_with (fail)
        obtain ⟨wi, hwi⟩ : ∃ wi, wi = wo.alloc (.cells #[.slice (some ⟨gx, 0, none⟩) 3 cx, .slice (some ⟨gy, 0, none⟩) 3 cy, .slice (some ⟨gz, 0, none⟩) 3 cz] 29) := ⟨_, rfl⟩
        obtain ⟨xb, hxb⟩ : ∃ xb, xb = wo.heap.size := ⟨_, rfl⟩
        rw [← hwi, ← hxb] at HIN
        rw [← hwi, ← hxb]
        clear hwi hxb q0 q1 q2
        go_loopw [67] (fun i wr => ∃ k : Nat, k ≤ 3 ∧ i = .int .i64 k ∧ InS w4 wr ar xb w6.heap.size top low t gx cx gy cy gz cz vs #[.slice (some ⟨g1, 0, none⟩) 3 c1, .slice (some ⟨g2, 0, none⟩) 3 c2, .slice (some ⟨g3, 0, none⟩) 3 c3, .slice (some ⟨k1, 0, none⟩) 3 d1, .slice (some ⟨k2, 0, none⟩) 3 d2, .slice (some ⟨k3, 0, none⟩) 3 d3] (.slice (some ⟨k1, 0, none⟩) 3 d1) (.slice (some ⟨k2, 0, none⟩) 3 d2) (.slice (some ⟨k3, 0, none⟩) 3 d3)) (fun i _ => 3 - (intOf i).toNat)
        case atStart => exact ⟨0, by omega, rfl, HIN.out⟩
        case round =>
          clear HIN
          obtain ⟨k, hk, rfl, hin⟩ := hrel
          obtain ⟨wu, rfl⟩ : ∃ wu : World, wu = wr := ⟨_, rfl⟩
          obtain ⟨e0, e1, e2⟩ := hin.cells
          by_cases hkl : k < 3
          · obtain ⟨u, uu, f0, f1, f2, f3, f4, f5, f6, -⟩ := hin.us k hkl
            obtain ⟨_, _, _, _, _, _, _, _, _, f7⟩ := (hin.keep0 (gr_drew (gr_refl wu none))).us k hkl
            have HF := Lib.hid (f7 (-1) (.string { data := #[115, 112, 111, 105, 108, 116] }))
            clear hin f7
            go_wp2_with (fail)
            go_region
            go_wp2_with (fail)
            go_roundw
            case rel => exact ⟨k + 1, by omega, by go_num, HF.out⟩
            case measure => simp [intOf]; omega
          · obtain rfl : k = 3 := by omega
            have HIN := Lib.hid hin
            clear hin
            go_wp2_with (fail)
            go_loopw [82] (fun i wr => ∃ k : Nat, k ≤ 3 ∧ i = .int .i64 k ∧ InS w4 wr ar xb w6.heap.size top low t gx cx gy cy gz cz vs #[.slice (some ⟨g1, 0, none⟩) 3 c1, .slice (some ⟨g2, 0, none⟩) 3 c2, .slice (some ⟨g3, 0, none⟩) 3 c3, .slice (some ⟨k1, 0, none⟩) 3 d1, .slice (some ⟨k2, 0, none⟩) 3 d2, .slice (some ⟨k3, 0, none⟩) 3 d3] (.slice (some ⟨k1, 0, none⟩) 3 d1) (.slice (some ⟨k2, 0, none⟩) 3 d2) (.slice (some ⟨k3, 0, none⟩) 3 d3)) (fun i _ => 3 - (intOf i).toNat)
            case atStart => exact ⟨0, by omega, rfl, HIN.out⟩
            case round =>
              clear HIN e0 e1 e2
              obtain ⟨k, hk, rfl, hin⟩ := hrel
              obtain ⟨wv, rfl⟩ : ∃ wv : World, wv = wr := ⟨_, rfl⟩
              obtain ⟨e0, e1, e2⟩ := hin.cells
              by_cases hkl : k < 3
              · obtain ⟨g, c, u, f0, -⟩ := hin.rs k 0 hkl (by omega)
                have HIN := Lib.hid hin
                clear hin
                go_wp2_with (fail)
                go_loopw [91] (fun i wr => ∃ j : Nat, j ≤ 3 ∧ i = .int .i64 j ∧ InS w4 wr ar xb w6.heap.size top low t gx cx gy cy gz cz vs #[.slice (some ⟨g1, 0, none⟩) 3 c1, .slice (some ⟨g2, 0, none⟩) 3 c2, .slice (some ⟨g3, 0, none⟩) 3 c3, .slice (some ⟨k1, 0, none⟩) 3 d1, .slice (some ⟨k2, 0, none⟩) 3 d2, .slice (some ⟨k3, 0, none⟩) 3 d3] (.slice (some ⟨k1, 0, none⟩) 3 d1) (.slice (some ⟨k2, 0, none⟩) 3 d2) (.slice (some ⟨k3, 0, none⟩) 3 d3)) (fun i _ => 3 - (intOf i).toNat)
                case atStart => exact ⟨0, by omega, rfl, HIN.out⟩
                case round =>
                  clear HIN e0 e1 e2 f0
                  obtain ⟨j, hj, rfl, hin⟩ := hrel
                  obtain ⟨wj, rfl⟩ : ∃ wj : World, wj = wr := ⟨_, rfl⟩
                  by_cases hjl : j < 3
                  · obtain ⟨e0, e1, e2⟩ := hin.cells
                    obtain ⟨g', c', u', f0, f1, f2, f3⟩ := hin.rs k j hkl hjl
                    have HF := Lib.hid (f3 (-1))
                    clear hin f3
                    go_wp2_with (fail)
                    go_roundw
                    case rel => exact ⟨j + 1, by omega, by go_num, HF.out⟩
                    case measure => simp [intOf]; omega
                  · have HIN := Lib.hid hin
                    clear hin
                    go_wp2_with (fail)
                    go_roundw
                    case rel => exact ⟨k + 1, by omega, by go_num, HIN.out⟩
                    case measure => simp [intOf]; omega
              · have HSP := Lib.hid (hin.leave hm6 hma6)
                clear hin e0 e1 e2
                go_wp2_with (fail)
                go_roundw
                case rel => exact ⟨t + 1, by omega, by go_num, HSP.out⟩
                case measure => simp [intOf]; omega
      · have HGO := Lib.hid hsp.gr
        clear hsp
        obtain rfl : t = 2 := by omega
        have TG : Hid (Calls Tryd.prog 9 #[.slice ma N'.length mc, .slice ma N'.length mc] wo (TogPost N' wo)) := by
          have h := together_parts N' (fun _ => true) (fun _ => true) HNOK.out (fun _ _ _ _ _ => rfl) (fun _ _ _ _ _ => rfl) hN9' ma ma mc mc wo (by rw [filter_tt]; exact HMC.out.keep0 HGO.out) (by rw [filter_tt]; exact HMC.out.keep0 HGO.out) (fun e => (HM0.out e).2) (fun e => (HM0.out e).2)
          simp only [filter_tt, Bool.or_self] at h
          exact h
        go_wp2_with (fail)
        refine TG.out.mono ?_
        rintro e w10 ⟨v10, rfl, own10, hg10⟩
        obtain ⟨ta, tc, rfl, -, htcm, -, -⟩ := own_shape own10
        have HR10 : Hid (∃ Z, Z.length = N'.length * 5 ∧ RowAt w10 wo.heap.size w10.heap.size (.slice ta N'.length tc) N'.length Z) := ⟨_, own10.1, own_row own10⟩
        have HGT := Lib.hid (gr_trans HGO.out hg10)
        have hz10 := hg10.size
        clear own10 hg10 TG
        go_wp2_with (fail)
        go_loopw [114] (fun i wr => ∃ j : Nat, j ≤ N'.length ∧ i = .int .i64 j ∧ (∃ Z, Z.length = N'.length * 5 ∧ RowAt wr wo.heap.size w10.heap.size (.slice ta N'.length tc) N'.length Z) ∧ w4.grownBy wr none) (fun i _ => N'.length - (intOf i).toNat)
        case atStart => exact ⟨0, Nat.zero_le _, rfl, HR10.out, HGT.out⟩
        case round =>
          clear HR10 HGT
          obtain ⟨j, hj, rfl, ⟨Z, hZ, hrow⟩, hgr⟩ := hrel
          obtain ⟨wq, rfl⟩ : ∃ wq : World, wq = wr := ⟨_, rfl⟩
          by_cases hjl : j < N'.length
          · obtain ⟨b, off, cp, he, r1, r2, r3, r4, r5, r6, r7⟩ := hrow.some (by omega)
            cases he
            have hji : j * 5 + 3 < Z.length := by omega
            have d3 := r6 (j * 5 + 3) _ (List.getElem?_eq_getElem hji)
            have f3 := r7 (j * 5 + 3)
            have HS := Lib.hid (hrow.set (j * 5 + 3) hji (.string { data := #[115, 112, 111, 105, 108, 116] }))
            have HZ := Lib.hid hZ
            have hgo := HGO.out.size
            have HGQ := Lib.hid (gr_new hgr (q := ⟨b, off + (j * 5 + 3), none⟩) (Nat.le_trans hgo r3) (.string { data := #[115, 112, 111, 105, 108, 116] }))
            obtain ⟨u, hu⟩ : ∃ u, u = Z[j * 5 + 3] := ⟨_, rfl⟩
            rw [← hu] at d3
            rw [← Nat.add_assoc] at d3 f3 HS HGQ
            clear hu hrow hgr r6 r7 hZ
            go_wp2_with (fail)
            go_roundw
            case rel => exact ⟨j + 1, by omega, by go_num, ⟨_, by rw [List.length_set]; exact HZ.out, HS.out⟩, HGQ.out⟩
            case measure => simp [intOf]; omega
          · have HGQ := Lib.hid hgr
            clear hrow hgr hZ
            go_wp2_with (fail)
            refine (depots_any wq).mono ?_
            rintro e w11 ⟨rfl, g11⟩
            have HG11 := Lib.hid (gr_trans HGQ.out g11)
            have hx11 := HBX4.out.keep HG11.out (fun q e => by cases e)
            have hy11 := HBY4.out.keep HG11.out (fun q e => by cases e)
            obtain ⟨x0, x1, x2⟩ := hx11
            obtain ⟨y0, y1, y2⟩ := hy11
            have SW := Lib.hid (sameWallet_any u1 u2 u3 v1 v2 v3 A (fun b => b < w4.heap.size) w11 (HX.out.keep0 HG11.out) (HY.out.keep0 HG11.out) HOK.out.form)
            clear g11 HGQ
            go_wp2_with (fail)
            refine SW.out.mono ?_
            rintro e w12 ⟨rfl, g12⟩
            have HG12 := Lib.hid (gr_trans HG11.out g12)
            have EQ := Lib.hid (equal_Mv N' ma na mc nc w12 (HMC.out.keep0 HG12.out) (HNC.out.keep0 HG12.out) (by omega))
            clear g12 x0 x1 x2 y0 y1 y2 SW HG11
            go_wp2_with (fail)
            refine EQ.out.mono ?_
            rintro e w13 ⟨rfl, g13⟩
            have HG13 := Lib.hid (gr_trans HGR4.out (gr_trans HG12.out g13))
            clear g13
            go_wp2_with (fail)
            go_ret
            exact ⟨rfl, HG13.out⟩
end Go.Proofs.YtakabckmiodjaaaDoor
