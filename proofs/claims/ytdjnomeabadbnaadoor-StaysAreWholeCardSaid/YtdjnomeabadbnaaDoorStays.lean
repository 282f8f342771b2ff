/- Package shelf: stays. -/
import Derived.Test.YtdjnomeabadbnaaDoorStayRef
import Derived.Test.YtdjnomeabadbnaaDoorOperApp
import Derived.Deep.DeepCutAuto
import Derived.Deep.CutBlock
namespace Go.Proofs.YtdjnomeabadbnaaDoor
open Go.RowKit
attribute [local go_sem ↓] Go.wp_at_zero Go.wp_at_succ

def encSty (y : Sty) : List Value := [.int .i64 y.slot, .string y.prod, .int .i64 y.fr, .int .i64 y.til]
theorem encSty_len (y : Sty) : (encSty y).length = 4 := rfl
theorem eSty : ElemT Tryd.prog 56 64 (.agg #[.int .i64 0, .string ⟨#[]⟩, .int .i64 0, .int .i64 0]) 4 40 := ⟨by kernel_rfl, by kernel_rfl, by decide, by decide, by decide⟩
def KeptPost (base : Nat) (out : List Sty) (y : Sty) (v : Value) (w : World) (e : Ending) (w' : World) : Prop :=
  ∃ v', e = .returned v' ∧ w'.ownsRow base 64 4 v' (keptM out y).length (flat encSty (keptM out y)) ∧ w.grownBy w' v.ownBlock ∧ ∀ q, v'.ownBlock = some q → v.ownBlock = some q ∨ w.heap.size ≤ q
set_option maxRecDepth 100000 in
theorem kept_any (base : Nat) (out : List Sty) (y : Sty) (v : Value) (w : World) (h : w.ownsRow base 64 4 v out.length (flat encSty out)) (hl : out.length ≤ 1000000) (hb : base ≤ w.heap.size) :
    Calls Tryd.prog 90 #[v, .agg #[.int .i64 y.slot, .string y.prod, .int .i64 y.fr, .int .i64 y.til]] w (KeptPost base out y v w) := by
  obtain ⟨s, p, f, t⟩ := y
  have HG1 := Lib.hid (gr_alloc (gr_refl w none) (.cells #[.int .i64 s, .string p, .int .i64 f, .int .i64 t] 64))
  have H1 := Lib.hid (own_keep0 h HG1.out)
  have HK : Hid (keptM out ⟨s, p, f, t⟩ = if p.toList.isEmpty then out else out ++ [⟨s, p, f, t⟩]) := rfl
  clear h
  cases he : p.toList.isEmpty with
  | true =>
    have he2 : p.toList = [] := by simpa using he
    have HE : Hid (keptM out ⟨s, p, f, t⟩ = out) := by show _ = _; rw [HK.out, he]; rfl
    clear he
    go_enter Tryd.func90, Tryd.ntmps90
    go_wp2_with (fail)
    go_ret
    exact ⟨_, rfl, by rw [HE.out]; exact H1.out, gr_weak HG1.out _, fun q hq => .inl hq⟩
  | false =>
    have he3 : ¬ p.toList = [] := by intro e; rw [e] at he; cases he
    have HE : Hid (keptM out ⟨s, p, f, t⟩ = out ++ [⟨s, p, f, t⟩]) := by show _ = _; rw [HK.out, he]; rfl
    go_enter Tryd.func90, Tryd.ntmps90
    go_wp2_with (at_builtin; refine wpList_app1F eSty rfl _ _ rfl base _ out.length (flat encSty out) rfl (w.alloc (.cells #[.int .i64 s, .string p, .int .i64 f, .int .i64 t] 64)) #[.int .i64 s, .string p, .int .i64 f, .int .i64 t] rfl H1.out _ rfl (by simp) rfl rfl (by omega) (by simp; omega) ?_)
    intro v2 w2 ho2 g2 hb2 hf2
    have HO2 := Lib.hid ho2
    have G2 := Lib.hid (gr_trans (gr_weak HG1.out _) g2)
    have HF : Hid (∀ q, v2.ownBlock = some q → v.ownBlock = some q ∨ w.heap.size ≤ q) := fun q hq => by
      rcases hf2 q hq with h | h
      · exact .inl h
      · exact .inr (by first | omega | (simp at h; omega))
    clear ho2 g2 hb2 hf2
    go_wp2_with (fail)
    go_ret
    exact ⟨_, rfl, by rw [HE.out, List.length_append, flat_append, flat_one]; exact HO2.out, G2.out, HF.out⟩
theorem sty_cells {w : World} {g : Nat} {y : Sty} (h : w.heap[g]? = some (.cells (encSty y).toArray 64 (0, 0))) : w.cell? ⟨g, 0, none⟩ = some (.int .i64 y.slot) ∧ w.cell? ⟨g, 1, none⟩ = some (.string y.prod) ∧ w.cell? ⟨g, 2, none⟩ = some (.int .i64 y.fr) ∧ w.cell? ⟨g, 3, none⟩ = some (.int .i64 y.til) := ⟨blkC h 0 rfl, blkC h 1 rfl, blkC h 2 rfl, blkC h 3 rfl⟩
def nSlots (vs : List Ver) : Nat := if vs.length = 0 then 0 else (vLay vs 0).length
def StaysPost (vs : List Ver) (w : World) (e : Ending) (w' : World) : Prop :=
  ∃ v, e = .returned (.tuple #[v, .int .i64 0]) ∧ w'.ownsRow w.heap.size 64 4 v (stysTo vs (nSlots vs)).length (flat encSty (stysTo vs (nSlots vs))) ∧ w.grownBy w' none
/-- What the open stay and the ones before it are, behind i versions. -/
structure StyAt (vs : List Ver) (k i base La : Nat) (out : List Sty) (v : Value) (w wr : World) : Prop where
  own : wr.ownsRow base 64 4 v (stySlot vs k out i).1.length (flat encSty (stySlot vs k out i).1)
  ne : v.ownBlock ≠ some La
  blk : wr.heap[La]? = some (.cells (encSty (stySlot vs k out i).2).toArray 64 (0, 0))
  gr : w.grownBy wr none
set_option maxRecDepth 100000 in
set_option maxHeartbeats 4000000 in
theorem stays_any (base : Nat) (vs : List Ver) (a : Option Addr) (c : Nat) (w : World) (h : NestAt (VerC base) w 2 a vs) (hok : VersOk vs) (hsz : ∀ v ∈ vs, v.lay.length ≤ 100000 ∧ ∀ s ∈ v.lay, s.size ≤ 100000) :
    Calls Tryd.prog 24 #[.slice a vs.length c, .int .i64 0, .int .i64 20] w (StaysPost vs w) := by
  have hl := hok.len
  have CV := Lib.hid (checkVersions_any base vs a c w h (by omega) hsz)
  have HOK := Lib.hid hok
  have HN := Lib.hid h
  have HNS : Hid (nSlots vs = if vs.length = 0 then 0 else (vLay vs 0).length) := rfl
  clear h hsz hok
  go_enter Tryd.func24, Tryd.ntmps24
  go_wp2_with (fail)
  refine CV.out.mono ?_
  rintro e w1 ⟨r, rfl, hr, g1⟩
  obtain rfl : r = 0 := hr.2 HOK.out
  clear hr CV
  go_wp2_with (fail)
  refine (out_any 0 0 20 w1).mono ?_
  rintro e w2 ⟨rfl, rfl⟩
  rw [show (decide ((0 : Int) < 0) || decide ((20 : Int) < 0)) = false from rfl]
  by_cases h0 : vs.length = 0
  · have HE : Hid (stysTo vs (nSlots vs) = []) := by show _ = _; rw [HNS.out, if_pos h0]; rfl
    go_wp2_with (fail)
    go_ret2
    exact ⟨_, rfl, by rw [HE.out]; exact World.ownsRow_nil _ _ _ _, g1⟩
  · have hpos : 0 < vs.length := by omega
    have HE : Hid (nSlots vs = (vLay vs 0).length) := by show _ = _; rw [HNS.out, if_neg h0]
    obtain ⟨n0, hn0⟩ : ∃ n, n = (vLay vs 0).length := ⟨_, rfl⟩
    have hn60 : n0 ≤ 60 := by rw [hn0]; exact (HOK.out.all 0 hpos).few
    have HN0 := Lib.hid hn0
    have hb0 : ((vs.length : Int) == 0) = false := by rw [beq_eq_false_iff_ne]; omega
    obtain ⟨b0, off0, la0, lc0, rfl, -, z1, -, -⟩ := vers_cells (HN.out.keep0 g1 (fun x c hx => VerC.keep0 g1 x c hx)) 0 hpos
    rw [← hn0] at z1
    simp only [Nat.zero_mul, Nat.add_zero] at z1
    clear hn0 h0 HNS
    go_wp2_with (fail)
    go_loopw [9, 37] (fun v i wr => ∃ k : Nat, k ≤ n0 ∧ i = .int .i64 k ∧ wr.ownsRow w.heap.size 64 4 v (stysTo vs k).length (flat encSty (stysTo vs k)) ∧ w.grownBy wr none) (fun _ i _ => n0 - (intOf i).toNat)
    case atStart => exact ⟨0, Nat.zero_le _, rfl, World.ownsRow_nil _ _ _ _, g1⟩
    case round =>
      clear g1 z1
      obtain ⟨k, hk, rfl, hown, hgr⟩ := hrel
      obtain ⟨wo, rfl⟩ : ∃ wo : World, wo = wr := ⟨_, rfl⟩
      obtain ⟨va, vc, rfl, -, -, -, -⟩ := own_shape hown
      have HOWN := Lib.hid hown
      have HGR := Lib.hid hgr
      by_cases hlt : k < n0
      · have hfr := own_fresh hown (q := wo.heap.size) rfl
        clear hown hgr
        go_wp2_with (fail)
        have hB := heap_alloc_new wo (.cells #[.int .i64 (-1), .string ⟨#[]⟩, .int .i64 0, .int .i64 0] 64)
        have hg := gr_alloc (gr_refl wo none) (.cells #[.int .i64 (-1), .string ⟨#[]⟩, .int .i64 0, .int .i64 0] 64)
        obtain ⟨w3, hw3⟩ : ∃ w3, w3 = wo.alloc (.cells #[.int .i64 (-1), .string ⟨#[]⟩, .int .i64 0, .int .i64 0] 64) := ⟨_, rfl⟩
        rw [← hw3] at hB hg
        rw [← hw3]
        obtain ⟨La, hLa⟩ : ∃ L, L = wo.heap.size := ⟨_, rfl⟩
        rw [← hLa] at hB hfr
        rw [← hLa]
        obtain ⟨out, hout⟩ : ∃ o, o = stysTo vs k := ⟨_, rfl⟩
        rw [← hout] at HOWN hfr
        have hol : out.length ≤ 60 * 201 := by
          rw [hout]
          exact Nat.le_trans (stysTo_len vs k) (Nat.mul_le_mul (by omega) (by omega))
        have HOUT := Lib.hid hout
        have hLb : w.heap.size ≤ La := by rw [hLa]; exact HGR.out.size
        have HS0 : Hid (StyAt vs k 0 w.heap.size La out (.slice va out.length vc) w w3) := ⟨own_keep0 HOWN.out hg, hfr, hB, gr_trans HGR.out hg⟩
        clear hw3 hLa hout hB hg hfr HOWN HGR
        rw [← HOUT.out]
        go_wp2_with (fail)
        go_loopw [9, 43] (fun v i wr => ∃ j : Nat, j ≤ vs.length ∧ i = .int .i64 j ∧ StyAt vs k j w.heap.size La out v w wr) (fun _ i _ => vs.length - (intOf i).toNat)
        case atStart => exact ⟨0, Nat.zero_le _, rfl, HS0.out⟩
        case round =>
          clear HS0
          obtain ⟨j, hj, rfl, hst⟩ := hrel
          obtain ⟨wi, rfl⟩ : ∃ wi : World, wi = wr := ⟨_, rfl⟩
          have HST := Lib.hid hst
          obtain ⟨va2, vc2, rfl, -, -, -, -⟩ := own_shape hst.own
          clear hst
          by_cases hjl : j < vs.length
          · have hn := HN.out.keep0 HST.out.gr (fun x c hx => VerC.keep0 HST.out.gr x c hx)
            obtain ⟨b1, off1, la, lc, e1, d0, d1, hcl, -⟩ := vers_cells hn j hjl
            cases e1
            have hvo := HOK.out.all j hjl
            have hD0 := hvo.lo
            have hD4 := hvo.hi
            have hLl : (vLay vs j).length = n0 := by rw [hvo.like, HN0.out]
            have hnx : j + 1 < vs.length → wi.cell? ⟨b0, off0 + (j + 1) * 2, none⟩ = some (.int .i64 (vDay vs (j + 1))) := by
              intro h1
              obtain ⟨b2, off2, la2, lc2, e2, y0, -, -, -⟩ := vers_cells hn (j + 1) h1
              cases e2
              exact y0
            obtain ⟨bs, offs, els, hsc⟩ := str_cell hcl k (by omega)
            subst els
            have HEB : Hid (begAt vs (j + 1) = if j + 1 < vs.length then (if vDay vs (j + 1) < 20 then vDay vs (j + 1) else 20) else 20) := rfl
            have HSTEP : Hid (stySlot vs k out (j + 1) = styStep vs k j (stySlot vs k out j)) := rfl
            have HDEF : Hid (styStep vs k j (stySlot vs k out j) = if begAt vs (j + 1) ≤ vDay vs j then stySlot vs k out j
              else if (stySlot vs k out j).2.slot = (k : Int) ∧ (stySlot vs k out j).2.til = vDay vs j ∧ (stySlot vs k out j).2.prod.toList = (slotAt vs j k).toList then ((stySlot vs k out j).1, ⟨(stySlot vs k out j).2.slot, (stySlot vs k out j).2.prod, (stySlot vs k out j).2.fr, begAt vs (j + 1)⟩)
              else (keptM (stySlot vs k out j).1 (stySlot vs k out j).2, ⟨k, slotAt vs j k, vDay vs j, begAt vs (j + 1)⟩)) := rfl
            have hE20 := begAt_le vs (j + 1)
            have hsl := stySlot_len vs k out j
            obtain ⟨D, hD⟩ : ∃ D, D = vDay vs j := ⟨_, rfl⟩
            obtain ⟨E, hE⟩ : ∃ E, E = begAt vs (j + 1) := ⟨_, rfl⟩
            obtain ⟨D1, hD1⟩ : ∃ D, D = vDay vs (j + 1) := ⟨_, rfl⟩
            obtain ⟨s, hs⟩ : ∃ s, s = (vLay vs j).getD k ⟨#[]⟩ := ⟨_, rfl⟩
            have hs2 : slotAt vs j k = s := by rw [hs]; rfl
            rw [← hD] at d0 hD0 hD4 HDEF
            rw [← hE] at HEB HDEF hE20
            rw [← hD1] at HEB hnx
            rw [hs2] at HDEF
            rw [hLl] at d1
            rw [← hs] at hsc
            obtain ⟨x, hx⟩ : ∃ x, x = stySlot vs k out j := ⟨_, rfl⟩
            have HX := Lib.hid hx
            rw [← hx] at HDEF HSTEP hsl HST
            rw [← hx]
            have HNX := Lib.hid hnx
            have hmx : max (0 : Int) D = D := by omega
            clear hn hvo hLl hnx hcl hD hE hD1 hs hs2 hx
            obtain ⟨X, ys, yp, yf, yt⟩ := x
            simp only at HDEF HSTEP hsl HST ⊢
            go_upto_if 53 with (fail)
            have hO := heap_alloc_new wi (.cells #[.int .i64 D, .slice (some ⟨bs, offs, none⟩) n0 lc] 151)
            have hg := gr_alloc (gr_refl wi none) (.cells #[.int .i64 D, .slice (some ⟨bs, offs, none⟩) n0 lc] 151)
            obtain ⟨w4, hw4⟩ : ∃ w4, w4 = wi.alloc (.cells #[.int .i64 D, .slice (some ⟨bs, offs, none⟩) n0 lc] 151) := ⟨_, rfl⟩
            rw [← hw4] at hO hg
            rw [← hw4]
            obtain ⟨Ob, hOb⟩ : ∃ O, O = wi.heap.size := ⟨_, rfl⟩
            rw [← hOb] at hO
            rw [← hOb]
            have HNX4 : Hid (j + 1 < vs.length → w4.cell? ⟨b0, off0 + (j + 1) * 2, none⟩ = some (.int .i64 D1)) := fun h1 => (gr_cell hg (lt_of_cell (HNX.out h1))).trans (HNX.out h1)
            have hsc4 := (gr_cell hg (lt_of_cell hsc)).trans hsc
            obtain ⟨o0, o1⟩ := blk2C hO
            have hLne : La < w4.heap.size := Nat.lt_of_lt_of_le (lt_of_block HST.out.blk) hg.size
            have HST4 : Hid (StyAt vs k j w.heap.size La out (.slice va2 X.length vc2) w w4) := ⟨own_keep0 HST.out.own hg, HST.out.ne, (hg.block La (lt_of_block HST.out.blk) (by simp)).trans HST.out.blk, gr_trans HST.out.gr hg⟩
            clear hw4 hOb hO hg HST HNX hsc d0 d1
            go_cut [14] (fun s wx => s = .int .i64 E ∧ wx = w4)
            case first =>
              by_cases h1 : j + 1 < vs.length
              · have n1 := HNX4.out h1
                have hj1 : (j : Int) + 1 < (vs.length : Int) := by omega
                by_cases h2 : D1 < 20
                · have HE2 : Hid (E = D1) := by show _ = _; rw [HEB.out, if_pos h1, if_pos h2]
                  go_wp2_with (fail)
                  go_meet
                  exact ⟨by rw [HE2.out, show min 20 D1 = D1 by omega], rfl⟩
                · have HE2 : Hid (E = 20) := by show _ = _; rw [HEB.out, if_pos h1, if_neg h2]
                  go_wp2_with (fail)
                  go_meet
                  exact ⟨by rw [HE2.out, show min 20 D1 = 20 by omega], rfl⟩
              · have HE2 : Hid (E = 20) := by show _ = _; rw [HEB.out, if_neg h1]
                have hj1 : ¬ (j : Int) + 1 < (vs.length : Int) := by omega
                go_wp2_with (fail)
                go_meet
                exact ⟨by rw [HE2.out], rfl⟩
            case rest =>
            obtain ⟨rfl, rfl⟩ := hcut
            by_cases hED : E ≤ D
            · have HS5 : Hid (stySlot vs k out (j + 1) = stySlot vs k out j) := by show _ = _; rw [HSTEP.out, HDEF.out, if_pos hED, HX.out]
              go_wp2_with (fail)
              go_roundw
              case rel => exact ⟨j + 1, by omega, by go_num, by rw [HS5.out]; exact HST4.out.own, HST4.out.ne, by rw [HS5.out]; exact HST4.out.blk, HST4.out.gr⟩
              case measure => simp [intOf]; omega
            · have hb4 := HST4.out.blk
              rw [← HX.out] at hb4
              obtain ⟨y0, y1, y2, y3⟩ := sty_cells hb4
              simp only at y0 y1 y2 y3
              obtain ⟨bm, hbm⟩ : ∃ b, b = ((ys == (k : Int)) && (yt == D) && (yp.toList == s.toList)) := ⟨_, rfl⟩
              have HBM := Lib.hid hbm
              have HB4 := Lib.hid hb4
              clear hbm hb4
              have hown4 := HST4.out.own
              rw [← HX.out] at hown4
              have HO4 := Lib.hid hown4
              have HNE := Lib.hid HST4.out.ne
              have HGR4 := Lib.hid HST4.out.gr
              clear hown4 HST4
              go_upto_region 24 with (fail)
              go_cut [82] from 83 to 98 (fun s wx => s = .bool bm ∧ wx = wc)
              case first =>
                cases q1 : (ys == (k : Int)) with
                | false =>
                  have HB2 : Hid (bm = false) := by show _ = _; rw [HBM.out, q1]; rfl
                  go_wp2_with (fail)
                  go_meet
                  exact ⟨by rw [HB2.out], rfl⟩
                | true =>
                  have HB2 : Hid (bm = ((yt == D) && (yp.toList == s.toList))) := by show _ = _; rw [HBM.out, q1]; rfl
                  cases q2 : (yt == D) with
                  | false =>
                    rw [q2] at HB2
                    go_wp2_with (fail)
                    go_meet
                    exact ⟨by rw [HB2.out] <;> rfl, rfl⟩
                  | true =>
                    rw [q2] at HB2
                    go_wp2_with (fail)
                    go_meet
                    exact ⟨by rw [HB2.out] <;> rfl, rfl⟩
              case rest =>
              obtain ⟨rfl, rfl⟩ := hcut
              have f3 : wc.frozen? ⟨La, 3, none⟩ = false := blkF HB4.out 3
              have f0 : wc.frozen? ⟨La, 0, none⟩ = false := blkF HB4.out 0
              have f1 : wc.frozen? ⟨La, 1, none⟩ = false := blkF HB4.out 1
              have f2 : wc.frozen? ⟨La, 2, none⟩ = false := blkF HB4.out 2
              cases bm with
              | true =>
                have HM : Hid (ys = (k : Int) ∧ yt = D ∧ yp.toList = s.toList) := by
                  have h1 := HBM.out
                  simp only [Bool.true_eq, Bool.and_eq_true, beq_iff_eq] at h1
                  exact ⟨h1.1.1, h1.1.2, h1.2⟩
                have HS5 : Hid (stySlot vs k out (j + 1) = (X, ⟨ys, yp, yf, E⟩)) := by show _ = _; rw [HSTEP.out, HDEF.out, if_neg hED, if_pos HM.out]
                go_wp2_with (fail)
                go_roundw
                case rel =>
                  have gs : wc.grownBy (wc.setCell ⟨La, 3, none⟩ (.int .i64 E)) (some La) := gr_set (q := ⟨La, 3, none⟩) (gr_refl wc (some La)) rfl _
                  refine ⟨j + 1, by omega, by go_num, by rw [HS5.out]; exact own_keep HO4.out gs (.inr HNE.out), HNE.out, by rw [HS5.out]; exact heap_setCell_same wc La 3 _ _ (.int .i64 E) HB4.out, gr_new HGR4.out (q := ⟨La, 3, none⟩) hLb _⟩
                case measure => simp [intOf]; omega
              | false =>
                have HM : Hid (¬ (ys = (k : Int) ∧ yt = D ∧ yp.toList = s.toList)) := by
                  intro h2
                  have h1 := HBM.out
                  rw [h2.1, h2.2.1, h2.2.2] at h1
                  simp at h1
                have HS5 : Hid (stySlot vs k out (j + 1) = (keptM X ⟨ys, yp, yf, yt⟩, ⟨k, s, D, E⟩)) := by show _ = _; rw [HSTEP.out, HDEF.out, if_neg hED, if_neg HM.out]
                have KA := Lib.hid (kept_any w.heap.size X ⟨ys, yp, yf, yt⟩ (.slice va2 X.length vc2) wc HO4.out (by omega) HGR4.out.size)
                go_wp2_with (fail)
                refine KA.out.mono ?_
                rintro e w6 ⟨v6, rfl, ho6, g6, hf6⟩
                have hb6 := (g6.block La hLne (fun e => HNE.out e.symm)).trans HB4.out
                have HO6 := Lib.hid ho6
                have HB6 := Lib.hid hb6
                have HNE6 : Hid (v6.ownBlock ≠ some La) := fun e => by
                  rcases hf6 La e with h | h
                  · exact HNE.out h
                  · omega
                have HG6 : Hid (w.grownBy w6 none) := gr_grown HGR4.out g6 (fun q e => (HO4.out.lt q e).1)
                obtain ⟨va6, vc6, rfl, -, -, -, -⟩ := own_shape ho6
                have e0 : w6.frozen? ⟨La, 0, none⟩ = false := blkF hb6 0
                have e1 : w6.frozen? ⟨La, 1, none⟩ = false := blkF hb6 1
                have e2 : w6.frozen? ⟨La, 2, none⟩ = false := blkF hb6 2
                have e3 : w6.frozen? ⟨La, 3, none⟩ = false := blkF hb6 3
                obtain ⟨z0, z1, z2, z3⟩ := sty_cells hb6
                simp only at z0 z1 z2 z3
                clear KA ho6 g6 hf6 hb6 f0 f1 f2 f3 y0 y1 y2 y3
                go_wp2_with (fail)
                go_roundw
                case rel =>
                  have gs := set4_gr w6 La (.int .i64 k) (.string s) (.int .i64 D) (.int .i64 E)
                  refine ⟨j + 1, by omega, by go_num, by rw [HS5.out]; exact own_keep HO6.out gs (.inr HNE6.out), HNE6.out, by rw [HS5.out]; exact set4_heap HB6.out _ _ _ _, gr_grown HG6.out gs (fun q e => by cases e; exact hLb)⟩
                case measure => simp [intOf]; omega
          · obtain rfl : j = vs.length := by omega
            clear hjl
            obtain ⟨x, hx⟩ : ∃ x, x = stySlot vs k out vs.length := ⟨_, rfl⟩
            have HN5 : Hid (stysTo vs (k + 1) = keptM x.1 x.2) := by show _ = _; rw [hx, HOUT.out]; rfl
            have hsl := stySlot_len vs k out vs.length
            have hown4 := HST.out.own
            have hb4 := HST.out.blk
            rw [← hx] at hsl hown4 hb4
            rw [← hx]
            obtain ⟨X, ys, yp, yf, yt⟩ := x
            simp only at hsl hown4 hb4 HN5 ⊢
            obtain ⟨y0, y1, y2, y3⟩ := sty_cells hb4
            simp only at y0 y1 y2 y3
            have HG4 := Lib.hid HST.out.gr
            have KA := Lib.hid (kept_any w.heap.size X ⟨ys, yp, yf, yt⟩ (.slice va2 X.length vc2) wi hown4 (by omega) HG4.out.size)
            have HO4 := Lib.hid hown4
            clear hown4 hb4 hx HST
            go_wp2_with (fail)
            refine KA.out.mono ?_
            rintro e w6 ⟨v6, rfl, ho6, g6, -⟩
            have HO6 := Lib.hid ho6
            have HG6 : Hid (w.grownBy w6 none) := gr_grown HG4.out g6 (fun q e => (HO4.out.lt q e).1)
            obtain ⟨va6, vc6, rfl, -, -, -, -⟩ := own_shape ho6
            clear KA ho6 g6
            go_wp2_with (fail)
            go_roundw
            case rel => exact ⟨k + 1, by omega, by go_num, by rw [HN5.out]; exact HO6.out, HG6.out⟩
            case measure => simp [intOf]; omega
      · obtain rfl : k = n0 := by omega
        clear hown hgr
        go_wp2_with (fail)
        go_ret2
        exact ⟨_, rfl, by rw [HE.out, ← HN0.out]; exact HOWN.out, HGR.out⟩
end Go.Proofs.YtdjnomeabadbnaaDoor
