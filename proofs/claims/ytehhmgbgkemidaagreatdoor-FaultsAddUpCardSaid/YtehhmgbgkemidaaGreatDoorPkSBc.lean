/- Package slices at elements coilrack/api.Finding: sorting of few. Written by mksortn.py. -/
import Derived.Test.YtehhmgbgkemidaaGreatDoorPkSBb
import Derived.Test.YtehhmgbgkemidaaGreatDoorPkSAa
import Derived.Test.YtehhmgbgkemidaaGreatDoorPkSAe
import Derived.Test.YtehhmgbgkemidaaGreatDoorPkSAb
import Derived.Test.YtehhmgbgkemidaaGreatDoorPkSAr
namespace Go.Proofs.YtehhmgbgkemidaaGreatDoor
open Go.RowKit

theorem own_of_heapFd {w w1 : World} {base e size n : Nat} {v : Value} {xs : List Value} (h : w.ownsRow base e size v n xs) (e1 : w1.heap = w.heap) : w1.ownsRow base e size v n xs := by
  rcases h.2 with h2 | ⟨g, cap, cur, hv, hb, hg, r⟩
  · exact ⟨h.1, .inl h2⟩
  · exact ⟨h.1, .inr ⟨g, cap, cur, hv, hb, by rw [e1]; exact hg, r⟩⟩
theorem flat_rowFd (l : List Fd) (i : Nat) (h : i < l.length) (y : Fd) : ((((flat encFd l).set (i * 3) (.string (y.fault))).set (i * 3 + 1) (.int .i64 (y.fr))).set (i * 3 + 2) (.int .i64 (y.to))) = flat encFd (l.set i y) := by
  have e0 := flat_set (enc := encFd) (m := 3) (fun _ => rfl) l i h 0 (by decide) (.string (y.fault)) (⟨y.fault, l[i].fr, l[i].to⟩ : Fd) rfl
  have g1 : (l.set i (⟨y.fault, l[i].fr, l[i].to⟩ : Fd))[i]'(by simp; omega) = (⟨y.fault, l[i].fr, l[i].to⟩ : Fd) := by rw [List.getElem_set_self]
  have e1 := flat_set (enc := encFd) (m := 3) (fun _ => rfl) (l.set i (⟨y.fault, l[i].fr, l[i].to⟩ : Fd)) i (by simp; omega) 1 (by decide) (.int .i64 (y.fr)) (⟨y.fault, y.fr, l[i].to⟩ : Fd) (by rw [g1]; rfl)
  rw [List.set_set] at e1
  have g2 : (l.set i (⟨y.fault, y.fr, l[i].to⟩ : Fd))[i]'(by simp; omega) = (⟨y.fault, y.fr, l[i].to⟩ : Fd) := by rw [List.getElem_set_self]
  have e2 := flat_set (enc := encFd) (m := 3) (fun _ => rfl) (l.set i (⟨y.fault, y.fr, l[i].to⟩ : Fd)) i (by simp; omega) 2 (by decide) (.int .i64 (y.to)) (⟨y.fault, y.fr, y.to⟩ : Fd) (by rw [g2]; rfl)
  rw [List.set_set] at e2
  rw [show i * 3 + 0 = i * 3 from rfl] at e0
  rw [e0, e1, e2]
/-- A comparison of elements of a list, in worlds that differ from w at one block at most. -/
def CmpFd (F : FuncId) (cm : Fd → Fd → Int) (L : List Fd) (r : Option Nat) (w : World) : Prop :=
  ∀ (x y : Fd) (w1 : World), x ∈ L → y ∈ L → w.grownBy w1 r → Calls Tryz.prog F #[.agg #[.string (x.fault), .int .i64 (x.fr), .int .i64 (x.to)], .agg #[.string (y.fault), .int .i64 (y.fr), .int .i64 (y.to)]] w1 fun e w2 => e = .returned (.int .i64 (cm x y)) ∧ w1.grownBy w2 none
def SortFdPost (cm : Fd → Fd → Int) (L : List Fd) (v : Value) (n base : Nat) (w : World) (e : Ending) (w' : World) : Prop := ∃ O, e = .returned (.tuple #[]) ∧ w'.ownsRow base 44 3 v n (flat encFd O) ∧ O.Perm L ∧ Srt cm default O n ∧ w.grownBy w' v.ownBlock
set_option maxRecDepth 100000 in
set_option maxHeartbeats 2000000 in
theorem insertionFd_any (F : FuncId) (n : Nat) (cm : Fd → Fd → Int) (v : Value) (base : Nat) (L : List Fd) (w : World) (hown : w.ownsRow base 44 3 v n (flat encFd L)) (hL : L.length = n) (hn : n ≤ 1000)
    (hE : ∀ (args : Array Value) (w : World), (callFunc F args).run Tryz.prog w = .ok (.enter F args) w) (hc : CmpOk cm) (hF : CmpFd F cm L v.ownBlock w) :
    Calls Tryz.prog 161 #[v, .int .i64 0, .int .i64 n, .func (.func F) #[] #[]] w (SortFdPost cm L v n base w) := by
  have HF := Lib.hid hF
  have HC := Lib.hid hc
  have HL := Lib.hid hL
  obtain ⟨va, vc, rfl, _, _, _, _⟩ := own_shape hown
  clear hF hc hL
  go_enter Tryz.func161, Tryz.ntmps161
  go_wp2_with (fail)
  go_loopw [8] (fun i wr => ∃ (k : Nat) (O' : List Fd), 1 ≤ k ∧ (k ≤ n ∨ n = 0) ∧ i = .int .i64 k ∧ wr.ownsRow base 44 3 (.slice va n vc) n (flat encFd O') ∧ O'.Perm L ∧ Srt cm default O' k ∧ w.grownBy wr (Value.slice va n vc).ownBlock) (fun i _ => n - (intOf i).toNat)
  case atStart => exact ⟨1, L, by omega, by omega, rfl, hown, List.Perm.refl _, srt_one, gr_refl _ _⟩
  case round =>
    obtain ⟨k, O', hk, hkn1, rfl, hown', hO', hs, hgr⟩ := hrel
    obtain ⟨wo, rfl⟩ : ∃ wo : World, wo = wr := ⟨_, rfl⟩
    have HO' := Lib.hid hO'
    have HS := Lib.hid hs
    clear hO' hs
    by_cases hkn : k < n
    · obtain ⟨g, gc, hge, hgb, _, _, _⟩ := own_some hown' (by omega)
      cases hge
      go_wp2_with (fail)
      go_loopw [9] (fun i wr => ∃ (j : Nat) (O2 : List Fd), j ≤ k ∧ i = .int .i64 j ∧ wr.ownsRow base 44 3 (.slice (some ⟨g, 0, none⟩) n vc) n (flat encFd O2) ∧ O2.Perm L ∧ SrtBut cm default O2 k j ∧ w.grownBy wr (some g)) (fun i _ => (intOf i).toNat)
      case atStart => exact ⟨k, O', by omega, rfl, hown', HO'.out, srt_start HS.out, hgr⟩
      case round =>
        clear hgr
        obtain ⟨j, O2, hj, rfl, hown2, hO2, hb2, hgr2⟩ := hrel
        obtain ⟨wi, rfl⟩ : ∃ wi : World, wi = wr := ⟨_, rfl⟩
        have hlen := hO2.length_eq.trans HL.out
        by_cases hj0 : 0 < j
        · have hd0 : decide (0 < j) = true := decide_eq_true hj0
          obtain ⟨i, hi⟩ : ∃ i, i = j - 1 := ⟨_, rfl⟩
          have hij : i + 1 = j := by omega
          subst hij
          have hjl : i + 1 < O2.length := by omega
          have hil : i < O2.length := by omega
          have a0 := own_cellE (enc := encFd) (m := 3) (fun _ => rfl) hown2 (i + 1) hjl 0 (by decide) _ rfl hlen
          have a1 := own_cellE (enc := encFd) (m := 3) (fun _ => rfl) hown2 (i + 1) hjl 1 (by decide) _ rfl hlen
          have a2 := own_cellE (enc := encFd) (m := 3) (fun _ => rfl) hown2 (i + 1) hjl 2 (by decide) _ rfl hlen
          have b0 := own_cellE (enc := encFd) (m := 3) (fun _ => rfl) hown2 (i) hil 0 (by decide) _ rfl hlen
          have b1 := own_cellE (enc := encFd) (m := 3) (fun _ => rfl) hown2 (i) hil 1 (by decide) _ rfl hlen
          have b2 := own_cellE (enc := encFd) (m := 3) (fun _ => rfl) hown2 (i) hil 2 (by decide) _ rfl hlen
          have hmx : O2[i + 1] ∈ L := hO2.mem_iff.1 (List.getElem_mem _)
          have hmy : O2[i] ∈ L := hO2.mem_iff.1 (List.getElem_mem _)
          have ex : O2.getD (i + 1) default = O2[i + 1] := getD_eq O2 _ _ hjl
          have ey : O2.getD i default = O2[i] := getD_eq O2 _ _ hil
          have SW : Hid (cm O2[i + 1] O2[i] < 0 → SrtBut cm default (swapAt default O2 i) k i) := fun h => srt_swap HC.out hjl (by omega) hb2 (by rw [ex, ey]; exact h)
          have ST : Hid (¬ cm O2[i + 1] O2[i] < 0 → Srt cm default O2 (k + 1)) := fun h => srt_stop HC.out hb2 (by rw [ex, ey]; exact h)
          have PM : Hid ((swapAt default O2 i).Perm L) := (swapAt_perm i hjl).trans hO2
          have WR : Hid (∀ W : World, W.ownsRow base 44 3 (.slice (some ⟨g, 0, none⟩) n vc) n (flat encFd O2) → w.grownBy W (some g) → (((((((W.setCell ⟨g, (i + 1) * 3, none⟩ (.string (O2[i].fault))).setCell ⟨g, (i + 1) * 3 + 1, none⟩ (.int .i64 (O2[i].fr))).setCell ⟨g, (i + 1) * 3 + 2, none⟩ (.int .i64 (O2[i].to))).setCell ⟨g, i * 3, none⟩ (.string (O2[i + 1].fault))).setCell ⟨g, i * 3 + 1, none⟩ (.int .i64 (O2[i + 1].fr))).setCell ⟨g, i * 3 + 2, none⟩ (.int .i64 (O2[i + 1].to)))).ownsRow base 44 3 (.slice (some ⟨g, 0, none⟩) n vc) n (flat encFd (swapAt default O2 i)) ∧ w.grownBy (((((((W.setCell ⟨g, (i + 1) * 3, none⟩ (.string (O2[i].fault))).setCell ⟨g, (i + 1) * 3 + 1, none⟩ (.int .i64 (O2[i].fr))).setCell ⟨g, (i + 1) * 3 + 2, none⟩ (.int .i64 (O2[i].to))).setCell ⟨g, i * 3, none⟩ (.string (O2[i + 1].fault))).setCell ⟨g, i * 3 + 1, none⟩ (.int .i64 (O2[i + 1].fr))).setCell ⟨g, i * 3 + 2, none⟩ (.int .i64 (O2[i + 1].to)))) (some g)) := fun W hW gW => by
            refine ⟨?_, (gr_set (gr_set (gr_set (gr_set (gr_set (gr_set gW rfl _) rfl _) rfl _) rfl _) rfl _) rfl _)⟩
            have h5 := ((((((hW.stored ((i + 1) * 3) (.string (O2[i].fault))).1.stored ((i + 1) * 3 + 1) (.int .i64 (O2[i].fr))).1.stored ((i + 1) * 3 + 2) (.int .i64 (O2[i].to))).1.stored (i * 3) (.string (O2[i + 1].fault))).1.stored (i * 3 + 1) (.int .i64 (O2[i + 1].fr))).1.stored (i * 3 + 2) (.int .i64 (O2[i + 1].to))).1
            rw [flat_rowFd O2 (i + 1) hjl O2[i], flat_rowFd (O2.set (i + 1) O2[i]) i (by simp; omega) O2[i + 1]] at h5
            unfold swapAt
            rw [ex, ey]
            exact h5
          have CC : Hid (∀ W, wi.grownBy W none → Calls Tryz.prog F #[.agg #[.string (O2[i + 1].fault), .int .i64 (O2[i + 1].fr), .int .i64 (O2[i + 1].to)], .agg #[.string (O2[i].fault), .int .i64 (O2[i].fr), .int .i64 (O2[i].to)]] W fun e w2 => e = .returned (.int .i64 (cm O2[i + 1] O2[i])) ∧ W.grownBy w2 none) := fun W hW => HF.out _ _ W hmx hmy (gr_trans hgr2 (gr_weak hW _))
          obtain ⟨x, hx⟩ : ∃ x, x = O2[i + 1] := ⟨_, rfl⟩
          obtain ⟨y, hy⟩ : ∃ y, y = O2[i] := ⟨_, rfl⟩
          rw [← hx, ← hy] at SW ST CC WR
          rw [← hx] at a0 a1 a2
          rw [← hy] at b0 b1 b2
          obtain ⟨x0, x1, x2⟩ := x
          obtain ⟨y0, y1, y2⟩ := y
          simp only at CC WR
          obtain ⟨c, hcv⟩ : ∃ c, c = cm ⟨x0, x1, x2⟩ ⟨y0, y1, y2⟩ := ⟨_, rfl⟩
          rw [← hcv] at SW ST CC
          obtain ⟨a0, fa0, -⟩ := a0
          obtain ⟨a1, fa1, -⟩ := a1
          obtain ⟨a2, fa2, -⟩ := a2
          obtain ⟨b0, fb0, -⟩ := b0
          obtain ⟨b1, fb1, -⟩ := b1
          obtain ⟨b2, fb2, -⟩ := b2
          have a0 : wi.cell? ⟨g, (i + 1) * 3, none⟩ = some (.string (x0)) := a0
          have a1 : wi.cell? ⟨g, (i + 1) * 3 + 1, none⟩ = some (.int .i64 (x1)) := a1
          have a2 : wi.cell? ⟨g, (i + 1) * 3 + 2, none⟩ = some (.int .i64 (x2)) := a2
          have b0 : wi.cell? ⟨g, i * 3, none⟩ = some (.string (y0)) := b0
          have b1 : wi.cell? ⟨g, i * 3 + 1, none⟩ = some (.int .i64 (y1)) := b1
          have b2 : wi.cell? ⟨g, i * 3 + 2, none⟩ = some (.int .i64 (y2)) := b2
          have ga0 := grew_cell a0
          have ga1 := grew_cell a1
          have ga2 := grew_cell a2
          have gb0 := grew_cell b0
          have gb1 := grew_cell b1
          have gb2 := grew_cell b2
          have FA0 := Lib.hid fa0
          have FA1 := Lib.hid fa1
          have FA2 := Lib.hid fa2
          have FB0 := Lib.hid fb0
          have FB1 := Lib.hid fb1
          have FB2 := Lib.hid fb2
          have HOW := Lib.hid hown2
          have HGR2 := Lib.hid hgr2
          have hgl := lt_of_cell a0
          have HPM2 := Lib.hid hO2
          have hi1 : ((i : Int) + 1 - 1) = i := by omega
          have hwi : IntKind.i64.wrap (((i : Int) + 1) - 1) = i := by rw [hi1]; exact IntWalk.i64_in _ (by omega)
          have hq0 : (0 : Int) ≤ (i : Int) := by omega
          have hq1 : (i : Int) < (n : Int) := by omega
          have hq2 : (0 : Int) ≤ (i : Int) + 1 := by omega
          have hq3 : (i : Int) + 1 < (n : Int) := by omega
          have hq4 : ((i : Int) + 1).toNat = i + 1 := by omega
          have hq5 : decide ((0 : Int) < (i : Int) + 1) = true := decide_eq_true (by omega)
          clear hown2 hgr2 hO2 hb2 hmx hmy ex ey hx hy hcv fa0 fa1 fa2 fb0 fb1 fb2 hlen hi hown' hi1
          by_cases hc0 : c < 0
          · have hdc : decide (c < 0) = true := decide_eq_true hc0
            go_wp2_with (fail)
            refine wp_region_grew (by kernel_rfl) (by kernel_rfl) ?_
            repeat (go_big_quiet_step (first | (exact Calls.grew_of (fun W h => CC.out W h))))
            refine wpQuiet_nil ?_
            rintro wq ⟨nn, rfl⟩
            have gq := nn.gr
            have A0 := ga0 nn
            have A1 := ga1 nn
            have A2 := ga2 nn
            have B0 := gb0 nn
            have B1 := gb1 nn
            have B2 := gb2 nn
            have Fa0 := (gr_free gq hgl (o := (i + 1) * 3)).trans FA0.out
            have Fa1 := (gr_free gq hgl (o := (i + 1) * 3 + 1)).trans FA1.out
            have Fa2 := (gr_free gq hgl (o := (i + 1) * 3 + 2)).trans FA2.out
            have Fb0 := (gr_free gq hgl (o := i * 3)).trans FB0.out
            have Fb1 := (gr_free gq hgl (o := i * 3 + 1)).trans FB1.out
            have Fb2 := (gr_free gq hgl (o := i * 3 + 2)).trans FB2.out
            have HOQ := Lib.hid (own_keep0 HOW.out gq)
            have HGQ := Lib.hid (gr_trans HGR2.out (gr_weak gq _))
            obtain ⟨wn, hwn⟩ : ∃ wn, wn = nn.w := ⟨_, rfl⟩
            rw [← hwn] at A0 A1 A2 B0 B1 B2 Fa0 Fa1 Fa2 Fb0 Fb1 Fb2 HOQ HGQ
            rw [← hwn]
            clear gq hwn ga0 ga1 ga2 gb0 gb1 gb2 a0 a1 a2 b0 b1 b2 hwi hq2 hq3 hq4 hq5 FA0 FA1 FA2 FB0 FB1 FB2
            go_wp2_with (fail)
            go_region
            all_goals (go_wp2_with (fail))
            all_goals go_roundw
            all_goals first | (simp [intOf]; done) | skip
            all_goals
              refine ⟨i, swapAt default O2 i, by omega, by go_num, ?_, PM.out, SW.out hc0, ?_⟩
            all_goals first
              | (with_reducible refine (WR.out _ ?_ ?_).1; (· exact own_keep0 HOQ.out (gr_drew (gr_refl _ _))); exact gr_drew HGQ.out)
              | (with_reducible refine (WR.out _ ?_ ?_).2; (· exact own_keep0 HOQ.out (gr_drew (gr_refl _ _))); exact gr_drew HGQ.out)
              | (with_reducible refine own_keep0 (WR.out _ ?_ ?_).1 (gr_drew (gr_refl _ _)); (· exact HOQ.out); exact HGQ.out)
              | (with_reducible refine gr_drew (WR.out _ ?_ ?_).2; (· exact HOQ.out); exact HGQ.out)
              | fail
          · have hdc : decide (c < 0) = false := decide_eq_false hc0
            go_wp2_with (fail)
            refine wp_region_grew (by kernel_rfl) (by kernel_rfl) ?_
            repeat (go_big_quiet_step (first | (exact Calls.grew_of (fun W h => CC.out W h))))
            refine wpQuiet_nil ?_
            rintro wq ⟨nn, rfl⟩
            have HGQ := Lib.hid (gr_trans HGR2.out (gr_weak nn.gr _))
            have HW := Lib.hid (own_keep0 HOW.out nn.gr)
            clear ga0 ga1 ga2 gb0 gb1 gb2 a0 a1 a2 b0 b1 b2
            go_wp2_with (fail)
            go_roundw
            case rel => exact ⟨k + 1, O2, by omega, by omega, by go_num, HW.out, HPM2.out, ST.out hc0, HGQ.out⟩
            case measure => simp [intOf]; omega
        · have hd0 : decide (0 < j) = false := decide_eq_false hj0
          obtain rfl : j = 0 := by omega
          have HOWN2 := Lib.hid hown2
          have HGR2 := Lib.hid hgr2
          have HPM2 := Lib.hid hO2
          have HZ := Lib.hid (srt_zero hb2)
          have hq5 : decide ((0 : Int) < 0) = false := by decide
          clear hown2 hgr2 hO2 hb2 hlen
          go_wp2_with (fail)
          go_quiet (fail)
          go_wp2_with (fail)
          go_roundw
          case rel => exact ⟨k + 1, O2, by omega, by omega, by go_num, own_keep0 HOWN2.out (gr_drewN (gr_refl _ _) _), HPM2.out, HZ.out, gr_drewN HGR2.out _⟩
          case measure => simp [intOf]; omega
    · have HW := Lib.hid hown'
      clear hown'
      go_wp2_with (fail)
      go_end0
      have hS : Srt cm default O' n := fun p q h1 h2 => HS.out p q h1 (by omega)
      exact ⟨O', rfl, HW.out, HO'.out, hS, hgr⟩
set_option maxRecDepth 100000 in
theorem pdqFd_few (F : FuncId) (n : Nat) (cm : Fd → Fd → Int) (v : Value) (base : Nat) (L : List Fd) (w : World) (hown : w.ownsRow base 44 3 v n (flat encFd L)) (hL : L.length = n) (hn : n ≤ 12) (lim : Int)
    (hE : ∀ (args : Array Value) (w : World), (callFunc F args).run Tryz.prog w = .ok (.enter F args) w) (hc : CmpOk cm) (hF : CmpFd F cm L v.ownBlock w) :
    Calls Tryz.prog 123 #[v, .int .i64 0, .int .i64 n, .int .i64 lim, .func (.func F) #[] #[]] w (SortFdPost cm L v n base w) := by
  have IS := Lib.hid (insertionFd_any F n cm v base L w hown hL (by omega) hE hc hF)
  obtain ⟨va, vc, rfl, _, _, _, _⟩ := own_shape hown
  clear hF hE hown hL hc
  have d12 : decide ((n : Int) ≤ 12) = true := decide_eq_true (by omega)
  go_enter Tryz.func123, Tryz.ntmps123
  go_wp2_with (fail)
  go_loopw [1, 2, 3, 10, 11] (fun b c d g h wr => b = .int .i64 0 ∧ c = .int .i64 n ∧ d = .int .i64 lim ∧ g = .bool true ∧ h = .bool true ∧ wr = w) (fun _ _ _ _ _ _ => 0)
  case atStart => exact ⟨rfl, rfl, rfl, rfl, rfl, rfl⟩
  case round =>
    obtain ⟨rfl, rfl, rfl, rfl, rfl, rfl⟩ := hrel
    go_wp2_with (fail)
    refine IS.out.mono ?_
    rintro e w2 ⟨O2, rfl, h1, h2, h3, h4⟩
    have H1 := Lib.hid h1
    have H2 := Lib.hid h2
    have H3 := Lib.hid h3
    clear h1 h2 h3
    go_wp2_with (fail)
    go_end0
    exact ⟨O2, rfl, H1.out, H2.out, H3.out, h4⟩
theorem sortFFd_few (F : FuncId) (n : Nat) (cm : Fd → Fd → Int) (v : Value) (base : Nat) (L : List Fd) (w : World) (hown : w.ownsRow base 44 3 v n (flat encFd L)) (hL : L.length = n) (hn : n ≤ 12)
    (hE : ∀ (args : Array Value) (w : World), (callFunc F args).run Tryz.prog w = .ok (.enter F args) w) (hc : CmpOk cm) (hF : CmpFd F cm L v.ownBlock w) :
    Calls Tryz.prog 69 #[v, .func (.func F) #[] #[]] w (SortFdPost cm L v n base w) := by
  have IS := Lib.hid (fun lim => pdqFd_few F n cm v base L w hown hL hn lim hE hc hF)
  have LN := Lib.hid (len_few n hn)
  obtain ⟨va, vc, rfl, _, _, _, _⟩ := own_shape hown
  clear hF hE hown hL hc
  go_enter Tryz.func69, Tryz.ntmps69
  go_wp2_with (fail)
  refine (LN.out _).mono ?_
  rintro e w1 ⟨r, rfl, rfl⟩
  go_wp2_with (fail)
  refine (IS.out r).mono ?_
  rintro e w2 ⟨O2, rfl, h1, h2, h3, h4⟩
  have H1 := Lib.hid h1
  have H2 := Lib.hid h2
  have H3 := Lib.hid h3
  clear h1 h2 h3
  go_wp2_with (fail)
  go_end0
  exact ⟨O2, rfl, H1.out, H2.out, H3.out, h4⟩
end Go.Proofs.YtehhmgbgkemidaaGreatDoor
