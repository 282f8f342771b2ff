/- Package slices at elements coilrack/api.Reading: sorting of few. Written by mksortn.py. -/
import Derived.Test.YtjhfglhoiplfmaaPkSAi
import Derived.Test.YtjhfglhoiplfmaaPkSAa
import Derived.Test.YtjhfglhoiplfmaaPkSAk
import Derived.Test.YtjhfglhoiplfmaaPkSAc
import Derived.Test.YtjhfglhoiplfmaaPkSAx
import Derived.Test.YtjhfglhoiplfmaaPkSAw
import Derived.Test.YtjhfglhoiplfmaaPkSAe
import Derived.Deep.DeepCutAuto
import Derived.Deep.CutBlock
import Derived.Deep.DrawnRows
import Derived.BigRegion
namespace Go.Proofs.Ytjhfglhoiplfmaa
open Go.RowKit

theorem own_of_heapRd {w w1 : World} {base e size n : Nat} {v : Value} {xs : List Value} (h : w.ownsRow base e size v n xs) (e1 : w1.heap = w.heap) : w1.ownsRow base e size v n xs := by
  rcases h.2 with h2 | ⟨g, cap, cur, hv, hb, hg, r⟩
  · exact ⟨h.1, .inl h2⟩
  · exact ⟨h.1, .inr ⟨g, cap, cur, hv, hb, by rw [e1]; exact hg, r⟩⟩
theorem flat_rowRd (l : List RdC) (i : Nat) (h : i < l.length) (y : RdC) : (((flat encC l).set (i * 2) (.int .i64 (y.at_))).set (i * 2 + 1) (.slice (y.v).a (y.v).n (y.v).c)) = flat encC (l.set i y) := by
  have e0 := flat_set (enc := encC) (m := 2) (fun _ => rfl) l i h 0 (by decide) (.int .i64 (y.at_)) (⟨y.at_, l[i].v⟩ : RdC) rfl
  have g1 : (l.set i (⟨y.at_, l[i].v⟩ : RdC))[i]'(by simp; omega) = (⟨y.at_, l[i].v⟩ : RdC) := by rw [List.getElem_set_self]
  have e1 := flat_set (enc := encC) (m := 2) (fun _ => rfl) (l.set i (⟨y.at_, l[i].v⟩ : RdC)) i (by simp; omega) 1 (by decide) (.slice (y.v).a (y.v).n (y.v).c) (⟨y.at_, y.v⟩ : RdC) (by rw [g1]; rfl)
  rw [List.set_set] at e1
  rw [show i * 2 + 0 = i * 2 from rfl] at e0
  rw [e0, e1]
/-- A comparison of elements of a list, in worlds that differ from w at one block at most. -/
def CmpRd (F : FuncId) (cm : RdC → RdC → Int) (L : List RdC) (r : Option Nat) (w : World) : Prop :=
  ∀ (x y : RdC) (w1 : World), x ∈ L → y ∈ L → w.grownBy w1 r → Calls Try.prog F #[.agg #[.int .i64 (x.at_), .slice (x.v).a (x.v).n (x.v).c], .agg #[.int .i64 (y.at_), .slice (y.v).a (y.v).n (y.v).c]] w1 fun e w2 => e = .returned (.int .i64 (cm x y)) ∧ w1.grownBy w2 none
def SortRdPost (cm : RdC → RdC → Int) (L : List RdC) (v : Value) (n base : Nat) (w : World) (e : Ending) (w' : World) : Prop := ∃ O, e = .returned (.tuple #[]) ∧ w'.ownsRow base 56 2 v n (flat encC O) ∧ O.Perm L ∧ Srt cm (⟨0, ⟨none, 0, 0⟩⟩ : RdC) O n ∧ w.grownBy w' v.ownBlock
set_option maxRecDepth 100000 in
set_option maxHeartbeats 2000000 in
theorem insertionRd_any (F : FuncId) (n : Nat) (cm : RdC → RdC → Int) (v : Value) (base : Nat) (L : List RdC) (w : World) (hown : w.ownsRow base 56 2 v n (flat encC L)) (hL : L.length = n) (hn : n ≤ 1000)
    (hE : ∀ (args : Array Value) (w : World), (callFunc F args).run Try.prog w = .ok (.enter F args) w) (hc : CmpOk cm) (hF : CmpRd F cm L v.ownBlock w) :
    Calls Try.prog 50 #[v, .int .i64 0, .int .i64 n, .func (.func F) #[] #[]] w (SortRdPost cm L v n base w) := by
  have HF := Lib.hid hF
  have HC := Lib.hid hc
  have HL := Lib.hid hL
  obtain ⟨va, vc, rfl, _, _, _, _⟩ := own_shape hown
  clear hF hc hL
  go_enter Try.func50, Try.ntmps50
  go_wp2_with (fail)
  go_loopw [8] (fun i wr => ∃ (k : Nat) (O' : List RdC), 1 ≤ k ∧ (k ≤ n ∨ n = 0) ∧ i = .int .i64 k ∧ wr.ownsRow base 56 2 (.slice va n vc) n (flat encC O') ∧ O'.Perm L ∧ Srt cm (⟨0, ⟨none, 0, 0⟩⟩ : RdC) O' k ∧ w.grownBy wr (Value.slice va n vc).ownBlock) (fun i _ => n - (intOf i).toNat)
  case atStart => exact ⟨1, L, by omega, by omega, rfl, hown, List.Perm.refl _, srt_one, gr_refl _ _⟩
  case round =>
    obtain ⟨k, O', hk, hkn1, rfl, hown', hO', hs, hgr⟩ := hrel
    obtain ⟨wo, rfl⟩ : ∃ wo : World, wo = wr := ⟨_, rfl⟩
    have HO' := Lib.hid hO'
    have HS := Lib.hid hs
    clear hO' hs
    by_cases hkn : k < n
    · obtain ⟨g, gc, hge, hgb, _, _, _⟩ := own_some hown' (by omega)
      cases hge
      go_wp2_with (fail)
      go_loopw [9] (fun i wr => ∃ (j : Nat) (O2 : List RdC), j ≤ k ∧ i = .int .i64 j ∧ wr.ownsRow base 56 2 (.slice (some ⟨g, 0, none⟩) n vc) n (flat encC O2) ∧ O2.Perm L ∧ SrtBut cm (⟨0, ⟨none, 0, 0⟩⟩ : RdC) O2 k j ∧ w.grownBy wr (some g)) (fun i _ => (intOf i).toNat)
      case atStart => exact ⟨k, O', by omega, rfl, hown', HO'.out, srt_start HS.out, hgr⟩
      case round =>
        clear hgr
        obtain ⟨j, O2, hj, rfl, hown2, hO2, hb2, hgr2⟩ := hrel
        obtain ⟨wi, rfl⟩ : ∃ wi : World, wi = wr := ⟨_, rfl⟩
        have hlen := hO2.length_eq.trans HL.out
        by_cases hj0 : 0 < j
        · have hd0 : decide (0 < j) = true := decide_eq_true hj0
          obtain ⟨i, hi⟩ : ∃ i, i = j - 1 := ⟨_, rfl⟩
          have hij : i + 1 = j := by omega
          subst hij
          have hjl : i + 1 < O2.length := by omega
          have hil : i < O2.length := by omega
          have a0 := own_cellE (enc := encC) (m := 2) (fun _ => rfl) hown2 (i + 1) hjl 0 (by decide) _ rfl hlen
          have a1 := own_cellE (enc := encC) (m := 2) (fun _ => rfl) hown2 (i + 1) hjl 1 (by decide) _ rfl hlen
          have b0 := own_cellE (enc := encC) (m := 2) (fun _ => rfl) hown2 (i) hil 0 (by decide) _ rfl hlen
          have b1 := own_cellE (enc := encC) (m := 2) (fun _ => rfl) hown2 (i) hil 1 (by decide) _ rfl hlen
          have hmx : O2[i + 1] ∈ L := hO2.mem_iff.1 (List.getElem_mem _)
          have hmy : O2[i] ∈ L := hO2.mem_iff.1 (List.getElem_mem _)
          have ex : O2.getD (i + 1) (⟨0, ⟨none, 0, 0⟩⟩ : RdC) = O2[i + 1] := getD_eq O2 _ _ hjl
          have ey : O2.getD i (⟨0, ⟨none, 0, 0⟩⟩ : RdC) = O2[i] := getD_eq O2 _ _ hil
          have SW : Hid (cm O2[i + 1] O2[i] < 0 → SrtBut cm (⟨0, ⟨none, 0, 0⟩⟩ : RdC) (swapAt (⟨0, ⟨none, 0, 0⟩⟩ : RdC) O2 i) k i) := fun h => srt_swap HC.out hjl (by omega) hb2 (by rw [ex, ey]; exact h)
          have ST : Hid (¬ cm O2[i + 1] O2[i] < 0 → Srt cm (⟨0, ⟨none, 0, 0⟩⟩ : RdC) O2 (k + 1)) := fun h => srt_stop HC.out hb2 (by rw [ex, ey]; exact h)
          have PM : Hid ((swapAt (⟨0, ⟨none, 0, 0⟩⟩ : RdC) O2 i).Perm L) := (swapAt_perm i hjl).trans hO2
          have WR : Hid (∀ W : World, W.ownsRow base 56 2 (.slice (some ⟨g, 0, none⟩) n vc) n (flat encC O2) → w.grownBy W (some g) → (((((W.setCell ⟨g, (i + 1) * 2, none⟩ (.int .i64 (O2[i].at_))).setCell ⟨g, (i + 1) * 2 + 1, none⟩ (.slice (O2[i].v).a (O2[i].v).n (O2[i].v).c)).setCell ⟨g, i * 2, none⟩ (.int .i64 (O2[i + 1].at_))).setCell ⟨g, i * 2 + 1, none⟩ (.slice (O2[i + 1].v).a (O2[i + 1].v).n (O2[i + 1].v).c))).ownsRow base 56 2 (.slice (some ⟨g, 0, none⟩) n vc) n (flat encC (swapAt (⟨0, ⟨none, 0, 0⟩⟩ : RdC) O2 i)) ∧ w.grownBy (((((W.setCell ⟨g, (i + 1) * 2, none⟩ (.int .i64 (O2[i].at_))).setCell ⟨g, (i + 1) * 2 + 1, none⟩ (.slice (O2[i].v).a (O2[i].v).n (O2[i].v).c)).setCell ⟨g, i * 2, none⟩ (.int .i64 (O2[i + 1].at_))).setCell ⟨g, i * 2 + 1, none⟩ (.slice (O2[i + 1].v).a (O2[i + 1].v).n (O2[i + 1].v).c))) (some g)) := fun W hW gW => by
            refine ⟨?_, (gr_set (gr_set (gr_set (gr_set gW rfl _) rfl _) rfl _) rfl _)⟩
            have h5 := ((((hW.stored ((i + 1) * 2) (.int .i64 (O2[i].at_))).1.stored ((i + 1) * 2 + 1) (.slice (O2[i].v).a (O2[i].v).n (O2[i].v).c)).1.stored (i * 2) (.int .i64 (O2[i + 1].at_))).1.stored (i * 2 + 1) (.slice (O2[i + 1].v).a (O2[i + 1].v).n (O2[i + 1].v).c)).1
            rw [flat_rowRd O2 (i + 1) hjl O2[i], flat_rowRd (O2.set (i + 1) O2[i]) i (by simp; omega) O2[i + 1]] at h5
            unfold swapAt
            rw [ex, ey]
            exact h5
          have CC : Hid (∀ W, wi.grownBy W none → Calls Try.prog F #[.agg #[.int .i64 (O2[i + 1].at_), .slice (O2[i + 1].v).a (O2[i + 1].v).n (O2[i + 1].v).c], .agg #[.int .i64 (O2[i].at_), .slice (O2[i].v).a (O2[i].v).n (O2[i].v).c]] W fun e w2 => e = .returned (.int .i64 (cm O2[i + 1] O2[i])) ∧ W.grownBy w2 none) := fun W hW => HF.out _ _ W hmx hmy (gr_trans hgr2 (gr_weak hW _))
          obtain ⟨x, hx⟩ : ∃ x, x = O2[i + 1] := ⟨_, rfl⟩
          obtain ⟨y, hy⟩ : ∃ y, y = O2[i] := ⟨_, rfl⟩
          rw [← hx, ← hy] at SW ST CC WR
          rw [← hx] at a0 a1
          rw [← hy] at b0 b1
          obtain ⟨x0, x1⟩ := x
          obtain ⟨y0, y1⟩ := y
          simp only at CC WR
          obtain ⟨c, hcv⟩ : ∃ c, c = cm ⟨x0, x1⟩ ⟨y0, y1⟩ := ⟨_, rfl⟩
          rw [← hcv] at SW ST CC
          obtain ⟨a0, fa0, -⟩ := a0
          obtain ⟨a1, fa1, -⟩ := a1
          obtain ⟨b0, fb0, -⟩ := b0
          obtain ⟨b1, fb1, -⟩ := b1
          have a0 : wi.cell? ⟨g, (i + 1) * 2, none⟩ = some (.int .i64 (x0)) := a0
          have a1 : wi.cell? ⟨g, (i + 1) * 2 + 1, none⟩ = some (.slice (x1).a (x1).n (x1).c) := a1
          have b0 : wi.cell? ⟨g, i * 2, none⟩ = some (.int .i64 (y0)) := b0
          have b1 : wi.cell? ⟨g, i * 2 + 1, none⟩ = some (.slice (y1).a (y1).n (y1).c) := b1
          have ga0 := grew_cell a0
          have ga1 := grew_cell a1
          have gb0 := grew_cell b0
          have gb1 := grew_cell b1
          have FA0 := Lib.hid fa0
          have FA1 := Lib.hid fa1
          have FB0 := Lib.hid fb0
          have FB1 := Lib.hid fb1
          have HOW := Lib.hid hown2
          have HGR2 := Lib.hid hgr2
          have hgl := lt_of_cell a0
          have HPM2 := Lib.hid hO2
          have hi1 : ((i : Int) + 1 - 1) = i := by omega
          have hwi : IntKind.i64.wrap (((i : Int) + 1) - 1) = i := by rw [hi1]; exact IntWalk.i64_in _ (by omega)
          have hq0 : (0 : Int) ≤ (i : Int) := by omega
          have hq1 : (i : Int) < (n : Int) := by omega
          have hq2 : (0 : Int) ≤ (i : Int) + 1 := by omega
          have hq3 : (i : Int) + 1 < (n : Int) := by omega
          have hq4 : ((i : Int) + 1).toNat = i + 1 := by omega
          have hq5 : decide ((0 : Int) < (i : Int) + 1) = true := decide_eq_true (by omega)
          clear hown2 hgr2 hO2 hb2 hmx hmy ex ey hx hy hcv fa0 fa1 fb0 fb1 hlen hi hown' hi1
          by_cases hc0 : c < 0
          · have hdc : decide (c < 0) = true := decide_eq_true hc0
            go_wp2_with (fail)
            refine wp_region_grew (by kernel_rfl) (by kernel_rfl) ?_
            repeat (go_big_quiet_step (first | (exact Calls.grew_of (fun W h => CC.out W h))))
            refine wpQuiet_nil ?_
            rintro wq ⟨nn, rfl⟩
            have gq := nn.gr
            have A0 := ga0 nn
            have A1 := ga1 nn
            have B0 := gb0 nn
            have B1 := gb1 nn
            have Fa0 := (gr_free gq hgl (o := (i + 1) * 2)).trans FA0.out
            have Fa1 := (gr_free gq hgl (o := (i + 1) * 2 + 1)).trans FA1.out
            have Fb0 := (gr_free gq hgl (o := i * 2)).trans FB0.out
            have Fb1 := (gr_free gq hgl (o := i * 2 + 1)).trans FB1.out
            have HOQ := Lib.hid (own_keep0 HOW.out gq)
            have HGQ := Lib.hid (gr_trans HGR2.out (gr_weak gq _))
            obtain ⟨wn, hwn⟩ : ∃ wn, wn = nn.w := ⟨_, rfl⟩
            rw [← hwn] at A0 A1 B0 B1 Fa0 Fa1 Fb0 Fb1 HOQ HGQ
            rw [← hwn]
            clear gq hwn ga0 ga1 gb0 gb1 a0 a1 b0 b1 hwi hq2 hq3 hq4 hq5 FA0 FA1 FB0 FB1
            go_wp2_with (fail)
            go_region
            all_goals (go_wp2_with (fail))
            all_goals go_roundw
            all_goals first | (simp [intOf]; done) | skip
            all_goals
              refine ⟨i, swapAt (⟨0, ⟨none, 0, 0⟩⟩ : RdC) O2 i, by omega, by go_num, ?_, PM.out, SW.out hc0, ?_⟩
            all_goals first
              | (with_reducible refine (WR.out _ ?_ ?_).1; (· exact own_keep0 HOQ.out (gr_drew (gr_refl _ _))); exact gr_drew HGQ.out)
              | (with_reducible refine (WR.out _ ?_ ?_).2; (· exact own_keep0 HOQ.out (gr_drew (gr_refl _ _))); exact gr_drew HGQ.out)
              | (with_reducible refine own_keep0 (WR.out _ ?_ ?_).1 (gr_drew (gr_refl _ _)); (· exact HOQ.out); exact HGQ.out)
              | (with_reducible refine gr_drew (WR.out _ ?_ ?_).2; (· exact HOQ.out); exact HGQ.out)
              | fail
          · have hdc : decide (c < 0) = false := decide_eq_false hc0
            go_wp2_with (fail)
            refine wp_region_grew (by kernel_rfl) (by kernel_rfl) ?_
            repeat (go_big_quiet_step (first | (exact Calls.grew_of (fun W h => CC.out W h))))
            refine wpQuiet_nil ?_
            rintro wq ⟨nn, rfl⟩
            have HGQ := Lib.hid (gr_trans HGR2.out (gr_weak nn.gr _))
            have HW := Lib.hid (own_keep0 HOW.out nn.gr)
            clear ga0 ga1 gb0 gb1 a0 a1 b0 b1
            go_wp2_with (fail)
            go_roundw
            case rel => exact ⟨k + 1, O2, by omega, by omega, by go_num, HW.out, HPM2.out, ST.out hc0, HGQ.out⟩
            case measure => simp [intOf]; omega
        · have hd0 : decide (0 < j) = false := decide_eq_false hj0
          obtain rfl : j = 0 := by omega
          have HOWN2 := Lib.hid hown2
          have HGR2 := Lib.hid hgr2
          have HPM2 := Lib.hid hO2
          have HZ := Lib.hid (srt_zero hb2)
          have hq5 : decide ((0 : Int) < 0) = false := by decide
          clear hown2 hgr2 hO2 hb2 hlen
          go_wp2_with (fail)
          go_quiet (fail)
          go_wp2_with (fail)
          go_roundw
          case rel => exact ⟨k + 1, O2, by omega, by omega, by go_num, own_keep0 HOWN2.out (gr_drewN (gr_refl _ _) _), HPM2.out, HZ.out, gr_drewN HGR2.out _⟩
          case measure => simp [intOf]; omega
    · have HW := Lib.hid hown'
      clear hown'
      go_wp2_with (fail)
      go_end0
      have hS : Srt cm (⟨0, ⟨none, 0, 0⟩⟩ : RdC) O' n := fun p q h1 h2 => HS.out p q h1 (by omega)
      exact ⟨O', rfl, HW.out, HO'.out, hS, hgr⟩
set_option maxRecDepth 100000 in
theorem stableRd_any (F : FuncId) (n : Nat) (cm : RdC → RdC → Int) (v : Value) (base : Nat) (L : List RdC) (w : World) (hown : w.ownsRow base 56 2 v n (flat encC L)) (hL : L.length = n) (hn : n < 20)
    (hE : ∀ (args : Array Value) (w : World), (callFunc F args).run Try.prog w = .ok (.enter F args) w) (hc : CmpOk cm) (hF : CmpRd F cm L v.ownBlock w) :
    Calls Try.prog 82 #[v, .int .i64 n, .func (.func F) #[] #[]] w (SortRdPost cm L v n base w) := by
  have IS := Lib.hid (insertionRd_any F n cm v base L w hown hL (by omega) hE hc hF)
  obtain ⟨va, vc, rfl, _, _, _, _⟩ := own_shape hown
  clear hF hE hown hL hc
  have h20 : ¬ 20 ≤ (n : Int) := by omega
  go_enter Try.func82, Try.ntmps82
  go_wp2_with (fail)
  go_loop [7, 8] (fun a b => a = .int .i64 0 ∧ b = .int .i64 20) (fun _ _ => 0)
  case atStart => exact ⟨rfl, rfl⟩
  case round =>
    obtain ⟨rfl, rfl⟩ := hrel
    go_wp2_with (fail)
    refine IS.out.mono ?_
    rintro e w2 ⟨O2, rfl, h1, h2, h3, h4⟩
    have H1 := Lib.hid h1
    have H2 := Lib.hid h2
    have H3 := Lib.hid h3
    have hn20 : ¬ 20 < (n : Int) := by omega
    clear h1 h2 h3
    go_wp2_with (fail)
    go_loop [6] (fun a => a = .int .i64 20) (fun _ => 0)
    case atStart => exact rfl
    case round =>
      obtain rfl := hrel
      go_wp2_with (fail)
      go_end0
      exact ⟨O2, rfl, H1.out, H2.out, H3.out, h4⟩
theorem sortRd_any (F : FuncId) (n : Nat) (cm : RdC → RdC → Int) (v : Value) (base : Nat) (L : List RdC) (w : World) (hown : w.ownsRow base 56 2 v n (flat encC L)) (hL : L.length = n) (hn : n < 20)
    (hE : ∀ (args : Array Value) (w : World), (callFunc F args).run Try.prog w = .ok (.enter F args) w) (hc : CmpOk cm) (hF : CmpRd F cm L v.ownBlock w) :
    Calls Try.prog 63 #[v, .func (.func F) #[] #[]] w (SortRdPost cm L v n base w) := by
  have IS := Lib.hid (stableRd_any F n cm v base L w hown hL hn hE hc hF)
  obtain ⟨va, vc, rfl, _, _, _, _⟩ := own_shape hown
  clear hF hE hown hL hc
  go_enter Try.func63, Try.ntmps63
  go_wp2_with (fail)
  refine IS.out.mono ?_
  rintro e w2 ⟨O2, rfl, h1, h2, h3, h4⟩
  have H1 := Lib.hid h1
  have H2 := Lib.hid h2
  have H3 := Lib.hid h3
  clear h1 h2 h3
  go_wp2_with (fail)
  go_end0
  exact ⟨O2, rfl, H1.out, H2.out, H3.out, h4⟩
set_option maxRecDepth 100000 in
theorem pdqRd_few (F : FuncId) (n : Nat) (cm : RdC → RdC → Int) (v : Value) (base : Nat) (L : List RdC) (w : World) (hown : w.ownsRow base 56 2 v n (flat encC L)) (hL : L.length = n) (hn : n ≤ 12) (lim : Int)
    (hE : ∀ (args : Array Value) (w : World), (callFunc F args).run Try.prog w = .ok (.enter F args) w) (hc : CmpOk cm) (hF : CmpRd F cm L v.ownBlock w) :
    Calls Try.prog 43 #[v, .int .i64 0, .int .i64 n, .int .i64 lim, .func (.func F) #[] #[]] w (SortRdPost cm L v n base w) := by
  have IS := Lib.hid (insertionRd_any F n cm v base L w hown hL (by omega) hE hc hF)
  obtain ⟨va, vc, rfl, _, _, _, _⟩ := own_shape hown
  clear hF hE hown hL hc
  have d12 : decide ((n : Int) ≤ 12) = true := decide_eq_true (by omega)
  go_enter Try.func43, Try.ntmps43
  go_wp2_with (fail)
  go_loopw [1, 2, 3, 10, 11] (fun b c d g h wr => b = .int .i64 0 ∧ c = .int .i64 n ∧ d = .int .i64 lim ∧ g = .bool true ∧ h = .bool true ∧ wr = w) (fun _ _ _ _ _ _ => 0)
  case atStart => exact ⟨rfl, rfl, rfl, rfl, rfl, rfl⟩
  case round =>
    obtain ⟨rfl, rfl, rfl, rfl, rfl, rfl⟩ := hrel
    go_wp2_with (fail)
    refine IS.out.mono ?_
    rintro e w2 ⟨O2, rfl, h1, h2, h3, h4⟩
    have H1 := Lib.hid h1
    have H2 := Lib.hid h2
    have H3 := Lib.hid h3
    clear h1 h2 h3
    go_wp2_with (fail)
    go_end0
    exact ⟨O2, rfl, H1.out, H2.out, H3.out, h4⟩
theorem sortFRd_few (F : FuncId) (n : Nat) (cm : RdC → RdC → Int) (v : Value) (base : Nat) (L : List RdC) (w : World) (hown : w.ownsRow base 56 2 v n (flat encC L)) (hL : L.length = n) (hn : n ≤ 12)
    (hE : ∀ (args : Array Value) (w : World), (callFunc F args).run Try.prog w = .ok (.enter F args) w) (hc : CmpOk cm) (hF : CmpRd F cm L v.ownBlock w) :
    Calls Try.prog 32 #[v, .func (.func F) #[] #[]] w (SortRdPost cm L v n base w) := by
  have IS := Lib.hid (fun lim => pdqRd_few F n cm v base L w hown hL hn lim hE hc hF)
  have LN := Lib.hid (len_few n hn)
  obtain ⟨va, vc, rfl, _, _, _, _⟩ := own_shape hown
  clear hF hE hown hL hc
  go_enter Try.func32, Try.ntmps32
  go_wp2_with (fail)
  refine (LN.out _).mono ?_
  rintro e w1 ⟨r, rfl, rfl⟩
  go_wp2_with (fail)
  refine (IS.out r).mono ?_
  rintro e w2 ⟨O2, rfl, h1, h2, h3, h4⟩
  have H1 := Lib.hid h1
  have H2 := Lib.hid h2
  have H3 := Lib.hid h3
  clear h1 h2 h3
  go_wp2_with (fail)
  go_end0
  exact ⟨O2, rfl, H1.out, H2.out, H3.out, h4⟩
end Go.Proofs.Ytjhfglhoiplfmaa

/-! Comparing readings by their moments; what sorting by them gives. -/
namespace Go.Proofs.Ytjhfglhoiplfmaa
open Go.RowKit
attribute [local go_sem ↓] Go.wp_at_zero Go.wp_at_succ

def cmR (a b : RdC) : Int := cmpN a.at_ b.at_
theorem cmR_ok : CmpOk cmR := ⟨fun a b h => by unfold cmR at *; rw [(cmpN_sign _ _).1] at *; omega, fun a b c h1 h2 => by unfold cmR at *; rw [(cmpN_sign _ _).1] at *; omega⟩
abbrev rdC0 : RdC := ⟨0, ⟨none, 0, 0⟩⟩
theorem asc_of_sorted {L' L2 : List RdG} (hp : L'.Perm L2) (hs : Srt cmR rdC0 (L'.map RdG.cell) L'.length) (hd : (rdsG L2).Pairwise (fun a b => a.at_ ≠ b.at_)) : (rdsG L').Pairwise (fun a b => a.at_ < b.at_) := by
  have hd' : (rdsG L').Pairwise (fun a b => a.at_ ≠ b.at_) := List.Perm.pairwise (hp.symm.map RdG.rd) hd (fun h => h.symm)
  rw [List.pairwise_iff_getElem] at hd' ⊢
  intro i j hi hj hij
  have h1 := hd' i j hi hj hij
  have h2 := hs i j hij (by rw [rdsG_len] at hj; exact hj)
  unfold cmR at h2
  rw [(cmpN_sign _ _).1] at h2
  rw [rdsG_len] at hi hj
  rw [getD_eq _ _ _ (by simpa using hj), getD_eq _ _ _ (by simpa using hi)] at h2
  simp only [List.getElem_map, RdG.cell] at h2
  simp only [rdsG, List.getElem_map] at h1 ⊢
  omega
/-- The same readings, sorted. -/
theorem Rds.sorted {w : World} {base : Nat} {v : Value} {L : List RdG} {O : List RdC} {w' : World} (h : Rds w base v L) (g : w.grownBy w' v.ownBlock) (hp : O.Perm (L.map RdG.cell)) (ho : w'.ownsRow base 56 2 v L.length (flat encC O)) :
    ∃ L' : List RdG, L'.Perm L ∧ L'.map RdG.cell = O ∧ Rds w' base v L' := by
  obtain ⟨L', h1, h2⟩ := perm_unmap RdG.cell hp
  refine ⟨L', h1, h2, ⟨?_, fun x hx => own_keepU (h.vals x (h1.mem_iff.1 hx)) h.row (by decide) g⟩⟩
  rw [h1.length_eq]
  show World.ownsRow _ _ _ _ _ _ (flat encC _)
  rw [h2]; exact ho
theorem findA_spec {α : Type} (P : α → Bool) (xs : List α) : (findA P xs < 0 ∧ ∀ x ∈ xs, P x = false) ∨ ∃ k, ∃ h : k < xs.length, findA P xs = (k : Int) ∧ P xs[k] = true := by
  unfold findA
  split
  · rename_i h
    exact .inr ⟨_, h, rfl, List.findIdx_getElem⟩
  · rename_i h
    refine .inl ⟨by omega, fun x hx => ?_⟩
    cases hp : P x with
    | false => rfl
    | true => exact absurd (List.findIdx_lt_length_of_exists ⟨x, hx, hp⟩) h
section
variable (x y : RdC) (t : Int) (q : Nat) (w : World)
set_option maxRecDepth 100000 in
theorem sr1_any (h : w.cell? ⟨q, 0, none⟩ = some (.int .i64 t)) : Calls Try.prog 30 #[.agg #[.int .i64 x.at_, .slice x.v.a x.v.n x.v.c], .pointer (some ⟨q, 0, none⟩)] w fun e w' => e = .returned (.bool (x.at_ == t)) ∧ w.grownBy w' none := by
  obtain ⟨A, a, n, c⟩ := x
  have g := gr_alloc (gr_refl w none) (.cells #[.int .i64 A, .slice a n c] 56)
  have h1 := held_cell (gr_refl (w.alloc (.cells #[.int .i64 A, .slice a n c] 56)) none) h
  go_enter Try.func30, Try.ntmps30
  go_wp2_with (fail)
  go_ret
  exact ⟨rfl, g⟩
theorem sr1_fn : ∀ (args : Array Value) (w : World), (callFunc 30 args).run Try.prog w = .ok (.enter 30 args) w := fun _ _ => by kernel_rfl
set_option maxRecDepth 100000 in
theorem sr2_any : Calls Try.prog 33 #[.agg #[.int .i64 x.at_, .slice x.v.a x.v.n x.v.c], .agg #[.int .i64 y.at_, .slice y.v.a y.v.n y.v.c]] w fun e w' => e = .returned (.int .i64 (cmR x y)) ∧ w.grownBy w' none := by
  obtain ⟨A, a, n, c⟩ := x
  obtain ⟨B, b, m, d⟩ := y
  have CM := Lib.hid (fun W => cmpInt_any A B W)
  have g := gr_alloc (gr_alloc (gr_refl w none) (.cells #[.int .i64 A, .slice a n c] 56)) (.cells #[.int .i64 B, .slice b m d] 56)
  go_enter Try.func33, Try.ntmps33
  go_wp2_with (fail)
  refine (CM.out _).mono ?_
  rintro e w2 ⟨rfl, rfl⟩
  go_wp2_with (fail)
  go_ret
  exact ⟨rfl, g⟩
theorem sr2_fn : ∀ (args : Array Value) (w : World), (callFunc 33 args).run Try.prog w = .ok (.enter 33 args) w := fun _ _ => by kernel_rfl
set_option maxRecDepth 100000 in
theorem ms1_any : Calls Try.prog 64 #[.agg #[.int .i64 x.at_, .slice x.v.a x.v.n x.v.c], .agg #[.int .i64 y.at_, .slice y.v.a y.v.n y.v.c]] w fun e w' => e = .returned (.int .i64 (cmR x y)) ∧ w.grownBy w' none := by
  obtain ⟨A, a, n, c⟩ := x
  obtain ⟨B, b, m, d⟩ := y
  have CM := Lib.hid (fun W => cmpInt_any A B W)
  have g := gr_alloc (gr_alloc (gr_refl w none) (.cells #[.int .i64 A, .slice a n c] 56)) (.cells #[.int .i64 B, .slice b m d] 56)
  go_enter Try.func64, Try.ntmps64
  go_wp2_with (fail)
  refine (CM.out _).mono ?_
  rintro e w2 ⟨rfl, rfl⟩
  go_wp2_with (fail)
  go_ret
  exact ⟨rfl, g⟩
theorem ms1_fn : ∀ (args : Array Value) (w : World), (callFunc 64 args).run Try.prog w = .ok (.enter 64 args) w := fun _ _ => by kernel_rfl
end
end Go.Proofs.Ytjhfglhoiplfmaa

/-! Sorted readings: the document's answer. -/
namespace Go.Proofs.Ytjhfglhoiplfmaa
open Go.RowKit
attribute [local go_sem ↓] Go.wp_at_zero Go.wp_at_succ

theorem rd_ext {x y : Rd} (h1 : x.at_ = y.at_) (h2 : x.vs = y.vs) : x = y := by
  obtain ⟨t1, v1⟩ := x
  obtain ⟨t2, v2⟩ := y
  simp only at h1 h2
  rw [h1, h2]
/-- The readings of a list, each moment once, in some order. -/
structure Ded (L2 : List Rd) (X : List Rd) : Prop where
  dis : L2.Pairwise (fun a b => a.at_ ≠ b.at_)
  mem : ∀ r, r ∈ L2 ↔ r ∈ X
theorem Ded.add {L2 X : List Rd} {x : Rd} (h : Ded L2 X) (hno : ∀ y ∈ L2, y.at_ ≠ x.at_) : Ded (L2 ++ [x]) (X ++ [x]) := by
  refine ⟨?_, fun r => by simp only [List.mem_append, List.mem_singleton]; rw [h.mem r]⟩
  rw [List.pairwise_append]
  refine ⟨h.dis, List.pairwise_singleton _ _, fun a ha b hb => ?_⟩
  rw [List.mem_singleton] at hb
  rw [hb]; exact hno a ha
theorem Ded.again {L2 X : List Rd} {x : Rd} (h : Ded L2 X) (hx : x ∈ L2) : Ded L2 (X ++ [x]) := by
  refine ⟨h.dis, fun r => ?_⟩
  rw [h.mem r, List.mem_append, List.mem_singleton]
  constructor
  · exact .inl
  · rintro (h1 | h1)
    · exact h1
    · rw [h1]; exact (h.mem x).1 hx
def SortedPost (m : Mtr) (X : List Rd) (w : World) (e : Ending) (w' : World) : Prop :=
  ∃ (v : Value) (r : Int), e = .returned (.tuple #[v, .int .i64 r]) ∧ w.grownBy w' none ∧ (r = 0 → MtrOk m ∧ (∀ x ∈ X, RdOk m x) ∧ ∃ L, Rds w' w.heap.size v L ∧ Asc (rdsG L) X)
set_option maxRecDepth 100000 in
set_option maxHeartbeats 8000000 in
theorem sortedReadings_any (m : Mtr) (L : List RdG) (a : Option Addr) (c : Nat) (w : World) (hb : -1000000000 ≤ m.turn ∧ m.turn ≤ 1000000000) (hc : RdsC w a L) (hl : L.length ≤ 12) (hv : ∀ g ∈ L, g.rd.vs.length ≤ 100000) :
    Calls Try.prog 11 #[mtrV m, .slice a L.length c] w (SortedPost m (rdsG L) w) := by
  have MF := Lib.hid (fun W => meterFault_any m W hb)
  have RF := Lib.hid (fun (hok : MtrOk m) (x : RdG) (W : World) (h : CellsAt W x.a (ints x.rd.vs)) (hl : x.rd.vs.length ≤ 1000000) => readingFault_any m x.rd x.a x.c W hok h hl)
  have HV := Lib.hid hv
  obtain ⟨mc, mt, mf⟩ := m
  unfold mtrV at MF RF ⊢
  dsimp only at MF RF ⊢
  have hP := heap_alloc_new w (.cells #[.int .i64 mc, .int .i64 mt, .int .i64 mf] 34)
  have g1 := gr_alloc (gr_refl w none) (.cells #[.int .i64 mc, .int .i64 mt, .int .i64 mf] 34)
  obtain ⟨w1, hw1⟩ : ∃ w1, w1 = w.alloc (.cells #[.int .i64 mc, .int .i64 mt, .int .i64 mf] 34) := ⟨_, rfl⟩
  rw [← hw1] at hP g1
  have HW := Lib.hid hw1
  have HP := Lib.hid hP
  have HG := Lib.hid g1
  have HC := Lib.hid (hc.keep0 g1)
  have hz1 := g1.size
  obtain ⟨q0, q1, q2, -⟩ := blk3M hP
  clear hw1 hP g1 hc hv hb
  go_enter Try.func11, Try.ntmps11
  go_wp2_with (fail)
  rw [← HW.out]
  go_wp2_with (fail)
  refine (MF.out w1).mono ?_
  rintro e w2 ⟨r, rfl, hr, g2⟩
  have HP2 := Lib.hid ((g2.block _ (lt_of_block HP.out) (by simp)).trans HP.out)
  have HG2 := Lib.hid (gr_trans HG.out g2)
  have HC2 := Lib.hid (HC.out.keep0 g2)
  have HR := Lib.hid hr
  have hz2 := g2.size
  clear g2 q0 q1 q2 hr HP HG HC
  by_cases hr0 : r = 0
  case neg =>
    have hrb : (r != 0) = true := by simpa using hr0
    have HN := Lib.hid hr0
    clear hr0
    go_wp2_with (fail)
    go_ret2
    exact ⟨_, r, rfl, HG2.out, fun h => absurd h HN.out⟩
  have HOK : Hid (MtrOk ⟨mc, mt, mf⟩) := by
    show MtrOk _
    rcases HR.out with ⟨_, h⟩ | ⟨h, _⟩
    · exact h
    · omega
  subst hr0
  have RF := Lib.hid (RF.out HOK.out)
  clear HR MF
  have hl2 : ¬ (2000 : Int) < (L.length : Int) := by omega
  go_wp2_with (fail)
  go_loopw [24] (fun i wr => ∃ k : Nat, k ≤ L.length ∧ i = .int .i64 k ∧ Hid (∀ j (h : j < L.length), j < k → RdOk ⟨mc, mt, mf⟩ L[j].rd) ∧ w2.grownBy wr none) (fun i _ => L.length - (intOf i).toNat)
  case atStart => exact ⟨0, Nat.zero_le _, rfl, fun j _ hj => absurd hj (Nat.not_lt_zero _), gr_refl _ _⟩
  case round =>
    obtain ⟨k, hk, rfl, HOKS, hgr⟩ := hrel
    obtain ⟨wo, rfl⟩ : ∃ wo : World, wo = wr := ⟨_, rfl⟩
    by_cases hlt : k < L.length
    · obtain ⟨b, off, rfl, c0, c1, cv⟩ := (HC2.out.keep0 hgr).at hlt
      have hvl := HV.out _ (List.getElem_mem hlt)
      have HNX : Hid (RdOk ⟨mc, mt, mf⟩ L[k].rd → ∀ j (h : j < L.length), j < k + 1 → RdOk ⟨mc, mt, mf⟩ L[j].rd) := by
        show _ → _
        intro h j hj hjk
        by_cases e : j = k
        · subst e; exact h
        · exact HOKS.out j hj (by omega)
      obtain ⟨x, hx⟩ : ∃ x, x = L[k] := ⟨_, rfl⟩
      rw [← hx] at c0 c1 cv hvl HNX
      clear hx
      have ga := gr_alloc (gr_refl wo none) (.cells #[.int .i64 x.rd.at_, .slice x.a x.rd.vs.length x.c] 56)
      obtain ⟨p0, p1, p2, -⟩ := blk3M ((hgr.block _ (lt_of_block HP2.out) (by simp)).trans HP2.out)
      have e0 := held_cell (gr_refl (wo.alloc (.cells #[.int .i64 x.rd.at_, .slice x.a x.rd.vs.length x.c] 56)) none) p0
      have e1 := held_cell (gr_refl (wo.alloc (.cells #[.int .i64 x.rd.at_, .slice x.a x.rd.vs.length x.c] 56)) none) p1
      have e2 := held_cell (gr_refl (wo.alloc (.cells #[.int .i64 x.rd.at_, .slice x.a x.rd.vs.length x.c] 56)) none) p2
      have RFx := Lib.hid (RF.out x (wo.alloc (.cells #[.int .i64 x.rd.at_, .slice x.a x.rd.vs.length x.c] 56)) (cv.keep0 ga) (by omega))
      have HGA := Lib.hid (gr_trans hgr ga)
      clear cv ga hgr p0 p1 p2
      go_wp2_with (fail)
      refine RFx.out.mono ?_
      rintro e w4 ⟨r, rfl, hr, g4⟩
      have HG4 := Lib.hid (gr_trans HGA.out g4)
      by_cases hr0 : r = 0
      · have HN := Lib.hid (HNX.out (hr hr0))
        subst hr0
        clear hr g4
        go_wp2_with (fail)
        go_roundw
        case rel => exact ⟨k + 1, by omega, by go_num, HN, HG4.out⟩
        case measure => simp [intOf]; omega
      · have hrb : (r != 0) = true := by simpa using hr0
        have HN := Lib.hid hr0
        clear hr0 hr g4
        go_wp2_with (fail)
        go_ret2
        exact ⟨_, r, rfl, gr_trans HG2.out HG4.out, fun h => absurd h HN.out⟩
    · obtain rfl : k = L.length := by omega
      have HALL : Hid (∀ x ∈ rdsG L, RdOk ⟨mc, mt, mf⟩ x) := by
        show ∀ x ∈ rdsG L, _
        intro x hx
        simp only [rdsG, List.mem_map] at hx
        obtain ⟨g, hg, rfl⟩ := hx
        obtain ⟨j, hj, rfl⟩ := List.mem_iff_getElem.1 hg
        exact HOKS.out j hj hj
      obtain ⟨w3, rfl⟩ : ∃ w3 : World, w3 = wo := ⟨_, rfl⟩
      have HG3 := Lib.hid (gr_trans HG2.out hgr)
      have HC3 := Lib.hid (HC2.out.keep0 hgr)
      have hz3 := HG3.out.size
      clear HOKS hgr RF
      go_wp2_with (fail)
      go_loopw [10, 37] (fun v i wr => ∃ (k : Nat) (L2 : List RdG) (gv : Value), gv = v ∧ k ≤ L.length ∧ i = .int .i64 k ∧ Rds wr w3.heap.size gv L2 ∧ Hid (Ded (rdsG L2) (rdsG (L.take k))) ∧ L2.length ≤ k ∧ w3.grownBy wr none) (fun _ i _ => L.length - (intOf i).toNat)
      case atStart => exact ⟨0, [], _, rfl, Nat.zero_le _, rfl, Rds.nil _ _, ⟨List.Pairwise.nil, fun _ => Iff.rfl⟩, Nat.zero_le _, gr_refl _ _⟩
      case round =>
        obtain ⟨k, L2, v, rfl, hk, rfl, hrd, HDED, hl2k, hgr⟩ := hrel
        obtain ⟨wi, rfl⟩ : ∃ wi : World, wi = wr := ⟨_, rfl⟩
        obtain ⟨va, vc, rfl, -, -⟩ := hrd.shape
        have HRD := Lib.hid hrd
        clear hrd
        by_cases hlt : k < L.length
        · obtain ⟨b, off, rfl, c0, c1, cv⟩ := (HC3.out.keep0 hgr).at hlt
          have hvl := HV.out _ (List.getElem_mem hlt)
          have HNIL := Lib.hid (HC3.out.nil _ (List.getElem_mem hlt))
          have HTK : Hid (rdsG (L.take (k + 1)) = rdsG (L.take k) ++ [L[k].rd]) := by
            show _ = _
            have e : L.take (k + 1) = L.take k ++ [L[k]] := by simp
            rw [e, rdsG_app]
          obtain ⟨x, hx⟩ : ∃ x, x = L[k] := ⟨_, rfl⟩
          rw [← hx] at c0 c1 cv hvl HTK HNIL
          clear hx
          have ga := gr_alloc (gr_refl wi none) (.cells #[.int .i64 x.rd.at_, .slice x.a x.rd.vs.length x.c] 56)
          have hV := heap_alloc_new wi (.cells #[.int .i64 x.rd.at_, .slice x.a x.rd.vs.length x.c] 56)
          obtain ⟨w5, hw5⟩ : ∃ w5, w5 = wi.alloc (.cells #[.int .i64 x.rd.at_, .slice x.a x.rd.vs.length x.c] 56) := ⟨_, rfl⟩
          obtain ⟨V, hVe⟩ : ∃ V, V = wi.heap.size := ⟨_, rfl⟩
          rw [← hw5] at ga hV
          rw [← hVe] at hV
          have hr5 := HRD.out.keep0 ga
          have hcv5 := cv.keep0 ga
          obtain ⟨a2, cc2, ev, -, -, hcells, -⟩ := own_shape hr5.row
          cases ev
          have IX : Hid (Calls Try.prog 29 #[.slice va L2.length vc, Value.func (.func 30) #[] #[.pointer (some ⟨V, 0, none⟩)]] w5 fun e w' => e = .returned (.int .i64 (findA (fun y : RdC => y.at_ == x.rd.at_) (L2.map RdG.cell))) ∧ w5.grownBy w' none) := by
            have h := indexFunc_Rd 30 V (fun y => y.at_ == x.rd.at_) (L2.map RdG.cell) va vc w5 hcells (by simp; omega) sr1_fn (fun y _ W g => sr1_any y x.rd.at_ V W ((gr_cell g (lt_of_block hV)).trans (blkC hV 0 rfl)))
            rw [List.length_map] at h
            exact h
          have HR5 := Lib.hid hr5
          have HV5 := Lib.hid hV
          have HCV := Lib.hid hcv5
          have HG5 := Lib.hid (gr_trans hgr ga)
          have HW5 := Lib.hid hw5
          have HVE := Lib.hid hVe
          have hzV := lt_of_block hV
          have SP := findA_spec (fun y : RdC => y.at_ == x.rd.at_) (L2.map RdG.cell)
          obtain ⟨z, hz⟩ : ∃ z, z = findA (fun y : RdC => y.at_ == x.rd.at_) (L2.map RdG.cell) := ⟨_, rfl⟩
          rw [← hz] at IX SP
          clear cv ga hV hw5 hVe hr5 hcv5 hcells hz hgr
          rcases SP with ⟨hz0, hno⟩ | ⟨q, hq, hz0, hP⟩
          · have HNO : Hid (∀ y ∈ rdsG L2, y.at_ ≠ x.rd.at_) := by
              show ∀ y ∈ rdsG L2, _
              intro y hy
              simp only [rdsG, List.mem_map] at hy
              obtain ⟨g, hg, rfl⟩ := hy
              have := hno g.cell (List.mem_map_of_mem hg)
              simpa [RdG.cell] using this
            clear hno
            go_wp2_with (fail)
            rw [← HW5.out, ← HVE.out]
            refine IX.out.mono ?_
            rintro e w6 ⟨rfl, g6⟩
            have hV6 := (g6.block _ (lt_of_block HV5.out) (by simp)).trans HV5.out
            obtain ⟨d0, d1⟩ : w6.cell? ⟨V, 0, none⟩ = some (.int .i64 x.rd.at_) ∧ w6.cell? ⟨V, 1, none⟩ = some (.slice x.a x.rd.vs.length x.c) := ⟨blkC hV6 0 rfl, blkC hV6 1 rfl⟩
            have CL := Lib.hid (cloneInt_any x.a x.rd.vs.length x.c (ints x.rd.vs) w6.drew (by rw [ints_length]; omega) ((HCV.out.keep0 g6).keep0 (gr_drew (gr_refl _ _))) HNIL.out (ints_one _) (by omega))
            have HR6 := Lib.hid (HR5.out.keep0 g6)
            have HG6 := Lib.hid (gr_trans HG5.out g6)
            have hVl := lt_of_block hV6
            have hz6 := HG6.out.size
            have hgd := gr_drew (gr_refl w6 none)
            clear g6 hV6 IX
            go_wp2_with (fail)
            go_region_law (first
              | (refine step_app1 eRd rfl _ _ rfl w3.heap.size _ L2.length (cellsG L2) rfl w7 #[.int .i64 x.rd.at_, .slice xa x.rd.vs.length xc] rfl HR7.out.row _ rfl rfl rfl rfl ?_ ?_ ?_; (· omega); (· omega); intro v8 w8 hown8 hg8 hlt8 hk8)
              | (go_simp; go_at_call 26; (with_reducible refine CL.out.mono ?_); rintro e w7 ⟨v7, rfl, ho7, g7'⟩; obtain ⟨xa, xc, rfl, -, -, -, -⟩ := own_shape ho7; have g7 := gr_trans hgd g7'; have HR7 := Lib.hid (HR6.out.keep0 g7); have HO7 := Lib.hid ho7; have e0 := (gr_cell g7 hVl).trans d0; have e1 := (gr_cell g7 hVl).trans d1; have hz7 := g7.size)
              | fail)
            all_goals (go_wp2_with (fail))
            all_goals go_roundw
            all_goals first
              | (simp [intOf]; omega)
              | (have hx7 := own_base HO7.out (show w3.heap.size ≤ w6.drew.heap.size by show w3.heap.size ≤ w6.heap.size; omega)
                 refine ⟨k + 1, L2 ++ [⟨x.rd, xa, xc⟩], _, rfl, by omega, by go_num, HR7.out.push (x := ⟨x.rd, xa, xc⟩) hx7 hown8 hg8, ?_, by rw [List.length_append]; simp; omega, gr_grown (gr_trans HG6.out g7) hg8 (fun q hq => (HR7.out.row.lt q hq).1)⟩
                 show Ded _ _
                 rw [HTK.out, rdsG_app]
                 exact HDED.out.add HNO.out)
          · have hq2 : q < L2.length := by simpa using hq
            have hat : L2[q].rd.at_ = x.rd.at_ := by simpa [RdG.cell] using hP
            subst hz0
            have hqn : ¬ (q : Int) < 0 := by omega
            clear hP
            go_wp2_with (fail)
            rw [← HW5.out, ← HVE.out]
            refine IX.out.mono ?_
            rintro e w6 ⟨rfl, g6⟩
            have hV6 := (g6.block _ (lt_of_block HV5.out) (by simp)).trans HV5.out
            have d1 : w6.cell? ⟨V, 1, none⟩ = some (.slice x.a x.rd.vs.length x.c) := blkC hV6 1 rfl
            have HR6 := Lib.hid (HR5.out.keep0 g6)
            have HG6 := Lib.hid (gr_trans HG5.out g6)
            have HCV6 := Lib.hid (HCV.out.keep0 g6)
            obtain ⟨g, gc, ev, hgB, -, -, e1⟩ := HR6.out.at hq2
            cases ev
            have HMEM : Hid (L2[q] ∈ L2) := List.getElem_mem hq2
            obtain ⟨y, hy⟩ : ∃ y, y = L2[q] := ⟨_, rfl⟩
            rw [← hy] at e1 HMEM hat
            have HAT := Lib.hid hat
            obtain ⟨ya, yc, ev, -, -, hcy, -⟩ := own_shape (HR6.out.vals y HMEM.out)
            cases ev
            have EQ := Lib.hid (fun (W : World) (g : w6.grownBy W none) => equalD_int y.rd.vs x.rd.vs y.a x.a y.c x.c W (hcy.keep0 g) (HCV6.out.keep0 g) (by omega))
            obtain ⟨bb, hbb⟩ : ∃ bb, bb = decide (y.rd.vs = x.rd.vs) := ⟨_, rfl⟩
            rw [← hbb] at EQ
            have HBB := Lib.hid hbb
            have x0 := grew_cell d1
            have x1 := grew_cell e1
            have hq3 : (q : Int) < (L2.length : Int) := by omega
            have hq4 : (0 : Int) ≤ (q : Int) := by omega
            clear g6 hV6 IX hy hcy hbb hat d1 e1
            cases bb with
            | true =>
              go_wp2_with (fail)
              refine wp_region_grew (by kernel_rfl) (by kernel_rfl) ?_
              repeat (go_big_quiet_step (first | (go_at_call 31; exact Calls.grew_of (fun W g => EQ.out W g))))
              refine wpQuiet_nil ?_
              rintro wq ⟨nn, rfl⟩
              have gq := nn.gr
              go_wp2_with (fail)
              go_roundw
              case rel =>
                refine ⟨k + 1, L2, _, rfl, by omega, by go_num, HR6.out.keep0 gq, ?_, by omega, gr_trans HG6.out gq⟩
                show Ded _ _
                rw [HTK.out]
                refine HDED.out.again ?_
                have e : x.rd = y.rd := rd_ext HAT.out.symm (of_decide_eq_true HBB.out.symm).symm
                rw [e]
                exact List.mem_map_of_mem HMEM.out
              case measure => simp [intOf]; omega
            | false =>
              go_wp2_with (fail)
              refine wp_region_grew (by kernel_rfl) (by kernel_rfl) ?_
              repeat (go_big_quiet_step (first | (go_at_call 31; exact Calls.grew_of (fun W g => EQ.out W g))))
              refine wpQuiet_nil ?_
              rintro wq ⟨nn, rfl⟩
              have gq := nn.gr
              go_wp2_with (fail)
              go_ret2
              exact ⟨_, 13, rfl, gr_trans HG3.out (gr_trans HG6.out gq), fun h => by (cases h)⟩
        · obtain rfl : k = L.length := by omega
          have HTK : Hid (rdsG (L.take L.length) = rdsG L) := by show _ = _; rw [List.take_length]
          have HROW : Hid (wi.ownsRow w3.heap.size 56 2 (.slice va L2.length vc) L2.length (flat encC (L2.map RdG.cell))) := HRD.out.row
          have SF := Lib.hid (sortFRd_few 33 L2.length cmR (.slice va L2.length vc) w3.heap.size (L2.map RdG.cell) wi HROW.out (by simp) (by omega) sr2_fn cmR_ok (fun x y W _ _ _ => sr2_any x y W))
          have HGR := Lib.hid hgr
          clear hgr
          go_wp2_with (fail)
          refine SF.out.mono ?_
          rintro e w7 ⟨O, rfl, ho, hp, hs, g7⟩
          obtain ⟨L', h1, h2, h3⟩ := HRD.out.sorted g7 hp ho
          rw [← h2, ← h1.length_eq] at hs
          have h4 := asc_of_sorted h1 hs HDED.out.dis
          have hg := gr_grown HGR.out g7 (fun q hq => (HRD.out.row.lt q hq).1)
          have HA : Hid (Asc (rdsG L') (rdsG L)) := ⟨h4, fun r => by
            rw [← HTK.out, ← HDED.out.mem r]
            exact (h1.map RdG.rd).mem_iff⟩
          have H3 := Lib.hid (h3.base hz3)
          have HGF := Lib.hid (gr_trans HG3.out hg)
          clear ho hp hs g7 h1 h2 h3 h4 hg SF
          go_wp2_with (fail)
          go_ret2
          exact ⟨_, 0, rfl, HGF.out, fun _ => ⟨HOK.out, HALL.out, L', H3.out, HA.out⟩⟩
end Go.Proofs.Ytjhfglhoiplfmaa

/-! The minutes of a step in each of its days: no program in sight. -/
namespace Go.Proofs.Ytjhfglhoiplfmaa
open Go.RowKit

def dayW (f t d : Int) : Int := max 0 (min t ((d + 1) * 1440) - max f (d * 1440))
def dayWs (f t : Int) (k : Nat) : List Int := (List.range k).map fun (i : Nat) => dayW f t (f / 1440 + (i : Int))
theorem dayWs_next (f t : Int) (k : Nat) : dayWs f t (k + 1) = dayWs f t k ++ [dayW f t (f / 1440 + (k : Int))] := by simp [dayWs, List.range_succ]
theorem dayWs_len (f t : Int) (k : Nat) : (dayWs f t k).length = k := by simp [dayWs]
theorem dayW_in (f t d : Int) : 0 ≤ dayW f t d ∧ dayW f t d ≤ 1440 := by unfold dayW; omega
theorem dayWs_in (f t : Int) (k : Nat) : ∀ x ∈ dayWs f t k, 0 ≤ x ∧ x ≤ 1440 := by
  intro x hx
  simp only [dayWs, List.mem_map, List.mem_range] at hx
  obtain ⟨i, hi, rfl⟩ := hx
  exact dayW_in _ _ _
theorem dayWs_part (f t : Int) (h1 : f ≤ t) (k : Nat) : (dayWs f t k).sum = max 0 (min t ((f / 1440 + (k : Int)) * 1440) - f) := by
  induction k with
  | zero => simp [dayWs]; omega
  | succ k ih =>
    rw [dayWs_next, sumI_app, ih]
    simp only [List.sum_cons, List.sum_nil, dayW]
    push_cast
    omega
/-- How many days a step has. -/
def dayN (f t : Int) : Nat := (t / 1440 - f / 1440 + 1).toNat
theorem dayWs_sum (f t : Int) (h1 : f ≤ t) : (dayWs f t (dayN f t)).sum = t - f := by
  rw [dayWs_part f t h1]
  unfold dayN
  omega
theorem dayN_le (f t : Int) (h0 : 0 ≤ f) (h1 : f ≤ t) (h2 : t ≤ 14400000) : 1 ≤ dayN f t ∧ dayN f t ≤ 10001 := by
  unfold dayN
  omega
end Go.Proofs.Ytjhfglhoiplfmaa
