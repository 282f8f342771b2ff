/- Package slices at ints: stable sorting of many. Only this is said: the row is a permutation. -/
import Derived.Test.YtehhmgbgkemidaaGreatDoorPkSAt
namespace Go.Proofs.YtehhmgbgkemidaaGreatDoor
open Go.RowKit

set_option maxRecDepth 100000 in
set_option maxHeartbeats 4000000 in
theorem stableW_any (F : FuncId) (q0 q1 q2 : Nat) (cm : Int → Int → Int) (base g n c : Nat) (L : List Int) (w : World) (hown : w.ownsRow base 3 1 (.slice (some ⟨g, 0, none⟩) n c) n (ints L)) (hn : n ≤ 100000)
    (hE : ∀ (args : Array Value) (w : World), (callFunc F args).run Tryz.prog w = .ok (.enter F args) w) (hF : CmpC3 F q0 q1 q2 cm L (some g) w) :
    Calls Tryz.prog 203 #[.slice (some ⟨g, 0, none⟩) n c, .int .i64 n, .func (.func F) #[] #[.pointer (some ⟨q0, 0, none⟩), .pointer (some ⟨q1, 0, none⟩), .pointer (some ⟨q2, 0, none⟩)]] w (PRPost w base g n c L) := by
  have HF := Lib.hid hF
  have H0 := Lib.hid (PR.refl hown)
  clear hF hown
  go_enter Tryz.func203, Tryz.ntmps203
  go_wp2_with (fail)
  go_loopw [7, 8] (fun i j wr => ∃ (p : Nat) (O : List Int), p ≤ n ∧ i = .int .i64 p ∧ j = .int .i64 (p + 20 : Nat) ∧ PR w wr base g n c L O) (fun i _ _ => n + 1 - (intOf i).toNat)
  case atStart => exact ⟨0, L, by omega, rfl, rfl, H0.out⟩
  case round =>
    obtain ⟨p, O, hp, rfl, rfl, hP⟩ := hrel
    obtain ⟨wo, rfl⟩ : ∃ wo : World, wo = wr := ⟨_, rfl⟩
    have HP := Lib.hid hP
    clear hP
    by_cases hpn : p + 20 ≤ n
    · have IN := Lib.hid (insertionW_any F q0 q1 q2 cm base g n c p (p + 20) O wo HP.out.own hn (by omega) hpn hE (HF.out.later HP.out.perm HP.out.gr))
      have hle : ((p + 20 : Nat) : Int) ≤ (n : Int) := by omega
      go_wp2_with (fail)
      refine IN.out.mono ?_
      rintro e w2 ⟨O2, rfl, h2⟩
      have H2 := Lib.hid (HP.out.trans h2)
      clear h2
      go_wp2_with (fail)
      go_roundw
      case rel => exact ⟨p + 20, O2, hpn, by go_num, by go_num, H2.out⟩
      case measure => simp [intOf]; omega
    · have IN := Lib.hid (insertionW_any F q0 q1 q2 cm base g n c p n O wo HP.out.own hn hp (Nat.le_refl _) hE (HF.out.later HP.out.perm HP.out.gr))
      have hle : ¬ ((p + 20 : Nat) : Int) ≤ (n : Int) := by omega
      go_wp2_with (fail)
      refine IN.out.mono ?_
      rintro e w2 ⟨O2, rfl, h2⟩
      have H2 := Lib.hid (HP.out.trans h2)
      clear h2 IN HP
      go_wp2_with (fail)
      go_loopw [6, 7, 8, 9] (fun i _ _ _ wr => ∃ (s : Nat) (O : List Int), 20 ≤ s ∧ s ≤ 400000 ∧ i = .int .i64 s ∧ PR w wr base g n c L O) (fun i _ _ _ _ => 400001 - (intOf i).toNat)
      case atStart => exact ⟨20, O2, by omega, by omega, rfl, H2.out⟩
      case round =>
        clear H2
        obtain ⟨s, O3, hs1, hs2, rfl, hP3⟩ := hrel
        obtain ⟨w3, rfl⟩ : ∃ w3 : World, w3 = wr := ⟨_, rfl⟩
        have H3 := Lib.hid hP3
        clear hP3
        by_cases hsn : s < n
        · obtain ⟨D, hD⟩ : ∃ D, D = 2 * s := ⟨_, rfl⟩
          have hs3 : (2 : Int) * (s : Int) = (D : Int) := by omega
          have hs4 : (s : Int) * (2 : Int) = (D : Int) := by omega
          have hD2 : s + s = D := by omega
          have HD := Lib.hid hD
          clear hD
          go_wp2_with (fail)
          go_loopw [7, 8] (fun i j wr => ∃ (p T : Nat) (O : List Int), p ≤ n ∧ T = p + D ∧ i = .int .i64 p ∧ j = .int .i64 T ∧ PR w wr base g n c L O) (fun i _ _ => n + 1 - (intOf i).toNat)
          case atStart => exact ⟨0, D, O3, by omega, by omega, rfl, rfl, H3.out⟩
          case round =>
            clear H3
            obtain ⟨p, T, O4, hp, hT, rfl, rfl, hP4⟩ := hrel
            obtain ⟨w4, rfl⟩ : ∃ w4 : World, w4 = wr := ⟨_, rfl⟩
            have H4 := Lib.hid hP4
            clear hP4
            obtain ⟨M, hM⟩ : ∃ M, M = p + s := ⟨_, rfl⟩
            have hs5 : (p : Int) + (s : Int) = (M : Int) := by omega
            have hM1 : p < M := by omega
            have hM2 : M < T := by omega
            have hT2 : T - p ≤ D := by omega
            have hT4 : p < T := by omega
            obtain ⟨U, hU⟩ : ∃ U, U = T + D := ⟨_, rfl⟩
            have hTD : (T : Int) + (D : Int) = (U : Int) := by omega
            have HU := Lib.hid hU
            clear hU hT hM
            by_cases hpn : T ≤ n
            · have SM := Lib.hid (symMerge_any F q0 q1 q2 cm base g n c hn hE D p M T O4 w4 hT2 H4.out.own hM1 hM2 hpn (HF.out.later H4.out.perm H4.out.gr))
              have hle : (T : Int) ≤ (n : Int) := by omega
              go_wp2_with (fail)
              refine SM.out.mono ?_
              rintro e w5 ⟨O5, rfl, h5⟩
              have H5 := Lib.hid (H4.out.trans h5)
              clear h5
              go_wp2_with (fail)
              go_roundw
              case rel => exact ⟨T, U, O5, hpn, HU.out, rfl, rfl, H5.out⟩
              case measure => simp [intOf]; omega
            · have hle : ¬ (T : Int) ≤ (n : Int) := by omega
              by_cases hps : M < n
              · have SM := Lib.hid (symMerge_any F q0 q1 q2 cm base g n c hn hE n p M n O4 w4 (by omega) H4.out.own hM1 hps (Nat.le_refl _) (HF.out.later H4.out.perm H4.out.gr))
                have hlt : (M : Int) < (n : Int) := by omega
                go_wp2_with (fail)
                refine SM.out.mono ?_
                rintro e w5 ⟨O5, rfl, h5⟩
                have H5 := Lib.hid (H4.out.trans h5)
                clear h5
                go_wp2_with (fail)
                go_roundw
                case rel => exact ⟨D, O5, by omega, by omega, rfl, H5.out⟩
                case measure => simp [intOf]; omega
              · have hlt : ¬ (M : Int) < (n : Int) := by omega
                go_wp2_with (fail)
                go_roundw
                case rel => exact ⟨D, O4, by omega, by omega, rfl, H4.out⟩
                case measure => simp [intOf]; omega
        · go_wp2_with (fail)
          go_end0
          exact ⟨O3, rfl, H3.out⟩
set_option maxRecDepth 100000 in
theorem sortW_any (F : FuncId) (q0 q1 q2 : Nat) (cm : Int → Int → Int) (base g n c : Nat) (L : List Int) (w : World) (hown : w.ownsRow base 3 1 (.slice (some ⟨g, 0, none⟩) n c) n (ints L)) (hn : n ≤ 100000)
    (hE : ∀ (args : Array Value) (w : World), (callFunc F args).run Tryz.prog w = .ok (.enter F args) w) (hF : CmpC3 F q0 q1 q2 cm L (some g) w) :
    Calls Tryz.prog 158 #[.slice (some ⟨g, 0, none⟩) n c, .func (.func F) #[] #[.pointer (some ⟨q0, 0, none⟩), .pointer (some ⟨q1, 0, none⟩), .pointer (some ⟨q2, 0, none⟩)]] w (PRPost w base g n c L) := by
  have IS := Lib.hid (stableW_any F q0 q1 q2 cm base g n c L w hown hn hE hF)
  clear hF hE hown
  go_enter Tryz.func158, Tryz.ntmps158
  go_wp2_with (fail)
  refine IS.out.mono ?_
  rintro e w2 ⟨O2, rfl, h1⟩
  have H1 := Lib.hid h1
  clear h1
  go_wp2_with (fail)
  go_end0
  exact ⟨O2, rfl, H1.out⟩
end Go.Proofs.YtehhmgbgkemidaaGreatDoor

/-! A total divided among many weights: only the sum, and that no part is negative. -/
namespace Go.Proofs.YtehhmgbgkemidaaGreatDoor
open Go.RowKit
attribute [local go_sem ↓] Go.wp_at_zero Go.wp_at_succ

structure ShareSum (tot : Int) (ws P : List Int) : Prop where
  len : P.length = ws.length
  all : P.sum = tot
  pos : ∀ j, j < ws.length → 0 ≤ P.getD j 0
def SharePostW (tot : Int) (ws : List Int) (w : World) (e : Ending) (w' : World) : Prop := ∃ v P, e = .returned v ∧ w'.ownsRow w.heap.size 3 1 v ws.length (ints P) ∧ ShareSum tot ws P ∧ w.grownBy w' none
set_option maxRecDepth 100000 in
set_option maxHeartbeats 4000000 in
theorem sharedW_any (tot sum : Int) (ws : List Int) (a : Option Addr) (c : Nat) (w : World) (hc : CellsAt w a (ints ws)) (hn : ws.length ≤ 10000)
    (ht0 : 0 ≤ tot) (ht1 : tot ≤ 1000000000) (hs0 : 0 < sum) (hw : ∀ x ∈ ws, 0 ≤ x ∧ x ≤ 1000000) (hsum : ws.sum = sum) :
    Calls Tryz.prog 117 #[.int .i64 tot, .slice a ws.length c, .int .i64 sum] w (SharePostW tot ws w) := by
  have hs1 : sum ≤ 1000000 * ws.length := by rw [← hsum]; exact (sum_bd 1000000 ws hw).2
  have hLF := share_left tot sum ht0 hs0 ws (fun x hx => (hw x hx).1) hsum
  obtain ⟨hA, hB, hC⟩ := heap_3 w (.cells #[.int .i64 tot] 3) (.cells #[.slice a ws.length c] 22) (.cells #[.int .i64 sum] 3)
  have hg := gr_alloc (gr_alloc (gr_alloc (gr_refl w none) (.cells #[.int .i64 tot] 3)) (.cells #[.slice a ws.length c] 22)) (.cells #[.int .i64 sum] 3)
  obtain ⟨w1, hw1⟩ : ∃ w1, w1 = ((w.alloc (.cells #[.int .i64 tot] 3)).alloc (.cells #[.slice a ws.length c] 22)).alloc (.cells #[.int .i64 sum] 3) := ⟨_, rfl⟩
  rw [← hw1] at hA hB hC hg
  have hz1 : w.heap.size + 2 < w1.heap.size := lt_of_block hC
  obtain ⟨B, hBe⟩ : ∃ B, B = w.heap.size := ⟨_, rfl⟩
  rw [← hBe] at hA hB hC hz1
  have HC1 := Lib.hid (hc.keep0 hg)
  have HA := Lib.hid hA
  have HB := Lib.hid hB
  have HCc := Lib.hid hC
  have HG1 := Lib.hid hg
  have HW1 := Lib.hid hw1
  have HBE := Lib.hid hBe
  have HWS := Lib.hid hw
  have HLF := Lib.hid hLF
  have HSUM := Lib.hid hsum
  have l0 := blkC HA.out 0 rfl
  have l1 := blkC HB.out 0 rfl
  have l2 := blkC HCc.out 0 rfl
  clear hc hA hB hC hg hw1 hBe hw hsum
  go_enter Tryz.func117, Tryz.ntmps117
  go_upto_region 1 with (fail)
  rw [← HW1.out, ← HBE.out]
  go_upto_region 2 with (at_make; refine wpList_mk _ eInt rfl _ _ rfl w1.heap.size _ ws.length rfl rfl rfl ?_ ?_ ?_; (· omega); (· omega); intro w2 o2 g2; have hz2 := g2.size; have l1 := (gr_cell g2 (lt_of_cell l1)).trans l1; have l0 := (gr_cell g2 (lt_of_cell l0)).trans l0)
  obtain ⟨G1, hG1⟩ : ∃ G, G = w1.heap.size := ⟨_, rfl⟩
  have HG1e := Lib.hid hG1
  rw [← hG1] at o2
  rw [← hG1]
  have HG2 := Lib.hid g2
  have HO2 := Lib.hid o2
  clear hG1 g2 o2
  go_wp2_with (at_make; refine wpList_mk _ eInt rfl _ _ rfl w2.heap.size _ ws.length rfl rfl rfl ?_ ?_ ?_; (· omega); (· omega); intro w3 o3 g3; have hz3 := g3.size; have l1 := (gr_cell g3 (lt_of_cell l1)).trans l1; have l0 := (gr_cell g3 (lt_of_cell l0)).trans l0)
  obtain ⟨G2, hG2⟩ : ∃ G, G = w2.heap.size := ⟨_, rfl⟩
  have HG2e := Lib.hid hG2
  rw [← hG2] at o3
  rw [← hG2]
  have hG12 : G1 < G2 := by rw [hG2]; exact (HO2.out.lt G1 rfl).2
  have HG3 := Lib.hid (gr_trans HG2.out g3)
  have HO3 := Lib.hid o3
  have HP3 := Lib.hid (own_keep0 HO2.out g3)
  have W3 : Hid (ShareW w3 w1 G1 G2 ws.length (List.replicate ws.length 0) (List.replicate ws.length 0)) := ⟨HP3.out, HO3.out, HG3.out⟩
  have hzG : w1.heap.size ≤ G1 := by rw [HG1e.out]; exact Nat.le_refl _
  clear hG2 g3 o3 HO2 l2 hz2 hz3 HP3 HO3 HG3 HG2 HG1e HG2e
  go_wp2_with (fail)
  clear l0 l1
  go_loopw [9, 23] (fun lf i wr => ∃ k : Nat, k ≤ ws.length ∧ i = .int .i64 k ∧ lf = .int .i64 (tot - (quoL tot sum (ws.take k)).sum) ∧ ShareW wr w1 G1 G2 ws.length (quoL tot sum (ws.take k) ++ List.replicate (ws.length - k) 0) (placesL k ++ List.replicate (ws.length - k) 0)) (fun _ i _ => ws.length - (intOf i).toNat)
  case atStart => exact ⟨0, Nat.zero_le _, rfl, by simp [quoL], by simpa [quoL, placesL] using W3.out⟩
  case round =>
    clear W3
    obtain ⟨k, hk, rfl, rfl, hW⟩ := hrel
    obtain ⟨wo, rfl⟩ : ∃ wo : World, wo = wr := ⟨_, rfl⟩
    have hl0 := (gr_cell hW.gr (lt_of_block HA.out)).trans (blkC HA.out 0 rfl)
    have hl1 := (gr_cell hW.gr (lt_of_block HB.out)).trans (blkC HB.out 0 rfl)
    have hl2 := (gr_cell hW.gr (lt_of_block HCc.out)).trans (blkC HCc.out 0 rfl)
    by_cases hlt : k < ws.length
    · obtain ⟨b, off, rfl, d0⟩ := (HC1.out.keep0 hW.gr) k _ (by rw [show (ints ws)[k]? = _ from ints_at ws k hlt])
      rw [getD_eq ws k 0 hlt] at d0
      have hwk := HWS.out _ (List.getElem_mem hlt)
      have hsk : ws[k] ≤ sum := by rw [← HSUM.out]; exact mem_le_sum ws (fun x hx => (HWS.out x hx).1) _ (List.getElem_mem hlt)
      have hq := quo_rem ht0 hs0 hwk.1
      have hqm := quoT_le ht0 hs0 hwk.1 hsk
      have hS := quoL_bd tot sum ws ht0 ht1 hs0 (fun x hx => (HWS.out x hx).1) HSUM.out k
      have hQl : (quoL tot sum (ws.take k)).length = k := by simp [quoL]; omega
      have mu0 : 0 ≤ tot * ws[k] := Int.mul_nonneg ht0 hwk.1
      have mu1 : tot * ws[k] ≤ 1000000000 * 1000000 := Int.mul_le_mul ht1 hwk.2 hwk.1 (by omega)
      have NX : Hid (quoL tot sum (ws.take (k + 1)) = quoL tot sum (ws.take k) ++ [quoT tot sum ws[k]]) := by show _ = _; rw [take_snoc ws k hlt]; unfold quoL; rw [List.map_append]; rfl
      obtain ⟨x, hx⟩ : ∃ x, x = ws[k] := ⟨_, rfl⟩
      rw [← hx] at d0 hwk hsk hq hqm mu0 mu1 NX
      obtain ⟨QL, hQL⟩ : ∃ Q, Q = quoL tot sum (ws.take k) := ⟨_, rfl⟩
      rw [← hQL] at hW hS hQl NX
      rw [← hQL]
      obtain ⟨S, hSe⟩ : ∃ S, S = QL.sum := ⟨_, rfl⟩
      rw [← hSe] at hS
      rw [← hSe]
      obtain ⟨p, hp⟩ : ∃ p, tot * x = p := ⟨_, rfl⟩
      have hqt : p.tdiv sum = quoT tot sum x := by rw [← hp]; rfl
      rw [hp] at mu0 mu1
      have hq0 := hq.2.2.2
      obtain ⟨q, hqe⟩ : ∃ q, q = quoT tot sum x := ⟨_, rfl⟩
      rw [← hqe] at hqm hqt hq0 NX
      have hsz : (sum == 0) = false := beq_eq_false_iff_ne.2 (by omega)
      have o1 := (own_int hW.out k hlt)
      have HQL := Lib.hid hQl
      have HSE := Lib.hid hSe
      have hW2 := hW.setOut hG12 hzG k hlt q
      rw [fill_next QL ws.length k q hQl hlt] at hW2
      have o2 := own_int hW2.ord k hlt
      have o2b := (own_int hW2.out k hlt)
      have hgq : (QL ++ [q] ++ List.replicate (ws.length - (k + 1)) 0).getD k 0 = q := by
        rw [List.getD_eq_getElem?_getD, List.append_assoc, List.getElem?_append_right (by omega), hQl, Nat.sub_self]; rfl
      rw [hgq] at o2b
      have hW3 := hW2.setOrd hG12 hzG k hlt (k : Int)
      rw [fill_next (placesL k) ws.length k (k : Int) (places_len k) hlt, ← places_next] at hW3
      have o3b := (own_int hW3.out k hlt)
      rw [hgq] at o3b
      have e1 := o1.1
      have f1 := o1.2.1
      have e2 := o2.1
      have f2 := o2.2.1
      have e3 := o3b.1
      have HW3 := Lib.hid hW3
      clear hx hQL hSe hW hW2 hW3 o1 o2 o2b o3b hq hqe hgq hQl
      go_wp2_with (fail)
      go_roundw
      case rel =>
        refine ⟨k + 1, by omega, by go_num, congrArg (Value.int .i64) ?_, by rw [NX.out]; exact HW3.out⟩
        rw [NX.out, sumI_app, ← HSE.out]
        simp
        omega
      case measure => simp [intOf]; omega
    · obtain rfl : k = ws.length := by omega
      rw [List.take_length, Nat.sub_self, List.replicate_zero, List.append_nil, List.append_nil] at hW
      rw [List.take_length]
      obtain ⟨hm0, hm1⟩ := HLF.out
      obtain ⟨QL, hQL⟩ : ∃ Q, Q = quoL tot sum ws := ⟨_, rfl⟩
      rw [← hQL] at hW hm0 hm1
      rw [← hQL]
      have hQl : QL.length = ws.length := by rw [hQL]; simp [quoL]
      obtain ⟨m, hm⟩ : ∃ m : Nat, tot - QL.sum = (m : Int) := ⟨(tot - QL.sum).toNat, by omega⟩
      rw [hm]
      have hQe : ∀ j, j < ws.length → 0 ≤ QL.getD j 0 ∧ QL.getD j 0 ≤ 1000000000 := fun j hj => by
        have hj2 : j < QL.length := by omega
        rw [getD_eq QL j 0 hj2]
        have : QL[j] ∈ quoL tot sum ws := by rw [← hQL]; exact List.getElem_mem _
        obtain ⟨y, hy, e⟩ := List.mem_map.1 this
        rw [← e]
        have h1 := quo_rem ht0 hs0 (HWS.out y hy).1
        have h2 := quoT_le ht0 hs0 (HWS.out y hy).1 (by rw [← HSUM.out]; exact mem_le_sum ws (fun x hx => (HWS.out x hx).1) y hy)
        omega
      have SF := sortW_any 159 B (B + 1) (B + 2) (shareCm tot sum ws) G2 G2 ws.length ws.length (placesL ws.length) wo hW.ord (by omega) shareCmp_fn (fun x y W hx hy gW => by
        obtain ⟨i, hi, rfl⟩ := places_mem hx
        obtain ⟨j, hj, rfl⟩ := places_mem hy
        have hlow : ∀ b, b < w1.heap.size → some b ≠ some G2 := fun b hb e => by injection e with e; omega
        have hbk : ∀ (b : Nat) (cs : Array Value) (t : TypeId), w1.heap[b]? = some (Obj.cells cs t (0, 0)) → W.heap[b]? = some (Obj.cells cs t (0, 0)) := fun b cs t h => by
          have hb := lt_of_block h
          exact (gW.block b (Nat.lt_of_lt_of_le hb hW.gr.size) (hlow b hb)).trans ((hW.gr.block b hb (by simp)).trans h)
        exact shareCmp_any tot sum ws i j hi hj a c B (B + 1) (B + 2) W (blkC (hbk _ _ _ HA.out) 0 rfl) (blkC (hbk _ _ _ HB.out) 0 rfl) (blkC (hbk _ _ _ HCc.out) 0 rfl) (fun j v hv => by
          obtain ⟨b, off, e, hcell⟩ := HC1.out j v hv
          have hb := lt_of_cell hcell
          exact ⟨b, off, e, (World.cell?_of_block (w := w1) ((gW.block b (Nat.lt_of_lt_of_le hb hW.gr.size) (hlow b hb)).trans (hW.gr.block b hb (by simp)))).trans hcell⟩) ht0 ht1 hs0 (by omega) HWS.out)
      have SF := Lib.hid SF
      have HW := Lib.hid hW
      have HQE := Lib.hid hQe
      have HQL := Lib.hid hQL
      have HQl := Lib.hid hQl
      have HM := Lib.hid hm
      have hmn : m ≤ ws.length := by omega
      clear hW hQe hQL hQl hm hl0 hl1 hl2 hm0 hm1
      go_wp2_with (fail)
      refine SF.out.mono ?_
      rintro e w5 ⟨O, rfl, ⟨o5, hperm, g5⟩⟩
      have g5 : wo.grownBy w5 (some G2) := g5
      have W5 : Hid (ShareW w5 w1 G1 G2 ws.length QL O) := ⟨own_keep HW.out.out g5 (.inr (fun e => by simp [Value.ownBlock] at e; omega)), o5, gr_grown HW.out.gr g5 (fun k hk => by cases hk; omega)⟩
      have HND := Lib.hid (hperm.nodup_iff.2 (places_nodup ws.length))
      have hOl : O.length = ws.length := by rw [hperm.length_eq, places_len]
      have HOM : Hid (∀ t (ht : t < O.length), ∃ i : Nat, i < ws.length ∧ O[t] = (i : Int)) := fun t ht => places_mem (hperm.mem_iff.1 (List.getElem_mem ht))
      have HOl := Lib.hid hOl
      clear g5 o5 hperm HW SF hOl
      go_wp2_with (fail)
      go_loopw [54] (fun i wr => ∃ (t : Nat) (L : List Int), t ≤ m ∧ i = .int .i64 t ∧ Given QL O t L ∧ ShareW wr w1 G1 G2 ws.length L O) (fun i _ => m - (intOf i).toNat)
      case atStart => exact ⟨0, QL, Nat.zero_le _, rfl, Given.start _ _, W5.out⟩
      case round =>
        clear W5
        obtain ⟨t, L, ht, rfl, hG, hW⟩ := hrel
        obtain ⟨wi, rfl⟩ : ∃ wi : World, wi = wr := ⟨_, rfl⟩
        by_cases htm : t < m
        · have htO : t < O.length := by rw [HOl.out]; omega
          obtain ⟨i, hi, hOt⟩ := HOM.out t htO
          have d0 := (own_int hW.ord t (by omega)).1
          rw [getD_eq O t 0 htO, hOt] at d0
          obtain ⟨e1, f1, -⟩ := own_int hW.out i hi
          obtain ⟨hGn, hLq⟩ := hG.next HND.out htO hOt (by rw [HQl.out]; exact hi)
          have hWn := hW.setOut hG12 hzG i hi (L.getD i 0 + 1)
          have hb := HQE.out i hi
          rw [← hLq] at hb
          obtain ⟨y, hy⟩ : ∃ y, y = L.getD i 0 := ⟨_, rfl⟩
          rw [← hy] at e1 hGn hWn hb
          have hii : (i : Int) < (ws.length : Int) := by omega
          have hi0 : (0 : Int) ≤ (i : Int) := by omega
          have HGN := Lib.hid hGn
          have HWN := Lib.hid hWn
          clear hG hW hGn hWn hLq hy hOt
          go_wp2_with (fail)
          go_roundw
          case rel => exact ⟨t + 1, _, by omega, by go_num, HGN.out, HWN.out⟩
          case measure => simp [intOf]; omega
        · obtain rfl : t = m := by omega
          have HG := Lib.hid hG
          have HW := Lib.hid hW
          clear hG hW
          go_wp2_with (fail)
          go_ret
          refine ⟨_, L, rfl, own_base HW.out.out (by have := HG1.out.size; omega), ⟨by rw [HG.out.len, HQl.out], by rw [HG.out.sum]; have := HM.out; omega, fun j hj => ?_⟩, gr_trans HG1.out HW.out.gr⟩
          have h1 := HG.out.at_ j (by rw [HQl.out]; exact hj)
          have h2 := HQE.out j hj
          rw [h1]
          split <;> omega
end Go.Proofs.YtehhmgbgkemidaaGreatDoor

/-! The minutes of a step in each of its days: no program in sight. -/
namespace Go.Proofs.YtehhmgbgkemidaaGreatDoor
open Go.RowKit

def dayW (f t d : Int) : Int := max 0 (min t ((d + 1) * 1440) - max f (d * 1440))
def dayWs (f t : Int) (k : Nat) : List Int := (List.range k).map fun (i : Nat) => dayW f t (f / 1440 + (i : Int))
theorem dayWs_next (f t : Int) (k : Nat) : dayWs f t (k + 1) = dayWs f t k ++ [dayW f t (f / 1440 + (k : Int))] := by simp [dayWs, List.range_succ]
theorem dayWs_len (f t : Int) (k : Nat) : (dayWs f t k).length = k := by simp [dayWs]
theorem dayW_in (f t d : Int) : 0 ≤ dayW f t d ∧ dayW f t d ≤ 1440 := by unfold dayW; omega
theorem dayWs_in (f t : Int) (k : Nat) : ∀ x ∈ dayWs f t k, 0 ≤ x ∧ x ≤ 1440 := by
  intro x hx
  simp only [dayWs, List.mem_map, List.mem_range] at hx
  obtain ⟨i, hi, rfl⟩ := hx
  exact dayW_in _ _ _
theorem dayWs_part (f t : Int) (h1 : f ≤ t) (k : Nat) : (dayWs f t k).sum = max 0 (min t ((f / 1440 + (k : Int)) * 1440) - f) := by
  induction k with
  | zero => simp [dayWs]; omega
  | succ k ih =>
    rw [dayWs_next, sumI_app, ih]
    simp only [List.sum_cons, List.sum_nil, dayW]
    push_cast
    omega
/-- How many days a step has. -/
def dayN (f t : Int) : Nat := (t / 1440 - f / 1440 + 1).toNat
theorem dayWs_sum (f t : Int) (h1 : f ≤ t) : (dayWs f t (dayN f t)).sum = t - f := by
  rw [dayWs_part f t h1]
  unfold dayN
  omega
theorem dayN_le (f t : Int) (h0 : 0 ≤ f) (h1 : f ≤ t) (h2 : t ≤ 14400000) : 1 ≤ dayN f t ∧ dayN f t ≤ 10001 := by
  unfold dayN
  omega
end Go.Proofs.YtehhmgbgkemidaaGreatDoor
