/- till.Shares: what each partner gets, whoever comes first; or what cannot be divided. -/
import Derived.Test.YtoiclngamaadgaaSharesCmp
import Derived.Test.YtoiclngamaadgaaFindNm
import Derived.Test.YtoiclngamaadgaaSortF
import Derived.Test.YtoiclngamaadgaaFairShare
namespace Go.Proofs.Ytoiclngamaadgaa
open Go.RowKit
attribute [local go_sem ↓] Go.wp_at_zero Go.wp_at_succ

theorem flat_takeN {α : Type} {enc : α → List Value} {w : World} {a : Option Addr} {l : List α} (h : CellsAt w a (flat enc l)) (k : Nat) : CellsAt w a (flat enc (l.take k)) := by
  intro j x hx
  refine h j x ?_
  have : flat enc l = flat enc (l.take k) ++ flat enc (l.drop k) := by rw [← flat_append, List.take_append_drop]
  rw [this, List.getElem?_append_left (List.getElem?_eq_some_iff.1 hx).1]
  exact hx
def SharesPost (tot : Int) (p : List Nm) (w : World) (e : Ending) (w' : World) : Prop :=
  w.grownBy w' none ∧ ((¬ FitN p ∧ ∃ r : Int, r ≠ 0 ∧ e = .returned (.tuple #[.slice none 0 0, .int .i64 r])) ∨ (FitN p ∧ ∃ v P, e = .returned (.tuple #[v, .int .i64 0]) ∧ w'.ownsRow w.heap.size 3 1 v p.length (ints P) ∧ SharesOf tot p P))
set_option maxRecDepth 100000 in
set_option maxHeartbeats 4000000 in
theorem shares_any (tot : Int) (p : List Nm) (a : Option Addr) (c : Nat) (w : World) (hc : CellsAt w a (flat encNm p)) (hn : p.length ≤ 12) (hcap : p.length ≤ c) (hks : ∀ x ∈ p, x.key.size ≤ 1000) (ht0 : 0 ≤ tot) (ht1 : tot ≤ 1000000000) :
    Calls Try.prog 9 #[.int .i64 tot, .slice a p.length c] w (SharesPost tot p w) := by
  have hA := heap_alloc_new w (.cells #[.slice a p.length c] 26)
  have hg := gr_alloc (gr_refl w none) (.cells #[.slice a p.length c] 26)
  obtain ⟨w1, hw1⟩ : ∃ w1, w1 = w.alloc (.cells #[.slice a p.length c] 26) := ⟨_, rfl⟩
  rw [← hw1] at hA hg
  have hz1 : w.heap.size < w1.heap.size := lt_of_block hA
  obtain ⟨B, hBe⟩ : ∃ B, B = w.heap.size := ⟨_, rfl⟩
  rw [← hBe] at hA hz1
  have HC1 := Lib.hid (hc.keep0 hg)
  have HA := Lib.hid hA
  have HG1 := Lib.hid hg
  have HW1 := Lib.hid hw1
  have HBE := Lib.hid hBe
  have HKS := Lib.hid hks
  have l0 := blkC HA.out 0 rfl
  have d50 : decide ((50 : Int) < (p.length : Int)) = false := decide_eq_false (by omega)
  clear hc hA hg hw1 hBe hks
  go_enter Try.func9, Try.ntmps9
  go_upto_region 1 with (fail)
  rw [← HW1.out, ← HBE.out]
  go_wp2_with (at_make; refine wpList_mk _ eInt rfl _ _ rfl w1.heap.size _ p.length rfl rfl rfl ?_ ?_ ?_; (· omega); (· omega); intro w2 o2 g2; have hz2 := g2.size; have l0 := (gr_cell g2 (lt_of_cell l0)).trans l0)
  obtain ⟨G1, hG1⟩ : ∃ G, G = w1.heap.size := ⟨_, rfl⟩
  rw [← hG1] at o2
  rw [← hG1]
  have hzG : w1.heap.size ≤ G1 := by rw [hG1]; exact Nat.le_refl _
  have hBG : B < G1 := by omega
  have HG2 := Lib.hid g2
  have HO2 := Lib.hid o2
  clear hG1 g2 o2 hz2 l0
  go_loopw [25] (fun i wr => ∃ k : Nat, k ≤ p.length ∧ i = .int .i64 k ∧ GoodTo p k ∧ wr.ownsRow G1 3 1 (.slice (some ⟨G1, 0, none⟩) p.length p.length) p.length (ints (placesL k ++ List.replicate (p.length - k) 0)) ∧ w1.grownBy wr none) (fun i _ => p.length - (intOf i).toNat)
  case atStart => exact ⟨0, Nat.zero_le _, rfl, GoodTo.zero p, by simpa [placesL] using HO2.out, HG2.out⟩
  case round =>
    clear HG2 HO2
    obtain ⟨k, hk, rfl, hG, hO, hgr⟩ := hrel
    obtain ⟨wo, rfl⟩ : ∃ wo : World, wo = wr := ⟨_, rfl⟩
    have hl0 := (gr_cell hgr (lt_of_block HA.out)).trans (blkC HA.out 0 rfl)
    by_cases hlt : k < p.length
    · have hcp := HC1.out.keep0 hgr
      have hct := flat_takeN hcp k
      have htl : (p.take k).length = k := by simp; omega
      obtain ⟨b, off, rfl, d0, d1⟩ := nm_cells hcp k hlt
      have hkb := HKS.out p[k] (List.getElem_mem hlt)
      have FK : Hid (keyB p[k].key = false → ¬ FitN p) := fun h1 hf => by rw [fit_keys hf hlt] at h1; cases h1
      have FA : Hid ((p.take k).any (fun q => q.key.toList == p[k].key.toList) = true → ¬ FitN p) := fun h1 hf => by rw [fit_apart hf hlt] at h1; cases h1
      have GN : Hid (keyB p[k].key = true → (p.take k).any (fun q => q.key.toList == p[k].key.toList) = false → GoodTo p (k + 1)) := fun h1 h2 => hG.next hlt h1 h2
      have CF : Hid (∀ W, wo.grownBy W none → ∀ g, W.cell? ⟨g, 0, none⟩ = some (.string p[k].key) → Calls Try.prog 32 #[.slice (some ⟨b, off, none⟩) k c, .func (.func 52) #[] #[.pointer (some ⟨g, 0, none⟩)]] W fun e w' => e = .returned (.bool ((p.take k).any (fun q => q.key.toList == p[k].key.toList))) ∧ W.grownBy w' none) := by
        intro W gW g hcell
        have h := containsFunc_Nm 52 g (fun q => q.key.toList == p[k].key.toList) (p.take k) (some ⟨b, off, none⟩) c W (hct.keep0 gW) (by omega) sharesEq_fn (fun x _ w1 g1 => sharesEq_any x p[k].key g w1 ((gr_cell g1 (lt_of_cell hcell)).trans hcell))
        rw [htl] at h
        exact h
      obtain ⟨x, hx⟩ : ∃ x, x = p[k] := ⟨_, rfl⟩
      rw [← hx] at d0 d1 hkb FK FA GN CF
      obtain ⟨s, m⟩ := x
      simp only at d0 d1 hkb FK FA GN CF
      obtain ⟨an, han⟩ : ∃ an, an = (p.take k).any (fun q => q.key.toList == s.toList) := ⟨_, rfl⟩
      rw [← han] at FA GN CF
      have HO := Lib.hid hO
      have HGR := Lib.hid hgr
      clear hx han hcp hct htl hO hG hgr
      cases hkk : keyB s with
      | false =>
        have HNF := Lib.hid (FK.out hkk)
        clear CF FK FA GN
        go_wp2_with (fail)
        refine (key_any s _ (by omega)).mono ?_
        rintro e w4 ⟨rfl, rfl⟩
        rw [hkk]
        go_wp2_with (fail)
        go_ret2
        exact ⟨gr_trans HG1.out (gr_alloc HGR.out _), .inl ⟨HNF.out, 5, by decide, rfl⟩⟩
      | true =>
        have hg4 := gr_alloc (gr_refl wo none) (.cells #[.string s, .int .i64 m] 34)
        have hl4 := (gr_cell hg4 (lt_of_cell hl0)).trans hl0
        have hq4 : (wo.alloc (.cells #[.string s, .int .i64 m] 34)).cell? ⟨wo.heap.size, 0, none⟩ = some (.string s) := made_cell (gr_refl _ _) 0 rfl
        go_wp2_with (fail)
        obtain ⟨w4, hw4⟩ : ∃ w4, w4 = wo.alloc (.cells #[.string s, .int .i64 m] 34) := ⟨_, rfl⟩
        rw [← hw4] at hg4 hl4 hq4
        rw [← hw4]
        obtain ⟨qb, hqb⟩ : ∃ q, q = wo.heap.size := ⟨_, rfl⟩
        rw [← hqb] at hq4
        rw [← hqb]
        clear hw4 hqb hl0
        refine (key_any s _ (by omega)).mono ?_
        rintro e w9 ⟨rfl, rfl⟩
        rw [hkk]
        go_wp2_with (fail)
        refine (CF.out _ hg4 _ hq4).mono ?_
        rintro e w5 ⟨rfl, hg5⟩
        have hg5' := gr_trans hg4 hg5
        cases an with
        | true =>
          have HNF := Lib.hid (FA.out rfl)
          clear CF FK FA GN
          go_wp2_with (fail)
          go_ret2
          exact ⟨gr_trans HG1.out (gr_trans HGR.out hg5'), .inl ⟨HNF.out, 6, by decide, rfl⟩⟩
        | false =>
          have HGN := Lib.hid (GN.out hkk rfl)
          have o5 := own_keep0 HO.out hg5'
          obtain ⟨e1, f1, o6⟩ := own_int o5 k hlt
          have HO6 := Lib.hid (o6 (k : Int))
          rw [fill_next (placesL k) p.length k (k : Int) (places_len k) hlt, ← places_next] at HO6
          have HG5 := Lib.hid hg5'
          clear CF FK FA GN o5 o6 hg5 hg5' HO
          go_wp2_with (fail)
          go_roundw
          case rel => exact ⟨k + 1, by omega, by go_num, HGN.out, HO6.out, gr_new (gr_trans HGR.out HG5.out) hzG _⟩
          case measure => simp [intOf]; omega
    · obtain rfl : k = p.length := by omega
      rw [Nat.sub_self, List.replicate_zero, List.append_nil] at hO
      have SF := sortFC1_few 54 B p.length (nmCm p) (.slice (some ⟨G1, 0, none⟩) p.length p.length) G1 (placesL p.length) wo hO (places_len _) hn sharesCmp_fn (nmCm_ok p) (fun x y W hx hy gW => by
        obtain ⟨i, hi, rfl⟩ := places_mem hx
        obtain ⟨j, hj, rfl⟩ := places_mem hy
        have gW1 : w1.grownBy W none := gr_grown hgr gW (fun k hk => by cases hk; exact hzG)
        exact sharesCmp_any p i j hi hj a c B W ((gr_cell gW1 (lt_of_block HA.out)).trans (blkC HA.out 0 rfl)) (HC1.out.keep0 gW1))
      have SF := Lib.hid SF
      have HGD := Lib.hid hG
      have HGR := Lib.hid hgr
      clear hO hG hgr
      go_wp2_with (fail)
      refine SF.out.mono ?_
      rintro e w5 ⟨O, rfl, o5, hperm, hsrt, -, g5⟩
      have HSRT := Lib.hid hsrt
      have HPERM := Lib.hid hperm
      have g5 : wo.grownBy w5 (some G1) := g5
      have HG5 : Hid (w1.grownBy w5 none) := gr_grown HGR.out g5 (fun k hk => by cases hk; exact hzG)
      have HO5 := Lib.hid o5
      have hOl : O.length = p.length := by rw [hperm.length_eq, places_len]
      have HOl := Lib.hid hOl
      have HOM := Lib.hid (order_at hperm)
      have HND := Lib.hid (hperm.nodup_iff.2 (places_nodup p.length))
      have hG15 : G1 < w5.heap.size := (o5.lt G1 rfl).2
      have hlw : ((sortedN p O).map Nm.many).length = p.length := by simp [sortedN, hOl]
      have HLW := Lib.hid hlw
      have h5z : w1.heap.size ≤ w5.heap.size := HG5.out.size
      clear g5 o5 hperm SF hOl hsrt HGR hl0 hlw
      go_wp2_with (fail)
      obtain ⟨ws, hws⟩ : ∃ ws, ws = (sortedN p O).map Nm.many := ⟨_, rfl⟩
      have HWSE := Lib.hid hws
      rw [← hws] at HLW
      clear hws
      go_loopw [9, 51] (fun v i wr => ∃ k : Nat, k ≤ p.length ∧ i = .int .i64 k ∧ wr.ownsRow w5.heap.size 3 1 v k (ints (ws.take k)) ∧ w5.grownBy wr none) (fun _ i _ => p.length - (intOf i).toNat)
      case atStart => exact ⟨0, Nat.zero_le _, rfl, by rw [List.take_zero]; exact World.ownsRow_nil _ _ _ _, gr_refl _ _⟩
      case round =>
        rename_i v _ _
        obtain ⟨k, hk, rfl, hV, hgr⟩ := hrel
        obtain ⟨wi, rfl⟩ : ∃ wi : World, wi = wr := ⟨_, rfl⟩
        by_cases hlt : k < p.length
        · have htO : k < O.length := by rw [HOl.out]; exact hlt
          obtain ⟨t, ht, hOt⟩ := HOM.out k htO
          have d0 := (own_int (own_keep0 HO5.out hgr) k hlt).1
          rw [getD_eq O k 0 htO, hOt] at d0
          have g1i := gr_trans HG5.out hgr
          have hl0 := (gr_cell g1i (lt_of_block HA.out)).trans (blkC HA.out 0 rfl)
          obtain ⟨b, off, rfl, -, d1⟩ := nm_cells (HC1.out.keep0 g1i) t ht
          have htp : (t : Int) < (p.length : Int) := by omega
          have ht0' : (0 : Int) ≤ (t : Int) := by omega
          have NX : Hid (ws.take (k + 1) = ws.take k ++ [p[t].many]) := by
            show _ = _
            rw [take_snoc ws k (by rw [HLW.out]; exact hlt)]
            congr 2
            have e := HWSE.out
            subst e
            simp only [sortedN, List.getElem_map, hOt, Int.toNat_natCast, nmN_get ht]
          obtain ⟨m, hm⟩ : ∃ m, m = p[t].many := ⟨_, rfl⟩
          rw [← hm] at d1 NX
          have hsz := hgr.size
          have HV := Lib.hid hV
          have HGR := Lib.hid hgr
          clear hV hgr hOt g1i hm
          go_wp2_with (at_builtin; refine wpList_app1F eInt rfl _ _ rfl w5.heap.size _ k _ rfl wi #[.int .i64 m] rfl HV.out _ rfl rfl rfl rfl ?_ ?_ ?_; (· omega); (· omega); intro v6 w6 hown6 hg6 hlt6 hfr6)
          have ho6 : w6.ownsRow w5.heap.size 3 1 v6 (k + 1) (ints (ws.take (k + 1))) := by rw [NX.out]; simpa [ints] using hown6
          have HO6 := Lib.hid ho6
          have HG6 : Hid (w5.grownBy w6 none) := gr_grown HGR.out hg6 (fun q hq => hlt6 q hq)
          clear hown6 hg6 hlt6 hfr6 ho6
          go_wp2_with (fail)
          go_roundw
          case rel => exact ⟨k + 1, by omega, by go_num, HO6.out, HG6.out⟩
          case measure => simp [intOf]; omega
        · obtain rfl : k = p.length := by omega
          rw [← HLW.out, List.take_length] at hV
          obtain ⟨va, vc, rfl, -, -, hcw, -⟩ := own_shape hV
          have g1i := gr_trans HG5.out hgr
          by_cases hfw : FitW ws
          · have SH := meterShare_ok tot ws va vc wi hcw (by rw [HLW.out]; omega) ht0 ht1 hfw.sum hfw.each
            rw [HLW.out] at SH
            have SH := Lib.hid SH
            have HFIT : Hid (FitN p) := by have e := HWSE.out; subst e; exact HGD.out.fit HPERM.out hfw
            have HGR := Lib.hid hgr
            have HG1I := Lib.hid g1i
            have hlw := HLW.out
            have HCW := Lib.hid hcw
            clear hV hcw hgr g1i
            go_wp2_with (fail)
            rw [hlw]
            refine SH.out.mono ?_
            rintro e w7 ⟨v7, Q, rfl, o7, hQ, g7⟩
            have HQ := Lib.hid hQ
            have hQl : Q.length = p.length := by rw [hQ.len, hlw]
            have HQl := Lib.hid hQl
            have HO7 := Lib.hid o7
            have HG7 := Lib.hid (gr_trans HG1I.out g7)
            have HGO := Lib.hid (gr_trans HGR.out g7)
            have hl0 := (gr_cell HG7.out (lt_of_block HA.out)).trans (blkC HA.out 0 rfl)
            obtain ⟨v7a, v7c, rfl, -, -, -, -⟩ := own_shape o7
            have h7z : w1.heap.size ≤ w7.heap.size := HG7.out.size
            clear SH hQ o7 g7 hQl HG1I HGR
            go_wp2_with (at_make; refine wpList_mk _ eInt rfl _ _ rfl w7.heap.size _ p.length rfl rfl rfl ?_ ?_ ?_; (· omega); (· omega); intro w8 o8 g8)
            obtain ⟨G2, hG2⟩ : ∃ G, G = w7.heap.size := ⟨_, rfl⟩
            rw [← hG2] at o8
            rw [← hG2]
            have hzG2 : w7.heap.size ≤ G2 := by rw [hG2]; exact Nat.le_refl _
            have HG8 := Lib.hid g8
            have HO8 := Lib.hid o8
            clear hG2 g8 o8
            go_loopw [78] (fun i wr => ∃ (k : Nat) (L : List Int), k ≤ p.length ∧ i = .int .i64 k ∧ LaidAt O Q p.length k L ∧ wr.ownsRow G2 3 1 (.slice (some ⟨G2, 0, none⟩) p.length p.length) p.length (ints L) ∧ w7.grownBy wr none) (fun i _ => p.length - (intOf i).toNat)
            case atStart => exact ⟨0, _, Nat.zero_le _, rfl, LaidAt.start O Q p.length, HO8.out, HG8.out⟩
            case round =>
              clear HG8 HO8
              obtain ⟨k, L, hk, rfl, hL, hOut, hgr⟩ := hrel
              obtain ⟨wj, rfl⟩ : ∃ wj : World, wj = wr := ⟨_, rfl⟩
              by_cases hlt : k < p.length
              · have htO : k < O.length := by rw [HOl.out]; exact hlt
                obtain ⟨t, ht, hOt⟩ := HOM.out k htO
                have g5j := gr_trans HGO.out hgr
                have d0 := (own_int (own_keep0 HO5.out g5j) k hlt).1
                rw [getD_eq O k 0 htO, hOt] at d0
                have o7j := own_keep0 HO7.out hgr
                obtain ⟨g7, gc, hge, -, -, -, -⟩ := own_some o7j (by omega)
                cases hge
                have d1 := (own_int o7j k hlt).1
                obtain ⟨e1, f1, o9⟩ := own_int hOut t ht
                have HLN := Lib.hid (hL.next HND.out HOM.out htO (by rw [HQl.out, HOl.out]) hOt ht)
                obtain ⟨q, hq⟩ : ∃ q, q = Q.getD k 0 := ⟨_, rfl⟩
                rw [← hq] at d1 HLN
                have HO9 := Lib.hid (o9 q)
                have htp : (t : Int) < (p.length : Int) := by omega
                have ht0' : (0 : Int) ≤ (t : Int) := by omega
                have HGJ := Lib.hid hgr
                clear o9 hOut hL hgr hOt g5j o7j hq
                go_wp2_with (fail)
                go_roundw
                case rel => exact ⟨k + 1, _, by omega, by go_num, HLN.out, HO9.out, gr_new HGJ.out hzG2 _⟩
                case measure => simp [intOf]; omega
              · obtain rfl : k = p.length := by omega
                have HL := Lib.hid hL
                have HOUT := Lib.hid hOut
                have HGJ := Lib.hid hgr
                clear hL hOut hgr
                go_wp2_with (fail)
                go_ret2
                refine ⟨gr_trans HG1.out (gr_trans HG7.out HGJ.out), .inr ⟨HFIT.out, _, L, rfl, own_base HOUT.out (by have := HG1.out.size; omega), ?_⟩⟩
                have e := HWSE.out
                subst e
                exact shares_end HPERM.out HSRT.out HFIT.out.apart HQ.out HL.out
          · have SH := meterShare_no tot ws va vc wi hcw (by rw [HLW.out]; omega) ht0 ht1 hfw
            rw [HLW.out] at SH
            have SH := Lib.hid SH
            have HNF : Hid (¬ FitN p) := by have e := HWSE.out; subst e; exact fun hf => hfw (hf.sorted HPERM.out)
            have HG1I := Lib.hid g1i
            have hlw := HLW.out
            clear hV hcw hgr g1i
            go_wp2_with (fail)
            rw [hlw]
            refine SH.out.mono ?_
            rintro e w7 ⟨r, rfl, hr0, rfl⟩
            have hrb : (r == 0) = false := beq_eq_false_iff_ne.2 hr0
            go_wp2_with (fail)
            go_ret2
            exact ⟨gr_trans HG1.out HG1I.out, .inl ⟨HNF.out, r, hr0, rfl⟩⟩
end Go.Proofs.Ytoiclngamaadgaa
