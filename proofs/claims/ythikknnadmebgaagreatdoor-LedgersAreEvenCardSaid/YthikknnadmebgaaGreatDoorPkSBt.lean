/- The walk of LedgersAreEven. -/
import Derived.Test.YthikknnadmebgaaGreatDoorPkSBi
import Derived.Test.YthikknnadmebgaaGreatDoorPkSBl
import Derived.Test.YthikknnadmebgaaGreatDoorPkSBo
import Derived.Test.YthikknnadmebgaaGreatDoorPkSBr
import Derived.Test.YthikknnadmebgaaGreatDoorPkSAw
import Derived.Test.YthikknnadmebgaaGreatDoorPkSBs
namespace Go.Proofs.YthikknnadmebgaaGreatDoor
open Go.RowKit
attribute [local go_sem ↓] Go.wp_at_zero Go.wp_at_succ

theorem own_cells0N {w : World} {base e size n cap : Nat} {a : Option Addr} {xs : List Value} (h : w.ownsRow base e size (.slice a n cap) n xs) : CellsAt w a xs := by
  obtain ⟨_, _, e, -, -, hC, -⟩ := own_shape h
  cases e
  exact hC
set_option maxRecDepth 100000 in
set_option maxHeartbeats 4000000 in
theorem ledgersEven_any (l : List Int) (a : Option Addr) (cap : Nat) (w : World) (EW : EnvW w) (EP : EnvP w) (hc : CellsAt w a (ints l)) (hl : l.length ≤ 9223372036854775807) :
    Calls Tryz.prog 3 #[.slice a l.length cap] w fun e w' => e = .returned (.bool true) ∧ w.grownBy w' none := by
  have hsA := StreamAt.made cap hc hl
  have hg1 := gr_alloc (gr_refl w none) (.cells #[.slice a l.length cap, .int .i64 0] 25)
  obtain ⟨w0, hw0⟩ : ∃ w0, w0 = w.alloc (.cells #[.slice a l.length cap, .int .i64 0] 25) := ⟨_, rfl⟩
  rw [← hw0] at hsA hg1
  obtain ⟨p, hp⟩ : ∃ p, p = w.heap.size := ⟨_, rfl⟩
  have hsA' : StreamAt w0 p w.heap.size l 0 := by rw [hp]; exact hsA
  have NL := Lib.hid (newLedger_any w0)
  have HS := Lib.hid hsA'
  have HG0 := Lib.hid hg1
  have HW0 := Lib.hid hw0
  have HPE := Lib.hid hp
  have HEW := Lib.hid EW
  have HEP := Lib.hid EP
  have hpw : w.heap.size ≤ p := Nat.le_of_eq hp.symm
  clear hsA hsA' hg1 hw0 hp hc hl EW EP
  go_enter Tryz.func3, Tryz.ntmps3
  go_upto_region 2 with (fail)
  rw [← HW0.out, ← HPE.out]
  go_wp2_with (fail)
  obtain ⟨M, hM⟩ : ∃ M, M = w0.heap.size := ⟨_, rfl⟩
  refine NL.out.mono ?_
  rintro e w1 ⟨he, hL1, g1⟩
  rw [← hM] at he hL1
  subst he
  have hpM : p < M := by have := HS.out.lt; omega
  have hMw : w.heap.size ≤ M := by omega
  have NX := Lib.hid (next_any l 0 9 p w1 (HS.out.keep0 g1) (by omega) (by omega))
  have HL1 : Hid (LedO w1 M (M + 1) M []) := ⟨0, Nat.zero_le _, LedL.empty hL1⟩
  have HG1 := Lib.hid (gr_trans HG0.out g1)
  have hz1 : M ≤ w1.heap.size := Nat.le_of_lt hL1.mp.lt
  clear hL1 g1 hM NL HS
  go_wp2_with (fail)
  refine NX.out.mono ?_
  rintro e w2 ⟨rfl, s2, g2⟩
  have hnr := nxt_range l 0 9 (by omega)
  obtain ⟨n, hn⟩ : ∃ n : Nat, (n : Int) = nxt l 0 9 := ⟨(nxt l 0 9).toNat, by omega⟩
  have hn8 : n ≤ 8 := by omega
  have Z2 : Hid (EvSt w w2 p M l 0 (3 * 0) (1 + 13 * 0) [] 1) := ⟨s2, HL1.out.keepS g2 (by omega) hpM hpM, OpsOk.nil, Nat.le_refl _, by omega, fun q hq => by simp [runO] at hq, gr_grown HG1.out g2 (fun c e => by cases e; exact hpw), by have := g2.size; omega⟩
  rw [← hn]
  clear s2 g2 hnr hn NX HL1 hz1
  go_wp2_with (fail)
  go_loopw [32] (fun i wr => ∃ (d k : Nat) (ops : List Pst), d ≤ n ∧ i = .int .i64 d ∧ EvSt w wr p M l d (3 * d) (1 + 13 * d) ops k) (fun i _ => n - (intOf i).toNat)
  case atStart => exact ⟨0, 1, [], Nat.zero_le _, rfl, Z2.out⟩
  case round =>
    clear Z2
    obtain ⟨d, k, ops, hd, rfl, hS⟩ := hrel
    obtain ⟨wo, rfl⟩ : ∃ wo : World, wo = wr := ⟨_, rfl⟩
    by_cases hlt : d < n
    · have hol := hS.len
      have hkb := hS.kb
      have RE := rightEntry_any l k p d wo hS.str (by omega)
      unfold EntryPost at RE
      have HSo := Lib.hid hS
      replace RE := Lib.hid RE
      clear hS
      go_wp2_with (fail)
      refine RE.out.mono ?_
      rintro e w3 ⟨v, rfl, o3, s3, g3, IO⟩
      obtain ⟨va, vc, rfl, hcc, -, hC3, -⟩ := own_shape o3
      have hok := entO_ok ops l k d IO (by omega) HSo.out.last
      unfold entO at hok
      obtain ⟨T, hT⟩ : ∃ T, T = entT l k := ⟨_, rfl⟩
      obtain ⟨L, hL⟩ : ∃ L, L = entL l k := ⟨_, rfl⟩
      rw [← hT, ← hL] at hok
      rw [← hL] at hC3 hcc
      rw [← hT, ← hL]
      have hLO3 := HSo.out.led.keepS g3 (by omega) hpM hpM
      have hG3 := gr_grown HSo.out.gr g3 (fun c e => by cases e; exact hpw)
      have hz3 : M ≤ w3.heap.size := by have := HSo.out.sz; have := g3.size; omega
      have PO := postO_any ops ⟨d, T, L, 0, false⟩ va vc (M + 1) M M w w3 (HEW.out.keep hG3) hLO3 HSo.out.ok hok rfl (by omega) hC3 hcc hG3 (by omega) hMw hMw hz3
      dsimp only at PO
      have HPO := Lib.hid PO
      have HS3 := Lib.hid s3
      have HLO3 := Lib.hid hLO3
      have HG3 := Lib.hid hG3
      have HOK := Lib.hid hok
      clear o3 s3 g3 IO hcc hC3 hok hT hL hLO3 hG3 PO RE
      go_wp2_with (fail)
      refine HPO.out.mono ?_
      rintro e w4 ⟨rfl, LO4, g4, f4⟩
      have hst4 := f4.stream HLO3.out HS3.out HG3.out g4 (Nat.le_refl _)
      have hz4 : M ≤ w4.heap.size := by obtain ⟨_, _, h⟩ := LO4; have := h.room; omega
      have hS4 : EvSt w w4 p M l d (3 * d + 1) (1 + 13 * d + 6) (ops ++ [⟨d, T, L, 0, false⟩]) (k + 6) :=
        ⟨hst4, LO4, HSo.out.ok.app HOK.out, by rw [List.length_append]; simp; omega, by omega, fun q hq => by rw [last_any _ _ _ hq]; exact Int.le_refl _, g4, hz4⟩
      have HS4 := Lib.hid hS4
      obtain ⟨ops1, ho1⟩ : ∃ o, o = ops ++ [(⟨d, T, L, 0, false⟩ : Pst)] := ⟨_, rfl⟩
      have hln1 : ops1.length = ops.length + 1 := by rw [ho1, List.length_append]; rfl
      rw [← ho1] at HS4
      clear LO4 f4 hst4 hz4 hS4 ho1 HS3 HLO3 HG3 HPO HSo HOK g4 hz3
      have hk4 := HS4.out.kb
      have FL := Lib.hid (flip_any l (k + 6) 3 p w4 HS4.out.str (by omega) (by omega))
      go_wp2_with (fail)
      refine FL.out.mono ?_
      rintro e w5 ⟨rfl, s5, g5⟩
      have hS5 : EvSt w w5 p M l d (3 * d + 1) (1 + 13 * d + 7) ops1 (k + 6 + 1) := ⟨s5, HS4.out.led.keepS g5 (by omega) hpM hpM, HS4.out.ok, HS4.out.len, by omega, HS4.out.last, gr_grown HS4.out.gr g5 (fun c e => by cases e; exact hpw), by have := HS4.out.sz; have := g5.size; omega⟩
      have HS5 := Lib.hid hS5
      obtain ⟨fb, hfb⟩ : ∃ fb, fb = flipM l (k + 6) 3 := ⟨_, rfl⟩
      rw [← hfb]
      clear s5 g5 hS5 FL hfb HS4
      go_upto_if 46 with (fail)
      go_cut [] from 47 to 84 (fun wx => ∃ (ops2 : List Pst) (k2 : Nat), EvSt w wx p M l d (3 * d + 3) (1 + 13 * d + 13) ops2 k2)
      case first =>
        cases fb with
        | false =>
          go_wp2_with (fail)
          go_meet
          have h := HS5.out
          exact ⟨ops1, k + 6 + 1, h.str, h.led, h.ok, by have := h.len; omega, by have := h.kb; omega, h.last, h.gr, h.sz⟩
        | true =>
          have TR := Lib.hid (trialO_any ops1 (M + 1) M M w5 HS5.out.led HS5.out.ok)
          go_wp2_with (fail)
          refine TR.out.mono ?_
          rintro e w6 ⟨v6, A, rfl, o6, N6, g6⟩
          obtain ⟨va6, c6, rfl, -, -, hC6, -⟩ := own_shape o6
          have hA12 := N6.len
          have hQ := heap_alloc_new w6 (.cells #[.slice va6 A.length c6] 37)
          have ga := gr_alloc (gr_refl w6 none) (.cells #[.slice va6 A.length c6] 37)
          obtain ⟨w7, hw7⟩ : ∃ w7, w7 = w6.alloc (.cells #[.slice va6 A.length c6] 37) := ⟨_, rfl⟩
          rw [← hw7] at hQ ga
          obtain ⟨Q, hQe⟩ : ∃ Q, Q = w6.heap.size := ⟨_, rfl⟩
          rw [← hQe] at hQ
          have HS7 := Lib.hid (HS5.out.keep0 (gr_trans g6 ga))
          have HO7 := Lib.hid (own_keep0 o6 ga)
          have HQ7 := Lib.hid hQ
          have HN6 := Lib.hid N6
          have HW7 := Lib.hid hw7
          have HQE := Lib.hid hQe
          have hp5 : p < w5.heap.size := HS5.out.str.lt
          have hQp : p < Q := by have := g6.size; omega
          have RE := rightEntry_any l (k + 6 + 1) p d w7 HS7.out.str (by omega)
          unfold EntryPost at RE
          replace RE := Lib.hid RE
          clear o6 N6 g6 ga hQ hw7 hQe hC6 TR HS5
          go_upto_region 13 with (fail)
          rw [← HW7.out, ← HQE.out]
          go_wp2_with (fail)
          refine RE.out.mono ?_
          rintro e w8 ⟨v8, rfl, o8, s8, g8, IO⟩
          obtain ⟨va8, c8, rfl, hcc, -, hC8, -⟩ := own_shape o8
          have hok := entO_ok ops1 l (k + 6 + 1) d IO (by omega) HS7.out.last
          unfold entO at hok
          obtain ⟨T2, hT⟩ : ∃ T, T = entT l (k + 6 + 1) := ⟨_, rfl⟩
          obtain ⟨L2, hL⟩ : ∃ L, L = entL l (k + 6 + 1) := ⟨_, rfl⟩
          rw [← hT, ← hL] at hok
          rw [← hL] at hC8 hcc
          rw [← hT, ← hL]
          have hLO8 := HS7.out.led.keepS g8 (by omega) hpM hpM
          have hG8 := gr_grown HS7.out.gr g8 (fun c e => by cases e; exact hpw)
          have hz8 : M ≤ w8.heap.size := by have := HS7.out.sz; have := g8.size; omega
          have hl7 := HS7.out.len
          obtain ⟨o2, ho2⟩ : ∃ o, o = (⟨d, T2, L2, 0, false⟩ : Pst) := ⟨_, rfl⟩
          rw [← ho2] at hok
          have hc0 : o2.can = 0 := by rw [ho2]
          have PO := postO_any ops1 o2 va8 c8 (M + 1) M M w w8 (HEW.out.keep hG8) hLO8 HS7.out.ok hok hc0 (by omega) (by rw [ho2]; exact hC8) (by rw [ho2]; exact hcc) hG8 (by omega) hMw hMw hz8
          have hPOa : (#[.pointer (some ⟨M + 1, 0, none⟩), .agg #[.int .i64 o2.day, .string o2.text, .slice va8 o2.lines.length c8]] : Array Value) = #[.pointer (some ⟨M + 1, 0, none⟩), .agg #[.int .i64 d, .string T2, .slice va8 L2.length c8]] := by rw [ho2]
          rw [hPOa, hln1, show ((ops.length + 1 + 1 : Nat) : Int) = (ops.length : Int) + 1 + 1 from rfl] at PO
          have HPO := Lib.hid PO
          have hO8 : w8.ownsRow w5.heap.size 42 2 (.slice va6 A.length c6) A.length (flat encNm A) := own_keepS HO7.out g8 hp5
          have hQ8 := (g8.block Q (lt_of_block HQ7.out) (by simp; omega)).trans HQ7.out
          have HS8 := Lib.hid s8
          have HLO8 := Lib.hid hLO8
          have HG8 := Lib.hid hG8
          have HOK := Lib.hid hok
          have HOS := Lib.hid HS7.out.ok
          have HO8 := Lib.hid hO8
          have HQ8 := Lib.hid hQ8
          have HO2 := Lib.hid ho2
          have HC0 := Lib.hid hc0
          have HLN := Lib.hid hln1
          have hl1b : ops.length ≤ 25 := by have := HLN.out; omega
          clear o8 s8 g8 IO hcc hC8 hok hT hL hLO8 hG8 PO RE HS7 HO7 HQ7 hO8 hQ8 ho2 hc0 hPOa hln1
          go_wp2_with (fail)
          refine HPO.out.mono ?_
          rintro e w9 ⟨rfl, LO9, g9, f9⟩
          have hS9 := f9.stream HLO8.out HS8.out HG8.out g9 (Nat.le_refl _)
          have hO9 := f9.own HLO8.out HO8.out (by decide) (by decide)
          have hQ9 := f9.cells HLO8.out HQ8.out (by decide) (by decide)
          have hz9 : M ≤ w9.heap.size := by obtain ⟨_, _, h⟩ := LO9; have := h.room; omega
          have hop2 := HOS.out.app HOK.out
          have hoc := canO_ok ops1 o2 HOK.out HC0.out
          have CN := cancelO_any (ops1 ++ [o2]) (canO ops1 o2) (ops.length + 1) (M + 1) M M w w9 (HEP.out.keep g9) LO9 hop2 hoc (by show ops1.length + 1 = _; rw [HLN.out]) (by rw [List.length_append, HLN.out]; simp; omega) g9 (by omega) hMw hMw hz9
          rw [show ((ops.length + 1 : Nat) : Int) + 1 = (ops.length : Int) + 1 + 1 from rfl] at CN
          have HCN := Lib.hid CN
          have HS9 := Lib.hid hS9
          have HO9 := Lib.hid hO9
          have HQ9 := Lib.hid hQ9
          have HLO9 := Lib.hid LO9
          have HG9 := Lib.hid g9
          have HOP2 := Lib.hid hop2
          have HOC := Lib.hid hoc
          clear LO9 g9 f9 hS9 hO9 hQ9 hop2 hoc CN HPO HS8 HLO8 HG8 HO8 HQ8 hz8
          go_wp2_with (fail)
          refine HCN.out.mono ?_
          rintro e w10 ⟨rfl, LO10, g10, f10⟩
          have hS10 := f10.stream HLO9.out HS9.out HG9.out g10 (Nat.le_refl _)
          have hO10 := f10.own HLO9.out HO9.out (by decide) (by decide)
          have hQ10 := f10.cells HLO9.out HQ9.out (by decide) (by decide)
          have hz10 : M ≤ w10.heap.size := by obtain ⟨_, _, h⟩ := LO10; have := h.room; omega
          have hop3 := HOP2.out.app HOC.out
          have TR := Lib.hid (trialO_any (ops1 ++ [o2] ++ [canO ops1 o2]) (M + 1) M M w10 LO10 hop3)
          have hS10b : EvSt w w10 p M l d (3 * d + 3) (1 + 13 * d + 13) (ops1 ++ [o2] ++ [canO ops1 o2]) (k + 6 + 1 + 6) :=
            ⟨hS10, LO10, hop3, by rw [List.length_append, List.length_append]; simp; omega, by omega, fun q hq => by rw [last_any _ _ _ hq]; show o2.day ≤ _; rw [HO2.out]; exact Int.le_refl _, g10, hz10⟩
          have HS10 := Lib.hid hS10b
          have HO10 := Lib.hid hO10
          have HQ10 := Lib.hid hQ10
          clear LO10 g10 f10 hS10 hO10 hQ10 hop3 hS10b HCN HS9 HO9 HQ9 HLO9 HG9 hz9 hz10
          go_wp2_with (fail)
          refine TR.out.mono ?_
          rintro e w11 ⟨v11, C, rfl, o11, N11, g11⟩
          have hmap : mapP (ops1 ++ [o2] ++ [canO ops1 o2]) = addL (addL (mapP ops1) o2.lines) (o2.lines.map negN) := by rw [mapP_app, mapP_app]; rfl
          rw [hmap] at N11
          have hfil := cancel_even (mapP ops1) o2.lines HOK.out.ent.pair A C HN6.out N11
          rw [← leftOut_stays] at hfil
          have hO11 := own_keep0 HO10.out g11
          have hQ11 := (g11.block Q (lt_of_block HQ10.out) (by simp)).trans HQ10.out
          have hQs : Q < w10.heap.size := lt_of_block HQ10.out
          obtain ⟨_, _, hve, -, -, hC11, hbl⟩ := own_shape hO11
          cases hve
          have hb10 : ∀ b, (Value.slice va6 A.length c6).ownBlock = some b → b < w10.heap.size := fun b hb => (HO10.out.lt b hb).2
          have DF := deleteFunc_Nm 13 Q (leftOut A) C v11 w10.heap.size w11 o11 (by have := N11.len; omega) even1_fn (fun x _ W gW => even1_any A va6 c6 x Q W ((cell_kept gW (lt_of_block hQ11) (fun e => by have := (o11.lt Q e.symm).1; omega)).trans (blkC hQ11 0 rfl)) (own_cells0N (own_keep hO11 gW (by
            rcases hn : (Value.slice va6 A.length c6).ownBlock with _ | b
            · exact .inl rfl
            · refine .inr (fun e => ?_)
              have h1 := hb10 b hn
              have h2 := (o11.lt b e.symm).1
              omega))) (by omega))
          rw [hfil] at DF
          have HDF := Lib.hid DF
          have HS11 := Lib.hid (HS10.out.keep0 g11)
          have HO11 := Lib.hid hO11
          have HQ11 := Lib.hid hQ11
          have HB := Lib.hid hb10
          have HV := Lib.hid (fun c (hc : v11.ownBlock = some c) => (o11.lt c hc).1)
          have HT11 := Lib.hid (fun c (hc : v11.ownBlock = some c) => own_blkL o11 hc)
          obtain ⟨va11, c11, rfl, -, -, -, -⟩ := own_shape o11
          clear o11 N11 g11 hmap hfil hO11 hQ11 hC11 hbl hb10 DF TR HS10 HO10 HQ10
          go_wp2_with (fail)
          refine HDF.out.mono ?_
          rintro e w12 ⟨v12, rfl, o12, g12⟩
          obtain ⟨va12, c12, rfl, -, -, hC12, -⟩ := own_shape o12
          have hS12 := HS11.out.keepN g12 HT11.out (fun c hc => by have := HV.out c hc; omega) hpw
          have qc : w12.cell? ⟨Q, 0, none⟩ = some (.slice va6 A.length c6) := (cell_kept g12 (lt_of_block HQ11.out) (fun e => by have := HV.out Q e.symm; omega)).trans (blkC HQ11.out 0 rfl)
          have hO12 := own_keep HO11.out g12 (by
            rcases hn : (Value.slice va6 A.length c6).ownBlock with _ | b
            · exact .inl rfl
            · refine .inr (fun e => ?_)
              have h1 := HB.out b hn
              have h2 := HV.out b e.symm
              omega)
          have EQ := Lib.hid (equal_Nm A va6 va12 c6 c12 w12 (own_cells0N hO12) hC12 (by omega))
          have HS12 := Lib.hid hS12
          have hwn : IntKind.i64.wrap ((ops.length : Int) + 1 + 1) = (ops.length : Int) + 1 + 1 := IntWalk.i64_in _ (by omega)
          clear o12 g12 hC12 hS12 hO12 HDF HS11 HO11 HQ11
          go_wp2_with (fail)
          refine EQ.out.mono ?_
          rintro e w13 ⟨rfl, g13⟩
          have HS13 := Lib.hid (HS12.out.keep0 g13)
          clear g13 EQ qc HS12
          go_wp2_with (fail)
          go_meet
          exact ⟨_, _, HS13.out⟩
      case rest =>
        obtain ⟨ops2, k2, hS2⟩ := hcut
        obtain ⟨wd, rfl⟩ : ∃ wd : World, wd = wc := ⟨_, rfl⟩
        clear HS5 hln1
        have hl2 := hS2.len
        have hk2 := hS2.kb
        have TR := Lib.hid (trialO_any ops2 (M + 1) M M wd hS2.led hS2.ok)
        have HS2 := Lib.hid hS2
        clear hS2
        go_wp2_with (fail)
        refine TR.out.mono ?_
        rintro e w5 ⟨v5, O, rfl, o5, N5, g5⟩
        have hO12 := N5.len
        have HSM := Lib.hid (names_small ops2 HS2.out.ok (by omega) O N5)
        have HSUM := Lib.hid (names_sum ops2 HS2.out.ok O N5)
        obtain ⟨va5, c5, rfl, -, -, hC5, -⟩ := own_shape o5
        have HC5 := Lib.hid hC5
        have HS5 := Lib.hid (HS2.out.keep0 g5)
        clear o5 N5 g5 hC5 HS2 TR
        go_wp2_with (fail)
        go_loopw [14, 88] (fun s i wr => ∃ j : Nat, j ≤ O.length ∧ i = .int .i64 j ∧ s = .int .i64 (((O.take j).map Nm.many).sum) ∧ w5.grownBy wr none) (fun _ i _ => O.length - (intOf i).toNat)
        case atStart => exact ⟨0, Nat.zero_le _, rfl, rfl, gr_refl _ _⟩
        case round =>
          obtain ⟨j, hj, rfl, rfl, hgr⟩ := hrel
          obtain ⟨wi, rfl⟩ : ∃ wi : World, wi = wr := ⟨_, rfl⟩
          by_cases hlt2 : j < O.length
          · obtain ⟨b, off, rfl, d0, d1⟩ := nm_cellsD (HC5.out.keep0 hgr) j hlt2
            have hb1 := sum_small (O.take j) (fun x hx => HSM.out x (List.mem_of_mem_take hx))
            rw [List.length_take, Nat.min_eq_left hj] at hb1
            have hb2 := HSM.out _ (List.getElem_mem hlt2)
            have hnx : ((O.take (j + 1)).map Nm.many).sum = ((O.take j).map Nm.many).sum + O[j].many := by
              rw [List.take_succ_eq_append_getElem hlt2, List.map_append, List.sum_append]
              simp
            obtain ⟨x, hx⟩ : ∃ x, x = O[j] := ⟨_, rfl⟩
            rw [← hx] at d0 d1 hb2 hnx
            obtain ⟨s, hs⟩ : ∃ s, s = ((O.take j).map Nm.many).sum := ⟨_, rfl⟩
            rw [← hs] at hb1 hnx
            rw [← hs]
            obtain ⟨K, Y⟩ := x
            simp only at d0 d1 hb2 hnx
            have hws : IntKind.i64.wrap (s + Y) = s + Y := IntWalk.i64_in _ (by omega)
            have HNX := Lib.hid hnx
            have HGR := Lib.hid hgr
            clear hx hs hnx hb1 hb2 hgr
            go_wp2_with (fail)
            go_roundw
            case rel => exact ⟨j + 1, by omega, by go_num, by rw [HNX.out], gr_alloc HGR.out _⟩
            case measure => simp [intOf]; omega
          · obtain rfl : j = O.length := by omega
            rw [List.take_length, HSUM.out]
            have HS6 := Lib.hid (HS5.out.keep0 hgr)
            clear hgr
            go_wp2_with (fail)
            go_roundw
            case rel =>
              have h := HS6.out
              exact ⟨d + 1, k2, ops2, by omega, by go_num, h.str, h.led, h.ok, by have := h.len; omega, by have := h.kb; omega, fun q hq => by have := h.last q hq; show q.day ≤ ((d + 1 : Nat) : Int); omega, h.gr, h.sz⟩
            case measure => simp [intOf]; omega
    · obtain rfl : d = n := by omega
      have hol : ops.length ≤ 30 := by have := hS.len; omega
      have HOPS := Lib.hid hS.ok
      have htx := hS.ok.text (by omega)
      obtain ⟨nn, hnn, hLL⟩ := hS.led
      have PR := Lib.hid (print_any ops (M + 1) M nn M wo (HEP.out.keep hS.gr) hLL htx (by omega))
      have RD := Lib.hid (fun (W : World) (g : w.grownBy W none) => read_any ops HOPS.out hol W (HEW.out.keep g) (HEP.out.keep g))
      have PR2 := Lib.hid (fun (W : World) (g : w.grownBy W none) (g' M' b' m' : Nat) (h : LedL W b' g' M' m' (runO ops)) => print_any ops g' M' m' b' W (HEP.out.keep g) h htx (by omega))
      obtain ⟨S, hSt⟩ : ∃ S, S = (⟨(printL ops).toArray⟩ : ByteArray) := ⟨_, rfl⟩
      rw [← hSt] at PR RD PR2
      have HG := Lib.hid hS.gr
      have HLO := Lib.hid hS.led
      clear hS hnn hLL htx hSt
      go_wp2_with (fail)
      refine PR.out.mono ?_
      rintro e w3 ⟨rfl, g3⟩
      have HG3 := Lib.hid (gr_trans HG.out g3)
      have HLO3 := Lib.hid (HLO.out.keep0 g3)
      clear g3 PR
      go_wp2_with (fail)
      refine (RD.out w3 HG3.out).mono ?_
      rintro e w4 ⟨g', M', b', rfl, LO4, z1, z2, z3, g4⟩
      obtain ⟨m', hm', LL4⟩ := LO4
      have HG4 := Lib.hid (gr_trans HG3.out g4)
      have HLO4 := Lib.hid (HLO3.out.keep0 g4)
      have P2 := Lib.hid (PR2.out w4 HG4.out g' M' b' m' LL4)
      have HLY : Hid (LedO w4 b' g' M' ops) := ⟨m', hm', LL4⟩
      clear g4 LL4 RD PR2 z1 z2 z3 hm'
      go_wp2_with (fail)
      refine P2.out.mono ?_
      rintro e w5 ⟨rfl, g5⟩
      have HG5 := Lib.hid (gr_trans HG4.out g5)
      have HLO5 := Lib.hid (HLO4.out.keep0 g5)
      have HLY5 := Lib.hid (HLY.out.keep0 g5)
      have TR := Lib.hid (trialO_any ops (M + 1) M M w5 HLO5.out HOPS.out)
      clear g5 P2
      go_wp2_with (fail)
      refine (tills_any w5).mono ?_
      rintro e w6 ⟨rfl, rfl⟩
      go_wp2_with (fail)
      refine TR.out.mono ?_
      rintro e w6 ⟨v6, O6, rfl, o6, N6, g6⟩
      obtain ⟨a6, c6, rfl, -, -, hC6, -⟩ := own_shape o6
      have HG6 := Lib.hid (gr_trans HG5.out g6)
      have T2 := Lib.hid (trialO_any ops g' M' b' w6 (HLY5.out.keep0 g6) HOPS.out)
      have HN6 := Lib.hid N6
      have HC6 := Lib.hid hC6
      clear o6 N6 g6 hC6 TR
      go_wp2_with (fail)
      refine T2.out.mono ?_
      rintro e w7 ⟨v7, O7, rfl, o7, N7, g7⟩
      have hOO : O7 = O6 := names_one N7 HN6.out
      subst hOO
      obtain ⟨a7, c7, rfl, -, -, hC7, -⟩ := own_shape o7
      have HG7 := Lib.hid (gr_trans HG6.out g7)
      have hO12 := N7.len
      have EQ := Lib.hid (equal_Nm O7 a6 a7 c6 c7 w7 (HC6.out.keep0 g7) hC7 (by omega))
      clear o7 N7 g7 hC7 T2 hO12
      go_wp2_with (fail)
      refine EQ.out.mono ?_
      rintro e w8 ⟨rfl, g8⟩
      have HG8 := Lib.hid (gr_trans HG7.out g8)
      clear g8 EQ
      go_wp2_with (fail)
      go_ret
      exact ⟨rfl, HG8.out⟩
end Go.Proofs.YthikknnadmebgaaGreatDoor
