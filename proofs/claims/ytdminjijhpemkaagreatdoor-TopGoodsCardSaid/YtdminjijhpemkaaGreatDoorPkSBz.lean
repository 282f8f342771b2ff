/- The walk of TopGoods. -/
import Derived.Test.YtdminjijhpemkaaGreatDoorPkSBd
import Derived.Test.YtdminjijhpemkaaGreatDoorPkSBy
import Derived.Test.YtdminjijhpemkaaGreatDoorPkSAr
import Derived.Test.YtdminjijhpemkaaGreatDoorPkSAq
import Derived.Test.YtdminjijhpemkaaGreatDoorPkSAl
import Derived.Deep.RegionLaw
import Derived.Deep.RegionHeld3
import Derived.Deep.DeepCutAuto
import Derived.Deep.CutRange
namespace Go.Proofs.YtdminjijhpemkaaGreatDoor
open Go.RowKit
attribute [local go_sem ↓] Go.wp_at_zero Go.wp_at_succ

def plB : List Value := [.string ⟨#[109, 97]⟩, .string ⟨#[109, 98]⟩, .string ⟨#[109, 99]⟩]
theorem pl_cell {w : World} {PB : Nat} (h : w.heap[PB]? = some (.cells #[.string ⟨#[109, 97]⟩, .string ⟨#[109, 98]⟩, .string ⟨#[109, 99]⟩] 9 (0, 0))) (k : Nat) (hk : k < 3) : w.cell? ⟨PB, k, none⟩ = some (.string (placeG k)) := by
  have : k = 0 ∨ k = 1 ∨ k = 2 := by omega
  rcases this with rfl | rfl | rfl
  · exact blkC h 0 rfl
  · exact blkC h 1 rfl
  · exact blkC h 2 rfl
theorem goods1_fn : ∀ (args : Array Value) (w : World), (callFunc 14 args).run Tryz.prog w = .ok (.enter 14 args) w := fun _ _ => by kernel_rfl
set_option maxRecDepth 100000 in
theorem goods1_any (t : Lot) (x : ByteArray) (q : Nat) (w : World) (hq : w.cell? ⟨q, 0, none⟩ = some (.string x)) :
    Calls Tryz.prog 14 #[.agg #[.string t.id, .string t.prod, .int .i64 t.exp, .int .i64 t.many], .pointer (some ⟨q, 0, none⟩)] w fun e w' => e = .returned (.bool (idIs x t)) ∧ w.grownBy w' none := by
  have hqlt := lt_of_cell hq
  go_enter Tryz.func14, Tryz.ntmps14
  go_wp2_with (fail)
  go_ret
  exact ⟨rfl, gr_alloc (gr_refl w none) _⟩
theorem StreamAt.own_ne {w : World} {p lw k : Nat} {l : List Int} (hs : StreamAt w p lw l k) {base size n : Nat} {v : Value} {xs : List Value} (h : w.ownsRow base 53 size v n xs) : v.ownBlock ≠ some p := by
  obtain ⟨a, c, hb, _⟩ := hs.blk
  exact Go.Proofs.YtdminjijhpemkaaGreatDoor.own_ne h hb (by decide)
set_option maxRecDepth 100000 in
set_option maxHeartbeats 8000000 in
theorem topGoods_any (l : List Int) (a : Option Addr) (cap : Nat) (w : World) (E : EnvP w) (hc : CellsAt w a (ints l)) (hl : l.length ≤ 9223372036854775807) :
    Calls Tryz.prog 3 #[.slice a l.length cap] w fun e w' => e = .returned (.bool true) ∧ w.grownBy w' none := by
  have hg0 := gr_alloc (gr_refl w none) (.cells #[.slice a l.length cap, .int .i64 0] 25)
  have s0 := StreamAt.made cap hc hl
  obtain ⟨w0, hw0⟩ : ∃ w0, w0 = w.alloc (.cells #[.slice a l.length cap, .int .i64 0] 25) := ⟨_, rfl⟩
  have hz0 : w0.heap.size = w.heap.size + 1 := by rw [hw0]; simp
  rw [← hw0] at s0 hg0
  obtain ⟨p, hp⟩ : ∃ p, p = w.heap.size := ⟨_, rfl⟩
  rw [← hp] at s0 hz0
  have LA := lots_any l 0 p w0 s0 (by omega)
  unfold LotsPost at LA
  have hLO := lotsM_ok l 0
  have hX5 : (lotsM l 0).length ≤ 5 := by have := (lotsTo_bd l 0 5).1; unfold lotsM; omega
  have hk1 : lotsK l 0 ≤ 100 := by have := (lotsTo_bd l 0 5).2; unfold lotsK; omega
  obtain ⟨k1, hk1e⟩ : ∃ k1, k1 = lotsK l 0 := ⟨_, rfl⟩
  obtain ⟨X, hX⟩ : ∃ X, X = lotsM l 0 := ⟨_, rfl⟩
  rw [← hk1e, ← hX] at LA
  rw [← hk1e] at hk1
  rw [← hX] at hLO hX5
  have HLA := Lib.hid LA
  have HLO := Lib.hid hLO
  have HPE := Lib.hid hp
  have HW0 := Lib.hid hw0
  have HG0 := Lib.hid hg0
  have HE := Lib.hid E
  clear LA hLO hk1e hX hc hl hp hw0 hg0 s0 E
  go_enter Tryz.func3, Tryz.ntmps3
  go_wp2_with (fail)
  rw [← HW0.out, ← HPE.out]
  refine HLA.out.mono ?_
  rintro e w1 ⟨v1, rfl, o1, st1, g1⟩
  have z1 := g1.size
  obtain ⟨xa, xc, rfl, -, -, -, -⟩ := own_shape o1
  have HG1 := Lib.hid (gr_trans (gr_weak HG0.out (some p)) g1)
  have gP := gr_alloc (gr_refl w1 none) (.cells #[.string ⟨#[109, 97]⟩, .string ⟨#[109, 98]⟩, .string ⟨#[109, 99]⟩] 9)
  have hP := heap_alloc_new w1 (.cells #[.string ⟨#[109, 97]⟩, .string ⟨#[109, 98]⟩, .string ⟨#[109, 99]⟩] 9)
  obtain ⟨w2, hw2⟩ : ∃ w2, w2 = w1.alloc (.cells #[.string ⟨#[109, 97]⟩, .string ⟨#[109, 98]⟩, .string ⟨#[109, 99]⟩] 9) := ⟨_, rfl⟩
  rw [← hw2] at gP hP
  obtain ⟨PB, hPB⟩ : ∃ PB, PB = w1.heap.size := ⟨_, rfl⟩
  rw [← hPB] at hP
  have HO2 := Lib.hid (own_keep0 o1 gP)
  have HS2 := Lib.hid (st1.keep0 gP)
  have HP2 := Lib.hid hP
  have HG2 := Lib.hid (gr_trans HG1.out (gr_weak gP (some p)))
  have HW2 := Lib.hid hw2
  have HPB := Lib.hid hPB
  have hpP : p < PB := by omega
  have hPl : PB < w2.heap.size := lt_of_block hP
  have hp0 : p < w0.heap.size := by omega
  clear HLA o1 st1 g1 gP hP hw2 hPB z1 hz0
  go_wp2_with (fail)
  rw [← HW2.out, ← HPB.out]
  go_loopw [5, 36] (fun f i wr => ∃ (k : Nat) (N : List Need), i = .int .i64 k ∧ NeedsG N k ∧ wr.ownsRow w2.heap.size 32 3 f k (flat encNeed N) ∧ StreamAt wr p p l (k1 + k) ∧ w2.grownBy wr (some p)) (fun _ i _ => 3 - (intOf i).toNat)
  case atStart => exact ⟨0, [], rfl, NeedsG.start, World.ownsRow_nil _ _ _ _, HS2.out, gr_refl _ _⟩
  case round =>
    obtain ⟨k, N, rfl, hN, hF, hst, hgr⟩ := hrel
    obtain ⟨wo, rfl⟩ : ∃ wo : World, wo = wr := ⟨_, rfl⟩
    have hk3 := hN.k3
    have HN := Lib.hid hN
    have HGR := Lib.hid hgr
    have HST := Lib.hid hst
    have hPo := (hgr.block PB hPl (fun e => by simp at e; omega)).trans HP2.out
    have hzo := hgr.size
    by_cases hlt : k < 3
    · have d0 := pl_cell hPo k hlt
      have HFo := Lib.hid hF
      have hr := nxt_range l (k1 + k) 7 (by omega)
      have NA := Lib.hid (next_any l (k1 + k) 7 p wo hst (by omega) (by decide))
      obtain ⟨m, hm⟩ : ∃ m, m = nxt l (k1 + k) 7 := ⟨_, rfl⟩
      rw [← hm] at NA hr
      clear hN hF hst hgr hPo hm
      go_wp2_with (fail)
      refine NA.out.mono ?_
      rintro e w3 ⟨rfl, st3, g3⟩
      have HF3 := Lib.hid (own_keepS HFo.out g3 (by omega))
      have HS3 := Lib.hid st3
      have HG3 := Lib.hid (gr_trans HGR.out g3)
      have hz3 := HG3.out.size
      obtain ⟨nm, hnm⟩ : ∃ s, s = placeG k := ⟨_, rfl⟩
      rw [← hnm]
      have HNM := Lib.hid hnm
      clear st3 g3 NA hnm
      go_wp2_with (at_builtin; refine wpList_app1F eNeed rfl _ _ rfl w2.heap.size _ k (flat encNeed N) rfl w3 #[.string nm, .string ⟨#[99, 97, 110]⟩, .int .i64 m] rfl HF3.out _ rfl rfl rfl rfl (by omega) (by omega) ?_; intro v7 w7 o7 g7 hl7 hk7; have O7 := Lib.hid o7; have G7 := Lib.hid g7; have L7 := Lib.hid hl7; clear o7 g7 hl7 hk7)
      go_roundw
      case rel =>
        refine ⟨k + 1, N ++ [⟨placeG k, canB, m⟩], by go_num, HN.out.next hlt m hr.1 (by omega), ?_, HS3.out.keep G7.out (fun q e => by have := L7.out q e; omega), ?_⟩
        · rw [flat_append, flat_one, ← HNM.out]
          exact O7.out
        · exact gr_grown HG3.out G7.out (fun q e => by have := L7.out q e; omega)
      case measure => simp [intOf]; omega
    · obtain rfl : k = 3 := by omega
      obtain ⟨ng, nc, rfl, -, -, -, -⟩ := own_some hF (by omega)
      obtain ⟨_, _, en, -, -, cN, -⟩ := own_shape hF
      cases en
      have hlen := hN.len
      have HX3 := own_keepS HO2.out hgr (by omega)
      obtain ⟨_, _, ex, -, -, cX, bX⟩ := own_shape HX3
      cases ex
      have xn := own_nil HX3
      have KA := Lib.hid (kit_okB 18 (by omega) X xa xc N 3 0 (some ⟨ng, 0, none⟩) nc wo cX (fun e => (xn e).2) HLO.out (by omega) (lots_apart HLO.out) cN hN.sm hN.ok (by decide) (by decide) (fun i hi => by have := (hN.all i hi).2.2.2; omega) hN.sum)
      rw [hlen] at KA
      have HXo := Lib.hid HX3
      have hGw : w.grownBy wo none := gr_grown (gr_refl w none) (gr_trans HG2.out hgr) (fun q e => by cases e; have := HPE.out; omega)
      have HGW := Lib.hid hGw
      clear hF cN HX3 cX bX xn hPo hN hst hgr hGw hlen
      go_wp2_with (fail)
      refine KA.out.mono ?_
      unfold KitPostB
      rintro e w4 ⟨kv, rv, ks, L, rfl, hkl, oK, oR, hpv, hkp, hkg, g4⟩
      rw [HN.out.len] at hkl
      have hLl := hkp.len
      have hzoo := hzo
      obtain ⟨kg, kc, rfl, hkgb, -, -, -⟩ := own_some oK (by omega)
      obtain ⟨_, _, ek, -, -, cK, -⟩ := own_shape oK
      cases ek
      obtain ⟨ra, rc, rfl, -, -, cR, -⟩ := own_shape oR
      have HKL := Lib.hid hkl
      have HCK := Lib.hid cK
      have HCR := Lib.hid cR
      have HPV := Lib.hid hpv
      have HKP := Lib.hid hkp
      have HKG := Lib.hid hkg
      have HX4 := Lib.hid (own_keep0 HXo.out g4)
      have HS4 := Lib.hid (HST.out.keep0 g4)
      have HG4 := Lib.hid (gr_trans HGW.out g4)
      have HLL := Lib.hid hLl
      rw [hkl]
      have hmm := @run_makeMap Tryz.prog
      have hm0 := MapIs.made w4
      have gM := gr_alloc (gr_refl w4 none) (.map #[] 0)
      obtain ⟨w5, hw5⟩ : ∃ w5, w5 = w4.alloc (.map #[] 0) := ⟨_, rfl⟩
      obtain ⟨MB, hMB⟩ : ∃ MB, MB = w4.heap.size := ⟨_, rfl⟩
      rw [← hw5, ← hMB] at hm0
      rw [← hw5] at gM
      have HM5 := Lib.hid hm0
      have HG5 := Lib.hid gM
      have HW5 := Lib.hid hw5
      have HMB := Lib.hid hMB
      have hMz : w4.heap.size ≤ MB := by omega
      clear oK oR cK cR hpv hkp hkg g4 KA HXo HST HGW HGR hkl hm0 gM hw5 hMB
      go_wp2_with (fail)
      rw [← HW5.out, ← HMB.out]
      clear hmm
      have hL5 : L.length ≤ 5 := by rw [HLL.out]; exact hX5
      go_loopw [72] (fun i wr => ∃ k : Nat, k ≤ X.length ∧ i = .int .i64 k ∧ MapIs wr MB k (addPs (fun _ => none) (lotsP (L.take k))) ∧ BndM (addPs (fun _ => none) (lotsP (L.take k))) k ∧ w4.grownBy wr none) (fun i _ => X.length - (intOf i).toNat)
      case atStart => exact ⟨0, Nat.zero_le _, rfl, (by rw [List.take_zero]; exact HM5.out), (by rw [List.take_zero]; exact BndM.start), HG5.out⟩
      case round =>
        clear HM5
        obtain ⟨k, hk, rfl, hmp, hbn, hgr⟩ := hrel
        obtain ⟨wo, rfl⟩ : ∃ wo : World, wo = wr := ⟨_, rfl⟩
        by_cases hlt : k < X.length
        · have hkL : k < L.length := by rw [HLL.out]; exact hlt
          obtain ⟨b, off, rfl, d0, d1, d2, d3⟩ := lot_cells (HCR.out.keep0 hgr) k hkL
          have hT := lotsP_take L k hkL
          have hbd := HKP.out.bd k hlt
          have hids : (lotN L k).id.size ≤ 1000 := by
            rw [(HKP.out.same k hlt).1, lotN_get hlt]
            exact (HLO.out.all _ (List.getElem_mem hlt)).ids
          rw [lotN_get hkL] at hT hbd hids
          obtain ⟨y, hy⟩ : ∃ y, y = L[k] := ⟨_, rfl⟩
          rw [← hy] at d0 d1 d2 d3 hT hbd hids
          obtain ⟨K, R, ex, m⟩ := y
          simp only at d0 d1 d2 d3 hT hbd hids
          obtain ⟨f, hf⟩ : ∃ f, f = addPs (fun _ => none) (lotsP (L.take k)) := ⟨_, rfl⟩
          have NX : Hid (∀ g, g = (f K).getD 0 → (fun t => if t = K then some (g + m) else f t) = addPs (fun _ => none) (lotsP (L.take (k + 1)))) := fun g hg => by
            rw [hT, addPs_snoc, ← hf, hg]
            rfl
          rw [← hf] at hmp hbn
          have hb := hbn K
          have HBN := Lib.hid (hbn.step K m hbd.1 (by omega))
          have HST2 : Hid (inM f K m = addPs (fun _ => none) (lotsP (L.take (k + 1)))) := by show _ = _; rw [hT, addPs_snoc, ← hf]
          obtain ⟨g, hg⟩ : ∃ g, g = (f K).getD 0 := ⟨_, rfl⟩
          rw [← hg] at hb
          obtain ⟨hb0, hb1⟩ := hb
          have g3 := gr_alloc (gr_refl wo none) (.cells #[.string K, .string R, .int .i64 ex, .int .i64 m] 39)
          have HM3 := Lib.hid (hmp.keep0 g3)
          have HG := Lib.hid (gr_trans hgr g3)
          have HGV := Lib.hid hg
          have hk6 : k ≤ 5 := by omega
          clear hy hT hf hmp hbn hgr g3 hg
          go_wp2_with (first
            | (at_lookup; refine wpList_getSI rfl _ _ rfl MB k f rfl HM3.out K rfl (by omega) ?_; rw [← HGV.out])
            | (at_mapUpdate; refine wpList_putSI rfl _ _ _ rfl MB k f rfl HM3.out (by omega) K rfl (by omega) (g + m) rfl (by omega) ?_; intro w6 hm6 g6; rw [NX.out g HGV.out] at hm6; have HM6 := Lib.hid hm6; have HG6 := Lib.hid g6; clear hm6 g6))
          go_roundw
          case rel => exact ⟨k + 1, by omega, by go_num, HM6.out, by rw [← HST2.out]; exact HBN.out, gr_grown HG.out HG6.out (fun q hq => by cases hq; exact hMz)⟩
          case measure => simp [intOf]; omega
        · obtain rfl : k = X.length := by omega
          rw [List.take_of_length_le (by rw [HLL.out]; exact Nat.le_refl _)] at hmp hbn
          have HM6 := Lib.hid (hmp.monoG (show X.length ≤ 5 by omega))
          have HB6 := Lib.hid (hbn.mono (show X.length ≤ 5 by omega))
          have HS6 := Lib.hid (HS4.out.keep0 hgr)
          have HG6 := Lib.hid (gr_weak hgr (some p))
          have hpk : p < kg := by omega
          have hpw4 : p < w4.heap.size := HS4.out.lt
          clear hmp hbn hgr
          go_wp2_with (fail)
          go_loopw [86] (fun i wr => ∃ (t : Nat) (S : List Piece), t ≤ 3 ∧ i = .int .i64 t ∧ (∀ s, cntP S s = cntP (allPs (ks.take t)) s) ∧ MapIs wr MB (5 + 1001 * t) (addPs (fun _ => none) (lotsP L ++ S)) ∧ BndM (addPs (fun _ => none) (lotsP L ++ S)) (5 + 1001 * t) ∧ StreamAt wr p p l (k1 + 3 + t) ∧ w4.grownBy wr (some p)) (fun i _ => 3 - (intOf i).toNat)
          case atStart => exact ⟨0, [], by omega, rfl, (fun s => by rw [List.take_zero]; rfl), (by rw [List.append_nil]; exact HM6.out), (by rw [List.append_nil]; exact HB6.out), HS6.out, HG6.out⟩
          case round =>
            clear HM6 HB6 HS6 HG6
            obtain ⟨t, S, ht, rfl, hSc, hmp, hbn, hst, hgr⟩ := hrel
            obtain ⟨wi, rfl⟩ : ∃ wi : World, wi = wr := ⟨_, rfl⟩
            by_cases hlt3 : t < 3
            · have htk : t < ks.length := by rw [HKL.out]; exact hlt3
              obtain ⟨kb, koff, ek, hcs⟩ := flat_cells encKit_len (by decide) (HCK.out.keep hgr (fun b off e => by cases e; simp; omega)) (show 0 < ks.length by omega)
              cases ek
              have d0 := hcs t htk 0 _ rfl
              have d1 := hcs t htk 1 _ rfl
              have d2 := hcs t htk 2 _ rfl
              rw [Nat.zero_add, Nat.add_zero] at d0
              rw [Nat.zero_add] at d1 d2
              have hmem := List.getElem_mem htk
              obtain ⟨pb, oP⟩ := HPV.out _ hmem
              have oPi := own_keep oP hgr (.inr (HS4.out.own_ne oP))
              have hfit := kit_fit HLO.out HN.out (HKG.out _ hmem)
              have hall : allPs (ks.take (t + 1)) = allPs (ks.take t) ++ ks[t].ps := by
                rw [List.take_succ_eq_append_getElem htk]
                exact allPs_app _ _
              obtain ⟨q, hq⟩ : ∃ q, q = ks[t] := ⟨_, rfl⟩
              rw [← hq] at d0 d1 d2 oPi hfit hall
              obtain ⟨KP, KR, pv, W⟩ := q
              simp only at d0 d1 d2 oPi hfit hall
              obtain ⟨pa, pc, rfl, -, -, cP, -⟩ := own_shape oPi
              have pn := own_nil oPi
              have HFIT := Lib.hid hfit
              have HALL := Lib.hid hall
              have gK := gr_alloc (gr_refl wi none) (.cells #[.string KP, .string KR, .slice pa W.length pc] 42)
              have hKb := heap_alloc_new wi (.cells #[.string KP, .string KR, .slice pa W.length pc] 42)
              obtain ⟨w6, hw6⟩ : ∃ w6, w6 = wi.alloc (.cells #[.string KP, .string KR, .slice pa W.length pc] 42) := ⟨_, rfl⟩
              rw [← hw6] at gK hKb
              have hX6 := own_keepS HX4.out (gr_trans hgr (gr_weak gK (some p))) (by omega)
              obtain ⟨_, _, ex, -, -, cX, -⟩ := own_shape hX6
              cases ex
              have RT := Lib.hid (rotate_any ⟨canB, 30, []⟩ none 0 X xa xc W pa pc w6 (CellsAt.nil _ _) (fun _ => rfl) ⟨by decide, by decide, fun x hx => by cases hx⟩ cX HLO.out (cP.keep0 gK) (fun e => (pn e).2) HFIT.out.sm HFIT.out.push (by simpa using HFIT.out.l20) (by rfl))
              have HS6 := Lib.hid (hst.keep0 gK)
              have HM6 := Lib.hid (hmp.keep0 gK)
              have HBN := Lib.hid hbn
              have HSC := Lib.hid hSc
              have HG6 := Lib.hid (gr_trans hgr (gr_weak gK (some p)))
              have HKB := Lib.hid hKb
              have HW6 := Lib.hid hw6
              obtain ⟨KBk, hKBk⟩ : ∃ b, b = wi.heap.size := ⟨_, rfl⟩
              rw [← hKBk] at HKB
              have HKBE := Lib.hid hKBk
              have v2 : w6.cell? ⟨KBk, 2, none⟩ = some (.slice pa W.length pc) := blkC HKB.out 2 rfl
              have hz6 : w4.heap.size ≤ w6.heap.size := HG6.out.size
              clear hcs hmem oP oPi hfit hall hq cP pn gK hKb hw6 hX6 cX hst hmp hbn hSc hgr hKBk
              go_upto_region 21 with (fail)
              rw [← HW6.out, ← HKBE.out]
              go_wp2_with (fail)
              refine RT.out.mono ?_
              unfold RotPost
              rintro e w7 ⟨v7, O, rfl, oJ, hperm, hsrt, g7⟩
              have hperm' : O.Perm W := hperm
              have hsrt' : Srt (rotCm X) ⟨⟨#[]⟩, 0⟩ O W.length := hsrt
              obtain ⟨hcok, hcsm, hcs, hc0, hc18⟩ := coil_rot HLO.out HFIT.out hperm'
              have KS := Lib.hid (kit_sold hperm' hsrt' HFIT.out.all (by have := HFIT.out.sum; omega))
              obtain ⟨J, hJ⟩ : ∃ J, J = joinL O := ⟨_, rfl⟩
              rw [← hJ] at oJ hcok hcsm hcs hc0 hc18 KS
              have hJl : J.length ≤ 1000 := hcsm.len
              have KL := Lib.hid (sell_le 100000 J (fun y hy => (hcsm.all y hy).2.2))
              obtain ⟨ja, jc, rfl, -, -, cJ, -⟩ := own_shape oJ
              have jn := own_nil oJ
              obtain ⟨T, hT⟩ : ∃ T, T = pcSum J := ⟨_, rfl⟩
              have HTE := Lib.hid hT
              rw [← hT] at hc0 hc18
              have gC := gr_alloc (gr_refl w7 none) (.cells #[.string canB, .int .i64 30, .slice ja J.length jc] 44)
              have hCb := heap_alloc_new w7 (.cells #[.string canB, .int .i64 30, .slice ja J.length jc] 44)
              obtain ⟨w8, hw8⟩ : ∃ w8, w8 = w7.alloc (.cells #[.string canB, .int .i64 30, .slice ja J.length jc] 44) := ⟨_, rfl⟩
              rw [← hw8] at gC hCb
              have RM := Lib.hid (room_any ⟨canB, 30, J⟩ ja jc w8 (cJ.keep0 gC) hcsm hcok (by rw [← hT]; exact hc0))
              have SE0 := (fun (Wd : World) (cw : CellsAt Wd ja (flat encPc J)) (n : Int) (n0 : 0 ≤ n) (n1 : n ≤ T) => sell_any ⟨canB, 30, J⟩ ja jc Wd cw (fun e => (jn e).2) hcsm hcok n n0 (by omega) (by rw [← hT]; exact n1))
              simp only at RM SE0
              rw [← hT] at RM
              have HSE := Lib.hid SE0
              clear SE0
              have HOJ := Lib.hid (own_keep0 oJ gC)
              have hGR := gr_trans g7 gC
              have HS8 := Lib.hid (HS6.out.keep0 hGR)
              have HM8 := Lib.hid (HM6.out.keep0 hGR)
              have HG8 := Lib.hid (gr_trans HG6.out (gr_weak hGR (some p)))
              have HW8 := Lib.hid hw8
              obtain ⟨CB, hCB⟩ : ∃ b, b = w7.heap.size := ⟨_, rfl⟩
              rw [← hCB] at hCb
              have HCB := Lib.hid hCb
              have HCBE := Lib.hid hCB
              have hz7 := g7.size
              have hpC : p < CB := by omega
              have v2c : w8.cell? ⟨CB, 2, none⟩ = some (.slice ja J.length jc) := blkC hCb 2 rfl
              have v1c : w8.cell? ⟨CB, 1, none⟩ = some (.int .i64 30) := blkC hCb 1 rfl
              have v0c : w8.cell? ⟨CB, 0, none⟩ = some (.string canB) := blkC hCb 0 rfl
              clear RT oJ hperm hsrt hperm' hsrt' hcok hcsm hcs hJ cJ jn hT gC hCb hw8 hGR hCB g7 HS6 HM6 HG6 v2
              go_upto_region 22 with (fail)
              rw [← HW8.out, ← HCBE.out]
              go_wp2_with (fail)
              refine RM.out.mono ?_
              rintro e w9 ⟨rfl, g9⟩
              have HOJ9 := Lib.hid (own_keep0 HOJ.out g9)
              have HS9 := Lib.hid (HS8.out.keep0 g9)
              have HM9 := Lib.hid (HM8.out.keep0 g9)
              have HG9 := Lib.hid (gr_trans HG8.out (gr_weak g9 (some p)))
              have HCB9 := Lib.hid ((g9.block CB (lt_of_block HCB.out) (by simp)).trans HCB.out)
              have hz9 := HG9.out.size
              have hC9 := lt_of_block HCB9.out
              have hpw9 : p < w9.heap.size := HS9.out.lt
              have hoj : p < w6.heap.size := by omega
              clear RM g9 HOJ HS8 HM8 HG8 v0c v1c v2c
              go_upto_region 25 with (fail)
              go_cut [20, 21, 22] from 105 to 116 (fun s u e wx => GoodsCut w9 wx p l (k1 + 3 + t + 1) J T s u e)
              case first =>
                clear HE HG0 HG1 HG2 HP2 HO2 HS2 HW2 HPB HW0 HPV HKP HKG HCR HX4 HN HALL KS KL HBN HSC HM9 HG9 HW8 HCBE HCB HW6 HKBE HKB
                have hgd := gr_drew (gr_refl w9 none)
                have hnx := nxt_range l (k1 + 3 + t) (T + 1) (by omega)
                have hgz := gr_drew (gr_alloc (gr_refl w9 none) (.cells #[.string ⟨#[]⟩, .int .i64 0, .slice none 0 0] 44))
                have hZd : ((w9.alloc (.cells #[.string ⟨#[]⟩, .int .i64 0, .slice none 0 0] 44)).drew).heap[w9.heap.size]? = some (.cells #[.string ⟨#[]⟩, .int .i64 0, .slice none 0 0] 44 (0, 0)) := heap_alloc_new w9 (.cells #[.string ⟨#[]⟩, .int .i64 0, .slice none 0 0] 44)
                have NA := Lib.hid (next_any l (k1 + 3 + t) (T + 1) p w9.drew (HS9.out.keep0 hgd) (by omega) (by omega))
                have NZ := Lib.hid (next_any l (k1 + 3 + t) (T + 1) p ((w9.alloc (.cells #[.string ⟨#[]⟩, .int .i64 0, .slice none 0 0] 44)).drew) (HS9.out.keep0 hgz) (by omega) (by omega))
                obtain ⟨n, hn⟩ : ∃ n, n = nxt l (k1 + 3 + t) (T + 1) := ⟨_, rfl⟩
                rw [← hn] at NA NZ hnx
                obtain ⟨hn0, hn1⟩ := hnx
                have hnT : n ≤ T := by omega
                have hwr1 : IntKind.i64.wrap (30 - (30 - T)) = T := by rw [show (30 : Int) - (30 - T) = T by omega]; exact IntWalk.i64_in _ (by omega)
                have hwr2 : IntKind.i64.wrap (T + 1) = T + 1 := IntWalk.i64_in _ (by omega)
                have HOD := Lib.hid (own_keep0 HOJ9.out hgd)
                have HCD : Hid (w9.drew.heap[CB]? = some (.cells #[.string canB, .int .i64 30, .slice ja J.length jc] 44 (0, 0))) := HCB9.out
                have HCZ := Lib.hid ((hgz.block CB (lt_of_block HCB9.out) (by simp)).trans HCB9.out)
                have HOZ := Lib.hid (own_keep0 HOJ9.out hgz)
                have HZD := Lib.hid hZd
                have HGZ := Lib.hid (gr_weak hgz (some p))
                have c0 : w9.cell? ⟨CB, 0, none⟩ = some (.string canB) := blkC HCB9.out 0 rfl
                have c1 : w9.cell? ⟨CB, 1, none⟩ = some (.int .i64 30) := blkC HCB9.out 1 rfl
                have c2 : w9.cell? ⟨CB, 2, none⟩ = some (.slice ja J.length jc) := blkC HCB9.out 2 rfl
                have t0 : (w9.alloc (.cells #[.string ⟨#[]⟩, .int .i64 0, .slice none 0 0] 44)).cell? ⟨CB, 0, none⟩ = some (.string canB) := blkC (show (w9.alloc (.cells #[.string ⟨#[]⟩, .int .i64 0, .slice none 0 0] 44)).heap[CB]? = _ from HCZ.out) 0 rfl
                have t1 : (w9.alloc (.cells #[.string ⟨#[]⟩, .int .i64 0, .slice none 0 0] 44)).cell? ⟨CB, 1, none⟩ = some (.int .i64 30) := blkC (show (w9.alloc (.cells #[.string ⟨#[]⟩, .int .i64 0, .slice none 0 0] 44)).heap[CB]? = _ from HCZ.out) 1 rfl
                have t2 : (w9.alloc (.cells #[.string ⟨#[]⟩, .int .i64 0, .slice none 0 0] 44)).cell? ⟨CB, 2, none⟩ = some (.slice ja J.length jc) := blkC (show (w9.alloc (.cells #[.string ⟨#[]⟩, .int .i64 0, .slice none 0 0] 44)).heap[CB]? = _ from HCZ.out) 2 rfl
                have e0 : w9.drew.cell? ⟨CB, 0, none⟩ = some (.string canB) := blkC HCD.out 0 rfl
                have e1 : w9.drew.cell? ⟨CB, 1, none⟩ = some (.int .i64 30) := blkC HCD.out 1 rfl
                have e2 : w9.drew.cell? ⟨CB, 2, none⟩ = some (.slice ja J.length jc) := blkC HCD.out 2 rfl
                have z0 : ((w9.alloc (.cells #[.string ⟨#[]⟩, .int .i64 0, .slice none 0 0] 44)).drew).cell? ⟨CB, 0, none⟩ = some (.string canB) := blkC HCZ.out 0 rfl
                have z1 : ((w9.alloc (.cells #[.string ⟨#[]⟩, .int .i64 0, .slice none 0 0] 44)).drew).cell? ⟨CB, 1, none⟩ = some (.int .i64 30) := blkC HCZ.out 1 rfl
                have z2 : ((w9.alloc (.cells #[.string ⟨#[]⟩, .int .i64 0, .slice none 0 0] 44)).drew).cell? ⟨CB, 2, none⟩ = some (.slice ja J.length jc) := blkC HCZ.out 2 rfl
                clear hn hgd hgz hZd
                go_region_law (first
                  | (go_simp; go_at_call 7; (with_reducible refine NA.out.mono ?_); rintro e wn ⟨rfl, sn, gn⟩; have hCn := (gn.block CB (lt_of_block HCD.out) (fun e => by simp at e; omega)).trans HCD.out; have n0 : wn.cell? ⟨CB, 0, none⟩ = some (.string canB) := blkC hCn 0 rfl; have n1 : wn.cell? ⟨CB, 1, none⟩ = some (.int .i64 30) := blkC hCn 1 rfl; have n2 : wn.cell? ⟨CB, 2, none⟩ = some (.slice ja J.length jc) := blkC hCn 2 rfl; have on := own_keepS HOD.out gn hoj; have ga := gr_alloc (gr_refl wn none) (.cells #[.string ⟨#[]⟩, .int .i64 0, .slice none 0 0] 44); have hCa := (ga.block CB (lt_of_block hCn) (by simp)).trans hCn; have m0 : (wn.alloc (.cells #[.string ⟨#[]⟩, .int .i64 0, .slice none 0 0] 44)).cell? ⟨CB, 0, none⟩ = some (.string canB) := blkC hCa 0 rfl; have m1 : (wn.alloc (.cells #[.string ⟨#[]⟩, .int .i64 0, .slice none 0 0] 44)).cell? ⟨CB, 1, none⟩ = some (.int .i64 30) := blkC hCa 1 rfl; have m2 : (wn.alloc (.cells #[.string ⟨#[]⟩, .int .i64 0, .slice none 0 0] 44)).cell? ⟨CB, 2, none⟩ = some (.slice ja J.length jc) := blkC hCa 2 rfl; obtain ⟨_, _, en, -, -, cn, -⟩ := own_shape on; cases en; have SN := Lib.hid (HSE.out wn cn n hn0 hnT); have SB := Lib.hid (HSE.out (wn.alloc (.cells #[.string ⟨#[]⟩, .int .i64 0, .slice none 0 0] 44)) (cn.keep0 ga) n hn0 hnT); have SNN := Lib.hid sn; have GNN := Lib.hid gn; clear hCn hCa ga on cn sn gn)
                  | (go_simp; go_at_call 7; (with_reducible refine NZ.out.mono ?_); rintro e wn ⟨rfl, sn, gn⟩; have hCn := (gn.block CB (lt_of_block HCZ.out) (fun e => by simp at e; omega)).trans HCZ.out; have n0 : wn.cell? ⟨CB, 0, none⟩ = some (.string canB) := blkC hCn 0 rfl; have n1 : wn.cell? ⟨CB, 1, none⟩ = some (.int .i64 30) := blkC hCn 1 rfl; have n2 : wn.cell? ⟨CB, 2, none⟩ = some (.slice ja J.length jc) := blkC hCn 2 rfl; have on := own_keepS HOZ.out gn hoj; have hZn := Lib.hid ((gn.block _ (lt_of_block HZD.out) (fun e => by simp at e; omega)).trans HZD.out); obtain ⟨_, _, en, -, -, cn, -⟩ := own_shape on; cases en; have SN := Lib.hid (HSE.out wn cn n hn0 hnT); have SNN := Lib.hid sn; have GNZ := Lib.hid gn; clear hCn on cn sn gn)
                  | (go_simp; go_at_call 11; (with_reducible refine SN.out.mono ?_); rintro e ws ⟨rw2, uw, rfl, orr, ou, gs⟩; obtain ⟨ra2, rc2, rfl, -, -, -, -, -⟩ := orr.shape; have OR := Lib.hid orr; have OU := Lib.hid ou; have GS := Lib.hid gs; (try have hZs := (gs.block _ (lt_of_block hZn.out) (by simp)).trans hZn.out); (try have f0 := blkF hZs 0); (try have f1 := blkF hZs 1); (try have f2 := blkF hZs 2); (try have y0 := blkC hZs 0 rfl); (try have y1 := blkC hZs 1 rfl); (try have y2 := blkC hZs 2 rfl); clear orr ou gs)
                  | (go_simp; go_at_call 11; (with_reducible refine SB.out.mono ?_); rintro e ws ⟨rw2, uw, rfl, orr, ou, gs⟩; obtain ⟨ra2, rc2, rfl, -, -, -, -, -⟩ := orr.shape; have OR := Lib.hid orr; have OU := Lib.hid ou; have GS := Lib.hid gs; have hZs := (gs.block _ (lt_of_block (heap_alloc_new wn (.cells #[.string ⟨#[]⟩, .int .i64 0, .slice none 0 0] 44))) (by simp)).trans (heap_alloc_new wn (.cells #[.string ⟨#[]⟩, .int .i64 0, .slice none 0 0] 44)); have f0 := blkF hZs 0; have f1 := blkF hZs 1; have f2 := blkF hZs 2; have y0 := blkC hZs 0 rfl; have y1 := blkC hZs 1 rfl; have y2 := blkC hZs 2 rfl; clear orr ou gs)
                  | fail)
                all_goals (go_wp2_with (fail))
                all_goals go_meet
                all_goals first
                  | exact goodsCut_a hn0 hnT (gr_trans (gr_weak (gr_drew (gr_refl w9 none)) (some p)) GNN.out) SNN.out OR.out OU.out GS.out
                  | exact goodsCut_b (B := wn.heap.size) hn0 hnT (gr_trans (gr_trans (gr_weak (gr_drew (gr_refl w9 none)) (some p)) GNN.out) (gr_weak (gr_alloc (gr_refl wn none) (.cells #[.string ⟨#[]⟩, .int .i64 0, .slice none 0 0] 44)) (some p))) (SNN.out.keep0 (gr_alloc (gr_refl wn none) (.cells #[.string ⟨#[]⟩, .int .i64 0, .slice none 0 0] 44))) GNN.out.size hpw9 (heap_alloc_new wn (.cells #[.string ⟨#[]⟩, .int .i64 0, .slice none 0 0] 44)) OR.out OU.out GS.out
                  | exact goodsCut_b (B := w9.heap.size) hn0 hnT (gr_trans HGZ.out GNZ.out) SNN.out (Nat.le_refl _) hpw9 hZn.out OR.out OU.out GS.out
              case rest =>
              unfold GoodsCut at hcut
              obtain ⟨n, RB, ra2, rc2, hn0, hnT, rfl, rfl, hRB, hRbk, hrn, cR2, oU, s10, g10⟩ := hcut
              obtain ⟨w10, rfl⟩ : ∃ w10 : World, w10 = wc := ⟨_, rfl⟩
              obtain ⟨ua, uc, hu, -, -, cU, -⟩ := own_shape oU
              have un := own_nil (hu ▸ oU)
              subst hu
              obtain ⟨kq1, kq2, kq3⟩ := KS.out n
              have hQl := sell_len J n
              have kq4 := KL.out n
              obtain ⟨Qa, hQa⟩ : ∃ Q, Q = (sellL J n).1 := ⟨_, rfl⟩
              obtain ⟨Qb, hQb⟩ : ∃ Q, Q = (sellL J n).2 := ⟨_, rfl⟩
              rw [← hQa, ← hQb] at kq1 kq2 kq3 kq4 hQl
              rw [← hQb] at hRbk cR2
              rw [← hQa] at cU un
              rw [← hQa]
              have HK1 := Lib.hid kq1
              have HK2 := Lib.hid kq2
              have HK3 := Lib.hid kq3
              have HK4 := Lib.hid kq4
              have HS10 := Lib.hid s10
              have HM10 := Lib.hid (HM9.out.keep g10 (fun e => by simp at e; omega))
              have HG10 := Lib.hid (gr_trans HG9.out g10)
              have HRB10 := Lib.hid hRbk
              have HCR10 := Lib.hid cR2
              have HCU := Lib.hid cU
              have HRN := Lib.hid hrn
              have HUN := Lib.hid un
              have hz10 := HG10.out.size
              clear hRbk hrn cR2 oU s10 g10 cU un kq1 kq2 kq3 kq4 HS9 HM9 HG9 HOJ9 HCB9 HSE KS hQa hQb
              go_upto_region 29 with (fail)
              go_cut [126, 127, 128] from 122 to 129 (fun s u e wx => ∃ (qa : Option Addr) (qc : Nat), s = .slice qa (Qa ++ Qb).length qc ∧ u = .int .i64 ((Qa ++ Qb).length : Nat) ∧ e = .int .i64 0 ∧ CellsAt wx qa (flat encPc (Qa ++ Qb)) ∧ (∀ b off, qa = some ⟨b, off, none⟩ → w10.heap.size ≤ b) ∧ w10.grownBy wx none)
              case first =>
                have hgd := gr_drew (gr_refl w10 none)
                have CLP := Lib.hid (fun (Wd : World) (g : w10.grownBy Wd none) => clonePc_any ua Qa.length uc (flat encPc Qa) Wd (flat_length encPc_len _) (HCU.out.keep0 g) HUN.out (flat_ones encPc_one _) (by rw [List.length_append] at hQl; omega))
                have c2 : w10.cell? ⟨RB, 2, none⟩ = some (.slice ra2 Qb.length rc2) := blkC HRB10.out 2 rfl
                have e2 : w10.drew.cell? ⟨RB, 2, none⟩ = some (.slice ra2 Qb.length rc2) := c2
                have hab : Qa.length + Qb.length ≤ 2000 := by rw [List.length_append] at hQl; omega
                go_region_law (first
                  | (go_simp; go_at_call 12; (with_reducible refine (CLP.out _ ?_).mono ?_); (· exact hgd); rintro e w11 ⟨cv, rfl, oc, gc⟩; have OC := Lib.hid oc; have GC := Lib.hid (gr_trans hgd gc); have hRb := (GC.out.block RB (lt_of_block HRB10.out) (by simp)).trans HRB10.out; have f2 : w11.cell? ⟨RB, 2, none⟩ = some (.slice ra2 Qb.length rc2) := blkC hRb 2 rfl; clear oc gc hRb)
                  | (refine step_appN ePc rfl _ _ rfl w10.drew.heap.size cv Qa.length (flat encPc Qa) rfl OC.out ra2 Qb.length rc2 (flat encPc Qb) rfl ?_ (HCR10.out.keep0 GC.out) HRN.out ?_ ?_ ?_ ?_; (· exact flat_length encPc_len _); (· exact flat_ones encPc_one _); (· omega); (· exact GC.out.size); intro v12 w12 o12 g12 hl12 hk12; obtain ⟨qa2, qc2, rfl, -, -, cq2, bq2⟩ := own_shape o12; have CQ := Lib.hid cq2; have BQ := Lib.hid bq2; have GQ := Lib.hid (gr_grown GC.out g12 (fun q e => hl12 q e)); clear o12 g12 hl12 hk12 cq2 bq2)
                  | fail)
                all_goals (go_wp2_with (fail))
                all_goals go_meet
                all_goals exact ⟨_, _, by rw [List.length_append], by rw [List.length_append, Int.natCast_add], rfl, by rw [flat_append]; exact CQ.out, fun b off e => (BQ.out b off e).1, GQ.out⟩
              case rest =>
              obtain ⟨qa, qc, rfl, rfl, rfl, cQ, bQ, gq⟩ := hcut
              obtain ⟨w12, rfl⟩ : ∃ w12 : World, w12 = wc := ⟨_, rfl⟩
              obtain ⟨Q, hQ⟩ : ∃ Q, Q = Qa ++ Qb := ⟨_, rfl⟩
              rw [← hQ] at HK1 HK2 HK3 HK4 hQl cQ
              rw [← hQ]
              have HCQ := Lib.hid cQ
              have hMl := HM10.out.lt
              have HBQ : Hid (∀ b off, qa = some ⟨b, off, none⟩ → some b ≠ some MB) := fun b off e e2 => by
                have := bQ b off e
                cases e2
                omega
              have HM12 := Lib.hid (HM10.out.keep0 gq)
              have HS12 := Lib.hid (HS10.out.keep0 gq)
              have HG12 := Lib.hid (gr_trans HG10.out (gr_weak gq (some p)))
              have HX12 := Lib.hid (own_keepS HX4.out HG12.out (by omega))
              have HXM : Hid (∀ wr, w12.grownBy wr (some MB) → wr.ownsRow w0.heap.size 39 4 (.slice xa X.length xc) X.length (flat encLot X)) := fun wr g => own_keep HX12.out g (by
                cases hv : (Value.slice xa X.length xc).ownBlock with
                | none => exact .inl rfl
                | some b =>
                  refine .inr (fun e => ?_)
                  have := (HX4.out.lt b hv).2
                  cases e
                  omega)
              have hpM : p < MB := by omega
              clear hQ cQ bQ gq HM10 HS10 HG10 HRB10 HCR10 HCU HRN HUN
              go_wp2_with (fail)
              go_loopw [23, 128] (fun la i wr => ∃ (j : Nat) (lv : Int), j ≤ Q.length ∧ i = .int .i64 j ∧ la = .int .i64 lv ∧ -1 ≤ lv ∧ (∀ (h : j < Q.length), lv ≤ (lotGet X Q[j].lot).exp) ∧ MapIs wr MB (5 + 1001 * t + j) (addPs (fun _ => none) (lotsP L ++ (S ++ Q.take j))) ∧ BndM (addPs (fun _ => none) (lotsP L ++ (S ++ Q.take j))) (5 + 1001 * t + j) ∧ w12.grownBy wr (some MB)) (fun _ i _ => Q.length - (intOf i).toNat)
              case atStart => exact ⟨0, -1, Nat.zero_le _, rfl, rfl, by omega, fun h => by have := (lotGet_exp HLO.out Q[0].lot).1; omega, (by rw [List.take_zero, List.append_nil]; exact HM12.out), (by rw [List.take_zero, List.append_nil]; exact HBN.out), gr_refl _ _⟩
              case round =>
                clear HM12
                obtain ⟨j, lv, hj, rfl, rfl, hlv, hup, hmp, hbn, hgr⟩ := hrel
                obtain ⟨wj, rfl⟩ : ∃ wj : World, wj = wr := ⟨_, rfl⟩
                by_cases hltj : j < Q.length
                · obtain ⟨b, off, rfl, d0, d1⟩ := pc_cells (HCQ.out.keep hgr HBQ.out) j hltj
                  have hQj := pc_get Q j hltj
                  obtain ⟨hm1, y, hyW, hylot⟩ := HK3.out _ (List.getElem_mem hltj)
                  have hyall := HFIT.out.all y hyW
                  obtain ⟨ii, hii, hiilot⟩ := HFIT.out.known y hyW
                  have htake : Q.take (j + 1) = Q.take j ++ [Q[j]] := List.take_succ_eq_append_getElem hltj
                  have hmle := HK4.out _ (List.getElem_mem hltj)
                  have hupj := hup hltj
                  have hnext : ∀ (h : j + 1 < Q.length), (lotGet X Q[j].lot).exp ≤ (lotGet X Q[j + 1].lot).exp := fun h => (List.pairwise_iff_getElem.1 HK2.out) j (j + 1) hltj h (Nat.lt_succ_self j)
                  rw [hQj] at hm1 hylot htake hmle hupj
                  have hnext' : ∀ (h : j + 1 < Q.length), (lotGet X (pcLot Q j)).exp ≤ (lotGet X Q[j + 1].lot).exp := fun h => by
                    have := hnext h
                    rw [hQj] at this
                    exact this
                  simp only at hm1 hylot hmle hupj
                  obtain ⟨K, hK⟩ : ∃ K, K = pcLot Q j := ⟨_, rfl⟩
                  obtain ⟨m, hm⟩ : ∃ m, m = pcMany Q j := ⟨_, rfl⟩
                  rw [← hK] at d0 hylot htake hupj hnext'
                  rw [← hm] at d1 hm1 htake hmle
                  have hKs : K.size ≤ 1000 := by rw [hylot]; exact hyall.2
                  have hhas : lotHas X K = true := by
                    unfold lotHas
                    rw [List.any_eq_true]
                    exact ⟨lotN X ii, by rw [lotN_get hii]; exact List.getElem_mem hii, by unfold idIs; rw [hylot, hiilot]; simp⟩
                  obtain ⟨i0, hi0, hix, hget⟩ := lotIx_at hhas
                  obtain ⟨f, hf⟩ : ∃ f, f = addPs (fun _ => none) (lotsP L ++ (S ++ Q.take j)) := ⟨_, rfl⟩
                  have hT : inM f K m = addPs (fun _ => none) (lotsP L ++ (S ++ Q.take (j + 1))) := by
                    rw [htake, ← List.append_assoc S, ← List.append_assoc (lotsP L), addPs_snoc, ← hf]
                  have HT := Lib.hid hT
                  have NX : Hid (∀ g, g = (f K).getD 0 → (fun t => if t = K then some (g + m) else f t) = addPs (fun _ => none) (lotsP L ++ (S ++ Q.take (j + 1)))) := fun g hg => by
                    rw [← HT.out, hg]
                    rfl
                  rw [← hf] at hmp hbn
                  have hb := hbn K
                  have HBJ := Lib.hid (hbn.step K m (by omega) (by omega))
                  obtain ⟨g, hg⟩ : ∃ g, g = (f K).getD 0 := ⟨_, rfl⟩
                  rw [← hg] at hb
                  obtain ⟨hb0, hb1⟩ := hb
                  have g3 := gr_alloc (gr_refl wj none) (.cells #[.string K, .int .i64 m] 53)
                  have hPk := heap_alloc_new wj (.cells #[.string K, .int .i64 m] 53)
                  have HM3 := Lib.hid (hmp.keep0 g3)
                  have hMj := hmp.lt
                  have HG3 := Lib.hid (gr_trans hgr (gr_weak g3 (some MB)))
                  have HGV := Lib.hid hg
                  have HPK := Lib.hid hPk
                  obtain ⟨ex, hex⟩ : ∃ ex, ex = (lotGet X K).exp := ⟨_, rfl⟩
                  rw [← hex] at hupj hnext'
                  have hex0 := (lotGet_exp HLO.out K).1
                  rw [← hex] at hex0
                  have HEX := Lib.hid hex
                  have HNEXT := Lib.hid hnext'
                  have HGET := Lib.hid hget
                  have hfx : findA (idIs K) X = (i0 : Int) := hix
                  have HFX := Lib.hid hfx
                  have hnn : 5 + 1001 * t + j ≤ 10000 := by omega
                  clear hQj hyW hylot hyall hii hiilot htake hup hnext hnext' hK hm hhas hix hget hf hT hmp hbn hgr hg g3 hPk hex hfx
                  go_wp2_with (first
                    | (at_lookup; refine wpList_getSI rfl _ _ rfl MB (5 + 1001 * t + j) f rfl HM3.out K rfl (by omega) ?_; rw [← HGV.out])
                    | (at_mapUpdate; refine wpList_putSI rfl _ _ _ rfl MB (5 + 1001 * t + j) f rfl HM3.out (by omega) K rfl (by omega) (g + m) rfl (by omega) ?_; intro w6 hm6 g6; rw [NX.out g HGV.out] at hm6; have HM6 := Lib.hid hm6; have HG6 := Lib.hid g6; clear hm6 g6))
                  have hPk6 := (HG6.out.block _ (lt_of_block HPK.out) (fun e => by simp at e; omega)).trans HPK.out
                  have HGJ := Lib.hid (gr_trans HG3.out HG6.out)
                  obtain ⟨_, _, ex1, -, -, cX, -⟩ := own_shape (HXM.out _ HGJ.out)
                  cases ex1
                  have HCX := Lib.hid cX
                  have HPK6 := Lib.hid hPk6
                  clear cX hPk6
                  refine (indexFunc_Lot _ ⟨wj.heap.size, 0, none⟩ (idIs K) X xa xc w6 HCX.out (by omega) goods1_fn (fun x _ W gW => goods1_any x K wj.heap.size W (blkC ((gW.block _ (lt_of_block HPK6.out) (by simp)).trans HPK6.out) 0 rfl))).mono ?_
                  rintro e w7 ⟨rfl, g7⟩
                  rw [HFX.out]
                  obtain ⟨xb, xoff, exa, x0, x1, x2, x3⟩ := lot_cells (HCX.out.keep0 g7) i0 hi0
                  subst exa
                  rw [HGET.out, ← HEX.out] at x2
                  have HM7 := Lib.hid (HM6.out.keep0 g7)
                  have HGJ7 := Lib.hid (gr_trans HGJ.out (gr_weak g7 (some MB)))
                  have hdl : decide (ex < lv) = false := decide_eq_false (by omega)
                  clear g7 x0 x1 x3
                  go_wp2_with (fail)
                  go_roundw
                  case rel => exact ⟨j + 1, ex, by omega, by go_num, rfl, by omega, fun h => HNEXT.out h, HM7.out, by rw [← HT.out]; exact HBJ.out, HGJ7.out⟩
                  case measure => simp [intOf]; omega
                · obtain rfl : j = Q.length := by omega
                  rw [List.take_length] at hmp hbn
                  have HMZ := Lib.hid (hmp.monoG (show 5 + 1001 * t + Q.length ≤ 5 + 1001 * (t + 1) by omega))
                  have HBZ := Lib.hid (hbn.mono (show 5 + 1001 * t + Q.length ≤ 5 + 1001 * (t + 1) by omega))
                  have HSZ := Lib.hid (HS12.out.keepNe hgr (fun b e => by cases e; omega))
                  have HGZ2 := Lib.hid (gr_grown HG12.out hgr (fun b e => by cases e; exact hMz))
                  have HCZ : Hid (∀ s, cntP (S ++ Q) s = cntP (allPs (ks.take (t + 1))) s) := fun s => by
                    rw [cntP_app, HSC.out, HALL.out, cntP_app, HK1.out]
                  clear hmp hbn hgr hup
                  go_wp2_with (fail)
                  go_roundw
                  case rel => exact ⟨t + 1, S ++ Q, by omega, by go_num, HCZ.out, HMZ.out, HBZ.out, HSZ.out, HGZ2.out⟩
                  case measure => simp [intOf]; omega
            · obtain rfl : t = 3 := by omega
              rw [List.take_of_length_le (by rw [HKL.out]; exact Nat.le_refl _)] at hSc
              obtain ⟨f, hf⟩ : ∃ f, f = addPs (fun _ => none) (lotsP L ++ S) := ⟨_, rfl⟩
              have HSUM : Hid (∀ k (h : k < X.length), (f X[k].id).getD 0 = X[k].many) := fun k h => by
                have := goods_sum HKP.out (lots_apart HLO.out) hSc k h
                rw [← hf, lotN_get h] at this
                exact this
              rw [← hf] at hmp
              have HMI := Lib.hid hmp
              have HXI := Lib.hid (own_keepS HX4.out hgr (by omega))
              have HGI : Hid (w.grownBy wi none) := gr_grown (gr_refl w none) (gr_trans (gr_weak HG4.out (some p)) hgr) (fun q e => by cases e; have := HPE.out; omega)
              clear hmp hbn hst hgr hSc hf
              go_wp2_with (fail)
              go_loopw [162] (fun i wr => ∃ k : Nat, k ≤ X.length ∧ i = .int .i64 k ∧ wi.grownBy wr none) (fun i _ => X.length - (intOf i).toNat)
              case atStart => exact ⟨0, Nat.zero_le _, rfl, gr_refl _ _⟩
              case round =>
                obtain ⟨k, hk, rfl, hgr⟩ := hrel
                obtain ⟨wz, rfl⟩ : ∃ wz : World, wz = wr := ⟨_, rfl⟩
                by_cases hltk : k < X.length
                · obtain ⟨_, _, ex1, -, -, cX, -⟩ := own_shape (own_keep0 HXI.out hgr)
                  cases ex1
                  obtain ⟨b, off, exa, d0, d1, d2, d3⟩ := lot_cells cX k hltk
                  subst exa
                  have hsm := HSUM.out k hltk
                  have hids := (HLO.out.all _ (List.getElem_mem hltk)).ids
                  obtain ⟨y, hy⟩ : ∃ y, y = X[k] := ⟨_, rfl⟩
                  rw [← hy] at d0 d1 d2 d3 hsm hids
                  obtain ⟨K, R, ex, m⟩ := y
                  simp only at d0 d1 d2 d3 hsm hids
                  have g3 := gr_alloc (gr_refl wz none) (.cells #[.string K, .string R, .int .i64 ex, .int .i64 m] 39)
                  have HM3 := Lib.hid ((HMI.out.keep0 hgr).keep0 g3)
                  have HSM := Lib.hid hsm
                  have HG := Lib.hid (gr_trans hgr g3)
                  have hbm : (m != m) = false := by simp
                  clear hy hsm hgr g3 cX
                  go_wp2_with (first
                    | (at_lookup; refine wpList_getSI rfl _ _ rfl MB (5 + 1001 * 3) f rfl HM3.out K rfl (by omega) ?_; rw [HSM.out])
                    | fail)
                  refine ⟨⟨_, _, _, _, _, _, _, _, _, _, _, _, _, _, ?rel, rfl⟩, ?measure⟩
                  case rel => exact ⟨k + 1, by omega, by go_num, HG.out⟩
                  case measure => simp [intOf]; omega
                · obtain rfl : k = X.length := by omega
                  have HGZ3 := Lib.hid (gr_trans HGI.out hgr)
                  have RD := Lib.hid (ready_any wz (HE.out.keep HGZ3.out))
                  clear hgr
                  go_wp2_with (fail)
                  refine RD.out.mono ?_
                  rintro e wy ⟨rfl, gy⟩
                  have HGY := Lib.hid (gr_trans HGZ3.out gy)
                  clear gy RD
                  go_wp2_with (fail)
                  go_ret
                  exact ⟨rfl, HGY.out⟩
end Go.Proofs.YtdminjijhpemkaaGreatDoor
