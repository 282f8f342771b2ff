/- The walk of StoresAddUp. -/
import Derived.Test.YtakabckmiodjaaaPkSBc
import Derived.Test.YtakabckmiodjaaaPkSBe
import Derived.Test.YtakabckmiodjaaaPkSAr
import Derived.Deep.CutBlock
namespace Go.Proofs.Ytakabckmiodjaaa
open Go.RowKit
attribute [local go_sem ↓] Go.wp_at_zero Go.wp_at_succ

set_option maxRecDepth 100000 in
theorem oneSt_any (l : List Int) (k : Nat) (xs : List ByteArray) (p lw : Nat) (W : World) (hs : StreamAt W p lw l k) (hk : k < 1000000000) (h0 : 0 < xs.length) (h1 : xs.length ≤ 1000) :
    Calls Try.prog 27 #[.pointer (some ⟨p, 0, none⟩), .slice (some ⟨W.heap.size, 0, none⟩) xs.length xs.length] (W.alloc (.cells (strs xs).toArray 9))
      fun e w' => e = .returned (.string (oneS l k xs)) ∧ StreamAt w' p lw l (k + 1) ∧ W.grownBy w' (some p) := by
  go_enter Try.func27, Try.ntmps27
  go_wp2_with (fail)
  refine (one_any l k xs p W hs hk h0 h1).mono ?_
  rintro e w1 ⟨rfl, h2, h3⟩
  go_wp2_with (fail)
  go_ret
  exact ⟨rfl, h2, h3⟩
/-- What holds between the law's calls. -/
structure StW (w wr : World) (S p lw : Nat) (l : List Int) (k mx mc mg Cb Gb : Nat) (X xs : List Lot) (Bs : List Nat) (P : Nat → ByteArray → Option Int) (C G : ByteArray → Option Int) : Prop where
  st : StoreM wr S S mx xs Bs P
  inv : StI X xs P G
  cm : MapIs wr Cb mc C
  gm : MapIs wr Gb mg G
  s : StreamAt wr p lw l k
  gr : w.grownBy wr none
variable {w wr w1 : World} {S p lw : Nat} {l : List Int} {k mx mc mg Cb Gb : Nat} {X xs : List Lot} {Bs : List Nat} {P : Nat → ByteArray → Option Int} {C G : ByteArray → Option Int}
theorem StW.keep0 (h : StW w wr S p lw l k mx mc mg Cb Gb X xs Bs P C G) (g : wr.grownBy w1 none) : StW w w1 S p lw l k mx mc mg Cb Gb X xs Bs P C G :=
  ⟨h.st.keep0 g, h.inv, h.cm.keep0 g, h.gm.keep0 g, h.s.keep0 g, gr_trans h.gr g⟩
theorem StW.draw {k' : Nat} (h : StW w wr S p lw l k mx mc mg Cb Gb X xs Bs P C G) (g : wr.grownBy w1 (some p)) (hp : p < S) (hwp : w.heap.size ≤ p) (hC : Cb ≠ p) (hG : Gb ≠ p) (hs : StreamAt w1 p lw l k') : StW w w1 S p lw l k' mx mc mg Cb Gb X xs Bs P C G :=
  ⟨h.st.keepS g hp, h.inv, h.cm.keep g (by simpa using hC), h.gm.keep g (by simpa using hG), hs, gr_grown h.gr g (fun q e => by cases e; exact hwp)⟩
theorem StW.op {mx' : Nat} {xs' : List Lot} {Q : Nat → ByteArray → Option Int} (h : StW w wr S p lw l k mx mc mg Cb Gb X xs Bs P C G) (g : Keep0 S Bs wr w1) (hp : p < S) (hwS : w.heap.size ≤ S) (hC : Cb ∉ Bs) (hG : Gb ∉ Bs) (hst : StoreM w1 S S mx' xs' Bs Q) (hi : StI X xs' Q G) : StW w w1 S p lw l k mx' mc mg Cb Gb X xs' Bs Q C G :=
  ⟨hst, hi, g.map h.cm hC, g.map h.gm hG, h.s.keepK g (by have := h.st.lt; omega) hp, g.1 w hwS h.gr⟩
set_option maxRecDepth 100000 in
set_option maxHeartbeats 8000000 in
theorem storesAddUp_any (l : List Int) (a : Option Addr) (cap : Nat) (w : World) (hc : CellsAt w a (ints l)) (hl : l.length ≤ 9223372036854775807) :
    Calls Try.prog 5 #[.slice a l.length cap] w fun e w' => e = .returned (.bool true) ∧ w.grownBy w' none := by
  have hs0 := StreamAt.made cap hc hl
  have hg0 := gr_alloc (gr_refl w none) (.cells #[.slice a l.length cap, .int .i64 0] 25)
  obtain ⟨w0, hw0⟩ : ∃ w0, w0 = w.alloc (.cells #[.slice a l.length cap, .int .i64 0] 25) := ⟨_, rfl⟩
  have hz0 : w0.heap.size = w.heap.size + 1 := by rw [hw0]; simp
  rw [← hw0] at hs0 hg0
  have HW0 := Lib.hid hw0
  have HS0 := Lib.hid hs0
  have HG0 := Lib.hid hg0
  have hmm := @run_makeMap Try.prog
  clear hw0 hc hs0 hg0
  go_enter Try.func5, Try.ntmps5
  go_wp2_with (fail)
  rw [← HW0.out]
  refine (newStoreX_any w0).mono ?_
  rintro e w1 ⟨rfl, st1, g1⟩
  have HST1 := Lib.hid st1
  have HG1 := Lib.hid g1
  obtain ⟨S, hS⟩ : ∃ S, S = w0.heap.size := ⟨_, rfl⟩
  obtain ⟨p, hp⟩ : ∃ p, p = w.heap.size := ⟨_, rfl⟩
  rw [← hS] at HST1
  rw [← hp] at HS0
  rw [← hS, ← hp]
  have hpS : p < S := by omega
  have HPE := Lib.hid hp
  have HZ0 := Lib.hid hz0
  have HSE := Lib.hid hS
  have hwp : w.heap.size ≤ p := by omega
  have hwS : w.heap.size ≤ S := by omega
  clear st1 g1 hz0 hS hp
  go_wp2_with (fail)
  have hcm := MapIs.made w1
  have hgm := MapIs.made (w1.alloc (.map #[] 0))
  have hcm := hcm.keep0 (gr_alloc (gr_refl _ none) (.map #[] 0))
  obtain ⟨w2, hw2⟩ : ∃ w2, w2 = (w1.alloc (.map #[] 0)).alloc (.map #[] 0) := ⟨_, rfl⟩
  have g2 : w1.grownBy w2 none := by rw [hw2]; exact gr_alloc (gr_alloc (gr_refl _ _) _) _
  have hz2 : w2.heap.size = w1.heap.size + 2 := by rw [hw2]; simp
  rw [← hw2] at hcm hgm
  rw [← hw2]
  rw [show (w1.alloc (.map #[] 0)).heap.size = w1.heap.size + 1 by simp] at hgm
  obtain ⟨Cb, hCb⟩ : ∃ b, b = w1.heap.size := ⟨_, rfl⟩
  rw [← hCb] at hcm hgm
  rw [← hCb]
  have hS1 : S < w1.heap.size := by obtain ⟨v, u, h1, -⟩ := (HST1.out 0).ex; exact lt_of_block h1
  have hCS : S < Cb := by omega
  have HCM := Lib.hid hcm
  have HGM := Lib.hid hgm
  have HS2 := Lib.hid ((HS0.out.keep0 HG1.out).keep0 g2)
  have HG2 := Lib.hid (gr_trans (gr_trans HG0.out HG1.out) g2)
  have HST2 : Hid (∀ base, StoreX w2 base S [] []) := fun base => (HST1.out base).keepR g2 (fun q e => by cases e)
  have hC2 : Cb + 1 < w2.heap.size := by omega
  clear hcm hgm g2 HST1 HG1 HG0 HS0 hmm hw2 hCb hz2 hS1
  have hLO := lotsM_ok l 0
  have hk1 : lotsK l 0 ≤ 100 := by have := (lotsTo_bd l 0 5).2; unfold lotsK; omega
  have hX5 : (lotsM l 0).length ≤ 5 := (lotsTo_bd l 0 5).1
  have LA := Lib.hid (lots_any l 0 p w2 HS2.out (by omega))
  obtain ⟨k1, hk1e⟩ : ∃ k1, k1 = lotsK l 0 := ⟨_, rfl⟩
  obtain ⟨X, hX⟩ : ∃ X, X = lotsM l 0 := ⟨_, rfl⟩
  unfold LotsPost at LA
  rw [← hk1e, ← hX] at LA
  rw [← hk1e] at hk1
  rw [← hX] at hLO hX5
  have HLO := Lib.hid hLO
  clear hk1e hX hLO
  go_wp2_with (fail)
  refine LA.out.mono ?_
  rintro e w3 ⟨v3, rfl, o3, s3, g3⟩
  obtain ⟨xa, xc, rfl, -, -, hxc, hxb⟩ := own_shape o3
  obtain ⟨rb, hrb⟩ : ∃ rb, rb = w3.heap.size := ⟨_, rfl⟩
  have hz3 := g3.size
  have HXB : Hid (∀ b off, xa = some ⟨b, off, none⟩ → b < rb ∧ b ≠ S ∧ b ≠ Cb) := fun b off e => by have := hxb b off e; omega
  have HP3 : Hid (PreM w3 rb S [] []) := ⟨(HST2.out rb).keepR g3 (fun q e => by cases e; omega), rfl, fun i b hb => by simp at hb, List.nodup_nil⟩
  have HCM3 := Lib.hid (HCM.out.keep g3 (by simp; omega))
  have HGM3 := Lib.hid (HGM.out.keep g3 (by simp; omega))
  have HG3 := Lib.hid (gr_grown HG2.out g3 (fun q e => by cases e; exact hwp))
  have HS3 := Lib.hid s3
  have HXC := Lib.hid hxc
  have hCrb : Cb + 1 < rb := by omega
  have hwrb : w.heap.size ≤ rb := by omega
  have hrbw : rb ≤ w3.heap.size := by omega
  have HRB := Lib.hid hrb
  clear o3 s3 g3 hxc LA HCM HGM HS2 HG2 HST2 hxb hz3 hC2 hrb
  go_wp2_with (fail)
  go_loopw [33] (fun i wr => ∃ (k : Nat) (Bs : List Nat) (C : ByteArray → Option Int), k ≤ X.length ∧ i = .int .i64 k ∧ PreM wr rb S (X.take k) Bs ∧ MapIs wr Cb k C ∧ (∀ i, i < k → (C (lotN X i).id).getD 0 = (lotN X i).many) ∧ Fr3 rb S Cb w3 wr ∧ rb ≤ wr.heap.size ∧ w.grownBy wr none) (fun i _ => X.length - (intOf i).toNat)
  case atStart => exact ⟨0, [], _, Nat.zero_le _, rfl, HP3.out, HCM3.out, (fun i hi => by omega), Fr3.refl _ _ _ _, hrbw, HG3.out⟩
  case round =>
    clear HP3 HCM3 HG3 hrbw
    obtain ⟨k, Bs, C, hk, rfl, hpre, hcm, hC, hfr, hzr, hgr⟩ := hrel
    obtain ⟨wo, rfl⟩ : ∃ wo : World, wo = wr := ⟨_, rfl⟩
    by_cases hlt : k < X.length
    · obtain ⟨b, off, rfl, d0, d1, d2, d3⟩ := lot_cells (hfr.cells HXC.out HXB.out) k hlt
      have hTK : ∀ W : World, wo.grownBy W none → _ := fun W g => takeX_any (X.take k) X[k] rb S (Bs.map mapV) W ((hpre.keepR g (fun q e => by cases e)).st) _ (hpre.st.notStore g (Nat.le_refl _) (by obtain ⟨v, u, h1, -⟩ := hpre.st.ex; have := lt_of_block h1; omega)) (Nat.le_trans hzr g.size) (HLO.out.all _ (List.getElem_mem hlt)) (HLO.out.lt k hlt) (by simp; omega)
      have hCn : ∀ i, i < k + 1 → ((fun t => if t = X[k].id then some X[k].many else C t) (lotN X i).id).getD 0 = (lotN X i).many := fun i hi => by
        by_cases hik : i = k
        · subst hik
          simp only [lotN_get hlt, if_true]; rfl
        · have : (lotN X i).id ≠ X[k].id := fun e => hik (lots_apart HLO.out i k (by omega) hlt (by rw [lotN_get hlt]; exact e))
          simp only [if_neg this]
          exact hC i (by omega)
      have hXs := (HLO.out.all _ (List.getElem_mem hlt)).ids
      have hXm := (HLO.out.all _ (List.getElem_mem hlt)).m0
      have hXm1 := (HLO.out.all _ (List.getElem_mem hlt)).m1
      obtain ⟨x, hx⟩ : ∃ x, x = X[k] := ⟨_, rfl⟩
      rw [← hx] at d0 d1 d2 d3 hTK hCn hXs hXm hXm1
      have HTK := Lib.hid hTK
      have HGR := Lib.hid hgr
      have HCN := Lib.hid hCn
      have HPRE := Lib.hid hpre
      have HCM := Lib.hid hcm
      have HFR := Lib.hid hfr
      have HX := Lib.hid hx
      clear hx hTK hgr hCn hpre hcm hfr hC
      have gL := gr_alloc (gr_refl wo none) (.cells #[.string x.id, .string x.prod, .int .i64 x.exp, .int .i64 x.many] 69)
      have hL := heap_alloc_new wo (.cells #[.string x.id, .string x.prod, .int .i64 x.exp, .int .i64 x.many] 69)
      have HGL := Lib.hid gL
      have HLB := Lib.hid hL
      clear gL hL
      go_wp2_with (fail)
      refine (HTK.out _ HGL.out).mono ?_
      rintro e w5 ⟨rfl, ⟨b5, st5, mp5, hb5, ms5⟩, g5⟩
      have hpre5 := (HPRE.out.keepR HGL.out (fun q e => by cases e)).take st5 mp5 hb5 ms5 (Nat.le_trans hzr (Nat.le_trans HGL.out.size hb5))
      rw [HX.out, ← take_next X k hlt] at hpre5
      have HPRE5 := Lib.hid hpre5
      obtain ⟨es, cl, hob⟩ := HCM.out.obj
      have hlb := lt_of_block hob
      have hcm5 : MapIs w5 Cb k C := HCM.out.of_block ((ms5.1 Cb es cl ((HGL.out.block Cb hlb (by simp)).trans hob)).trans hob.symm)
      have HCM5 := Lib.hid hcm5
      have HFR5 := Lib.hid ((HFR.out.trans (.of HGL.out (fun q e => by cases e))).trans (.ofM ms5 (fun c h1 h2 => .inl ⟨h1, h2⟩)))
      have HG5 := Lib.hid (g5 w (by omega) hwS (gr_trans HGR.out HGL.out))
      have hlb5 := ms5.2 _ _ (.inr rfl) HLB.out
      have l0 : w5.cell? ⟨wo.heap.size, 0, none⟩ = some (.string x.id) := blkC hlb5 0 rfl
      have l3 : w5.cell? ⟨wo.heap.size, 3, none⟩ = some (.int .i64 x.many) := blkC hlb5 3 rfl
      have hz5 : rb ≤ w5.heap.size := Nat.le_trans hzr (Nat.le_trans HGL.out.size (Nat.le_trans hb5 (Nat.le_of_lt mp5.lt)))
      clear hpre5 hob hlb hcm5 hlb5 HTK HPRE HCM HFR HGR st5 mp5 hb5 ms5 g5 es cl
      go_wp2_with (first
        | (at_mapUpdate; refine wpList_putSI rfl _ _ _ rfl Cb k C rfl HCM5.out (by omega) x.id rfl (by omega) x.many rfl (by omega) ?_; intro w7 hm7 g7; have HM7 := Lib.hid hm7; have HPRE7 := Lib.hid (HPRE5.out.keepR g7 (fun q e => by cases e; omega)); have HFR7 := Lib.hid (HFR5.out.trans (.of g7 (fun q e => by cases e; rfl))); have HG7 := Lib.hid (gr_grown HG5.out g7 (fun q e => by cases e; omega)); have hz7 : rb ≤ w7.heap.size := Nat.le_trans hz5 g7.size; clear hm7 g7))
      go_roundw
      case rel => exact ⟨k + 1, _, _, by omega, by go_num, HPRE7.out, HM7.out, HCN.out, HFR7.out, hz7, HG7.out⟩
      case measure => simp [intOf]; omega
    · obtain rfl : k = X.length := by omega
      rw [List.take_length] at hpre
      have hrS : S ≤ rb := by omega
      have HCNB : Hid (Cb ∉ Bs ∧ Cb + 1 ∉ Bs) := ⟨fun hb => by obtain ⟨i, hi⟩ := List.getElem?_of_mem hb; have := (hpre.maps i _ hi).1; omega, fun hb => by obtain ⟨i, hi⟩ := List.getElem?_of_mem hb; have := (hpre.maps i _ hi).1; omega⟩
      have HX : Hid (StW w wo S p p l k1 0 X.length 0 Cb (Cb + 1) X X Bs (fun _ _ => none) C (fun _ => none)) := by
        refine ⟨hpre.full hrS, StI.start (fun i hi => by rw [lotN_get hi]; exact (HLO.out.all _ (List.getElem_mem hi)).m0), hcm, HGM3.out.of_block (hfr.blk (by omega) (by omega) (by omega) HGM3.out.lt), ?_, hgr⟩
        refine HS3.out.frS (hfr.blk (by omega) (by omega) (by omega) HS3.out.lt) (fun b hb => hfr.blk (by omega) (by omega) (by omega) (by have := HS3.out.lt; omega))
      have HCC := Lib.hid hC
      clear hpre hcm hC hfr hzr hgr HXB HXC HGM3 HS3 hCrb hwrb HRB
      have NXT := Lib.hid (next_any l k1 14 p wo HX.out.s (by omega) (by decide))
      have hr14 := nxt_range l k1 14 (by decide)
      obtain ⟨n, hn⟩ : ∃ n : Nat, (n : Int) = nxt l k1 14 := ⟨(nxt l k1 14).toNat, by omega⟩
      rw [← hn] at NXT hr14
      have hn13 : n ≤ 13 := by omega
      have hXm : ∀ i, i < X.length → (lotN X i).many ≤ 100000 := fun i hi => by rw [lotN_get hi]; exact (HLO.out.all _ (List.getElem_mem hi)).m1
      have HXM := Lib.hid hXm
      have HAP := Lib.hid (lots_apart HLO.out)
      have hidS : ∀ i, i < X.length → (lotN X i).id.size ≤ 1000 := fun i hi => by rw [lotN_get hi]; exact (HLO.out.all _ (List.getElem_mem hi)).ids
      have HIDS := Lib.hid hidS
      clear hn hr14 hXm hidS
      go_wp2_with (fail)
      refine NXT.out.mono ?_
      rintro e w4 ⟨rfl, s4, g4⟩
      have HX4 := Lib.hid (HX.out.draw g4 hpS hwp (by omega) (by omega) s4)
      clear s4 g4 NXT HX
      go_wp2_with (fail)
      go_loopw [49] (fun i wr => ∃ (t : Nat) (xs : List Lot) (P : Nat → ByteArray → Option Int) (G : ByteArray → Option Int) (kq mg : Nat), t ≤ n ∧ i = .int .i64 t ∧ StW w wr S p p l kq (20 * t) X.length mg Cb (Cb + 1) X xs Bs P C G ∧ kq ≤ 200 + 20 * t ∧ mg ≤ 10 * t ∧ ∀ s, (G s).getD 0 ≤ 400000 * (t : Int)) (fun i _ => n - (intOf i).toNat)
      case atStart => exact ⟨0, X, _, _, _, 0, Nat.zero_le _, rfl, HX4.out, by omega, by omega, fun s => by simp⟩
      case round =>
        clear HX4
        obtain ⟨t, xs, P, G, kq, mg, ht, rfl, hw, hkq, hmg, hgb⟩ := hrel
        have HGB := Lib.hid hgb
        clear hgb
        obtain ⟨wo, rfl⟩ : ∃ wo : World, wo = wr := ⟨_, rfl⟩
        have HW := Lib.hid hw
        clear hw
        by_cases htn : t < n
        · have ONE : Hid (Calls Try.prog 27 #[.pointer (some ⟨p, 0, none⟩), .slice (some ⟨wo.heap.size, 0, none⟩) 2 2] (wo.alloc (.cells #[.string { data := #[120] }, .string { data := #[121] }] 9)) fun e w' => e = .returned (.string (oneS l kq [⟨#[120]⟩, ⟨#[121]⟩])) ∧ StreamAt w' p p l (kq + 1) ∧ wo.grownBy w' (some p)) :=
            oneSt_any l kq [⟨#[120]⟩, ⟨#[121]⟩] p p wo HW.out.s (by omega) (by decide) (by decide)
          have hplm := oneS_mem l kq [⟨#[120]⟩, ⟨#[121]⟩] (by decide)
          obtain ⟨pl, hpl⟩ : ∃ pl, pl = oneS l kq [⟨#[120]⟩, ⟨#[121]⟩] := ⟨_, rfl⟩
          rw [← hpl] at ONE hplm
          have HPL : Hid (pl = xS ∨ pl = yS) := by
            simp only [List.mem_cons, List.not_mem_nil, or_false] at hplm
            exact hplm
          have hpk : keyB pl = true ∧ pl.size ≤ 1000 := by
            rcases HPL.out with h | h <;> rw [h]
            · exact ⟨by kernel_rfl, by decide⟩
            · exact ⟨by kernel_rfl, by decide⟩
          obtain ⟨hpk1, hpk2⟩ := hpk
          have HPK1 := Lib.hid hpk1
          clear hpl hplm hpk1
          go_wp2_with (fail)
          refine ONE.out.mono ?_
          rintro e w5 ⟨rfl, s5, g5⟩
          have HW5 := Lib.hid (HW.out.draw g5 hpS hwp (by omega) (by omega) s5)
          have NX3 := Lib.hid (next_any l (kq + 1) 3 p w5 s5 (by omega) (by decide))
          have hr3 := nxt_range l (kq + 1) 3 (by decide)
          obtain ⟨r3, hr3e⟩ : ∃ r, r = nxt l (kq + 1) 3 := ⟨_, rfl⟩
          rw [← hr3e] at NX3 hr3
          clear s5 g5 ONE HW hr3e
          go_wp2_with (fail)
          refine NX3.out.mono ?_
          rintro e w6 ⟨rfl, s6, g6⟩
          have HW6 := Lib.hid (HW5.out.draw g6 hpS hwp (by omega) (by omega) s6)
          clear s6 g6 NX3 HW5
          have hxl := HW6.out.inv.len
          have HXL := Lib.hid hxl
          have hx5 : xs.length ≤ 5 := by omega
          have hap : Apart xs := fun i j hi hj e => HAP.out i j (by omega) (by omega) (by rw [← (HW6.out.inv.same i (by omega)).1, ← (HW6.out.inv.same j (by omega)).1]; exact e)
          have HAPX := Lib.hid hap
          have hlb : ∀ i, i < xs.length → 0 ≤ (lotN xs i).many ∧ (lotN xs i).many ≤ 100000 := fun i hi => (HW6.out.inv.bd HXM.out i (by omega)).1
          have HLBD := Lib.hid hlb
          have hpb : ∀ i : Nat, i < xs.length → 0 ≤ (P i pl).getD 0 ∧ (P i pl).getD 0 ≤ 1000000 := fun i hi => by
            obtain ⟨-, -, h3, h4⟩ := HW6.out.inv.bd HXM.out i (by omega)
            rcases HPL.out with e | e <;> rw [e] <;> omega
          have HPB := Lib.hid hpb
          clear hxl hap hlb hpb
          go_upto_block 4 with (fail)
          go_cut [10, 11, 12, 13, 14] from 56 to 98 (fun _ _ _ _ _ wx => ∃ (xs : List Lot) (P : Nat → ByteArray → Option Int) (G : ByteArray → Option Int) (kq mg : Nat), StW w wx S p p l kq (20 * (t + 1)) X.length mg Cb (Cb + 1) X xs Bs P C G ∧ kq ≤ 200 + 20 * (t + 1) ∧ mg ≤ 10 * (t + 1) ∧ ∀ s, (G s).getD 0 ≤ 400000 * ((t + 1 : Nat) : Int))
          case first =>
            by_cases h0 : r3 = 0
            · subst h0
              have NX6 := Lib.hid (next_any l (kq + 1 + 1) 6 p w6 HW6.out.s (by omega) (by decide))
              have hr6 := nxt_range l (kq + 1 + 1) 6 (by decide)
              obtain ⟨m, hm⟩ : ∃ m, m = nxt l (kq + 1 + 1) 6 := ⟨_, rfl⟩
              rw [← hm] at NX6 hr6
              clear hm hr3
              go_wp2_with (fail)
              refine NX6.out.mono ?_
              rintro e w7 ⟨rfl, s7, g7⟩
              have HW7 := Lib.hid (HW6.out.draw g7 hpS hwp (by omega) (by omega) s7)
              have SE := Lib.hid (send_any (pl := pl) m Bs S S (20 * t) w7 HW7.out.st hx5 HLBD.out HAPX.out HPK1.out hpk2 ⟨hr6.1, by omega⟩ HPB.out (by omega))
              clear s7 g7 NX6 HW6
              go_wp2_with (fail)
              refine SE.out.mono ?_
              rintro e w8 ⟨pv, r, xs', Q, rfl, hr, hst, hrel, hkp⟩
              have HW8 := Lib.hid (HW7.out.op hkp hpS hwS HCNB.out.1 HCNB.out.2 hst (HW7.out.inv.move HPL.out (hrel.move (fun i hi => (HPB.out i hi).1))))
              clear hst hrel hkp SE HW7
              rcases hr with rfl | rfl
              · go_wp2_with (fail)
                go_meet
                exact ⟨xs', Q, G, _, mg, HW8.out, by omega, by omega, fun s => by have := HGB.out s; omega⟩
              · go_wp2_with (fail)
                go_meet
                exact ⟨xs', Q, G, _, mg, HW8.out, by omega, by omega, fun s => by have := HGB.out s; omega⟩
            · have hb0 : (r3 == 0) = false := by simpa using h0
              have PCA := Lib.hid (pieces_any l (kq + 1 + 1) p w6 HW6.out.s (by omega))
              unfold PcsPost at PCA
              have hps := pcsM_sm l (kq + 1 + 1)
              have hpn := pcsM_len l (kq + 1 + 1)
              have hpk3 := pcsK_le l (kq + 1 + 1)
              obtain ⟨k3, hk3⟩ : ∃ k3, k3 = pcsK l (kq + 1 + 1) := ⟨_, rfl⟩
              obtain ⟨ps, hpse⟩ : ∃ ps, ps = pcsM l (kq + 1 + 1) := ⟨_, rfl⟩
              rw [← hk3, ← hpse] at PCA
              rw [← hpse] at hps hpn
              rw [← hk3] at hpk3
              have HPS := Lib.hid hps
              clear hk3 hpse hps
              by_cases h1 : r3 = 1
              · subst h1
                clear hr3 hb0 h0
                go_wp2_with (fail)
                refine PCA.out.mono ?_
                rintro e w7 ⟨pv, rfl, o7, s7, g7⟩
                obtain ⟨pa, pc, rfl, -, -, hpc, -⟩ := own_shape o7
                have HW7 := Lib.hid (HW6.out.draw g7 hpS hwp (by omega) (by omega) s7)
                have RE := Lib.hid (return_any (pl := pl) (ps := ps) Bs S S (20 * t) pa pc w7 HW7.out.st hx5 HAPX.out HPK1.out hpk2 hpc HPS.out (by omega) HLBD.out HPB.out (by omega))
                clear o7 s7 g7 hpc PCA HW6
                go_wp2_with (fail)
                refine RE.out.mono ?_
                rintro e w8 ⟨⟨r, rfl⟩, xs', Q, hst, hrel, hkp⟩
                have HW8 := Lib.hid (HW7.out.op hkp hpS hwS HCNB.out.1 HCNB.out.2 hst (HW7.out.inv.move HPL.out hrel))
                clear hst hrel hkp RE HW7
                go_wp2_with (fail)
                go_meet
                exact ⟨xs', Q, G, _, mg, HW8.out, by omega, by omega, fun s => by have := HGB.out s; omega⟩
              · have hb1 : (r3 == 1) = false := by simpa using h1
                go_wp2_with (fail)
                refine PCA.out.mono ?_
                rintro e w7 ⟨pv, rfl, o7, s7, g7⟩
                obtain ⟨pa, pc, rfl, -, -, hpc, -⟩ := own_shape o7
                have HW7 := Lib.hid (HW6.out.draw g7 hpS hwp (by omega) (by omega) s7)
                have WA := Lib.hid (waste_any (pl := pl) (ps := ps) Bs S S (20 * t) pa pc w7 HW7.out.st hx5 HAPX.out HPK1.out hpk2 hpc HPS.out (by omega) HPB.out (by omega))
                have HPC7 := Lib.hid hpc
                clear o7 s7 g7 hpc PCA HW6
                go_wp2_with (fail)
                refine WA.out.mono ?_
                rintro e w8 ⟨r, rfl, Q, hst, hrel, hkp, hcs⟩
                have HPC8 := Lib.hid (hcs.cells HPC7.out)
                rcases hrel with ⟨hr0, rfl⟩ | ⟨rfl, f, hbk⟩
                · have HW8 := Lib.hid (HW7.out.op hkp hpS hwS HCNB.out.1 HCNB.out.2 hst HW7.out.inv)
                  have hrr : (r == 0) = false := by simpa using hr0
                  clear hst hkp hcs hr0 WA HW7 HPC8 HPC7
                  go_wp2_with (fail)
                  go_meet
                  exact ⟨xs, Q, G, _, mg, HW8.out, by omega, by omega, fun s => by have := HGB.out s; omega⟩
                · have HST8 := Lib.hid hst
                  have HBK := Lib.hid hbk
                  have HC8 := Lib.hid (hkp.map HW7.out.cm HCNB.out.1)
                  have HG8 := Lib.hid (hkp.map HW7.out.gm HCNB.out.2)
                  have HS8 := Lib.hid (HW7.out.s.keepK hkp (by have := HW7.out.st.lt; omega) hpS)
                  have HGR8 := Lib.hid (hkp.1 w hwS HW7.out.gr)
                  have HINV := Lib.hid HW7.out.inv
                  have hul := units_lenB ps (fun x hx => ⟨hbk.pos x hx, (HPS.out.all x hx).2.2⟩)
                  have KU := Lib.hid (keepUnits_any ps pa pc w8 HPC8.out (by omega) (fun x hx => ⟨HBK.out.pos x hx, (HPS.out.all x hx).2.2, (HPS.out.all x hx).1⟩) (by omega))
                  clear hst hbk hkp hcs WA HW7 HPC8 HPC7
                  go_wp2_with (fail)
                  refine KU.out.mono ?_
                  rintro e w9 ⟨rfl, um, g9⟩
                  have hz89 := g9.size
                  have HUM := Lib.hid um
                  have HST9 := Lib.hid (HST8.out.keep0 g9)
                  have HC9 := Lib.hid (HC8.out.keep0 g9)
                  have HG9 := Lib.hid (HG8.out.keep0 g9)
                  have HS9 := Lib.hid (HS8.out.keep0 g9)
                  have HGR9 := Lib.hid (gr_trans HGR8.out g9)
                  obtain ⟨U, hU⟩ : ∃ U, U = w8.heap.size := ⟨_, rfl⟩
                  have hUC : Cb ≠ U ∧ Cb + 1 ≠ U ∧ S ≠ U ∧ p ≠ U := by have h1 := HC8.out.lt; have h2 := HG8.out.lt; have h3 := HST8.out.lt; omega
                  have hUS : S ≤ U := by have h3 := HST8.out.lt; omega
                  rw [← hU] at HUM
                  rw [← hU]
                  obtain ⟨uf, huf⟩ : ∃ uf, uf = cntU (unitsL ps) := ⟨_, rfl⟩
                  rw [← huf] at HUM
                  have HUF := Lib.hid huf
                  have HUB : Hid (∀ s x, uf s = some x → 0 ≤ x ∧ x ≤ 400000 ∧ s.size ≤ 1000) := fun s x h => by
                    rw [HUF.out] at h
                    have h1 := cntU_bd (unitsL ps) s
                    rw [h] at h1
                    have h2 : s ∈ unitsL ps := by
                      unfold cntU at h
                      split at h
                      · rename_i hh
                        unfold cntN at hh
                        obtain ⟨y, hy⟩ := List.exists_mem_of_length_pos hh
                        have := List.mem_filter.1 hy
                        simp at this
                        rw [← this.2]; exact this.1
                      · cases h
                    unfold unitsL at h2
                    obtain ⟨q, hq, hq2⟩ := List.mem_flatMap.1 h2
                    rw [List.mem_replicate] at hq2
                    rw [hq2.2]
                    have := (HPS.out.all q hq).1
                    simp at h1
                    omega
                  clear um g9 KU HST8 HC8 HG8 HS8 HGR8 hU huf hul hz89
                  go_wp2_with (first | (at_range; refine wpList_rangeSI rfl _ rfl U ps.length uf rfl HUM.out ?_; intro w10 left cnt hr hleft g10 hz10))
                  go_frame
                  have HR10 := Lib.hid hr
                  have hcn := hr.le
                  have HST10 := Lib.hid (HST9.out.keep0 g10)
                  have HC10 := Lib.hid (HC9.out.keep0 g10)
                  have HG10 := Lib.hid (HG9.out.keep0 g10)
                  have HS10 := Lib.hid (HS9.out.keep0 g10)
                  have HGR10 := Lib.hid (gr_trans HGR9.out g10)
                  have HGO : Hid (GoneS G G uf left) := GoneS.start hleft
                  obtain ⟨ib, hib⟩ : ∃ b, b = w9.heap.size := ⟨_, rfl⟩
                  have hibC : Cb ≠ ib ∧ Cb + 1 ≠ ib ∧ S ≠ ib ∧ p < ib ∧ S ≤ ib := by have h1 := HC9.out.lt; have h2 := HG9.out.lt; have h3 := HST9.out.lt; omega
                  rw [← hib] at HR10
                  rw [← hib]
                  clear hr hleft g10 hz10 hib HST9 HC9 HG9 HS9 HGR9 HUM
                  go_loopw [66] (fun _ wr => ∃ left cnt H my, RangeIs wr U ib ps.length uf left cnt ∧ StoreM wr S S (20 * t + 20) xs Bs Q ∧ MapIs wr Cb X.length C ∧ MapIs wr (Cb + 1) my H ∧ GoneS G H uf left ∧ my + cnt ≤ mg + 4 ∧ StreamAt wr p p l k3 ∧ w.grownBy wr none) (fun _ wr => wr.rangeLeft U ib)
                  case atStart => exact ⟨_, _, G, mg, HR10.out, HST10.out, HC10.out, HG10.out, HGO.out, by omega, HS10.out, HGR10.out⟩
                  case round =>
                    clear HR10 HST10 HC10 HG10 HS10 HGR10 HGO
                    obtain ⟨left, cnt, H, my, hr, hst, hcm, hgm, hgo, hmy, hs, hgr⟩ := hrel
                    obtain ⟨wi, rfl⟩ : ∃ wi : World, wi = wr := ⟨_, rfl⟩
                    have HST := Lib.hid hst
                    have HCM := Lib.hid hcm
                    have HGM := Lib.hid hgm
                    have HGO := Lib.hid hgo
                    have HS := Lib.hid hs
                    have HGR := Lib.hid hgr
                    clear hst hcm hgm hgo hs hgr
                    go_wp2_with (first | (at_next; refine wpList_nextSI rfl _ rfl U ib ps.length uf left cnt rfl hr ?_ ?_))
                    · intro hdone
                      have hfin := (HUF.out ▸ HGO.out : GoneS G H (cntU (unitsL ps)) left).done HBK.out.pos hdone
                      have HW11 : Hid (StW w wi S p p l k3 (20 * (t + 1)) X.length my Cb (Cb + 1) X xs Bs Q C H) :=
                        ⟨HST.out.up (by omega), HINV.out.waste HPL.out HBK.out hfin (fun s => cntP_pos ps HBK.out.pos s), HCM.out, HGM.out, HS.out, HGR.out⟩
                      have HFB : Hid (∀ s, (H s).getD 0 ≤ 400000 * ((t + 1 : Nat) : Int)) := fun s => by
                        have h1 := hfin s
                        have h2 := HGB.out s
                        have h3 := (cntP_bd ps 100000 (fun q hq => ⟨by have := HBK.out.pos q hq; omega, (HPS.out.all q hq).2.2⟩) s (by decide)).2
                        omega
                      clear hr hdone hfin
                      go_wp2_with (fail)
                      go_meet
                      exact ⟨xs, Q, H, k3, my, HW11.out, by omega, by omega, HFB.out⟩
                    · intro s x w22 cnt' hfs hl2 hr22 hlt g22 hz22 hen
                      obtain ⟨hx0, hx1, hxs⟩ := HUB.out s x hfs
                      obtain ⟨im, ia, isn, ic, hio⟩ := hr.iter
                      have hHb : 0 ≤ (H s).getD 0 ∧ (H s).getD 0 ≤ 10000000 := by
                        have h1 := HGO.out s
                        rw [hl2, if_pos rfl] at h1
                        have h2 := HINV.out.g0 s
                        have h3 := HGB.out s
                        omega
                      have HGN := Lib.hid (HGO.out.next hfs hl2)
                      obtain ⟨y, hy⟩ : ∃ y, y = (H s).getD 0 := ⟨_, rfl⟩
                      rw [← hy] at HGN hHb
                      have hwr : IntKind.i64.wrap (y + x) = y + x := IntWalk.i64_in _ (by omega)
                      have HY := Lib.hid hy
                      have HR22 := Lib.hid hr22
                      have HRo := Lib.hid hr
                      have HLT := Lib.hid hlt
                      have HST2 := Lib.hid (HST.out.keepI g22 hio)
                      have HCM2 := Lib.hid (HCM.out.keep g22 (by simp; omega))
                      have HGM2 := Lib.hid (HGM.out.keep g22 (by simp; omega))
                      have HS2 := Lib.hid (HS.out.keep g22 (fun q e => by cases e; omega))
                      have HGR2 := Lib.hid (gr_grown HGR.out g22 (fun q e => by cases e; omega))
                      clear hfs hl2 hlt g22 hz22 hr hr22 hio hy HST HCM HGM HGO HS HGR
                      go_wp2_with (first
                        | (at_lookup; refine wpList_getSI rfl _ _ rfl (Cb + 1) my H rfl HGM2.out s rfl (by omega) ?_; rw [← HY.out])
                        | (at_mapUpdate; refine wpList_putSI rfl _ _ _ rfl (Cb + 1) my H rfl HGM2.out (by omega) s rfl (by omega) (y + x) rfl (by omega) ?_; intro w7 hm7 g7; have HM7 := Lib.hid hm7; have HG7 := Lib.hid g7; clear hm7 g7))
                      have hmyx : my + 1 + cnt' ≤ mg + 4 := by have := HLT.out; omega
                      obtain ⟨es, cl, hgo⟩ := HGM2.out.obj
                      have HST7 : Hid (StoreM w7 S S (20 * t + 20) xs Bs Q) := HST2.out.keepM HG7.out hgo HCNB.out.2
                      have HR7 := Lib.hid (HR22.out.keep HG7.out (by simp; omega) (by simp; omega))
                      have HCM7 := Lib.hid (HCM2.out.keep HG7.out (by simp))
                      have HS7 := Lib.hid (HS2.out.keep HG7.out (fun q e => by cases e; omega))
                      have HGR7 := Lib.hid (gr_grown HGR2.out HG7.out (fun q e => by cases e; omega))
                      clear hgo
                      go_roundw
                      case rel => ((repeat apply Exists.intro); exact ⟨⟨_, cnt', _, my + 1, HR7.out, HST7.out, HCM7.out, HM7.out, HGN.out, hmyx, HS7.out, HGR7.out⟩, rfl⟩)
                      case measure => rw [HR7.out.left, HRo.out.left]; exact HLT.out
          case rest =>
            obtain ⟨xs2, P2, G2, k2, mg2, hw2, hkq2, hmg2, hgb2⟩ := hcut
            obtain ⟨wd, rfl⟩ : ∃ wd : World, wd = wc := ⟨_, rfl⟩
            have hxl2 := hw2.inv.len
            have HXL2 := Lib.hid hxl2
            have LOT := Lib.hid (lotsOf_any xs2 S S wd hw2.st.at (by omega))
            have HW2 := Lib.hid hw2
            have HGB2 := Lib.hid hgb2
            have hx52 : xs2.length ≤ 5 := by omega
            clear hw2 hgb2 hxl2 HW6 HXL HAPX HLBD HPB HGB
            go_wp2_with (fail)
            refine LOT.out.mono ?_
            rintro e w12 ⟨v12, rfl, o12, g12⟩
            obtain ⟨ya, yc, rfl, -, -, hyc, -⟩ := own_shape o12
            have HYC := Lib.hid hyc
            have HW12 := Lib.hid (HW2.out.keep0 g12)
            have hap2 : Apart xs2 := fun i j hi hj e => HAP.out i j (by have := HXL2.out; omega) (by have := HXL2.out; omega) (by rw [← (HW2.out.inv.same i (by have := HXL2.out; omega)).1, ← (HW2.out.inv.same j (by have := HXL2.out; omega)).1]; exact e)
            have HAP2 := Lib.hid hap2
            clear o12 g12 hyc LOT HW2 hap2
            go_wp2_with (fail)
            go_loopw [102] (fun i wr => ∃ j : Nat, j ≤ xs2.length ∧ i = .int .i64 j ∧ w12.grownBy wr none) (fun i _ => xs2.length - (intOf i).toNat)
            case atStart => exact ⟨0, Nat.zero_le _, rfl, gr_refl _ _⟩
            case round =>
              obtain ⟨j, hj, rfl, hgj⟩ := hrel
              obtain ⟨wj, rfl⟩ : ∃ wj : World, wj = wr := ⟨_, rfl⟩
              by_cases hjl : j < xs2.length
              · obtain ⟨b, off, rfl, d0, d1, d2, d3⟩ := lot_cells (HYC.out.keep0 hgj) j hjl
                have hjX : j < X.length := by have := HXL2.out; omega
                have hidK : (lotN xs2 j).id = xs2[j].id := by rw [lotN_get hjl]
                have hidX : (lotN X j).id = xs2[j].id := by rw [← (HW12.out.inv.same j hjX).1]; exact hidK
                have hsum := HW12.out.inv.sum j hjX
                have hbdj := HW12.out.inv.bd HXM.out j hjX
                have hks := HIDS.out j hjX
                have hcam := HCC.out j hjX
                rw [hidX] at hsum hbdj hks hcam
                rw [lotN_get hjl] at hsum hbdj
                obtain ⟨x, hx⟩ : ∃ x, x = xs2[j] := ⟨_, rfl⟩
                rw [← hx] at d0 d1 d2 d3 hidK hsum hbdj hks hcam
                obtain ⟨K, R, E, M⟩ := x
                simp only at d0 d1 d2 d3 hidK hsum hbdj hks hcam
                have gL := gr_alloc (gr_refl wj none) (.cells #[.string K, .string R, .int .i64 E, .int .i64 M] 69)
                have hL := heap_alloc_new wj (.cells #[.string K, .string R, .int .i64 E, .int .i64 M] 69)
                obtain ⟨w13, hw13⟩ : ∃ w13, w13 = wj.alloc (.cells #[.string K, .string R, .int .i64 E, .int .i64 M] 69) := ⟨_, rfl⟩
                rw [← hw13] at gL hL
                have g13 := gr_trans hgj gL
                have WH := Lib.hid (where_any Bs S S (20 * (t + 1)) w13 (HW12.out.st.keep0 g13) hx52 HAP2.out j hjl K hidK (fun s v h => HW12.out.inv.pk j s v hjX h))
                obtain ⟨px, hpx⟩ : ∃ y, y = (P2 j xS).getD 0 := ⟨_, rfl⟩
                obtain ⟨py, hpy⟩ : ∃ y, y = (P2 j yS).getD 0 := ⟨_, rfl⟩
                obtain ⟨gk, hgk⟩ : ∃ y, y = (G2 K).getD 0 := ⟨_, rfl⟩
                obtain ⟨mk, hmk⟩ : ∃ y, y = (lotN X j).many := ⟨_, rfl⟩
                rw [← hpx, ← hpy] at WH hsum hbdj
                rw [← hgk] at hsum hbdj
                rw [← hmk] at hsum hcam
                have HGK := Lib.hid hgk
                have HCAM := Lib.hid hcam
                have HSUM := Lib.hid hsum
                have HW13 := Lib.hid hw13
                have HL := Lib.hid hL
                have HG13 := Lib.hid g13
                obtain ⟨⟨hb1, hb2⟩, ⟨hb3, hb4⟩, ⟨hb5, hb6⟩, hb7, hb8⟩ := hbdj
                clear hx hidK hidX hsum hcam gL hL hw13 g13 hgj hpx hpy hgk hmk
                go_wp2_with (fail)
                rw [← HW13.out]
                refine WH.out.mono ?_
                rintro e w14 ⟨v14, O, rfl, o14, hO2, hOs, hOp, g14⟩
                obtain ⟨oa, oc, rfl, -, -, hoc, -⟩ := own_shape o14
                have hL14 := (g14.block _ (lt_of_block HL.out) (by simp)).trans HL.out
                have l0 : w14.cell? ⟨wj.heap.size, 0, none⟩ = some (.string K) := blkC hL14 0 rfl
                have l3 : w14.cell? ⟨wj.heap.size, 3, none⟩ = some (.int .i64 M) := blkC hL14 3 rfl
                have HG14 := Lib.hid (gr_trans HG13.out g14)
                have HOC := Lib.hid hoc
                have HOS := Lib.hid hOs
                have HOP := Lib.hid hOp
                have HGM := Lib.hid (HW12.out.gm.keep0 HG14.out)
                have HCMp := Lib.hid (HW12.out.cm.keep0 HG14.out)
                have hwr1 : IntKind.i64.wrap (M + gk) = M + gk := IntWalk.i64_in _ (by omega)
                clear o14 hoc hOs hOp g14 hL14 WH HL HG13
                go_wp2_with (first
                  | (at_lookup; refine wpList_getSI rfl _ _ rfl (Cb + 1) mg2 G2 rfl HGM.out K rfl (by omega) ?_; rw [← HGK.out]))
                have hsz := HG14.out.size
                go_loopw [19, 122] (fun v i wr => ∃ q : Nat, q ≤ O.length ∧ i = .int .i64 q ∧ v = .int .i64 (M + gk + nmSum (O.take q)) ∧ w14.grownBy wr none) (fun _ i _ => O.length - (intOf i).toNat)
                case atStart => exact ⟨0, Nat.zero_le _, rfl, by simp [nmSum], gr_refl _ _⟩
                case round =>
                  obtain ⟨q, hq, rfl, rfl, hgq⟩ := hrel
                  obtain ⟨wq, rfl⟩ : ∃ wq : World, wq = wr := ⟨_, rfl⟩
                  by_cases hql : q < O.length
                  · obtain ⟨b2, off2, rfl, n0, n1⟩ := nm_cellsW (HOC.out.keep0 hgq) q hql
                    have hnx := nmSum_take O q hql
                    have hnb := nmSum_bd O HOP.out q
                    have hnb2 := nmSum_bd O HOP.out (q + 1)
                    have hOsum := HOS.out
                    obtain ⟨z, hz⟩ : ∃ z, z = nmSum (O.take q) := ⟨_, rfl⟩
                    obtain ⟨y, hy⟩ : ∃ y, y = O[q] := ⟨_, rfl⟩
                    rw [← hz, ← hy] at hnx
                    rw [← hz] at hnb
                    rw [← hz]
                    rw [← hy] at n0 n1
                    obtain ⟨yk, ym⟩ := y
                    simp only at n0 n1 hnx
                    rw [hnx] at hnb2
                    have hwr2 : IntKind.i64.wrap (M + gk + z + ym) = M + gk + z + ym := IntWalk.i64_in _ (by omega)
                    have HNX := Lib.hid hnx
                    have gq := Lib.hid (gr_trans hgq (gr_alloc (gr_refl wq none) (.cells #[.string yk, .int .i64 ym] 82)))
                    clear hnx hz hy hgq hnb hnb2 hOsum hwr1
                    go_wp2_with (fail)
                    go_roundw
                    case rel => exact ⟨q + 1, by omega, by go_num, by rw [HNX.out]; congr 1; omega, gq.out⟩
                    case measure => simp [intOf]; omega
                  · obtain rfl : q = O.length := by omega
                    have htot : M + gk + nmSum (O.take O.length) = mk := by rw [List.take_length, HOS.out]; have := HSUM.out; omega
                    rw [htot]
                    have l0 := (gr_cell hgq (lt_of_cell l0)).trans l0
                    have HCMq := Lib.hid (HCMp.out.keep0 hgq)
                    have HGq := Lib.hid (gr_trans HG14.out hgq)
                    have hne : (mk != mk) = false := by simp
                    have hlk := HCMq.out.run_get K (by omega)
                    rw [HCAM.out] at hlk
                    clear hgq htot l3 hwr1
                    go_wp2_with (fail)
                    go_roundw
                    case rel => exact ⟨j + 1, by omega, by go_num, HGq.out⟩
                    case measure => simp [intOf]; omega
              · have HWE := Lib.hid (HW12.out.keep0 hgj)
                clear hgj
                go_wp2_with (fail)
                go_roundw
                case rel => exact ⟨t + 1, xs2, P2, G2, k2, mg2, by omega, by go_num, HWE.out, hkq2, hmg2, HGB2.out⟩
                case measure => simp [intOf]; omega
        · have HGR := Lib.hid HW.out.gr
          clear HW HGB
          go_wp2_with (fail)
          refine (stocks_any wo).mono ?_
          rintro e w20 ⟨rfl, g20⟩
          have HG20 := Lib.hid (gr_trans HGR.out g20)
          clear g20
          go_wp2_with (fail)
          go_ret
          exact ⟨rfl, HG20.out⟩
end Go.Proofs.Ytakabckmiodjaaa
