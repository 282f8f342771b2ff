/- Pieces are brought back into a store, or thrown away. -/
import Derived.Test.YtakabckmiodjaaaPkSAw
import Derived.Test.YtakabckmiodjaaaPkSAa
import Derived.Laws.IdiomRangeMap
namespace Go.Proofs.Ytakabckmiodjaaa
open Go.RowKit
attribute [local go_sem ↓] Go.wp_at_zero Go.wp_at_succ

/-- While what came back is put to the lots. -/
structure RetTo (xs xs' : List Lot) (f : Int → Option Int) (left : Lit → Bool) : Prop where
  len : xs'.length = xs.length
  same : ∀ i, i < xs.length → (lotN xs' i).id = (lotN xs i).id ∧ (lotN xs' i).prod = (lotN xs i).prod ∧ (lotN xs' i).exp = (lotN xs i).exp
  got : ∀ i : Nat, i < xs.length → (lotN xs' i).many = (lotN xs i).many + (if left (ikey i) then 0 else (f i).getD 0)
variable {xs xs' : List Lot} {P Q : Nat → ByteArray → Option Int} {pl : ByteArray} {ps : List Piece}
theorem RetTo.start {f : Int → Option Int} {left : Lit → Bool} (h : ∀ s, left (ikey s) = (f s).isSome) : RetTo xs xs f left := by
  refine ⟨rfl, fun _ _ => ⟨rfl, rfl, rfl⟩, fun i _ => ?_⟩
  rw [h]
  cases f i with
  | none => simp
  | some v => simp
theorem RetTo.next {f : Int → Option Int} {left : Lit → Bool} {j : Nat} {v : Int} (h : RetTo xs xs' f left) (hj : j < xs.length) (hf : f j = some v) (hl : left (ikey j) = true) :
    RetTo xs (xs'.set j ⟨(lotN xs' j).id, (lotN xs' j).prod, (lotN xs' j).exp, (lotN xs' j).many + v⟩) f (fun z => left z && !z.sameKey (ikey j)) := by
  have hlen := h.len
  refine ⟨by rw [List.length_set]; exact hlen, fun i hi => ?_, fun i hi => ?_⟩
  · rw [lotN_set _ (by omega)]
    split
    · rename_i e; subst e; exact h.same j hj
    · exact h.same i hi
  · have h1 := h.got i hi
    rw [lotN_set _ (by omega)]
    by_cases hij : j = i
    · subst hij
      rw [if_pos rfl]
      rw [hl, if_pos rfl] at h1
      have : (left (ikey j) && !(ikey j).sameKey (ikey j)) = false := by rw [ikey_same]; simp
      simp only [this, hf, Option.getD_some]
      simp; omega
    · rw [if_neg hij]
      have hne : ikey (i : Int) ≠ ikey (j : Int) := fun e => hij (by have := ikey_inj e; omega)
      have e : (left (ikey i) && !(ikey i).sameKey (ikey j)) = left (ikey i) := by rw [Maps.sameKey_ne hne]; simp
      simp only [e]
      exact h1
/-- What a call does to lots and to what a place has: nothing is lost. -/
structure MoveRel (xs xs' : List Lot) (P Q : Nat → ByteArray → Option Int) (pl : ByteArray) : Prop where
  len : xs'.length = xs.length
  same : ∀ i, i < xs.length → (lotN xs' i).id = (lotN xs i).id ∧ (lotN xs' i).prod = (lotN xs i).prod ∧ (lotN xs' i).exp = (lotN xs i).exp
  m0 : ∀ i, i < xs.length → 0 ≤ (lotN xs' i).many
  sum : ∀ i, i < xs.length → (lotN xs' i).many + (Q i pl).getD 0 = (lotN xs i).many + (P i pl).getD 0
  nn : ∀ i, i < xs.length → 0 ≤ (Q i pl).getD 0
  oth : ∀ i s, s ≠ pl → Q i s = P i s
theorem SendRel.move (h : SendRel xs xs' P Q pl) (hP : ∀ i, i < xs.length → 0 ≤ (P i pl).getD 0) : MoveRel xs xs' P Q pl :=
  ⟨h.len, h.same, fun i hi => (h.bd i hi).1, h.sum, fun i hi => Int.le_trans (hP i hi) (h.up i hi), h.oth⟩
theorem MoveRel.refl (hb : ∀ i, i < xs.length → 0 ≤ (lotN xs i).many) (hP : ∀ i, i < xs.length → 0 ≤ (P i pl).getD 0) : MoveRel xs xs P P pl :=
  ⟨rfl, fun _ _ => ⟨rfl, rfl, rfl⟩, hb, fun _ _ => rfl, hP, fun _ _ _ => rfl⟩
theorem RetTo.move {f : Int → Option Int} {left : Lit → Bool} (h : RetTo xs xs' f left) (hb : BackRel xs P Q pl ps f) (hm : ∀ i, i < xs.length → 0 ≤ (lotN xs i).many) (hl : ∀ kl, left kl = false) : MoveRel xs xs' P Q pl := by
  have hc : ∀ k, 0 ≤ cntP ps k := fun k => by
    have : ∀ qs : List Piece, (∀ p ∈ qs, 1 ≤ p.many) → 0 ≤ cntP qs k := by
      intro qs
      induction qs with
      | nil => intro _; simp [cntP]
      | cons p qs ih =>
        intro hp
        have h1 := ih (fun q hq => hp q (by simp [hq]))
        have h2 := hp p (by simp)
        have e := cntP_app [p] qs k
        rw [cntP_one] at e
        have e2 : cntP (p :: qs) k = (if p.lot = k then p.many else 0) + cntP qs k := e
        rw [e2]
        split <;> omega
    exact this ps hb.pos
  refine ⟨h.len, h.same, fun i hi => ?_, fun i hi => ?_, fun i hi => ?_, hb.oth⟩
  · have h1 := h.got i hi
    rw [hl, hb.get i hi] at h1
    have := hm i hi
    have := hc (lotN xs i).id
    simp at h1; omega
  · have h1 := h.got i hi
    rw [hl, hb.get i hi] at h1
    have := hb.got i hi
    simp at h1; omega
  · have := hb.got i hi
    have := hb.nn i hi
    omega
set_option maxRecDepth 100000 in
set_option maxHeartbeats 4000000 in
theorem return_any (Bs : List Nat) (base S mx : Nat) (pa : Option Addr) (pc : Nat) (w : World) (h : StoreM w base S mx xs Bs P) (hn : xs.length ≤ 5) (hd : Apart xs) (hk : keyB pl = true) (hs : pl.size ≤ 1000) (hp : CellsAt w pa (flat encPc ps)) (hps : PcsSm ps) (hpl : ps.length ≤ 10) (hm : ∀ i, i < xs.length → 0 ≤ (lotN xs i).many ∧ (lotN xs i).many ≤ 100000)
    (hP : ∀ i : Nat, i < xs.length → 0 ≤ (P i pl).getD 0 ∧ (P i pl).getD 0 ≤ 1000000) (hmx : mx ≤ 100000) :
    Calls Try.prog 29 #[.pointer (some ⟨S, 0, none⟩), .string pl, .slice pa ps.length pc] w fun e w' =>
      (∃ r, e = .returned (.int .i64 r)) ∧ ∃ xs' Q, StoreM w' base S (mx + 20) xs' Bs Q ∧ MoveRel xs xs' P Q pl ∧ Keep0 base Bs w w' := by
  have BK := Lib.hid (back_any Bs base S mx pa pc w h hn hd hk hs hp hps hpl hP hmx)
  have HM := Lib.hid hm
  have HP := Lib.hid hP
  have hbw : base ≤ w.heap.size := by have := h.lt; omega
  clear h hd hk hp hps hm hP
  go_enter Try.func29, Try.ntmps29
  go_wp2_with (fail)
  refine BK.out.mono ?_
  rintro e w1 ⟨gv, r, rfl, Q, hst, hc, hk1, -⟩
  have HST := Lib.hid hst
  have HK1 := Lib.hid hk1
  clear BK hst hk1
  rcases hc with ⟨hr, rfl, rfl⟩ | ⟨rfl, B, f, rfl, hB, hmp, hbk⟩
  · have HRR := Lib.hid hr
    clear hr
    have hrg : ∀ wx : World, (Instr.range 104 (.map none)).run Try.prog wx = _ := fun wx => run_range_nilMap wx 104 _ _ Try.underlying104
    have hnx : ∀ ty, (Instr.next (.pointer (some ⟨w1.heap.size, 0, none⟩)) false ty).run Try.prog (w1.alloc (.mapIter none 0 #[] 0)) = .ok (.tuple #[.bool false]) (w1.alloc (.mapIter none 0 #[] 0)) := fun ty => run_next_nilMap (P := Try.prog) w1 ty 0 0 #[]
    go_wp2_with (fail)
    refine wp_loop_rounds 1 ?_
    rw [rounds_succ]
    go_wp2_with (fail)
    go_ret
    exact ⟨⟨_, rfl⟩, xs, Q, HST.out.keep0 (gr_alloc (gr_refl _ _) _), MoveRel.refl (fun i hi => (HM.out i hi).1) (fun i hi => (HP.out i hi).1), HK1.out.trans (.of0 (gr_alloc (gr_refl _ _) _))⟩
  · have HMP := Lib.hid hmp
    have HBK := Lib.hid hbk
    have hib0 : base ≤ w1.heap.size := by have := HST.out.lt; omega
    clear hmp hbk
    go_wp2_with (first | (at_range; refine wpList_rangeII rfl _ rfl B 20 f rfl HMP.out ?_; intro w5 left cnt hr hleft g5 hz5))
    go_frame
    have HR5 := Lib.hid hr
    have HST5 := Lib.hid (HST.out.keep0 g5)
    have HK5 := Lib.hid (HK1.out.trans (.of0 g5))
    have HO5 : Hid (RetTo xs xs f left) := RetTo.start hleft
    obtain ⟨ib, hib⟩ : ∃ b, b = w1.heap.size := ⟨_, rfl⟩
    rw [← hib] at HR5 hib0
    rw [← hib]
    clear hr hleft g5 hz5 hib HST HMP HK1
    go_loopw [20] (fun _ wr => ∃ left cnt xs', RangeI wr B ib 20 f left cnt ∧ StoreM wr base S (mx + 20) xs' Bs Q ∧ RetTo xs xs' f left ∧ Keep0 base Bs w wr) (fun _ wr => wr.rangeLeft B ib)
    case atStart => exact ⟨_, _, _, HR5.out, HST5.out, HO5.out, HK5.out⟩
    case round =>
      clear HR5 HST5 HO5 HK5
      obtain ⟨left, cnt, xs', hr, hst, hoff, hkeep⟩ := hrel
      obtain ⟨wi, rfl⟩ : ∃ wi : World, wi = wr := ⟨_, rfl⟩
      have HOFF := Lib.hid hoff
      have HST := Lib.hid hst
      have HKP := Lib.hid hkeep
      clear hoff hst hkeep
      go_wp2_with (first | (at_next; refine wpList_nextII rfl _ rfl B ib 20 f left cnt rfl hr ?_ ?_))
      · intro hdone
        have HMV := Lib.hid (HOFF.out.move HBK.out (fun i hi => (HM.out i hi).1) hdone)
        clear hr hdone
        go_wp2_with (fail)
        go_ret
        exact ⟨⟨_, rfl⟩, xs', Q, HST.out, HMV.out, HKP.out⟩
      · intro s x w22 cnt' hfs hl2 hr22 hlt g22 hz22 hen
        obtain ⟨j, hj, rfl, hx1⟩ := HBK.out.key s x hfs
        have hofn := HOFF.out.next hj hfs hl2
        obtain ⟨im, ia, isn, ic, hio⟩ := hr.iter
        have hst2 := HST.out.keepI g22 hio
        have hlen := HOFF.out.len
        have hjl : j < xs'.length := by omega
        have hgot := HOFF.out.got j hj
        rw [hl2, if_pos rfl, Int.add_zero] at hgot
        have hmj := HM.out j hj
        have hxb : x ≤ 1000000 := by
          have h1 := HBK.out.get j hj
          have h2 := HBK.out.nn j hj
          have h3 := HP.out j hj
          rw [hfs] at h1
          simp at h1
          omega
        obtain ⟨va, vc, ua, uc, hS4, s0, s1, hcv, ov, hu1, hu2, hmq⟩ := hst2.cells
        obtain ⟨gl, gc, hge, -⟩ := own_some ov (by omega)
        injection hge with h1 _ h2
        subst h1; subst h2
        have hc3 := own_cellE encLot_len ov j hjl 3 (by decide) (.int .i64 xs'[j].many) rfl rfl
        rw [lotN_get hjl] at hofn hgot
        obtain ⟨e3, f3, hset⟩ := hc3
        obtain ⟨z, hz⟩ : ∃ z, z = xs'[j].many := ⟨_, rfl⟩
        have hsetj := hset (.int .i64 (z + x)) ⟨xs'[j].id, xs'[j].prod, xs'[j].exp, z + x⟩ (by simp [encLot])
        rw [← hz] at e3 hofn hgot
        have hzb : 0 ≤ z ∧ z ≤ 100000 := by omega
        have hwr : IntKind.i64.wrap (z + x) = z + x := IntWalk.i64_in _ (by omega)
        have hglt := ov.lt gl rfl
        have gs : w22.grownBy (w22.setCell ⟨gl, j * 4 + 3, none⟩ (.int .i64 (z + x))) (some gl) := gr_set (gr_refl _ _) rfl _
        have HST7 := Lib.hid (hst2.lots (xs' := xs'.set j ⟨xs'[j].id, xs'[j].prod, xs'[j].exp, z + x⟩) hS4 hsetj gs (List.length_set ..))
        have HR7 := Lib.hid (hr22.keep gs (fun e => by cases e; obtain ⟨es, cl, ho⟩ := hr22.map.obj; exact own_iter_ne ov ho (fun _ _ _ e => by cases e) rfl) (fun e => by cases e; obtain ⟨im, ia, isn, ic, hio⟩ := hr22.iter; exact own_iter_ne ov hio (fun _ _ _ e => by cases e) rfl))
        have HOFN := Lib.hid hofn
        have HKP2 := Lib.hid ((HKP.out.trans (.ofB g22 (fun q e => by cases e; exact hib0) (fun q es cl e hm => by cases e; rw [hio] at hm; cases hm))).trans (.ofB gs (fun q e => by cases e; exact hglt.1) (fun q es cl e hm => by cases e; exact absurd rfl (own_map_ne ov hm))))
        have HRo := Lib.hid hr
        have HLT := Lib.hid hlt
        clear hfs hl2 hlt g22 hz22 hr hr22 hofn hst2 hio hcv hmq hS4 HOFF HST HKP hset hsetj gs ov hgot hz hlen
        go_wp2_with (fail)
        go_roundw
        case rel => exact ⟨_, cnt', _, HR7.out, HST7.out, HOFN.out, HKP2.out⟩
        case measure => rw [HR7.out.left, HRo.out.left]; exact HLT.out
set_option maxRecDepth 100000 in
theorem waste_any (Bs : List Nat) (base S mx : Nat) (pa : Option Addr) (pc : Nat) (w : World) (h : StoreM w base S mx xs Bs P) (hn : xs.length ≤ 5) (hd : Apart xs) (hk : keyB pl = true) (hs : pl.size ≤ 1000) (hp : CellsAt w pa (flat encPc ps)) (hps : PcsSm ps) (hpl : ps.length ≤ 10)
    (hP : ∀ i : Nat, i < xs.length → 0 ≤ (P i pl).getD 0 ∧ (P i pl).getD 0 ≤ 1000000) (hmx : mx ≤ 100000) :
    Calls Try.prog 31 #[.pointer (some ⟨S, 0, none⟩), .string pl, .slice pa ps.length pc] w fun e w' =>
      ∃ r, e = .returned (.int .i64 r) ∧ ∃ Q, StoreM w' base S (mx + 20) xs Bs Q ∧ ((r ≠ 0 ∧ Q = P) ∨ (r = 0 ∧ ∃ f, BackRel xs P Q pl ps f)) ∧ Keep0 base Bs w w' ∧ CellsStay w w' := by
  have BK := Lib.hid (back_any Bs base S mx pa pc w h hn hd hk hs hp hps hpl hP hmx)
  clear h hd hk hp hps hP
  go_enter Try.func31, Try.ntmps31
  go_wp2_with (fail)
  refine BK.out.mono ?_
  rintro e w1 ⟨gv, r, rfl, Q, hst, hc, hk1, hcs⟩
  have HST := Lib.hid hst
  have HCS := Lib.hid hcs
  have HC := Lib.hid hc
  clear BK hst hc hcs
  go_wp2_with (fail)
  go_ret
  refine ⟨r, rfl, Q, HST.out, ?_, hk1, HCS.out⟩
  rcases HC.out with ⟨h1, _, h2⟩ | ⟨h1, B, f, _, _, _, h2⟩
  · exact .inl ⟨h1, h2⟩
  · exact .inr ⟨h1, f, h2⟩
end Go.Proofs.Ytakabckmiodjaaa
