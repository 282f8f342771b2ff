/- Units are sent out of a store to a place. -/
import Derived.Test.YtakabckmiodjaaaPkSAv
import Derived.Deep.CutRange
import Derived.Deep.RegionHeld3
import Derived.Deep.DeepFit
import Derived.Test.YtakabckmiodjaaaPkSAa
import Derived.Deep.RegionLaw
import Derived.Deep.DeepCutAuto
namespace Go.Proofs.Ytakabckmiodjaaa
open Go.RowKit
attribute [local go_sem ↓] Go.wp_at_zero Go.wp_at_succ

theorem cntP_bd (ps : List Piece) (B : Int) (h : ∀ p ∈ ps, 0 ≤ p.many ∧ p.many ≤ B) (k : ByteArray) (hB : 0 ≤ B) : 0 ≤ cntP ps k ∧ cntP ps k ≤ B * ps.length := by
  induction ps with
  | nil => simp [cntP]
  | cons p ps ih =>
    have h1 := ih (fun q hq => h q (by simp [hq]))
    have h2 := h p (by simp)
    have e := cntP_app [p] ps k
    rw [cntP_one] at e
    have e2 : cntP (p :: ps) k = (if p.lot = k then p.many else 0) + cntP ps k := e
    rw [e2]
    simp only [List.length_cons, Int.natCast_add, Int.natCast_one, Int.mul_add, Int.mul_one]
    split <;> omega
structure SentTo (xs : List Lot) (P Q : Nat → ByteArray → Option Int) (pl : ByteArray) (ps : List Piece) (t : Nat) : Prop where
  got : ∀ i, i < xs.length → (Q i pl).getD 0 = (P i pl).getD 0 + cntP (ps.take t) (lotN xs i).id
  oth : ∀ i s, s ≠ pl → Q i s = P i s
variable {xs : List Lot} {P Q : Nat → ByteArray → Option Int} {pl : ByteArray} {ps : List Piece}
theorem SentTo.start : SentTo xs P P pl ps 0 := ⟨fun i _ => by simp [cntP], fun _ _ _ => rfl⟩
theorem SentTo.next {t j : Nat} (h : SentTo xs P Q pl ps t) (ht : t < ps.length) (hd : Apart xs) (hj : j < xs.length) (he : ps[t].lot = (lotN xs j).id) :
    SentTo xs P (fun i => if i = j then (fun s => if s = pl then some ((Q j pl).getD 0 + ps[t].many) else Q j s) else Q i) pl ps (t + 1) := by
  refine ⟨fun i hi => ?_, fun i s hs => ?_⟩
  · have e : ps.take (t + 1) = ps.take t ++ [ps[t]] := by simp
    rw [e, cntP_app, cntP_one, ← Int.add_assoc, ← h.got i hi]
    by_cases hij : i = j
    · subst hij
      rw [if_pos rfl, if_pos rfl, if_pos he]; rfl
    · rw [if_neg hij, if_neg (fun e2 => hij (hd i j hi hj (e2.symm.trans he))), Int.add_zero]
  · by_cases hij : i = j
    · subst hij
      rw [if_pos rfl, if_neg hs]
      exact h.oth i s hs
    · rw [if_neg hij]
      exact h.oth i s hs
/-- What sending does to lots and to what places have. -/
structure SendRel (xs xs' : List Lot) (P Q : Nat → ByteArray → Option Int) (pl : ByteArray) : Prop where
  len : xs'.length = xs.length
  same : ∀ i, i < xs.length → (lotN xs' i).id = (lotN xs i).id ∧ (lotN xs' i).prod = (lotN xs i).prod ∧ (lotN xs' i).exp = (lotN xs i).exp
  bd : ∀ i, i < xs.length → 0 ≤ (lotN xs' i).many ∧ (lotN xs' i).many ≤ 100000
  sum : ∀ i, i < xs.length → (lotN xs' i).many + (Q i pl).getD 0 = (lotN xs i).many + (P i pl).getD 0
  up : ∀ i, i < xs.length → (P i pl).getD 0 ≤ (Q i pl).getD 0
  oth : ∀ i s, s ≠ pl → Q i s = P i s
theorem SendRel.refl (hb : ∀ i, i < xs.length → 0 ≤ (lotN xs i).many ∧ (lotN xs i).many ≤ 100000) : SendRel xs xs P P pl :=
  ⟨rfl, fun _ _ => ⟨rfl, rfl, rfl⟩, hb, fun _ _ => rfl, fun _ _ => Int.le_refl _, fun _ _ _ => rfl⟩
theorem SentTo.rel {xs' : List Lot} (hK : Keeps xs xs' ps 100000) (h : SentTo xs P Q pl ps ps.length) : SendRel xs xs' P Q pl := by
  have h1 := h.got
  rw [List.take_length] at h1
  have hc : ∀ k, 0 ≤ cntP ps k := fun k => (cntP_bd ps 100000 (fun p hp => ⟨by have := (hK.pcs p hp).1; omega, (hK.pcs p hp).2.1⟩) k (by decide)).1
  exact ⟨hK.len, hK.same, hK.bd, fun i hi => by rw [h1 i hi]; have := hK.sum i hi; omega, fun i hi => by rw [h1 i hi]; have := hc (lotN xs i).id; omega, h.oth⟩
/-- Whatever lay below the store's own memory stays, and maps that are not its own stay. -/
def Keep0 (base : Nat) (Bs : List Nat) (w w' : World) : Prop := (∀ w0 : World, w0.heap.size ≤ base → w0.grownBy w none → w0.grownBy w' none) ∧ ∀ (c : Nat) (es : Array MapEntry) (cl : Nat), c ∉ Bs → w.heap[c]? = some (Obj.map es cl) → w'.heap[c]? = some (Obj.map es cl)
theorem Keep0.of0 {base : Nat} {Bs : List Nat} {w w' : World} (g : w.grownBy w' none) : Keep0 base Bs w w' := ⟨fun _ _ h => gr_trans h g, fun c es cl _ h => (g.block c (lt_of_block h) (by simp)).trans h⟩
theorem Keep0.trans {base : Nat} {Bs : List Nat} {a b c : World} (h : Keep0 base Bs a b) (g : Keep0 base Bs b c) : Keep0 base Bs a c := ⟨fun w0 hz h0 => g.1 w0 hz (h.1 w0 hz h0), fun k es cl hk h0 => g.2 k es cl hk (h.2 k es cl hk h0)⟩
theorem Keep0.ofB {base : Nat} {Bs : List Nat} {w w' : World} {r : Option Nat} (g : w.grownBy w' r) (hr : ∀ q, r = some q → base ≤ q) (hm : ∀ (q : Nat) (es : Array MapEntry) (cl : Nat), r = some q → w.heap[q]? = some (Obj.map es cl) → q ∈ Bs) : Keep0 base Bs w w' :=
  ⟨fun _ hz h => gr_grown h g (fun q e => Nat.le_trans hz (hr q e)), fun c es cl hc h => (g.block c (lt_of_block h) (fun e => hc (hm c es cl e.symm h))).trans h⟩
theorem Keep0.map {base : Nat} {Bs : List Nat} {w w' : World} {b n : Nat} {f : ByteArray → Option Int} (h : Keep0 base Bs w w') (hm : MapIs w b n f) (hb : b ∉ Bs) : MapIs w' b n f := by
  obtain ⟨es, cl, ho⟩ := hm.obj
  exact hm.of_block ((h.2 b es cl hb ho).trans ho.symm)
theorem pc_cellsG {w : World} {a : Option Addr} {ps : List Piece} (h : CellsAt w a (flat encPc ps)) (k : Nat) (hk : k < ps.length) : ∃ b off, a = some ⟨b, off, none⟩ ∧ w.cell? ⟨b, off + k * 2, none⟩ = some (.string ps[k].lot) ∧ w.cell? ⟨b, off + k * 2 + 1, none⟩ = some (.int .i64 ps[k].many) := by
  obtain ⟨b, off, h1, h2, h3⟩ := pc_cells h k hk
  unfold pcLot at h2
  unfold pcMany at h3
  rw [getD_eq ps k _ hk] at h2 h3
  exact ⟨b, off, h1, h2, h3⟩
theorem cell_map {w w1 : World} {b o c n : Nat} {v : Value} {f : ByteArray → Option Int} (hc : w.cell? ⟨b, o, none⟩ = some v) (hm : MapIs w c n f) (g : w.grownBy w1 (some c)) : w1.cell? ⟨b, o, none⟩ = some v := by
  have : b ≠ c := by
    rintro rfl
    obtain ⟨es, cl, ho⟩ := hm.obj
    simp [World.cell?, ho] at hc
  exact g.cell hc (by simpa using this)
def canS : ByteArray := { data := #[99, 97, 110] }
theorem canS_ok : keyB canS = true ∧ canS.size ≤ 1000 := ⟨by kernel_rfl, by decide⟩
set_option maxRecDepth 100000 in
set_option maxHeartbeats 2000000 in
theorem send_any (m : Int) (Bs : List Nat) (base S mx : Nat) (w : World) (h : StoreM w base S mx xs Bs P) (hn : xs.length ≤ 5) (hb : ∀ i, i < xs.length → 0 ≤ (lotN xs i).many ∧ (lotN xs i).many ≤ 100000) (hd : Apart xs) (hk : keyB pl = true) (hs : pl.size ≤ 1000) (hm : 0 ≤ m ∧ m ≤ 1000)
    (hP : ∀ i, i < xs.length → 0 ≤ (P i pl).getD 0 ∧ (P i pl).getD 0 ≤ 1000000) (hmx : mx ≤ 100000) :
    Calls Try.prog 28 #[.pointer (some ⟨S, 0, none⟩), .string pl, .string { data := #[99, 97, 110] }, .int .i64 m, .int .i64 0, .int .i64 0] w fun e w' =>
      ∃ pv r xs' Q, e = .returned (.tuple #[pv, .int .i64 r]) ∧ (r = 0 ∨ r = 8) ∧ StoreM w' base S (mx + 20) xs' Bs Q ∧ SendRel xs xs' P Q pl ∧ Keep0 base Bs w w' := by
  have KF := Lib.hid (fun W : World => key_any pl W (by omega))
  rw [hk] at KF
  have H := Lib.hid h
  have HB := Lib.hid hb
  have HD := Lib.hid hd
  have HP := Lib.hid hP
  obtain ⟨va, vc, ua, uc, hS, c0, c1, hcv, -, -, -, -⟩ := h.cells
  have PF := Lib.hid (pickFault_any canS m 0 0 xs va vc w hcv (by omega) hb canS_ok.1 canS_ok.2 hm.1 (by omega) (by decide) (by decide))
  obtain ⟨F, hF⟩ : ∃ F, F = freshTo xs canS (0 + 0) xs.length := ⟨_, rfl⟩
  rw [← hF] at PF
  unfold canS at PF
  clear hk h hb hd hP hS hcv hF
  go_enter Try.func28, Try.ntmps28
  go_wp2_with (fail)
  refine (KF.out _).mono ?_
  rintro e w1 ⟨rfl, rfl⟩
  go_wp2_with (fail)
  refine PF.out.mono ?_
  rintro e w2 ⟨rfl, g2⟩
  have G2 := Lib.hid g2
  have H2 := Lib.hid (H.out.keep0 g2)
  clear PF KF g2 c0 c1 H
  by_cases hf : F < m
  · rw [if_pos hf]
    go_wp2_with (fail)
    go_ret2
    exact ⟨_, 8, xs, P, rfl, .inr rfl, H2.out.up (by omega), SendRel.refl HB.out, Keep0.of0 G2.out⟩
  · rw [if_neg hf]
    obtain ⟨va, vc, ua, uc, hS, c0, c1, -, ov, -, -, -⟩ := H2.out.cells
    have PK := Lib.hid (picked_all canS m 0 xs (.slice va xs.length vc) xs.length base w2 ov rfl (by omega) hm.1 (by omega) HB.out)
    unfold canS at PK
    have HS2 := Lib.hid hS
    have HV2 := Lib.hid ov
    have hw00 : IntKind.i64.wrap ((0 : Int) + 0) = 0 := by decide
    clear hS ov
    go_wp2_with (fail)
    refine PK.out.mono ?_
    rintro e w3 ⟨ord, pv, rfl, hord, op, ol, g3⟩
    have hkp : Keeps xs (takeTo ord xs m ord.length).2.1 ([] ++ (takeTo ord xs m ord.length).1) 100000 := Keeps.take HD.out (Keeps.start HB.out) ord hord.lt ord.length
    have hpl : (takeTo ord xs m ord.length).1.length ≤ 5 := Nat.le_trans (takeTo_len ord xs m ord.length) (Nat.le_trans hord.len hn)
    obtain ⟨ps, hps⟩ : ∃ ps, ps = (takeTo ord xs m ord.length).1 := ⟨_, rfl⟩
    obtain ⟨xs', hxs⟩ : ∃ xs', xs' = (takeTo ord xs m ord.length).2.1 := ⟨_, rfl⟩
    rw [← hps] at op
    rw [← hxs] at ol
    rw [← hps, ← hxs, List.nil_append] at hkp
    rw [← hps] at hpl
    have hxl := hkp.len
    have hst := H2.out.lots HS2.out ol g3 hxl
    have hk3 : Keep0 base Bs w w3 := (Keep0.of0 G2.out).trans (.ofB g3 (fun q hq => (HV2.out.lt q hq).1) (fun q es cl hq hm => absurd hq (own_map_ne HV2.out hm)))
    have hb2 : base ≤ w2.heap.size := by have := H2.out.lt; omega
    have op := own_base op hb2
    obtain ⟨pa, pc, rfl, -, -, -, -⟩ := own_shape op
    have HKP := Lib.hid hkp
    have hd' : Apart xs' := fun i j hi hj e => HD.out i j (by omega) (by omega) (by rw [← (hkp.same i (by omega)).1, ← (hkp.same j (by omega)).1]; exact e)
    have HD' := Lib.hid hd'
    have HST := Lib.hid hst
    have HK3 := Lib.hid hk3
    have HOP := Lib.hid op
    have hxl5 : xs'.length ≤ 5 := by omega
    have HXL := Lib.hid hxl
    clear hps hxs hord ol g3 hkp hst hk3 op PK HS2 HV2 H2 c0 c1 hd' hxl
    go_wp2_with (fail)
    go_loopw [45] (fun i wr => ∃ (t : Nat) (Q : Nat → ByteArray → Option Int), t ≤ ps.length ∧ i = .int .i64 t ∧ StoreM wr base S (mx + t) xs' Bs Q ∧ SentTo xs P Q pl ps t ∧ wr.ownsRow base 130 2 (.slice pa ps.length pc) ps.length (flat encPc ps) ∧ Keep0 base Bs w wr) (fun i _ => ps.length - (intOf i).toNat)
    case atStart => exact ⟨0, P, Nat.zero_le _, rfl, HST.out, .start, HOP.out, HK3.out⟩
    case round =>
      clear HST HOP HK3
      obtain ⟨t, Q, ht, rfl, hst, hsent, hop, hkeep⟩ := hrel
      obtain ⟨wo, rfl⟩ : ∃ wo : World, wo = wr := ⟨_, rfl⟩
      by_cases htl : t < ps.length
      · obtain ⟨_, _, e, -, -, hpc, -⟩ := own_shape hop
        cases e
        obtain ⟨b, off, rfl, d0, d1⟩ := pc_cellsG hpc t htl
        obtain ⟨hp1, hp2, j, hj, hje⟩ := HKP.out.pcs _ (List.getElem_mem htl)
        have hnx := hsent.next htl HD.out hj hje
        have hqb := hsent.got j hj
        have hcb := (cntP_bd (ps.take t) 100000 (fun p hp => by obtain ⟨h1, h2, -⟩ := HKP.out.pcs p (List.mem_of_mem_take hp); exact ⟨by omega, h2⟩) (lotN xs j).id (by decide))
        have hpb := HP.out j hj
        have htk : (ps.take t).length ≤ 5 := by rw [List.length_take]; omega
        have hix : lotIx xs' ps[t].lot = j := lotIx_of HD'.out (by have := HXL.out; omega) (((HKP.out.same j hj).1).trans hje.symm)
        obtain ⟨x, hx⟩ : ∃ x, x = ps[t] := ⟨_, rfl⟩
        rw [← hx] at d0 d1 hp1 hp2 hje hnx hix
        obtain ⟨K, M⟩ := x
        simp only at d0 d1 hp1 hp2 hje hnx hix
        obtain ⟨y, hy⟩ : ∃ y, y = (Q j pl).getD 0 := ⟨_, rfl⟩
        rw [← hy] at hnx hqb
        have hy1 : 0 ≤ y ∧ y ≤ 3000000 := by omega
        have hbj : ∃ c, Bs[j]? = some c := ⟨_, List.getElem?_eq_getElem (by have := hst.len; have := HXL.out; omega)⟩
        obtain ⟨c, hc⟩ := hbj
        have g4 := gr_alloc (gr_refl wo none) (.cells #[.string K, .int .i64 M] 130)
        have hL := heap_alloc_new wo (.cells #[.string K, .int .i64 M] 130)
        obtain ⟨w4, hw4⟩ : ∃ w4, w4 = wo.alloc (.cells #[.string K, .int .i64 M] 130) := ⟨_, rfl⟩
        rw [← hw4] at g4 hL
        have hst4 := hst.keep0 (gr_drew g4)
        obtain ⟨va, vc, ua, uc, hS4, s0, s1, hcv, -, hu1, hu2, hmp⟩ := hst4.cells
        obtain ⟨gg, rfl, m0⟩ := hmp j c hc
        have LO := Lib.hid (lot_any K xs' va vc w4.drew hcv (by omega))
        rw [hix] at LO
        have HY := Lib.hid hy
        have HL : Hid (w4.drew.heap[wo.heap.size]? = some (.cells #[.string K, .int .i64 M] 130 (0, 0))) := hL
        have HST4 := Lib.hid hst4
        have HOP4 := Lib.hid (own_keep0 hop (gr_drew g4))
        have HK4 := Lib.hid (hkeep.trans (.of0 (gr_drew g4)))
        have HNX := Lib.hid hnx
        have HC := Lib.hid hc
        have HW4 := Lib.hid hw4
        have hjn : j < xs'.length := by have := HXL.out; omega
        have hwr : IntKind.i64.wrap (y + M) = y + M := IntWalk.i64_in _ (by omega)
        unfold maxLen at hu2
        clear hsent hst hop hkeep hpc hx hnx hix hje hy hcb hpb hqb hw4 g4 hL hst4 hS4 hcv hmp hc
        go_upto_region 10 with (fail)
        rw [← HW4.out]
        have l0 : w4.drew.cell? ⟨wo.heap.size, 0, none⟩ = some (.string K) := blkC HL.out 0 rfl
        have l1 : w4.drew.cell? ⟨wo.heap.size, 1, none⟩ = some (.int .i64 M) := blkC HL.out 1 rfl
        go_region_held3 (fun w' => w'.cell? ⟨S, 0, none⟩ = some (.slice va xs'.length vc) ∧ w'.cell? ⟨S, 1, none⟩ = some (.slice (some ⟨gg, 0, none⟩) xs'.length uc) ∧ w'.cell? ⟨wo.heap.size, 0, none⟩ = some (.string K) ∧ w'.cell? ⟨wo.heap.size, 1, none⟩ = some (.int .i64 M) ∧ w'.cell? ⟨gg, j, none⟩ = some (.map (some c)))
          (first | exact ⟨s0, s1, l0, l1, m0⟩ | exact ⟨t0, t1, t2, t3, t4⟩ | exact ⟨u0, u1, u2, u3, u4⟩)
          (first
            | (go_at_call 82; go_fit LO.out; rintro e w5 ⟨rfl, g5⟩; have t0 := (gr_cell g5 (lt_of_cell s0)).trans s0; have t1 := (gr_cell g5 (lt_of_cell s1)).trans s1; have t2 := (gr_cell g5 (lt_of_cell l0)).trans l0; have t3 := (gr_cell g5 (lt_of_cell l1)).trans l1; have t4 := (gr_cell g5 (lt_of_cell m0)).trans m0; have hst5 := HST4.out.keep0 g5; obtain ⟨hbc, mm, hmm, hmp5⟩ := hst5.maps j c HC.out; have hlk := hmp5.run_get pl (by omega); rw [← HY.out] at hlk; obtain ⟨w6, hup, hmp6, g6⟩ := hmp5.run_put (by omega) pl (by omega) (y + M) (by omega); have u0 := cell_map t0 hmp5 g6; have u1 := cell_map t1 hmp5 g6; have u2 := cell_map t2 hmp5 g6; have u3 := cell_map t3 hmp5 g6; have u4 := cell_map t4 hmp5 g6; have HST6 := Lib.hid (hst5.put (mx' := mx + (t + 1)) HC.out hmp6 (by omega) (by omega) g6); have HOP6 := Lib.hid (own_keep (own_keep0 HOP4.out g5) g6 (.inr (by obtain ⟨es, cl, ho⟩ := hmp5.obj; exact own_map_ne (own_keep0 HOP4.out g5) ho))); have HK6 := Lib.hid ((HK4.out.trans (.of0 g5)).trans (.ofB g6 (fun q e => by cases e; exact hbc) (fun q es cl e _ => by cases e; exact List.mem_of_getElem? HC.out))); clear hst5 hmp5 hmp6 g6)
            | fail)
        all_goals (go_wp2_with (fail))
        all_goals go_roundw
        case rel => exact ⟨t + 1, _, by omega, by go_num, HST6.out, HNX.out, HOP6.out, HK6.out⟩
        case measure => simp [intOf]; omega
      · obtain rfl : t = ps.length := by omega
        have HR := Lib.hid (hsent.rel HKP.out)
        have HST := Lib.hid (hst.up (mx' := mx + 20) (by omega))
        have HK := Lib.hid hkeep
        clear hst hsent hop hkeep
        go_wp2_with (fail)
        go_ret2
        exact ⟨_, 0, xs', Q, rfl, .inl rfl, HST.out, HR.out, HK.out⟩
end Go.Proofs.Ytakabckmiodjaaa

/-! Pieces are taken back from a place of a store. -/
namespace Go.Proofs.Ytakabckmiodjaaa
open Go.RowKit
attribute [local go_sem ↓] Go.wp_at_zero Go.wp_at_succ

/-- No block of cells is written. -/
def CellsStay (w w1 : World) : Prop := ∀ (c : Nat) (cs : Array Value) (ty : TypeId) (fr : Nat × Nat), w.heap[c]? = some (Obj.cells cs ty fr) → w1.heap[c]? = some (Obj.cells cs ty fr)
theorem CellsStay.trans {a b c : World} (h : CellsStay a b) (g : CellsStay b c) : CellsStay a c := fun k cs ty fr hk => g k cs ty fr (h k cs ty fr hk)
theorem CellsStay.of {w w1 : World} {r : Option Nat} (g : w.grownBy w1 r) (hr : ∀ (q : Nat) (cs : Array Value) (ty : TypeId) (fr : Nat × Nat), r = some q → w.heap[q]? ≠ some (Obj.cells cs ty fr)) : CellsStay w w1 :=
  fun c cs ty fr h => (g.block c (Array.getElem?_eq_some_iff.1 h).1 (fun e => hr c cs ty fr e.symm h)).trans h
theorem CellsStay.of0 {w w1 : World} (g : w.grownBy w1 none) : CellsStay w w1 := .of g (fun _ _ _ _ e => by cases e)
theorem CellsStay.cells {w w1 : World} (h : CellsStay w w1) {a : Option Addr} {xs : List Value} (hc : CellsAt w a xs) : CellsAt w1 a xs := fun j v hj => by
  obtain ⟨b, off, e, hv⟩ := hc j v hj
  refine ⟨b, off, e, ?_⟩
  have hlt := lt_of_cell hv
  obtain ⟨o, ho⟩ : ∃ o, w.heap[b]? = some o := ⟨_, Array.getElem?_eq_getElem hlt⟩
  cases o with
  | cells cs ty fr => exact (World.cell?_of_block (w := w) ((h b cs ty fr ho).trans ho.symm)).trans hv
  | _ => simp [World.cell?, ho] at hv
/-- What has been asked back of each lot, by its number. -/
structure GoneTo (xs : List Lot) (P : Nat → ByteArray → Option Int) (pl : ByteArray) (ps : List Piece) (t : Nat) (f : Int → Option Int) : Prop where
  key : ∀ k v, f k = some v → ∃ i, i < xs.length ∧ k = (i : Nat) ∧ 1 ≤ v ∧ v ≤ (P i pl).getD 0
  get : ∀ i : Nat, i < xs.length → (f i).getD 0 = cntP (ps.take t) (lotN xs i).id
  pos : ∀ p ∈ ps.take t, 1 ≤ p.many
variable {xs : List Lot} {P Q : Nat → ByteArray → Option Int} {pl : ByteArray} {ps : List Piece}
theorem GoneTo.start : GoneTo xs P pl ps 0 (fun _ => none) := ⟨fun k v h => (by cases h), fun i _ => (by simp [cntP]), fun p hp => (by simp at hp)⟩
theorem GoneTo.next {t j : Nat} {f : Int → Option Int} (h : GoneTo xs P pl ps t f) (ht : t < ps.length) (hd : Apart xs) (hj : j < xs.length) (he : (lotN xs j).id = ps[t].lot) (hm : 1 ≤ ps[t].many) (hle : ps[t].many ≤ (P j pl).getD 0 - (f j).getD 0) :
    GoneTo xs P pl ps (t + 1) (fun z => if z = (j : Int) then some ((f j).getD 0 + ps[t].many) else f z) := by
  have e : ps.take (t + 1) = ps.take t ++ [ps[t]] := by simp
  have h0 : 0 ≤ (f j).getD 0 := by
    cases hf : f j with
    | none => exact Int.le_refl _
    | some v => obtain ⟨i, _, _, h1, _⟩ := h.key _ _ hf; show 0 ≤ v; omega
  refine ⟨fun k v hv => ?_, fun i hi => ?_, fun p hp => ?_⟩
  · by_cases hk : k = (j : Int)
    · rw [if_pos hk] at hv
      injection hv with hv
      exact ⟨j, hj, hk, by omega, by omega⟩
    · rw [if_neg hk] at hv
      exact h.key k v hv
  · rw [e, cntP_app, cntP_one]
    by_cases hij : i = j
    · subst hij
      rw [if_pos rfl, if_pos he.symm, ← h.get i hi]; rfl
    · rw [if_neg (fun e2 => hij (by omega)), if_neg (fun e2 => hij (hd i j hi hj (e2.symm.trans he.symm))), Int.add_zero]
      exact h.get i hi
  · rw [e] at hp
    rcases List.mem_append.1 hp with hp | hp
    · exact h.pos p hp
    · obtain rfl : p = ps[t] := by simpa using hp
      exact hm
theorem ikey_same (s : Int) : (ikey s).sameKey (ikey s) = true := by simp [ikey, Lit.sameKey]
/-- While what was asked back is taken off: which numbers are still to come. -/
structure OffTo (xs : List Lot) (P Q : Nat → ByteArray → Option Int) (pl : ByteArray) (f : Int → Option Int) (left : Lit → Bool) : Prop where
  got : ∀ i : Nat, i < xs.length → (Q i pl).getD 0 = (P i pl).getD 0 - (if left (ikey i) then 0 else (f i).getD 0)
  oth : ∀ i s, s ≠ pl → Q i s = P i s
theorem OffTo.start {f : Int → Option Int} {left : Lit → Bool} (h : ∀ s, left (ikey s) = (f s).isSome) : OffTo xs P P pl f left := by
  refine ⟨fun i _ => ?_, fun _ _ _ => rfl⟩
  rw [h]
  cases f i with
  | none => simp
  | some v => simp
theorem OffTo.next {f : Int → Option Int} {left : Lit → Bool} {j : Nat} {v : Int} (h : OffTo xs P Q pl f left) (hj : j < xs.length) (hf : f j = some v) (hl : left (ikey j) = true) :
    OffTo xs P (fun i => if i = j then (fun s => if s = pl then some ((Q j pl).getD 0 - v) else Q j s) else Q i) pl f (fun z => left z && !z.sameKey (ikey j)) := by
  refine ⟨fun i hi => ?_, fun i s hs => ?_⟩
  · have h1 := h.got i hi
    by_cases hij : i = j
    · subst hij
      rw [if_pos rfl, if_pos rfl]
      simp only [hl, if_true] at h1
      have : (left (ikey i) && !(ikey i).sameKey (ikey i)) = false := by rw [ikey_same]; simp
      simp only [this, hf]
      simp only [Option.getD_some]
      simp; omega
    · rw [if_neg hij]
      have hne : ikey (i : Int) ≠ ikey (j : Int) := fun e => hij (by have := ikey_inj e; omega)
      have e : (left (ikey i) && !(ikey i).sameKey (ikey j)) = left (ikey i) := by rw [Maps.sameKey_ne hne]; simp
      simp only [e]
      exact h1
  · by_cases hij : i = j
    · subst hij
      rw [if_pos rfl, if_neg hs]; exact h.oth i s hs
    · rw [if_neg hij]; exact h.oth i s hs
/-- What taking back does. -/
structure BackRel (xs : List Lot) (P Q : Nat → ByteArray → Option Int) (pl : ByteArray) (ps : List Piece) (f : Int → Option Int) : Prop where
  got : ∀ i : Nat, i < xs.length → (Q i pl).getD 0 = (P i pl).getD 0 - cntP ps (lotN xs i).id
  nn : ∀ i : Nat, i < xs.length → cntP ps (lotN xs i).id ≤ (P i pl).getD 0
  oth : ∀ i s, s ≠ pl → Q i s = P i s
  key : ∀ k v, f k = some v → ∃ i, i < xs.length ∧ k = (i : Nat) ∧ 1 ≤ v
  get : ∀ i : Nat, i < xs.length → (f i).getD 0 = cntP ps (lotN xs i).id
  pos : ∀ p ∈ ps, 1 ≤ p.many
theorem OffTo.done {f : Int → Option Int} {left : Lit → Bool} (h : OffTo xs P Q pl f left) (hg : GoneTo xs P pl ps ps.length f) (hP : ∀ i : Nat, i < xs.length → 0 ≤ (P i pl).getD 0) (hl : ∀ kl, left kl = false) : BackRel xs P Q pl ps f := by
  have e : ps.take ps.length = ps := List.take_length
  refine ⟨fun i hi => ?_, fun i hi => ?_, h.oth, fun k v hv => ?_, fun i hi => by rw [hg.get i hi, e], fun p hp => hg.pos p (by rw [e]; exact hp)⟩
  · rw [h.got i hi, hl, hg.get i hi, e]; simp
  · have h1 := hg.get i hi
    rw [e] at h1
    rw [← h1]
    cases hf : f i with
    | none => exact hP i hi
    | some v =>
      obtain ⟨j, hj, hjk, _, h2⟩ := hg.key _ _ hf
      have : i = j := by omega
      subst this
      exact h2
  · obtain ⟨i, h1, h2, h3, _⟩ := hg.key k v hv
    exact ⟨i, h1, h2, h3⟩
set_option maxRecDepth 100000 in
set_option maxHeartbeats 4000000 in
theorem back_any (Bs : List Nat) (base S mx : Nat) (pa : Option Addr) (pc : Nat) (w : World) (h : StoreM w base S mx xs Bs P) (hn : xs.length ≤ 5) (hd : Apart xs) (hk : keyB pl = true) (hs : pl.size ≤ 1000) (hp : CellsAt w pa (flat encPc ps)) (hps : PcsSm ps) (hpl : ps.length ≤ 10)
    (hP : ∀ i : Nat, i < xs.length → 0 ≤ (P i pl).getD 0 ∧ (P i pl).getD 0 ≤ 1000000) (hmx : mx ≤ 100000) :
    Calls Try.prog 83 #[.pointer (some ⟨S, 0, none⟩), .string pl, .slice pa ps.length pc] w fun e w' =>
      ∃ gv r, e = .returned (.tuple #[gv, .int .i64 r]) ∧ ∃ Q, StoreM w' base S (mx + 20) xs Bs Q ∧ ((r ≠ 0 ∧ gv = .map none ∧ Q = P) ∨ (r = 0 ∧ ∃ B f, gv = .map (some B) ∧ w.heap.size ≤ B ∧ MapI w' B 20 f ∧ BackRel xs P Q pl ps f)) ∧ Keep0 base Bs w w' ∧ CellsStay w w' := by
  have KF := Lib.hid (fun W : World => key_any pl W (by omega))
  rw [hk] at KF
  have H := Lib.hid h
  have HD := Lib.hid hd
  have HP := Lib.hid hP
  have HPC := Lib.hid hp
  have HPS := Lib.hid hps
  have hbw : base ≤ w.heap.size := by have := h.lt; omega
  have hmm := @run_makeMap Try.prog
  have hm0 := Lib.hid (MapI.made w)
  have hg0 := Lib.hid (gr_alloc (gr_refl w none) (.map #[] 0))
  clear hk h hd hP hp hps
  go_enter Try.func83, Try.ntmps83
  go_wp2_with (fail)
  refine (KF.out _).mono ?_
  rintro e w1 ⟨rfl, rfl⟩
  go_wp2_with (fail)
  clear hmm KF
  obtain ⟨B, hB⟩ : ∃ B, B = w.heap.size := ⟨_, rfl⟩
  rw [← hB] at hm0
  rw [← hB]
  have HBE := Lib.hid hB
  have hBw : w.heap.size ≤ B := by omega
  have hBb : base ≤ B := by omega
  clear hB
  go_loopw [20] (fun i wr => ∃ (t : Nat) (f : Int → Option Int), t ≤ ps.length ∧ i = .int .i64 t ∧ MapI wr B t f ∧ GoneTo xs P pl ps t f ∧ w.grownBy wr none) (fun i _ => ps.length - (intOf i).toNat)
  case atStart => exact ⟨0, _, Nat.zero_le _, rfl, hm0.out, .start, hg0.out⟩
  case round =>
    clear hm0 hg0
    obtain ⟨t, f, ht, rfl, hmp, hgo, hgr⟩ := hrel
    obtain ⟨wo, rfl⟩ : ∃ wo : World, wo = wr := ⟨_, rfl⟩
    by_cases htl : t < ps.length
    · obtain ⟨b, off, rfl, d0, d1⟩ := pc_cellsG (HPC.out.keep0 hgr) t htl
      obtain ⟨hp0, hp1, hp2⟩ := HPS.out.all _ (List.getElem_mem htl)
      have NX := Lib.hid (fun (j : Nat) (hj : j < xs.length) he hm hle => hgo.next htl HD.out hj he hm hle)
      have HGET := Lib.hid hgo.get
      have hcb := fun k => cntP_bd (ps.take t) 100000 (fun p hp => ⟨by have := hgo.pos p hp; omega, (HPS.out.all p (List.mem_of_mem_take hp)).2.2⟩) k (by decide)
      have htk : (ps.take t).length ≤ 10 := by rw [List.length_take]; omega
      have HCB := Lib.hid hcb
      obtain ⟨x, hx⟩ : ∃ x, x = ps[t] := ⟨_, rfl⟩
      rw [← hx] at d0 d1 hp0 hp1 hp2 NX
      obtain ⟨K, M⟩ := x
      simp only at d0 d1 hp0 hp1 hp2 NX
      have g4 := gr_alloc (gr_refl wo none) (.cells #[.string K, .int .i64 M] 130)
      have hL := heap_alloc_new wo (.cells #[.string K, .int .i64 M] 130)
      obtain ⟨w4, hw4⟩ : ∃ w4, w4 = wo.alloc (.cells #[.string K, .int .i64 M] 130) := ⟨_, rfl⟩
      rw [← hw4] at g4 hL
      have hst4 := H.out.keep0 (gr_trans hgr g4)
      obtain ⟨va, vc, ua, uc, hS4, s0, s1, hcv, -, hu1, hu2, hmq⟩ := hst4.cells
      have LO := Lib.hid (fun (W : World) (g : w4.grownBy W none) => lot_any K xs va vc W (hcv.keep0 g) (by omega))
      obtain ⟨jx, hjx⟩ : ∃ jx, jx = lotIx xs K := ⟨_, rfl⟩
      rw [← hjx] at LO
      have HJX := Lib.hid hjx
      have HMQ := Lib.hid hmq
      have HL : Hid (w4.heap[wo.heap.size]? = some (.cells #[.string K, .int .i64 M] 130 (0, 0))) := hL
      have HST4 := Lib.hid hst4
      have HMP4 := Lib.hid (hmp.keep0 g4)
      have HG4 := Lib.hid (gr_trans hgr g4)
      have HW4 := Lib.hid hw4
      unfold maxLen at hu2
      clear hgo hcb hx hw4 hL hst4 hS4 hcv hmq hmp hgr g4 hjx
      have l0 : w4.cell? ⟨wo.heap.size, 0, none⟩ = some (.string K) := blkC HL.out 0 rfl
      have l1 : w4.cell? ⟨wo.heap.size, 1, none⟩ = some (.int .i64 M) := blkC HL.out 1 rfl
      have x0 := grew_cell s0
      have x1 := grew_cell l0
      go_upto_region 7 with (fail)
      rw [← HW4.out]
      refine wp_region_grew (by kernel_rfl) (by kernel_rfl) ?_
      repeat (go_big_quiet_step (first
        | (go_at_call 82; exact Calls.grew_of (fun W g => LO.out W g))))
      refine wpQuiet_nil ?_
      rintro wq ⟨nn, rfl⟩
      have gq := nn.gr
      obtain ⟨w5, hw5⟩ : ∃ w5, w5 = nn.w := ⟨_, rfl⟩
      rw [← hw5] at gq
      rw [← hw5]
      have HG5 := Lib.hid (gr_trans HG4.out gq)
      have HMP5 := Lib.hid (HMP4.out.keep0 gq)
      have HST5 := Lib.hid (HST4.out.keep0 gq)
      have HL5 := Lib.hid ((gq.block _ (lt_of_block HL.out) (by simp)).trans HL.out)
      have HMQ5 : Hid (∀ i c, Bs[i]? = some c → ∃ g, ua = some ⟨g, 0, none⟩ ∧ w5.cell? ⟨g, i, none⟩ = some (.map (some c))) := fun i c hc => by
        obtain ⟨g, e, m⟩ := HMQ.out i c hc
        exact ⟨g, e, (gr_cell gq (lt_of_cell m)).trans m⟩
      have s1' := (gr_cell gq (lt_of_cell s1)).trans s1
      clear hw5 gq HMP4 HST4 HG4 LO HMQ HL x0 x1 s0 s1 l0 l1
      have l1 : w5.cell? ⟨wo.heap.size, 1, none⟩ = some (.int .i64 M) := blkC HL5.out 1 rfl
      by_cases hneg : jx < 0
      · go_wp2_with (fail)
        go_ret2
        exact ⟨_, 8, rfl, P, (H.out.keep0 HG5.out).up (by omega), .inl ⟨by decide, rfl, rfl⟩, Keep0.of0 HG5.out, CellsStay.of0 HG5.out⟩
      · by_cases hM : M < 1
        · go_wp2_with (fail)
          go_ret2
          exact ⟨_, 1, rfl, P, (H.out.keep0 HG5.out).up (by omega), .inl ⟨by decide, rfl, rfl⟩, Keep0.of0 HG5.out, CellsStay.of0 HG5.out⟩
        · have hhas : lotHas xs K = true := by
            cases hh : lotHas xs K with
            | true => rfl
            | false => have := lotIx_neg.2 hh; rw [← HJX.out] at this; omega
          obtain ⟨j, hj, hje, hjg⟩ := lotIx_at hhas
          have hid : (lotN xs j).id = K := by rw [lotN_get hj, hjg]; exact lotGet_id hhas
          obtain rfl : jx = j := HJX.out.trans hje
          have hbj : ∃ c, Bs[j]? = some c := ⟨_, List.getElem?_eq_getElem (by have := HST5.out.len; omega)⟩
          obtain ⟨c, hc⟩ := hbj
          obtain ⟨gg, rfl, m0⟩ := HMQ5.out j c hc
          obtain ⟨hbc, mm, hmm, hmp5⟩ := HST5.out.maps j c hc
          have hlk : ∀ n : Grew w5, (Instr.lookup 65 (.map (some c)) (.string pl) false).run Try.prog n.w = .ok (.int .i64 ((P j pl).getD 0)) n.w := fun n => (hmp5.keep0 n.gr).run_get pl (by omega)
          have hlk2 : ∀ n : Grew w5, (Instr.lookup 104 (.map (some B)) (.int .i64 (j : Int)) false).run Try.prog n.w = .ok (.int .i64 ((f j).getD 0)) n.w := fun n => (HMP5.out.keep0 n.gr).run_get j (by omega)
          have hPj := HP.out j hj
          have hfj := HGET.out j hj
          have hcb := HCB.out (lotN xs j).id
          obtain ⟨y, hy⟩ : ∃ y, y = (P j pl).getD 0 := ⟨_, rfl⟩
          obtain ⟨z, hz⟩ : ∃ z, z = (f j).getD 0 := ⟨_, rfl⟩
          rw [← hy] at hlk hPj
          rw [← hz] at hlk2 hfj
          rw [← hfj] at hcb
          have hz1 : 0 ≤ z ∧ z ≤ 1000000 := by omega
          have NXJ := Lib.hid (NX.out j hj hid)
          rw [← hy, ← hz] at NXJ
          have hwr : IntKind.i64.wrap (y - z) = y - z := IntWalk.i64_in _ (by omega)
          have x1 := grew_cell s1'
          have x2 := grew_cell l1
          have x3 := grew_cell m0
          have HM0 := Lib.hid m0
          have HZ := Lib.hid hz
          clear hhas hje hjg hid hc hmp5 hfj hcb hy hz NX HGET HCB HJX m0 s1' HMQ5 HST5
          go_upto_region 12 with (fail)
          refine wp_region_grew (by kernel_rfl) (by kernel_rfl) ?_
          repeat (go_big_quiet_step (first | fail))
          refine wpQuiet_nil ?_
          rintro wq ⟨nn, rfl⟩
          have gq := nn.gr
          obtain ⟨w6, hw6⟩ : ∃ w6, w6 = nn.w := ⟨_, rfl⟩
          rw [← hw6] at gq
          rw [← hw6]
          have HG6 := Lib.hid (gr_trans HG5.out gq)
          have HMP6 := Lib.hid (HMP5.out.keep0 gq)
          have HL6 := Lib.hid ((gq.block _ (lt_of_block HL5.out) (by simp)).trans HL5.out)
          clear l1
          clear hw6 gq HMP5 HG5 HL5 x1 x2 x3 hlk hlk2
          have l1 : w6.cell? ⟨wo.heap.size, 1, none⟩ = some (.int .i64 M) := blkC HL6.out 1 rfl
          by_cases hgt : y - z < M
          · go_wp2_with (fail)
            go_ret2
            exact ⟨_, 16, rfl, P, (H.out.keep0 HG6.out).up (by omega), .inl ⟨by decide, rfl, rfl⟩, Keep0.of0 HG6.out, CellsStay.of0 HG6.out⟩
          · have HNX := Lib.hid (NXJ.out (by omega) (by omega))
            go_wp2_with (first
              | (at_lookup; refine wpList_getII rfl _ _ rfl B t f rfl HMP6.out j rfl (by omega) ?_; rw [← HZ.out])
              | (at_mapUpdate; refine wpList_putII rfl _ _ _ rfl B t f rfl HMP6.out (by omega) j rfl (by omega) (z + M) rfl (by omega) ?_; intro w7 hm7 g7; have HM7 := Lib.hid hm7; have HG7 := Lib.hid (gr_grown HG6.out g7 (fun q e => by cases e; exact hBw)); clear hm7 g7))
            go_roundw
            case rel => exact ⟨t + 1, _, by omega, by go_num, HM7.out, HNX.out, HG7.out⟩
            case measure => simp [intOf]; omega
    · obtain rfl : t = ps.length := by omega
      have HGO := Lib.hid hgo
      have HST := Lib.hid (H.out.keep0 hgr)
      have HMP := Lib.hid hmp
      have HK := Lib.hid (Keep0.of0 (base := base) (Bs := Bs) hgr)
      have HCS := Lib.hid (CellsStay.of0 hgr)
      clear hgo hmp hgr
      have hibl : base ≤ wo.heap.size := by have := HST.out.lt; omega
      go_wp2_with (first | (at_range; refine wpList_rangeII rfl _ rfl B ps.length f rfl HMP.out ?_; intro w5 left cnt hr hleft g5 hz5))
      go_frame
      have HR5 := Lib.hid hr
      have HST5 := Lib.hid (HST.out.keep0 g5)
      have HK5 := Lib.hid (HK.out.trans (.of0 g5))
      have HCS5 := Lib.hid (HCS.out.trans (.of0 g5))
      have HO5 : Hid (OffTo xs P P pl f left) := OffTo.start hleft
      have hcn := hr.le
      obtain ⟨ib, hib⟩ : ∃ b, b = wo.heap.size := ⟨_, rfl⟩
      rw [← hib] at HR5 hibl
      rw [← hib]
      clear hr hleft g5 hz5 hib HST HMP HK
      go_loopw [64] (fun _ wr => ∃ left cnt Q my, RangeI wr B ib ps.length f left cnt ∧ StoreM wr base S my xs Bs Q ∧ OffTo xs P Q pl f left ∧ my + cnt ≤ mx + 10 ∧ Keep0 base Bs w wr ∧ CellsStay w wr) (fun _ wr => wr.rangeLeft B ib)
      case atStart => exact ⟨_, _, _, mx, HR5.out, HST5.out, HO5.out, by omega, HK5.out, HCS5.out⟩
      case round =>
        clear HR5 HST5 HO5 HK5 HCS5
        obtain ⟨left, cnt, Q, my, hr, hst, hoff, hmy, hkeep, hcs⟩ := hrel
        have HCSo := Lib.hid hcs
        clear hcs
        obtain ⟨wi, rfl⟩ : ∃ wi : World, wi = wr := ⟨_, rfl⟩
        have HOFF := Lib.hid hoff
        have HST := Lib.hid hst
        have HKP := Lib.hid hkeep
        clear hoff hst hkeep
        go_wp2_with (first | (at_next; refine wpList_nextII rfl _ rfl B ib ps.length f left cnt rfl hr ?_ ?_))
        · intro hdone
          have HBK := Lib.hid (HOFF.out.done HGO.out (fun i hi => (HP.out i hi).1) hdone)
          have HM := Lib.hid (hr.map.mono (show ps.length ≤ 20 by omega))
          have HST2 := Lib.hid (HST.out.up (mx' := mx + 20) (by omega))
          clear hr hdone
          go_wp2_with (fail)
          go_ret2
          exact ⟨_, 0, rfl, Q, HST2.out, .inr ⟨rfl, B, f, rfl, hBw, HM.out, HBK.out⟩, HKP.out, HCSo.out⟩
        · intro s x w22 cnt' hfs hl2 hr22 hlt g22 hz22 hen
          obtain ⟨j, hj, rfl, hx1, hx2⟩ := HGO.out.key s x hfs
          have hofn := HOFF.out.next hj hfs hl2
          obtain ⟨im, ia, isn, ic, hio⟩ := hr.iter
          have hst2 := HST.out.keepI g22 hio
          have hq := HOFF.out.got j hj
          rw [hl2, if_pos rfl, Int.sub_zero] at hq
          have hPj := HP.out j hj
          have hbj : ∃ c, Bs[j]? = some c := ⟨_, List.getElem?_eq_getElem (by have := hst2.len; omega)⟩
          obtain ⟨c, hc⟩ := hbj
          obtain ⟨va, vc, ua, uc, hS4, s0, s1, hcv, -, hu1, hu2, hmq⟩ := hst2.cells
          obtain ⟨gg, rfl, m0⟩ := hmq j c hc
          obtain ⟨hbc, mm, hmm, hmp5⟩ := hst2.maps j c hc
          have hlk := hmp5.run_get pl (by omega)
          obtain ⟨y, hy⟩ : ∃ y, y = (Q j pl).getD 0 := ⟨_, rfl⟩
          rw [← hy] at hlk hq hofn
          have hyb : 0 ≤ y ∧ y ≤ 1000000 ∧ x ≤ y := by omega
          clear hq
          have hwr : IntKind.i64.wrap (y - x) = y - x := IntWalk.i64_in _ (by omega)
          have HCL : Hid (c < w.heap.size) := by obtain ⟨_, mq, _, hmq0⟩ := H.out.maps j c hc; exact hmq0.lt
          have HMP5 := Lib.hid hmp5
          have HOFN := Lib.hid hofn
          have HST3 := Lib.hid hst2
          have HC := Lib.hid hc
          have HKP2 := Lib.hid (HKP.out.trans (.ofB g22 (fun q e => by cases e; exact hibl) (fun q es cl e hm => by cases e; rw [hio] at hm; cases hm)))
          have HCS2 := Lib.hid (HCSo.out.trans (.of g22 (fun q cs ty fr e hm => by cases e; rw [hio] at hm; cases hm)))
          have HR22 := Lib.hid hr22
          have HRo := Lib.hid hr
          have HLT := Lib.hid hlt
          have HY := Lib.hid hy
          unfold maxLen at hu2
          clear hfs hl2 hlt g22 hz22 hr hr22 hofn hst2 hc hmp5 hy hio hcv hmq hS4 HOFF HST HKP
          go_wp2_with (first
            | (at_lookup; refine wpList_getSI rfl _ _ rfl c mm (Q j) rfl HMP5.out pl rfl (by omega) ?_; rw [← HY.out])
            | (at_mapUpdate; refine wpList_putSI rfl _ _ _ rfl c mm (Q j) rfl HMP5.out (by omega) pl rfl (by omega) (y - x) rfl (by omega) ?_; intro w7 hm7 g7; have HM7 := Lib.hid hm7; have HG7 := Lib.hid g7; clear hm7 g7))
          have hmyx : my + 1 + cnt' ≤ mx + 10 := by have := HLT.out; omega
          have HST7 := Lib.hid (HST3.out.put (mx' := my + 1) HC.out HM7.out (by omega) (by omega) HG7.out)
          have HR7 : Hid (RangeI w7 B ib ps.length f _ cnt') := HR22.out.keep HG7.out (fun e => by cases e; have := HCL.out; omega) (fun e => by cases e; obtain ⟨es, cl, ho⟩ := HMP5.out.obj; obtain ⟨im, ia, isn, ic, hio⟩ := HR22.out.iter; rw [ho] at hio; cases hio)
          have HK7 := Lib.hid (HKP2.out.trans (.ofB HG7.out (fun q e => by cases e; exact hbc) (fun q es cl e _ => by cases e; exact List.mem_of_getElem? HC.out)))
          have HCS7 := Lib.hid (HCS2.out.trans (.of HG7.out (fun q cs ty fr e hm => by cases e; obtain ⟨es, cl, ho⟩ := HMP5.out.obj; rw [ho] at hm; cases hm)))
          go_roundw
          case rel => ((repeat apply Exists.intro); exact ⟨⟨_, cnt', _, my + 1, HR7.out, HST7.out, HOFN.out, hmyx, HK7.out, HCS7.out⟩, rfl⟩)
          case measure => rw [HR7.out.left, HRo.out.left]; exact HLT.out
end Go.Proofs.Ytakabckmiodjaaa

/-! Kits are picked for all needs. -/
namespace Go.Proofs.Ytakabckmiodjaaa
open Go.RowKit
attribute [local go_sem ↓] Go.wp_at_zero Go.wp_at_succ

/-- What stands while the counts are cut down: the counts, bounded. -/
structure GetsW (wr w : World) (gg n : Nat) (gl : List Int) : Prop where
  own : wr.ownsRow gg 3 1 (.slice (some ⟨gg, 0, none⟩) n n) n (ints gl)
  bd : ∀ x ∈ gl, 0 ≤ x ∧ x ≤ 100000000
  gr : w.grownBy wr none
  gw : w.heap.size ≤ gg
theorem GetsW.keep0 {wr w1 w : World} {gg n : Nat} {gl : List Int} (h : GetsW wr w gg n gl) (g : wr.grownBy w1 none) : GetsW w1 w gg n gl := ⟨own_keep0 h.own g, h.bd, gr_trans h.gr g, h.gw⟩
theorem GetsW.set {wr w : World} {gg n : Nat} {gl : List Int} (h : GetsW wr w gg n gl) (k : Nat) (hk : k < n) (x : Int) (hx : 0 ≤ x ∧ x ≤ 100000000) : GetsW (wr.setCell ⟨gg, k, none⟩ (.int .i64 x)) w gg n (gl.set k x) :=
  ⟨(own_int h.own k hk).2.2 x, fun y hy => by
    rcases List.mem_or_eq_of_mem_set hy with hy | rfl
    · exact h.bd y hy
    · exact hx, gr_new h.gr h.gw _, h.gw⟩
theorem share_each {tot sum : Int} {ws P : List Int} (h : ShareOk tot sum ws P) (h0 : 0 ≤ tot) (hs : 0 < sum) (hw : ∀ x ∈ ws, 0 ≤ x) (he : ws.sum = sum) (j : Nat) (hj : j < ws.length) : 0 ≤ P.getD j 0 ∧ P.getD j 0 ≤ tot + 1 := by
  have h1 := h.each j hj
  have e : (quoL tot sum ws).getD j 0 = quoT tot sum ws[j] := by
    unfold quoL
    rw [List.getD_eq_getElem?_getD, List.getElem?_map, List.getElem?_eq_getElem hj]; rfl
  rw [e] at h1
  have h2 := quo_rem h0 hs (hw _ (List.getElem_mem hj))
  have h3 := quoT_le h0 hs (hw _ (List.getElem_mem hj)) (by rw [← he]; exact mem_le_sum ws hw _ (List.getElem_mem hj))
  omega
theorem needSum_next (N : List Need) (k : Nat) (hk : k < N.length) (s : ByteArray) : needSum (N.take (k + 1)) s = needSum (N.take k) s + (if N[k].prod = s then N[k].many else 0) := by
  have e : N.take (k + 1) = N.take k ++ [N[k]] := by simp
  rw [e, needSum_app]
  simp [needSum]
end Go.Proofs.Ytakabckmiodjaaa

/-! What the law of picks asks: lots are apart; whether pieces hold a piece; counts of pieces. -/
namespace Go.Proofs.Ytakabckmiodjaaa
open Go.RowKit
attribute [local go_sem ↓] Go.wp_at_zero Go.wp_at_succ

theorem lots_apart {xs : List Lot} (h : LotsOk xs) : Apart xs := by
  have key : ∀ i j, (hi : i < xs.length) → (hj : j < xs.length) → i < j → xs[i].id ≠ xs[j].id := fun i j hi hj hij e => by
    have := h.lt j hj xs[i] (by rw [List.mem_iff_getElem]; exact ⟨i, by simp; omega, by simp⟩)
    rw [e, cmpB_zero.2 rfl] at this
    omega
  intro i j hi hj e
  rw [lotN_get hi, lotN_get hj] at e
  rcases Nat.lt_trichotomy i j with h1 | h1 | h1
  · exact absurd e (key i j hi hj h1)
  · exact h1
  · exact absurd e.symm (key j i hj hi h1)
theorem lotGet_of {xs : List Lot} (h : Apart xs) (i : Nat) (hi : i < xs.length) : lotGet xs (lotN xs i).id = lotN xs i := by
  unfold lotGet
  rw [lotN_get hi, find_at hi (by simp [idIs]) (fun j hj hji => by
    cases hb : idIs xs[i].id xs[j] with
    | false => rfl
    | true =>
      have e : xs[j].id = xs[i].id := bytes_of (by simpa [idIs] using hb)
      have := h j i hj hi (by rw [lotN_get hj, lotN_get hi]; exact e)
      omega)]
  rfl
theorem cntP_nonneg (ps : List Piece) (k : ByteArray) (h : ∀ p ∈ ps, 0 ≤ p.many) : 0 ≤ cntP ps k := by
  induction ps with
  | nil => simp [cntP]
  | cons p ps ih =>
    have e : cntP (p :: ps) k = (if (p.lot.toList == k.toList) = true then p.many else 0) + cntP ps k := by simp [cntP]
    have h1 := ih (fun q hq => h q (by simp [hq]))
    have h2 := h p (by simp)
    rw [e]; split <;> omega
theorem cntP_take (ps : List Piece) (t : Nat) (ht : t < ps.length) (k : ByteArray) : cntP (ps.take (t + 1)) k = cntP (ps.take t) k + if (ps[t].lot.toList == k.toList) = true then ps[t].many else 0 := by
  have e : ps.take (t + 1) = ps.take t ++ [ps[t]] := by simp
  rw [e, cntP_app]
  simp [cntP]
theorem cntP_pre (ps : List Piece) (t : Nat) (k : ByteArray) (h : ∀ p ∈ ps, 0 ≤ p.many) : cntP (ps.take t) k ≤ cntP ps k := by
  have e : cntP ps k = cntP (ps.take t) k + cntP (ps.drop t) k := by rw [← cntP_app, List.take_append_drop]
  have := cntP_nonneg (ps.drop t) k (fun p hp => h p (List.mem_of_mem_drop hp))
  omega
theorem allPs_take (ks : List KitV) (j : Nat) (hj : j < ks.length) : allPs (ks.take (j + 1)) = allPs (ks.take j) ++ ks[j].ps := by
  have e : ks.take (j + 1) = ks.take j ++ [ks[j]] := by simp
  rw [e, allPs_app]
theorem pcSum_take (ps : List Piece) (t : Nat) (ht : t < ps.length) : pcSum (ps.take (t + 1)) = pcSum (ps.take t) + pcMany ps t := by
  have e : ps.take (t + 1) = ps.take t ++ [ps[t]] := by simp
  rw [e, pcSum_app]
  unfold pcMany
  rw [getD_eq ps t _ ht]
  simp [pcSum]
end Go.Proofs.Ytakabckmiodjaaa
