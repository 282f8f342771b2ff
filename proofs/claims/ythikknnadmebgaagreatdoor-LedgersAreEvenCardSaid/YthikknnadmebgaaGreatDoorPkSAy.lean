/- A ledger: its block, and till.NewLedger. -/
import Derived.Test.YthikknnadmebgaaGreatDoorPkSAw
import Derived.Test.YthikknnadmebgaaGreatDoorPkSAx
import Derived.Test.YthikknnadmebgaaGreatDoorPkSAa
namespace Go.Proofs.YthikknnadmebgaaGreatDoor
open Go.RowKit
attribute [local go_sem ↓] Go.wp_at_zero Go.wp_at_succ

structure LedAt (w : World) (g M : Nat) (v : Value) (n : Nat) (f : ByteArray → Option Int) : Prop where
  blk : w.heap[g]? = some (.cells #[v, .map (some M)] 83 (0, 0))
  mp : MapIs w M n f
theorem LedAt.keep0 {w w1 : World} {g M n : Nat} {v : Value} {f : ByteArray → Option Int} (h : LedAt w g M v n f) (e : w.grownBy w1 none) : LedAt w1 g M v n f :=
  ⟨(e.block _ (lt_of_block h.blk) (by simp)).trans h.blk, h.mp.keep0 e⟩
theorem newLedger_any (w : World) :
    Calls Tryz.prog 5 #[] w fun e w' => e = .returned (.pointer (some ⟨w.heap.size + 1, 0, none⟩)) ∧ LedAt w' (w.heap.size + 1) w.heap.size (.slice none 0 0) 0 (fun _ => none) ∧ w.grownBy w' none := by
  have hm0 := MapIs.made w
  have g1 := gr_alloc (gr_refl w none) (.map #[] 0)
  have hmm := @run_makeMap Tryz.prog
  have hs : (w.alloc (.map #[] 0)).heap.size = w.heap.size + 1 := by simp
  have hB := heap_alloc_new (w.alloc (.map #[] 0)) (.cells #[.slice none 0 0, .map (some w.heap.size)] 83)
  have g2 := gr_alloc (gr_refl (w.alloc (.map #[] 0)) none) (.cells #[.slice none 0 0, .map (some w.heap.size)] 83)
  rw [hs] at hB
  have HM := Lib.hid (hm0.keep0 g2)
  have HB := Lib.hid hB
  have HG := Lib.hid (gr_trans g1 g2)
  clear hm0 g1 g2 hB
  go_enter Tryz.func5, Tryz.ntmps5
  go_wp2_with (fail)
  go_ret
  exact ⟨rfl, ⟨HB.out, HM.out⟩, HG.out⟩
end Go.Proofs.YthikknnadmebgaaGreatDoor

/-! What lines add up to, as a map; a posted entry's cells. -/
namespace Go.Proofs.YthikknnadmebgaaGreatDoor
open Go.RowKit

theorem ePs : ElemT Tryz.prog 81 86 (.agg #[.int .i64 0, .string ⟨#[]⟩, .slice none 0 0, .int .i64 0, .bool false]) 5 64 := ⟨by kernel_rfl, by kernel_rfl, by decide, by decide, by decide⟩
def addM (f : ByteArray → Option Int) (x : Nm) : ByteArray → Option Int := fun t => if t = x.key then some ((f x.key).getD 0 + x.many) else f t
def addL (f : ByteArray → Option Int) (L : List Nm) : ByteArray → Option Int := L.foldl addM f
theorem addL_next (f : ByteArray → Option Int) (L : List Nm) (k : Nat) (h : k < L.length) : addL f (L.take (k + 1)) = addM (addL f (L.take k)) L[k] := by
  have e : L.take (k + 1) = L.take k ++ [L[k]] := by simp
  unfold addL
  rw [e, List.foldl_append]
  rfl
theorem addL_other (f : ByteArray → Option Int) (L : List Nm) (s : ByteArray) (h : ∀ x ∈ L, x.key ≠ s) : addL f L s = f s := by
  unfold addL
  induction L generalizing f with
  | nil => rfl
  | cons x L ih =>
    rw [List.foldl_cons, ih _ (fun y hy => h y (by simp [hy]))]
    unfold addM
    rw [if_neg (fun e => h x (by simp) e.symm)]
theorem bytes_eqL (a b : ByteArray) : (a.toList == b.toList) = true → a = b := by
  intro h
  have h := eq_of_beq h
  rw [ByteArray.toList_eq, ByteArray.toList_eq] at h
  cases a; cases b
  simp at h
  rw [h]
theorem addL_apart (f : ByteArray → Option Int) (L : List Nm) (ok : EntOk L) (k : Nat) (h : k < L.length) : addL f (L.take k) L[k].key = f L[k].key := by
  refine addL_other f _ _ (fun x hx e => ?_)
  have h1 := List.any_eq_false.1 (ok.apart k h) x hx
  unfold lnIs at h1
  rw [e] at h1
  exact h1 (by simp)
theorem MapIs.objL {w : World} {b n : Nat} {f : ByteArray → Option Int} (h : MapIs w b n f) : ∃ es cl, w.heap[b]? = some (Obj.map es cl) := by
  obtain ⟨D, ⟨es, cl, hb, _⟩, _⟩ := h
  exact ⟨es, cl, hb⟩
/-- Cells are no map: they stay while a map changes. -/
theorem cellL_map {w w1 : World} {b o c n : Nat} {v : Value} {f : ByteArray → Option Int} (hc : w.cell? ⟨b, o, none⟩ = some v) (hm : MapIs w c n f) (g : w.grownBy w1 (some c)) : w1.cell? ⟨b, o, none⟩ = some v := by
  have : b ≠ c := by
    rintro rfl
    obtain ⟨es, cl, ho⟩ := hm.objL
    simp [World.cell?, ho] at hc
  exact g.cell hc (by simpa using this)
theorem cellsL_map {w w1 : World} {a : Option Addr} {c n : Nat} {xs : List Value} {f : ByteArray → Option Int} (h : CellsAt w a xs) (hm : MapIs w c n f) (g : w.grownBy w1 (some c)) : CellsAt w1 a xs := by
  intro j x hx
  obtain ⟨b, off, ha, hc⟩ := h j x hx
  exact ⟨b, off, ha, cellL_map hc hm g⟩
theorem blkL_map {w w1 : World} {q c n : Nat} {cs : Array Value} {t : TypeId} {z : Nat × Nat} {f : ByteArray → Option Int} (h : w.heap[q]? = some (.cells cs t z)) (hm : MapIs w c n f) (g : w.grownBy w1 (some c)) : w1.heap[q]? = some (.cells cs t z) := by
  refine (g.block _ (lt_of_block h) ?_).trans h
  intro e
  cases e
  obtain ⟨es, cl, ho⟩ := hm.objL
  rw [h] at ho
  cases ho
theorem ownL_ne {w : World} {base e size m c n : Nat} {v : Value} {xs : List Value} {f : ByteArray → Option Int} (h : w.ownsRow base e size v m xs) (hm : MapIs w c n f) : some c ≠ v.ownBlock := by
  obtain ⟨es, cl, ho⟩ := hm.objL
  rcases h.2 with ⟨rfl, _⟩ | ⟨g', cap, cur, rfl, _, hh, _⟩
  · simp [Value.ownBlock]
  · intro he
    simp [Value.ownBlock] at he
    subst he
    rw [ho] at hh
    cases hh
theorem ownL_map {w w1 : World} {base e size m c n : Nat} {v : Value} {xs : List Value} {f : ByteArray → Option Int} (h : w.ownsRow base e size v m xs) (hm : MapIs w c n f) (g : w.grownBy w1 (some c)) : w1.ownsRow base e size v m xs := by
  refine own_keep h g (.inr ?_)
  obtain ⟨es, cl, ho⟩ := hm.objL
  rcases h.2 with ⟨rfl, _⟩ | ⟨g', cap, cur, rfl, _, hh, _⟩
  · simp [Value.ownBlock]
  · intro he
    simp [Value.ownBlock] at he
    subst he
    rw [ho] at hh
    cases hh
end Go.Proofs.YthikknnadmebgaaGreatDoor

/-! till.Ledger.add of a right entry. -/
namespace Go.Proofs.YthikknnadmebgaaGreatDoor
open Go.RowKit
attribute [local go_sem ↓] Go.wp_at_zero Go.wp_at_succ

set_option maxRecDepth 100000 in
set_option maxHeartbeats 2000000 in
theorem ledAdd_any (day : Int) (T : ByteArray) (L : List Nm) (a : Option Addr) (c : Nat) (kc : Int) (cd : Bool) (g M n base m : Nat) (v : Value) (xs : List Value) (f : ByteArray → Option Int) (w0 w : World) (hL : LedAt w g M v n f) (ho : w.ownsRow base 86 5 v m xs) (hc : CellsAt w a (flat encNm L)) (ok : EntOk L)
    (hm : m < 2000) (hn : n ≤ 100000) (hb : ∀ x ∈ L, -1000000000000 ≤ (f x.key).getD 0 + x.many ∧ (f x.key).getD 0 + x.many ≤ 1000000000000) (g0 : w0.grownBy w none) (zg : w0.heap.size ≤ g) (zM : w0.heap.size ≤ M) (zb : w0.heap.size ≤ base) (hbw : base ≤ w.heap.size) :
    Calls Tryz.prog 41 #[.pointer (some ⟨g, 0, none⟩), .agg #[.int .i64 day, .string T, .slice a L.length c, .int .i64 kc, .bool cd]] w fun e w' => ∃ v', e = .returned (.tuple #[.int .i64 ((m + 1 : Nat) : Int), .int .i64 0]) ∧ LedAt w' g M v' (n + L.length) (addL f L) ∧ w'.ownsRow base 86 5 v' (m + 1) (xs ++ [.int .i64 day, .string T, .slice a L.length c, .int .i64 kc, .bool cd]) ∧ w0.grownBy w' none ∧ (∀ b, b < w.heap.size → b ≠ g → b ≠ M → some b ≠ v.ownBlock → w'.heap[b]? = w.heap[b]?) := by
  have hP := heap_alloc_new w (.cells #[.int .i64 day, .string T, .slice a L.length c, .int .i64 kc, .bool cd] 86)
  have g1 := gr_alloc (gr_refl w none) (.cells #[.int .i64 day, .string T, .slice a L.length c, .int .i64 kc, .bool cd] 86)
  obtain ⟨w1, hw1⟩ : ∃ w1, w1 = w.alloc (.cells #[.int .i64 day, .string T, .slice a L.length c, .int .i64 kc, .bool cd] 86) := ⟨_, rfl⟩
  rw [← hw1] at hP g1
  obtain ⟨P, hPe⟩ : ∃ P, P = w.heap.size := ⟨_, rfl⟩
  rw [← hPe] at hP
  obtain ⟨va, vc, rfl, -, -, -, -⟩ := own_shape ho
  have HGA := Lib.hid g1
  have HL1 := Lib.hid (hL.keep0 g1)
  have HO1 := Lib.hid (own_keep0 ho g1)
  have HC1 := Lib.hid (hc.keep0 g1)
  have HG1 := Lib.hid (gr_trans g0 g1)
  have HP1 := Lib.hid hP
  have HW1 := Lib.hid hw1
  have HPE := Lib.hid hPe
  have HOK := Lib.hid ok
  have HB := Lib.hid hb
  have hl0 := ok.l0
  have hl1 := ok.l1
  have hz1 := g1.size
  have dm : (((m : Int)) == 2000) = false := beq_eq_false_iff_ne.2 (by omega)
  have x0 : w1.cell? ⟨g, 0, none⟩ = some (.slice va m vc) := blkC HL1.out.blk 0 rfl
  have p2 : w1.cell? ⟨P, 2, none⟩ = some (.slice a L.length c) := blkC hP 2 rfl
  have x0r := x0
  have p2r := p2
  rw [hw1] at x0r p2r
  rw [hPe] at p2r
  clear hP g1 hw1 hPe hL ho hc ok hb g0 x0 p2
  go_enter Tryz.func41, Tryz.ntmps41
  go_wp2_with (fail)
  rw [← HW1.out, ← HPE.out]
  clear x0r p2r
  go_loopw [20] (fun i wr => ∃ k : Nat, k ≤ L.length ∧ i = .int .i64 k ∧ w1.grownBy wr none) (fun i _ => L.length - (intOf i).toNat)
  case atStart => exact ⟨0, Nat.zero_le _, rfl, gr_refl _ _⟩
  case round =>
    obtain ⟨k, hk, rfl, hgr⟩ := hrel
    obtain ⟨wo, rfl⟩ : ∃ wo : World, wo = wr := ⟨_, rfl⟩
    by_cases hlt : k < L.length
    · obtain ⟨b, off, rfl, d0, d1⟩ := bk_cells (HC1.out.keep0 hgr) k hlt
      obtain ⟨o1, o2⟩ := HOK.out.key _ (List.getElem_mem hlt)
      obtain ⟨o3, o4, o5⟩ := HOK.out.many _ (List.getElem_mem hlt)
      obtain ⟨b0, b1⟩ := HB.out _ (List.getElem_mem hlt)
      obtain ⟨x, hx⟩ : ∃ x, x = L[k] := ⟨_, rfl⟩
      rw [← hx] at d0 d1 o1 o2 o3 o4 o5 b0 b1
      obtain ⟨K, Y⟩ := x
      simp only at d0 d1 o1 o2 o3 o4 o5 b0 b1
      obtain ⟨y, hy⟩ : ∃ y, y = (f K).getD 0 := ⟨_, rfl⟩
      rw [← hy] at b0 b1
      have hX := heap_alloc_new wo (.cells #[.string K, .int .i64 Y] 89)
      have ga := gr_alloc (gr_refl wo none) (.cells #[.string K, .int .i64 Y] 89)
      obtain ⟨w3, hw3⟩ : ∃ w3, w3 = wo.alloc (.cells #[.string K, .int .i64 Y] 89) := ⟨_, rfl⟩
      rw [← hw3] at hX ga
      obtain ⟨Q, hQ⟩ : ∃ Q, Q = wo.heap.size := ⟨_, rfl⟩
      rw [← hQ] at hX
      have HL3 := Lib.hid ((HL1.out.keep0 hgr).keep0 ga)
      have x0 : w3.cell? ⟨Q, 0, none⟩ = some (.string K) := blkC hX 0 rfl
      have x1 : w3.cell? ⟨Q, 1, none⟩ = some (.int .i64 Y) := blkC hX 1 rfl
      have l1 : w3.cell? ⟨g, 1, none⟩ = some (.map (some M)) := blkC HL3.out.blk 1 rfl
      have hlk : ∀ n : Grew w3, (Instr.lookup 80 (.map (some M)) (.string K) false).run Tryz.prog n.w = .ok (.int .i64 ((f K).getD 0)) n.w := fun n => (HL3.out.mp.keep0 n.gr).run_get K (by omega)
      rw [← hy] at hlk
      have hlk3 : (Instr.lookup 80 (.map (some M)) (.string K) false).run Tryz.prog w3 = .ok (.int .i64 y) w3 := by rw [hy]; exact HL3.out.mp.run_get K (by omega)
      have hwS : IntKind.i64.wrap (y + Y) = y + Y := IntWalk.i64_in _ (by omega)
      have dM : (decide (y + Y < -1000000000000) || decide (1000000000000 < y + Y)) = false := by simp; omega
      have HG3 := Lib.hid (gr_trans hgr ga)
      have HW3 := Lib.hid hw3
      have HQ := Lib.hid hQ
      clear hx hX ga hw3 hQ hgr hy
      go_upto_region 6 with (fail)
      rw [← HW3.out, ← HQ.out]
      clear d0 d1
      refine wp_region_grew (by kernel_rfl) (by kernel_rfl) ?_
      have l1g := grew_cell l1
      have x0g := grew_cell x0
      have x1g := grew_cell x1
      repeat (go_big_quiet_step (first | (go_at_call 48; exact Calls.grew_of (fun W _ => (out_any (y + Y) (-1000000000000) 1000000000000 W).mono (by rintro e w' ⟨rfl, rfl⟩; exact ⟨rfl, gr_refl _ _⟩)))))
      refine wpQuiet_nil ?_
      rintro wq ⟨n5, rfl⟩
      have gq := Lib.hid n5.gr
      rw [dM]
      go_wp2_with (fail)
      go_roundw
      case rel => exact ⟨k + 1, by omega, by go_num, gr_trans HG3.out gq.out⟩
      case measure => simp [intOf]; omega
    · obtain rfl : k = L.length := by omega
      have HLo := Lib.hid (HL1.out.keep0 hgr)
      have HOo := Lib.hid (own_keep0 HO1.out hgr)
      have HCo := Lib.hid (HC1.out.keep0 hgr)
      have hPo := (hgr.block _ (lt_of_block HP1.out) (by simp)).trans HP1.out
      have HPo := Lib.hid hPo
      have HGo := Lib.hid (gr_trans HG1.out hgr)
      have HGW := Lib.hid (gr_trans HGA.out hgr)
      have hzo := hgr.size
      have p2 : wo.cell? ⟨P, 2, none⟩ = some (.slice a L.length c) := blkC hPo 2 rfl
      clear hPo hgr HL1 HO1 HC1 HP1 HG1
      go_wp2_with (fail)
      go_loopw [40] (fun i wr => ∃ j : Nat, j ≤ L.length ∧ i = .int .i64 j ∧ MapIs wr M (n + j) (addL f (L.take j)) ∧ wo.grownBy wr (some M)) (fun i _ => L.length - (intOf i).toNat)
      case atStart => exact ⟨0, Nat.zero_le _, rfl, HLo.out.mp, gr_refl _ _⟩
      case round =>
        clear p2
        obtain ⟨j, hj, rfl, hmp, hgr⟩ := hrel
        obtain ⟨wi, rfl⟩ : ∃ wi : World, wi = wr := ⟨_, rfl⟩
        by_cases hlt2 : j < L.length
        · have hCi := cellsL_map HCo.out HLo.out.mp hgr
          obtain ⟨b, off, rfl, d0, d1⟩ := bk_cells hCi j hlt2
          obtain ⟨o1, o2⟩ := HOK.out.key _ (List.getElem_mem hlt2)
          obtain ⟨b0, b1⟩ := HB.out _ (List.getElem_mem hlt2)
          have AP := addL_apart f L HOK.out j hlt2
          have NX := addL_next f L j hlt2
          obtain ⟨x, hx⟩ : ∃ x, x = L[j] := ⟨_, rfl⟩
          rw [← hx] at d0 d1 o1 o2 b0 b1 AP NX
          obtain ⟨K, Y⟩ := x
          simp only at d0 d1 o1 o2 b0 b1 AP
          obtain ⟨h, hh⟩ : ∃ h, h = addL f (L.take j) := ⟨_, rfl⟩
          rw [← hh] at hmp AP NX
          obtain ⟨y, hy⟩ : ∃ y, y = (h K).getD 0 := ⟨_, rfl⟩
          rw [← AP, ← hy] at b0 b1
          have NXE : Hid ((fun t => if t = K then some (y + Y) else h t) = addL f (L.take (j + 1))) := by show _ = _; rw [NX, hy]; rfl
          have l1 : wi.cell? ⟨g, 1, none⟩ = some (.map (some M)) := blkC (blkL_map HLo.out.blk HLo.out.mp hgr) 1 rfl
          have hX := heap_alloc_new wi (.cells #[.string K, .int .i64 Y] 89)
          have ga := gr_alloc (gr_refl wi none) (.cells #[.string K, .int .i64 Y] 89)
          obtain ⟨w3, hw3⟩ : ∃ w3, w3 = wi.alloc (.cells #[.string K, .int .i64 Y] 89) := ⟨_, rfl⟩
          rw [← hw3] at hX ga
          obtain ⟨Q, hQ⟩ : ∃ Q, Q = wi.heap.size := ⟨_, rfl⟩
          rw [← hQ] at hX
          have HM3 := Lib.hid (hmp.keep0 ga)
          have HX := Lib.hid hX
          have HL3 := Lib.hid ((ga.block _ (lt_of_block (blkL_map HLo.out.blk HLo.out.mp hgr)) (by simp)).trans (blkL_map HLo.out.blk HLo.out.mp hgr))
          have HG3 := Lib.hid (gr_trans hgr (gr_weak ga _))
          have hwS : IntKind.i64.wrap (y + Y) = y + Y := IntWalk.i64_in _ (by omega)
          have HY := Lib.hid hy
          have HW3 := Lib.hid hw3
          have HQ := Lib.hid hQ
          clear hx hh hmp hgr ga hy AP NX hCi hX hw3 hQ
          go_upto_region 12 with (fail)
          rw [← HW3.out, ← HQ.out]
          clear l1 d0 d1
          have e1 : w3.drew.cell? ⟨g, 1, none⟩ = some (.map (some M)) := blkC HL3.out 1 rfl
          have q0 : w3.drew.cell? ⟨Q, 0, none⟩ = some (.string K) := blkC HX.out 0 rfl
          have q1 : w3.drew.cell? ⟨Q, 1, none⟩ = some (.int .i64 Y) := blkC HX.out 1 rfl
          have HMd := HM3.out.keep0 (gr_drew (gr_refl w3 none))
          have hlk := HMd.run_get K (by omega)
          rw [← HY.out] at hlk
          obtain ⟨w6, hup, hm6, g6⟩ := HMd.run_put (by omega) K (by omega) (y + Y) (by omega)
          rw [NXE.out] at hm6
          have HM6 := Lib.hid hm6
          have HG6 := Lib.hid (gr_trans (gr_drew HG3.out) g6)
          clear HMd hm6 g6
          go_region
          all_goals (go_wp2_with (fail))
          all_goals go_roundw
          case rel => exact ⟨j + 1, by omega, by go_num, HM6.out, HG6.out⟩
          case measure => simp [intOf]; omega
        · obtain rfl : j = L.length := by omega
          have hBi := blkL_map HLo.out.blk HLo.out.mp hgr
          have hPi := blkL_map HPo.out HLo.out.mp hgr
          have hOi := ownL_map HOo.out HLo.out.mp hgr
          have HMi := Lib.hid hmp
          rw [List.take_length] at HMi
          have HGi := Lib.hid (gr_grown HGo.out hgr (fun q e => by cases e; exact zM))
          have hzi := hgr.size
          have HFI : Hid (w.heap.size ≤ wi.drew.heap.size ∧ ∀ b, b < w.heap.size → b ≠ M → wi.drew.heap[b]? = w.heap[b]?) := ⟨Nat.le_trans HGW.out.size hgr.size, fun b hb h2 => (hgr.block b (Nat.lt_of_lt_of_le hb HGW.out.size) (fun e => by cases e; exact h2 rfl)).trans (HGW.out.block b hb (by simp))⟩
          have HOD := Lib.hid (own_of_heapG (w' := wi.drew) hOi rfl)
          have HBD : Hid (wi.drew.heap[g]? = _) := hBi
          have c0 : wi.cell? ⟨g, 0, none⟩ = some (.slice va m vc) := blkC hBi 0 rfl
          have p0 : wi.cell? ⟨P, 0, none⟩ = some (.int .i64 day) := blkC hPi 0 rfl
          have p1 : wi.cell? ⟨P, 1, none⟩ = some (.string T) := blkC hPi 1 rfl
          have p2 : wi.cell? ⟨P, 2, none⟩ = some (.slice a L.length c) := blkC hPi 2 rfl
          have p3 : wi.cell? ⟨P, 3, none⟩ = some (.int .i64 kc) := blkC hPi 3 rfl
          have p4 : wi.cell? ⟨P, 4, none⟩ = some (.bool cd) := blkC hPi 4 rfl
          have hbz : base ≤ wi.drew.heap.size := by show _ ≤ wi.heap.size; omega
          obtain ⟨sv, hsv⟩ : ∃ sv, sv = Value.slice va m vc := ⟨_, rfl⟩
          rw [← hsv] at c0 HOD HBD
          have hgz : g < wi.heap.size := lt_of_cell c0
          have hPz : P < wi.heap.size := lt_of_cell p0
          have HSV := Lib.hid hsv
          clear hBi hPi hOi hmp hgr hsv
          go_upto_region 14 with (fail)
          go_region_law (first
            | (refine step_app1 ePs rfl _ _ rfl base _ m _ rfl wi.drew #[.int .i64 day, .string T, .slice a L.length c, .int .i64 kc, .bool cd] rfl HOD.out _ rfl rfl rfl rfl (by omega) hbz ?_; intro v11 w11 o11 g11 hl11 hk11; obtain ⟨ga, ca, rfl, hga, hgal, -, -⟩ := own_some o11 (by omega); have hB11 := held_own HOD.out HBD.out g11 (by decide); have c11 : w11.cell? ⟨g, 0, none⟩ = some sv := blkC hB11 0 rfl; have t11 := blkF hB11 0)
            | fail)
          all_goals
            have gx := gr_set (q := ⟨g, 0, none⟩) (gr_refl w11 (some g)) rfl (.slice (some ⟨ga, 0, none⟩) (m + 1) ca)
            have k1 := Lib.hid (o11.kept gx (Or.inr (own_ne o11 hB11 (by decide))))
            have k2 := heap_setCell_same w11 g 0 _ _ (.slice (some ⟨ga, 0, none⟩) (m + 1) ca) hB11
            have k3 := Lib.hid k2
            have HD := Lib.hid ((HMi.out.keep0 (gr_drew (gr_refl wi none))))
            have k4 : Hid (MapIs (w11.setCell ⟨g, 0, none⟩ (.slice (some ⟨ga, 0, none⟩) (m + 1) ca)) M (n + L.length) (addL f L)) := (HD.out.keep g11 (ownL_ne HOD.out HD.out)).keep gx (fun e => by cases e; obtain ⟨es, cl, ho⟩ := HMi.out.objL; have hb : wi.heap[g]? = _ := HBD.out; rw [ho] at hb; cases hb)
            have k5 := Lib.hid (gr_grown (gr_grown (gr_drew HGi.out) g11 (fun q e => by have := hl11 q e; omega)) gx (fun q e => by cases e; exact zg))
            have k6 : Hid (∀ b, b < w.heap.size → b ≠ g → b ≠ M → some b ≠ (Value.slice va m vc).ownBlock → (w11.setCell ⟨g, 0, none⟩ (.slice (some ⟨ga, 0, none⟩) (m + 1) ca)).heap[b]? = w.heap[b]?) := fun b hb h1 h2 h3 => by
              have hz := HFI.out.1
              have hz2 := g11.size
              rw [← HSV.out] at h3
              exact (gx.block b (by omega) (fun e => by cases e; exact h1 rfl)).trans ((g11.block b (by omega) h3).trans (HFI.out.2 b hb h2))
            have r0 : (w11.setCell ⟨g, 0, none⟩ (.slice (some ⟨ga, 0, none⟩) (m + 1) ca)).cell? ⟨g, 0, none⟩ = some (.slice (some ⟨ga, 0, none⟩) (m + 1) ca) := blkC k2 0 rfl
            clear gx k2 o11 g11 hl11 hk11 hB11 c11 t11
          all_goals (go_wp2_with (fail))
          all_goals go_ret2
          all_goals exact ⟨rfl, _, ⟨k3.out, k4.out⟩, k1.out, k5.out, k6.out⟩
end Go.Proofs.YthikknnadmebgaaGreatDoor

/-! Lines and their contrary: no account changes, but that the lines' accounts are there. No program in sight. -/
namespace Go.Proofs.YthikknnadmebgaaGreatDoor

def negN (x : Nm) : Nm := ⟨x.key, -x.many⟩
theorem addL_hit : ∀ (L : List Nm) (f : ByteArray → Option Int) (x : Nm), L.Pairwise (fun a b => a.key ≠ b.key) → x ∈ L → addL f L x.key = some ((f x.key).getD 0 + x.many)
  | [], _, _, _, h => by cases h
  | y :: L, f, x, hp, hx => by
    obtain ⟨h1, h2⟩ := List.pairwise_cons.1 hp
    show addL (addM f y) L x.key = _
    rcases List.mem_cons.1 hx with rfl | hx
    · rw [addL_other _ L x.key (fun z hz e => h1 z hz e.symm)]
      unfold addM
      rw [if_pos rfl]
    · rw [addL_hit L (addM f y) x h2 hx]
      unfold addM
      rw [if_neg (fun e => h1 x hx e.symm)]
theorem negN_apart {L : List Nm} (h : L.Pairwise (fun a b => a.key ≠ b.key)) : (L.map negN).Pairwise (fun a b => a.key ≠ b.key) := List.pairwise_map.2 h
/-- An entry and its contrary. -/
theorem addL_neg (f : ByteArray → Option Int) (L : List Nm) (hp : L.Pairwise (fun a b => a.key ≠ b.key)) (t : ByteArray) : addL (addL f L) (L.map negN) t = if ∃ x ∈ L, x.key = t then some ((f t).getD 0) else f t := by
  by_cases h : ∃ x ∈ L, x.key = t
  · rw [if_pos h]
    obtain ⟨x, hx, rfl⟩ := h
    have h1 := addL_hit (L.map negN) (addL f L) (negN x) (negN_apart hp) (List.mem_map_of_mem hx)
    have h2 := addL_hit L f x hp hx
    show addL (addL f L) (L.map negN) (negN x).key = _
    rw [h1]
    show some ((addL f L x.key).getD 0 + -x.many) = _
    rw [h2]
    simp only [Option.getD_some, Option.some.injEq]
    omega
  · rw [if_neg h, addL_other _ _ t (fun z hz e => ?_), addL_other _ _ t (fun z hz e => h ⟨z, hz, e⟩)]
    obtain ⟨x, hx, rfl⟩ := List.mem_map.1 hz
    exact h ⟨x, hx, e⟩
end Go.Proofs.YthikknnadmebgaaGreatDoor

/-! What a map's values sum to over names that cover the lines. No program in sight. -/
namespace Go.Proofs.YthikknnadmebgaaGreatDoor

def sumK (f : ByteArray → Option Int) (K : List ByteArray) : Int := (K.map fun t => (f t).getD 0).sum
theorem sumK_same {f g : ByteArray → Option Int} : ∀ (K : List ByteArray), (∀ t ∈ K, (f t).getD 0 = (g t).getD 0) → sumK f K = sumK g K
  | [], _ => rfl
  | t :: K, h => by
    show (f t).getD 0 + sumK f K = (g t).getD 0 + sumK g K
    rw [h t (List.mem_cons_self ..), sumK_same K (fun s hs => h s (List.mem_cons_of_mem _ hs))]
theorem sumK_add (f : ByteArray → Option Int) (x : Nm) : ∀ (K : List ByteArray), K.Nodup → x.key ∈ K → sumK (addM f x) K = sumK f K + x.many
  | [], _, h => by cases h
  | t :: K, hn, h => by
    obtain ⟨h1, h2⟩ := List.nodup_cons.1 hn
    show (addM f x t).getD 0 + sumK (addM f x) K = (f t).getD 0 + sumK f K + x.many
    by_cases e : t = x.key
    · have e2 : sumK (addM f x) K = sumK f K := sumK_same K (fun s hs => by
        unfold addM
        rw [if_neg (fun e3 => h1 (by rw [e, ← e3]; exact hs))])
      have e4 : (addM f x t).getD 0 = (f t).getD 0 + x.many := by
        unfold addM
        rw [if_pos e, e]
        rfl
      rw [e2, e4]
      omega
    · have hk : x.key ∈ K := by
        rcases List.mem_cons.1 h with h | h
        · exact absurd h.symm e
        · exact h
      have e4 : (addM f x t).getD 0 = (f t).getD 0 := by
        unfold addM
        rw [if_neg e]
      rw [sumK_add f x K h2 hk, e4]
      omega
theorem sumK_addL (K : List ByteArray) (hK : K.Nodup) : ∀ (L : List Nm) (f : ByteArray → Option Int), (∀ x ∈ L, x.key ∈ K) → sumK (addL f L) K = sumK f K + (L.map Nm.many).sum
  | [], f, _ => by simp [addL]
  | x :: L, f, h => by
    show sumK (addL (addM f x) L) K = _
    rw [sumK_addL K hK L (addM f x) (fun y hy => h y (List.mem_cons_of_mem _ hy)), sumK_add f x K hK (h x (List.mem_cons_self ..)), List.map_cons, List.sum_cons]
    omega
end Go.Proofs.YthikknnadmebgaaGreatDoor
