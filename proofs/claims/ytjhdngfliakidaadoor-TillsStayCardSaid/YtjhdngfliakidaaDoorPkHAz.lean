/- A ledger: its block, and till.NewLedger. -/
import Derived.Test.YtjhdngfliakidaaDoorPkHAy
import Derived.Test.YtjhdngfliakidaaDoorPkHAq
import Derived.Test.YtjhdngfliakidaaDoorPkHAr
import Derived.Test.YtjhdngfliakidaaDoorPkHAa
import Derived.Test.YtjhdngfliakidaaDoorPkHAb
namespace Go.Proofs.YtjhdngfliakidaaDoor
open Go.RowKit
attribute [local go_sem ↓] Go.wp_at_zero Go.wp_at_succ

structure LedAt (w : World) (g M : Nat) (v : Value) (n : Nat) (f : ByteArray → Option Int) : Prop where
  blk : w.heap[g]? = some (.cells #[v, .map (some M)] 90 (0, 0))
  mp : MapIs w M n f
theorem LedAt.keep0 {w w1 : World} {g M n : Nat} {v : Value} {f : ByteArray → Option Int} (h : LedAt w g M v n f) (e : w.grownBy w1 none) : LedAt w1 g M v n f :=
  ⟨(e.block _ (lt_of_block h.blk) (by simp)).trans h.blk, h.mp.keep0 e⟩
theorem newLedger_any (w : World) :
    Calls Tryd.prog 8 #[] w fun e w' => e = .returned (.pointer (some ⟨w.heap.size + 1, 0, none⟩)) ∧ LedAt w' (w.heap.size + 1) w.heap.size (.slice none 0 0) 0 (fun _ => none) ∧ w.grownBy w' none := by
  have hm0 := MapIs.made w
  have g1 := gr_alloc (gr_refl w none) (.map #[] 0)
  have hmm := @run_makeMap Tryd.prog
  have hs : (w.alloc (.map #[] 0)).heap.size = w.heap.size + 1 := by simp
  have hB := heap_alloc_new (w.alloc (.map #[] 0)) (.cells #[.slice none 0 0, .map (some w.heap.size)] 90)
  have g2 := gr_alloc (gr_refl (w.alloc (.map #[] 0)) none) (.cells #[.slice none 0 0, .map (some w.heap.size)] 90)
  rw [hs] at hB
  have HM := Lib.hid (hm0.keep0 g2)
  have HB := Lib.hid hB
  have HG := Lib.hid (gr_trans g1 g2)
  clear hm0 g1 g2 hB
  go_enter Tryd.func8, Tryd.ntmps8
  go_wp2_with (fail)
  go_ret
  exact ⟨rfl, ⟨HB.out, HM.out⟩, HG.out⟩
end Go.Proofs.YtjhdngfliakidaaDoor

/-! till.Ledger.Trial: the accounts, sorted by name. -/
namespace Go.Proofs.YtjhdngfliakidaaDoor
open Go.RowKit
attribute [local go_sem ↓] Go.wp_at_zero Go.wp_at_succ

theorem trial1_fn : ∀ (args : Array Value) (w : World), (callFunc 50 args).run Tryd.prog w = .ok (.enter 50 args) w := fun _ _ => by kernel_rfl
theorem trial1_any (x y : Nm) (w : World) : Calls Tryd.prog 50 #[.agg #[.string x.key, .int .i64 x.many], .agg #[.string y.key, .int .i64 y.many]] w fun e w' => e = .returned (.int .i64 (nmK x y)) ∧ w.grownBy w' none := by
  obtain ⟨x0, x1⟩ := x
  obtain ⟨y0, y1⟩ := y
  have g2 := gr_alloc (gr_alloc (gr_refl w none) (.cells #[.string x0, .int .i64 x1] 43)) (.cells #[.string y0, .int .i64 y1] 43)
  obtain ⟨hA, hB⟩ := heap_2 w (.cells #[.string x0, .int .i64 x1] 43) (.cells #[.string y0, .int .i64 y1] 43)
  obtain ⟨w2, hw2⟩ : ∃ w2, w2 = (w.alloc (.cells #[.string x0, .int .i64 x1] 43)).alloc (.cells #[.string y0, .int .i64 y1] 43) := ⟨_, rfl⟩
  rw [← hw2] at g2 hA hB
  have p0 := blkC hA 0 rfl
  have r0 := blkC hB 0 rfl
  have HW := Lib.hid hw2
  show Calls _ _ _ _ _
  clear hA hB hw2
  simp only
  go_enter Tryd.func50, Tryd.ntmps50
  go_wp2_with (fail)
  rw [← HW.out]
  go_wp2_with (fail)
  refine (compare_any x0 y0 w2).mono ?_
  rintro e w5 ⟨rfl, rfl⟩
  go_wp2_with (fail)
  go_ret
  exact ⟨rfl, g2⟩
set_option maxRecDepth 100000 in
set_option maxHeartbeats 2000000 in
theorem trial_any (B n : Nat) (f : ByteArray → Option Int) (K : List ByteArray) (w : World) (g : Nat) (vr : Value) (hL : LedAt w g B vr n f) (hK : ∀ s v, f s = some v → s ∈ K) (hKl : K.length ≤ 12) :
    Calls Tryd.prog 12 #[.pointer (some ⟨g, 0, none⟩)] w fun e w' => ∃ v O, e = .returned v ∧ w'.ownsRow w.heap.size 43 2 v O.length (flat encNm O) ∧ NamesOf f O ∧ w.grownBy w' none := by
  have hm := hL.mp
  have hgm : w.cell? ⟨g, 1, none⟩ = some (.map (some B)) := blkC hL.blk 1 rfl
  have hBl := hm.lt
  have HM := Lib.hid hm
  have HK := Lib.hid hK
  clear hm hK hL
  go_enter Tryd.func12, Tryd.ntmps12
  go_wp2_with (first | (at_range; refine wpList_rangeSI rfl _ rfl B n f rfl HM.out ?_; intro w5 left cnt hr hleft g5 hz5))
  go_frame
  have K0 : Hid (RangeIs w5 B w.heap.size n f left cnt ∧ NamedSt f left [] ∧ w.grownBy w5 none) := ⟨hr, NamedSt.start hleft, g5⟩
  have hz5' : w.heap.size + 1 ≤ w5.heap.size := by omega
  obtain ⟨ib, hib⟩ : ∃ b, b = w.heap.size := ⟨_, rfl⟩
  rw [← hib] at K0
  rw [← hib]
  have HIB := Lib.hid hib
  have hibB : B < ib := by omega
  have hibw : w.heap.size ≤ ib := by omega
  clear hr hleft g5 hz5 hib
  go_loopw [3, 11] (fun v _ wr => ∃ left cnt R, RangeIs wr B ib n f left cnt ∧ NamedSt f left R ∧ wr.ownsRow (ib + 1) 43 2 v R.length (flat encNm R) ∧ ib + 1 ≤ wr.heap.size ∧ w.grownBy wr none) (fun _ _ wr => wr.rangeLeft B ib)
  case atStart => exact ⟨_, _, [], K0.out.1, K0.out.2.1, World.ownsRow_nil _ _ _ _, by have := HIB.out; omega, K0.out.2.2⟩
  case round =>
    clear K0
    obtain ⟨left, cnt, R, hr, hN, hO, hzi, hgr⟩ := hrel
    obtain ⟨wi, rfl⟩ : ∃ wi : World, wi = wr := ⟨_, rfl⟩
    have hRl := hN.le K HK.out
    have HO := Lib.hid hO
    have HN := Lib.hid hN
    clear hO hN
    go_wp2_with (first | (at_next; refine wpList_nextSI rfl _ rfl B ib n f left cnt rfl hr ?_ ?_))
    · intro hdone
      have HGR := Lib.hid hgr
      obtain ⟨va, vc, rfl, -, -, -, -⟩ := own_shape HO.out
      have SF := Lib.hid (sortFNm_few 50 R.length nmK _ (ib + 1) R wi HO.out rfl (by omega) trial1_fn nmK_ok (fun x y W _ _ _ => trial1_any x y W))
      have HD := Lib.hid hdone
      have LT := Lib.hid HO.out.lt
      clear hr hgr hdone HO
      go_wp2_with (fail)
      refine SF.out.mono ?_
      rintro e w3 ⟨O, rfl, o3, hp3, hs3, g3⟩
      have hOl : O.length = R.length := hp3.length_eq
      have HNM : Hid (NamesOf f O) := HN.out.sorted HD.out hp3 (by rw [hOl]; exact hs3) (by omega)
      have HG3 := Lib.hid (gr_grown HGR.out g3 (fun q hq => by have := (LT.out q hq).1; omega))
      have ho3 : w3.ownsRow (ib + 1) 43 2 (.slice va R.length vc) O.length (flat encNm O) := by rw [hOl]; exact o3
      have HO3 := Lib.hid ho3
      clear SF hp3 hs3 g3 o3 ho3
      go_wp2_with (fail)
      go_ret
      exact ⟨_, O, rfl, own_base HO3.out (by omega), HNM.out, HG3.out⟩
    · intro s x w22 cnt' hfs hl2 hr22 hlt g22 hz22 hen
      have HN2 := Lib.hid (HN.out.next s x hfs hl2)
      have HO22 := Lib.hid (own_keepS HO.out g22 (by omega))
      have HG22 := Lib.hid (gr_grown hgr g22 (fun k hk => by cases hk; exact hibw))
      have HLT := Lib.hid hlt
      have HR22 := Lib.hid hr22
      have HRo := Lib.hid hr
      have hz23 : ib + 1 ≤ w22.heap.size := by omega
      clear hfs hl2 hlt g22 hz22 hr hgr hr22 HO HN
      go_wp2_with (at_builtin; refine wpList_app1F eNm rfl _ _ rfl (ib + 1) _ R.length (flat encNm R) rfl w22 #[.string s, .int .i64 x] rfl HO22.out _ rfl rfl rfl rfl (by omega) (by omega) ?_; intro v7 w7 o7 g7 hl7 hk7)
      have HO7 : Hid (w7.ownsRow (ib + 1) 43 2 v7 (R ++ [(⟨s, x⟩ : Nm)]).length (flat encNm (R ++ [⟨s, x⟩]))) := by
        show World.ownsRow _ _ _ _ _ _ _
        rw [List.length_append, flat_append, flat_one]; exact o7
      have HR7 := Lib.hid (HR22.out.keep g7 (fun e => by have := hl7 B e.symm; omega) (fun e => by have := hl7 ib e.symm; omega))
      have HG7 := Lib.hid (gr_grown HG22.out g7 (fun q hq => by have := hl7 q hq; omega))
      have hz7 := g7.size
      have hz77 : ib + 1 ≤ w7.heap.size := by omega
      clear o7 g7 hl7 hk7 HO22 HG22 hz7
      go_wp2_with (fail)
      go_roundw
      case rel => exact ⟨_, _, _, HR7.out, HN2.out, HO7.out, hz77, HG7.out⟩
      case measure => rw [HR7.out.left, HRo.out.left]; exact HLT.out
end Go.Proofs.YtjhdngfliakidaaDoor

/-! What lines add up to, as a map; a posted entry's cells. -/
namespace Go.Proofs.YtjhdngfliakidaaDoor
open Go.RowKit

theorem ePs : ElemT Tryd.prog 88 93 (.agg #[.int .i64 0, .string ⟨#[]⟩, .slice none 0 0, .int .i64 0, .bool false]) 5 64 := ⟨by kernel_rfl, by kernel_rfl, by decide, by decide, by decide⟩
def addM (f : ByteArray → Option Int) (x : Nm) : ByteArray → Option Int := fun t => if t = x.key then some ((f x.key).getD 0 + x.many) else f t
def addL (f : ByteArray → Option Int) (L : List Nm) : ByteArray → Option Int := L.foldl addM f
theorem addL_next (f : ByteArray → Option Int) (L : List Nm) (k : Nat) (h : k < L.length) : addL f (L.take (k + 1)) = addM (addL f (L.take k)) L[k] := by
  have e : L.take (k + 1) = L.take k ++ [L[k]] := by simp
  unfold addL
  rw [e, List.foldl_append]
  rfl
theorem addL_other (f : ByteArray → Option Int) (L : List Nm) (s : ByteArray) (h : ∀ x ∈ L, x.key ≠ s) : addL f L s = f s := by
  unfold addL
  induction L generalizing f with
  | nil => rfl
  | cons x L ih =>
    rw [List.foldl_cons, ih _ (fun y hy => h y (by simp [hy]))]
    unfold addM
    rw [if_neg (fun e => h x (by simp) e.symm)]
theorem bytes_eqL (a b : ByteArray) : (a.toList == b.toList) = true → a = b := by
  intro h
  have h := eq_of_beq h
  rw [ByteArray.toList_eq, ByteArray.toList_eq] at h
  cases a; cases b
  simp at h
  rw [h]
theorem addL_apart (f : ByteArray → Option Int) (L : List Nm) (ok : EntOk L) (k : Nat) (h : k < L.length) : addL f (L.take k) L[k].key = f L[k].key := by
  refine addL_other f _ _ (fun x hx e => ?_)
  have h1 := List.any_eq_false.1 (ok.apart k h) x hx
  unfold lnIs at h1
  rw [e] at h1
  exact h1 (by simp)
theorem MapIs.objL {w : World} {b n : Nat} {f : ByteArray → Option Int} (h : MapIs w b n f) : ∃ es cl, w.heap[b]? = some (Obj.map es cl) := by
  obtain ⟨D, ⟨es, cl, hb, _⟩, _⟩ := h
  exact ⟨es, cl, hb⟩
/-- Cells are no map: they stay while a map changes. -/
theorem cellL_map {w w1 : World} {b o c n : Nat} {v : Value} {f : ByteArray → Option Int} (hc : w.cell? ⟨b, o, none⟩ = some v) (hm : MapIs w c n f) (g : w.grownBy w1 (some c)) : w1.cell? ⟨b, o, none⟩ = some v := by
  have : b ≠ c := by
    rintro rfl
    obtain ⟨es, cl, ho⟩ := hm.objL
    simp [World.cell?, ho] at hc
  exact g.cell hc (by simpa using this)
theorem cellsL_map {w w1 : World} {a : Option Addr} {c n : Nat} {xs : List Value} {f : ByteArray → Option Int} (h : CellsAt w a xs) (hm : MapIs w c n f) (g : w.grownBy w1 (some c)) : CellsAt w1 a xs := by
  intro j x hx
  obtain ⟨b, off, ha, hc⟩ := h j x hx
  exact ⟨b, off, ha, cellL_map hc hm g⟩
theorem blkL_map {w w1 : World} {q c n : Nat} {cs : Array Value} {t : TypeId} {z : Nat × Nat} {f : ByteArray → Option Int} (h : w.heap[q]? = some (.cells cs t z)) (hm : MapIs w c n f) (g : w.grownBy w1 (some c)) : w1.heap[q]? = some (.cells cs t z) := by
  refine (g.block _ (lt_of_block h) ?_).trans h
  intro e
  cases e
  obtain ⟨es, cl, ho⟩ := hm.objL
  rw [h] at ho
  cases ho
theorem ownL_ne {w : World} {base e size m c n : Nat} {v : Value} {xs : List Value} {f : ByteArray → Option Int} (h : w.ownsRow base e size v m xs) (hm : MapIs w c n f) : some c ≠ v.ownBlock := by
  obtain ⟨es, cl, ho⟩ := hm.objL
  rcases h.2 with ⟨rfl, _⟩ | ⟨g', cap, cur, rfl, _, hh, _⟩
  · simp [Value.ownBlock]
  · intro he
    simp [Value.ownBlock] at he
    subst he
    rw [ho] at hh
    cases hh
theorem ownL_map {w w1 : World} {base e size m c n : Nat} {v : Value} {xs : List Value} {f : ByteArray → Option Int} (h : w.ownsRow base e size v m xs) (hm : MapIs w c n f) (g : w.grownBy w1 (some c)) : w1.ownsRow base e size v m xs := by
  refine own_keep h g (.inr ?_)
  obtain ⟨es, cl, ho⟩ := hm.objL
  rcases h.2 with ⟨rfl, _⟩ | ⟨g', cap, cur, rfl, _, hh, _⟩
  · simp [Value.ownBlock]
  · intro he
    simp [Value.ownBlock] at he
    subst he
    rw [ho] at hh
    cases hh
end Go.Proofs.YtjhdngfliakidaaDoor

/-! till.Ledger.add of a right entry. -/
namespace Go.Proofs.YtjhdngfliakidaaDoor
open Go.RowKit
attribute [local go_sem ↓] Go.wp_at_zero Go.wp_at_succ

set_option maxRecDepth 100000 in
set_option maxHeartbeats 2000000 in
theorem ledAdd_any (day : Int) (T : ByteArray) (L : List Nm) (a : Option Addr) (c : Nat) (kc : Int) (cd : Bool) (g M n base m : Nat) (v : Value) (xs : List Value) (f : ByteArray → Option Int) (w0 w : World) (hL : LedAt w g M v n f) (ho : w.ownsRow base 93 5 v m xs) (hc : CellsAt w a (flat encNm L)) (ok : EntOk L)
    (hm : m < 2000) (hn : n ≤ 100000) (hb : ∀ x ∈ L, -1000000000000 ≤ (f x.key).getD 0 + x.many ∧ (f x.key).getD 0 + x.many ≤ 1000000000000) (g0 : w0.grownBy w none) (zg : w0.heap.size ≤ g) (zM : w0.heap.size ≤ M) (zb : w0.heap.size ≤ base) (hbw : base ≤ w.heap.size) :
    Calls Tryd.prog 42 #[.pointer (some ⟨g, 0, none⟩), .agg #[.int .i64 day, .string T, .slice a L.length c, .int .i64 kc, .bool cd]] w fun e w' => ∃ v', e = .returned (.tuple #[.int .i64 ((m + 1 : Nat) : Int), .int .i64 0]) ∧ LedAt w' g M v' (n + L.length) (addL f L) ∧ w'.ownsRow base 93 5 v' (m + 1) (xs ++ [.int .i64 day, .string T, .slice a L.length c, .int .i64 kc, .bool cd]) ∧ w0.grownBy w' none ∧ (∀ b, b < w.heap.size → b ≠ g → b ≠ M → some b ≠ v.ownBlock → w'.heap[b]? = w.heap[b]?) := by
  have hP := heap_alloc_new w (.cells #[.int .i64 day, .string T, .slice a L.length c, .int .i64 kc, .bool cd] 93)
  have g1 := gr_alloc (gr_refl w none) (.cells #[.int .i64 day, .string T, .slice a L.length c, .int .i64 kc, .bool cd] 93)
  obtain ⟨w1, hw1⟩ : ∃ w1, w1 = w.alloc (.cells #[.int .i64 day, .string T, .slice a L.length c, .int .i64 kc, .bool cd] 93) := ⟨_, rfl⟩
  rw [← hw1] at hP g1
  obtain ⟨P, hPe⟩ : ∃ P, P = w.heap.size := ⟨_, rfl⟩
  rw [← hPe] at hP
  obtain ⟨va, vc, rfl, -, -, -, -⟩ := own_shape ho
  have HGA := Lib.hid g1
  have HL1 := Lib.hid (hL.keep0 g1)
  have HO1 := Lib.hid (own_keep0 ho g1)
  have HC1 := Lib.hid (hc.keep0 g1)
  have HG1 := Lib.hid (gr_trans g0 g1)
  have HP1 := Lib.hid hP
  have HW1 := Lib.hid hw1
  have HPE := Lib.hid hPe
  have HOK := Lib.hid ok
  have HB := Lib.hid hb
  have hl0 := ok.l0
  have hl1 := ok.l1
  have hz1 := g1.size
  have dm : (((m : Int)) == 2000) = false := beq_eq_false_iff_ne.2 (by omega)
  have x0 : w1.cell? ⟨g, 0, none⟩ = some (.slice va m vc) := blkC HL1.out.blk 0 rfl
  have p2 : w1.cell? ⟨P, 2, none⟩ = some (.slice a L.length c) := blkC hP 2 rfl
  have x0r := x0
  have p2r := p2
  rw [hw1] at x0r p2r
  rw [hPe] at p2r
  clear hP g1 hw1 hPe hL ho hc ok hb g0 x0 p2
  go_enter Tryd.func42, Tryd.ntmps42
  go_wp2_with (fail)
  rw [← HW1.out, ← HPE.out]
  clear x0r p2r
  go_loopw [20] (fun i wr => ∃ k : Nat, k ≤ L.length ∧ i = .int .i64 k ∧ w1.grownBy wr none) (fun i _ => L.length - (intOf i).toNat)
  case atStart => exact ⟨0, Nat.zero_le _, rfl, gr_refl _ _⟩
  case round =>
    obtain ⟨k, hk, rfl, hgr⟩ := hrel
    obtain ⟨wo, rfl⟩ : ∃ wo : World, wo = wr := ⟨_, rfl⟩
    by_cases hlt : k < L.length
    · obtain ⟨b, off, rfl, d0, d1⟩ := bk_cells (HC1.out.keep0 hgr) k hlt
      obtain ⟨o1, o2⟩ := HOK.out.key _ (List.getElem_mem hlt)
      obtain ⟨o3, o4, o5⟩ := HOK.out.many _ (List.getElem_mem hlt)
      obtain ⟨b0, b1⟩ := HB.out _ (List.getElem_mem hlt)
      obtain ⟨x, hx⟩ : ∃ x, x = L[k] := ⟨_, rfl⟩
      rw [← hx] at d0 d1 o1 o2 o3 o4 o5 b0 b1
      obtain ⟨K, Y⟩ := x
      simp only at d0 d1 o1 o2 o3 o4 o5 b0 b1
      obtain ⟨y, hy⟩ : ∃ y, y = (f K).getD 0 := ⟨_, rfl⟩
      rw [← hy] at b0 b1
      have hX := heap_alloc_new wo (.cells #[.string K, .int .i64 Y] 39)
      have ga := gr_alloc (gr_refl wo none) (.cells #[.string K, .int .i64 Y] 39)
      obtain ⟨w3, hw3⟩ : ∃ w3, w3 = wo.alloc (.cells #[.string K, .int .i64 Y] 39) := ⟨_, rfl⟩
      rw [← hw3] at hX ga
      obtain ⟨Q, hQ⟩ : ∃ Q, Q = wo.heap.size := ⟨_, rfl⟩
      rw [← hQ] at hX
      have HL3 := Lib.hid ((HL1.out.keep0 hgr).keep0 ga)
      have x0 : w3.cell? ⟨Q, 0, none⟩ = some (.string K) := blkC hX 0 rfl
      have x1 : w3.cell? ⟨Q, 1, none⟩ = some (.int .i64 Y) := blkC hX 1 rfl
      have l1 : w3.cell? ⟨g, 1, none⟩ = some (.map (some M)) := blkC HL3.out.blk 1 rfl
      have hlk : ∀ n : Grew w3, (Instr.lookup 87 (.map (some M)) (.string K) false).run Tryd.prog n.w = .ok (.int .i64 ((f K).getD 0)) n.w := fun n => (HL3.out.mp.keep0 n.gr).run_get K (by omega)
      rw [← hy] at hlk
      have hlk3 : (Instr.lookup 87 (.map (some M)) (.string K) false).run Tryd.prog w3 = .ok (.int .i64 y) w3 := by rw [hy]; exact HL3.out.mp.run_get K (by omega)
      have hwS : IntKind.i64.wrap (y + Y) = y + Y := IntWalk.i64_in _ (by omega)
      have dM : (decide (y + Y < -1000000000000) || decide (1000000000000 < y + Y)) = false := by simp; omega
      have HG3 := Lib.hid (gr_trans hgr ga)
      have HW3 := Lib.hid hw3
      have HQ := Lib.hid hQ
      clear hx hX ga hw3 hQ hgr hy
      go_upto_region 6 with (fail)
      rw [← HW3.out, ← HQ.out]
      clear d0 d1
      refine wp_region_grew (by kernel_rfl) (by kernel_rfl) ?_
      have l1g := grew_cell l1
      have x0g := grew_cell x0
      have x1g := grew_cell x1
      repeat (go_big_quiet_step (first | (go_at_call 58; exact Calls.grew_of (fun W _ => (out_any (y + Y) (-1000000000000) 1000000000000 W).mono (by rintro e w' ⟨rfl, rfl⟩; exact ⟨rfl, gr_refl _ _⟩)))))
      refine wpQuiet_nil ?_
      rintro wq ⟨n5, rfl⟩
      have gq := Lib.hid n5.gr
      rw [dM]
      go_wp2_with (fail)
      go_roundw
      case rel => exact ⟨k + 1, by omega, by go_num, gr_trans HG3.out gq.out⟩
      case measure => simp [intOf]; omega
    · obtain rfl : k = L.length := by omega
      have HLo := Lib.hid (HL1.out.keep0 hgr)
      have HOo := Lib.hid (own_keep0 HO1.out hgr)
      have HCo := Lib.hid (HC1.out.keep0 hgr)
      have hPo := (hgr.block _ (lt_of_block HP1.out) (by simp)).trans HP1.out
      have HPo := Lib.hid hPo
      have HGo := Lib.hid (gr_trans HG1.out hgr)
      have HGW := Lib.hid (gr_trans HGA.out hgr)
      have hzo := hgr.size
      have p2 : wo.cell? ⟨P, 2, none⟩ = some (.slice a L.length c) := blkC hPo 2 rfl
      clear hPo hgr HL1 HO1 HC1 HP1 HG1
      go_wp2_with (fail)
      go_loopw [40] (fun i wr => ∃ j : Nat, j ≤ L.length ∧ i = .int .i64 j ∧ MapIs wr M (n + j) (addL f (L.take j)) ∧ wo.grownBy wr (some M)) (fun i _ => L.length - (intOf i).toNat)
      case atStart => exact ⟨0, Nat.zero_le _, rfl, HLo.out.mp, gr_refl _ _⟩
      case round =>
        clear p2
        obtain ⟨j, hj, rfl, hmp, hgr⟩ := hrel
        obtain ⟨wi, rfl⟩ : ∃ wi : World, wi = wr := ⟨_, rfl⟩
        by_cases hlt2 : j < L.length
        · have hCi := cellsL_map HCo.out HLo.out.mp hgr
          obtain ⟨b, off, rfl, d0, d1⟩ := bk_cells hCi j hlt2
          obtain ⟨o1, o2⟩ := HOK.out.key _ (List.getElem_mem hlt2)
          obtain ⟨b0, b1⟩ := HB.out _ (List.getElem_mem hlt2)
          have AP := addL_apart f L HOK.out j hlt2
          have NX := addL_next f L j hlt2
          obtain ⟨x, hx⟩ : ∃ x, x = L[j] := ⟨_, rfl⟩
          rw [← hx] at d0 d1 o1 o2 b0 b1 AP NX
          obtain ⟨K, Y⟩ := x
          simp only at d0 d1 o1 o2 b0 b1 AP
          obtain ⟨h, hh⟩ : ∃ h, h = addL f (L.take j) := ⟨_, rfl⟩
          rw [← hh] at hmp AP NX
          obtain ⟨y, hy⟩ : ∃ y, y = (h K).getD 0 := ⟨_, rfl⟩
          rw [← AP, ← hy] at b0 b1
          have NXE : Hid ((fun t => if t = K then some (y + Y) else h t) = addL f (L.take (j + 1))) := by show _ = _; rw [NX, hy]; rfl
          have l1 : wi.cell? ⟨g, 1, none⟩ = some (.map (some M)) := blkC (blkL_map HLo.out.blk HLo.out.mp hgr) 1 rfl
          have hX := heap_alloc_new wi (.cells #[.string K, .int .i64 Y] 39)
          have ga := gr_alloc (gr_refl wi none) (.cells #[.string K, .int .i64 Y] 39)
          obtain ⟨w3, hw3⟩ : ∃ w3, w3 = wi.alloc (.cells #[.string K, .int .i64 Y] 39) := ⟨_, rfl⟩
          rw [← hw3] at hX ga
          obtain ⟨Q, hQ⟩ : ∃ Q, Q = wi.heap.size := ⟨_, rfl⟩
          rw [← hQ] at hX
          have HM3 := Lib.hid (hmp.keep0 ga)
          have HX := Lib.hid hX
          have HL3 := Lib.hid ((ga.block _ (lt_of_block (blkL_map HLo.out.blk HLo.out.mp hgr)) (by simp)).trans (blkL_map HLo.out.blk HLo.out.mp hgr))
          have HG3 := Lib.hid (gr_trans hgr (gr_weak ga _))
          have hwS : IntKind.i64.wrap (y + Y) = y + Y := IntWalk.i64_in _ (by omega)
          have HY := Lib.hid hy
          have HW3 := Lib.hid hw3
          have HQ := Lib.hid hQ
          clear hx hh hmp hgr ga hy AP NX hCi hX hw3 hQ
          go_upto_region 12 with (fail)
          rw [← HW3.out, ← HQ.out]
          clear l1 d0 d1
          have e1 : w3.drew.cell? ⟨g, 1, none⟩ = some (.map (some M)) := blkC HL3.out 1 rfl
          have q0 : w3.drew.cell? ⟨Q, 0, none⟩ = some (.string K) := blkC HX.out 0 rfl
          have q1 : w3.drew.cell? ⟨Q, 1, none⟩ = some (.int .i64 Y) := blkC HX.out 1 rfl
          have HMd := HM3.out.keep0 (gr_drew (gr_refl w3 none))
          have hlk := HMd.run_get K (by omega)
          rw [← HY.out] at hlk
          obtain ⟨w6, hup, hm6, g6⟩ := HMd.run_put (by omega) K (by omega) (y + Y) (by omega)
          rw [NXE.out] at hm6
          have HM6 := Lib.hid hm6
          have HG6 := Lib.hid (gr_trans (gr_drew HG3.out) g6)
          clear HMd hm6 g6
          go_region
          all_goals (go_wp2_with (fail))
          all_goals go_roundw
          case rel => exact ⟨j + 1, by omega, by go_num, HM6.out, HG6.out⟩
          case measure => simp [intOf]; omega
        · obtain rfl : j = L.length := by omega
          have hBi := blkL_map HLo.out.blk HLo.out.mp hgr
          have hPi := blkL_map HPo.out HLo.out.mp hgr
          have hOi := ownL_map HOo.out HLo.out.mp hgr
          have HMi := Lib.hid hmp
          rw [List.take_length] at HMi
          have HGi := Lib.hid (gr_grown HGo.out hgr (fun q e => by cases e; exact zM))
          have hzi := hgr.size
          have HFI : Hid (w.heap.size ≤ wi.drew.heap.size ∧ ∀ b, b < w.heap.size → b ≠ M → wi.drew.heap[b]? = w.heap[b]?) := ⟨Nat.le_trans HGW.out.size hgr.size, fun b hb h2 => (hgr.block b (Nat.lt_of_lt_of_le hb HGW.out.size) (fun e => by cases e; exact h2 rfl)).trans (HGW.out.block b hb (by simp))⟩
          have HOD := Lib.hid (own_of_heapG (w' := wi.drew) hOi rfl)
          have HBD : Hid (wi.drew.heap[g]? = _) := hBi
          have c0 : wi.cell? ⟨g, 0, none⟩ = some (.slice va m vc) := blkC hBi 0 rfl
          have p0 : wi.cell? ⟨P, 0, none⟩ = some (.int .i64 day) := blkC hPi 0 rfl
          have p1 : wi.cell? ⟨P, 1, none⟩ = some (.string T) := blkC hPi 1 rfl
          have p2 : wi.cell? ⟨P, 2, none⟩ = some (.slice a L.length c) := blkC hPi 2 rfl
          have p3 : wi.cell? ⟨P, 3, none⟩ = some (.int .i64 kc) := blkC hPi 3 rfl
          have p4 : wi.cell? ⟨P, 4, none⟩ = some (.bool cd) := blkC hPi 4 rfl
          have hbz : base ≤ wi.drew.heap.size := by show _ ≤ wi.heap.size; omega
          obtain ⟨sv, hsv⟩ : ∃ sv, sv = Value.slice va m vc := ⟨_, rfl⟩
          rw [← hsv] at c0 HOD HBD
          have hgz : g < wi.heap.size := lt_of_cell c0
          have hPz : P < wi.heap.size := lt_of_cell p0
          have HSV := Lib.hid hsv
          clear hBi hPi hOi hmp hgr hsv
          go_upto_region 14 with (fail)
          go_region_law (first
            | (refine step_app1 ePs rfl _ _ rfl base _ m _ rfl wi.drew #[.int .i64 day, .string T, .slice a L.length c, .int .i64 kc, .bool cd] rfl HOD.out _ rfl rfl rfl rfl (by omega) hbz ?_; intro v11 w11 o11 g11 hl11 hk11; obtain ⟨ga, ca, rfl, hga, hgal, -, -⟩ := own_some o11 (by omega); have hB11 := held_own HOD.out HBD.out g11 (by decide); have c11 : w11.cell? ⟨g, 0, none⟩ = some sv := blkC hB11 0 rfl; have t11 := blkF hB11 0)
            | fail)
          all_goals
            have gx := gr_set (q := ⟨g, 0, none⟩) (gr_refl w11 (some g)) rfl (.slice (some ⟨ga, 0, none⟩) (m + 1) ca)
            have k1 := Lib.hid (o11.kept gx (Or.inr (own_ne o11 hB11 (by decide))))
            have k2 := heap_setCell_same w11 g 0 _ _ (.slice (some ⟨ga, 0, none⟩) (m + 1) ca) hB11
            have k3 := Lib.hid k2
            have HD := Lib.hid ((HMi.out.keep0 (gr_drew (gr_refl wi none))))
            have k4 : Hid (MapIs (w11.setCell ⟨g, 0, none⟩ (.slice (some ⟨ga, 0, none⟩) (m + 1) ca)) M (n + L.length) (addL f L)) := (HD.out.keep g11 (ownL_ne HOD.out HD.out)).keep gx (fun e => by cases e; obtain ⟨es, cl, ho⟩ := HMi.out.objL; have hb : wi.heap[g]? = _ := HBD.out; rw [ho] at hb; cases hb)
            have k5 := Lib.hid (gr_grown (gr_grown (gr_drew HGi.out) g11 (fun q e => by have := hl11 q e; omega)) gx (fun q e => by cases e; exact zg))
            have k6 : Hid (∀ b, b < w.heap.size → b ≠ g → b ≠ M → some b ≠ (Value.slice va m vc).ownBlock → (w11.setCell ⟨g, 0, none⟩ (.slice (some ⟨ga, 0, none⟩) (m + 1) ca)).heap[b]? = w.heap[b]?) := fun b hb h1 h2 h3 => by
              have hz := HFI.out.1
              have hz2 := g11.size
              rw [← HSV.out] at h3
              exact (gx.block b (by omega) (fun e => by cases e; exact h1 rfl)).trans ((g11.block b (by omega) h3).trans (HFI.out.2 b hb h2))
            have r0 : (w11.setCell ⟨g, 0, none⟩ (.slice (some ⟨ga, 0, none⟩) (m + 1) ca)).cell? ⟨g, 0, none⟩ = some (.slice (some ⟨ga, 0, none⟩) (m + 1) ca) := blkC k2 0 rfl
            clear gx k2 o11 g11 hl11 hk11 hB11 c11 t11
          all_goals (go_wp2_with (fail))
          all_goals go_ret2
          all_goals exact ⟨rfl, _, ⟨k3.out, k4.out⟩, k1.out, k5.out, k6.out⟩
end Go.Proofs.YtjhdngfliakidaaDoor

/-! till.Ledger.Post of a right entry to an empty ledger. -/
namespace Go.Proofs.YtjhdngfliakidaaDoor
open Go.RowKit
attribute [local go_sem ↓] Go.wp_at_zero Go.wp_at_succ

theorem own_at {w w1 : World} {base e size n : Nat} {v : Value} {xs : List Value} (h : w.ownsRow base e size v n xs) (hb : ∀ b, v.ownBlock = some b → w1.heap[b]? = w.heap[b]?) : w1.ownsRow base e size v n xs := by
  refine ⟨h.1, ?_⟩
  rcases h.2 with h2 | ⟨g, cap, cur, hv, hg, hh, r⟩
  · exact .inl h2
  · refine .inr ⟨g, cap, cur, hv, hg, ?_, r⟩
    rw [hb g (by rw [hv]; rfl)]
    exact hh
theorem own_new {w w1 : World} {base e size n g : Nat} {v : Value} {xs : List Value} (h : w.ownsRow base e size v n xs) (gg : w.grownBy w1 (some g)) (hne : v.ownBlock ≠ some g) : w1.ownsRow base e size v n xs := own_keep h gg (.inr hne)
theorem entB {L : List Nm} (ok : EntOk L) : ∀ x ∈ L, -1000000000000 ≤ ((fun _ => none : ByteArray → Option Int) x.key).getD 0 + x.many ∧ ((fun _ => none : ByteArray → Option Int) x.key).getD 0 + x.many ≤ 1000000000000 := fun x hx => by
  have := ok.many x hx
  simp only [Option.getD_none]
  omega
set_option maxRecDepth 100000 in
set_option maxHeartbeats 2000000 in
theorem post_any (day : Int) (T : ByteArray) (L : List Nm) (a : Option Addr) (c : Nat) (g M n base : Nat) (v : Value) (f : ByteArray → Option Int) (w0 w : World) (E : EnvW w) (hL : LedAt w g M v n f) (ho : w.ownsRow base 93 5 v 0 []) (hc : CellsAt w a (flat encNm L)) (hcap : L.length ≤ c) (ok : EntOk L)
    (hT : PlainS T) (hT1 : 1 ≤ T.size) (hT2 : T.size ≤ 60) (hd0 : 0 ≤ day) (hd1 : day ≤ 4000) (hn : n ≤ 100000) (hb : ∀ x ∈ L, -1000000000000 ≤ (f x.key).getD 0 + x.many ∧ (f x.key).getD 0 + x.many ≤ 1000000000000) (g0 : w0.grownBy w none) (zg : w0.heap.size ≤ g) (zM : w0.heap.size ≤ M) (zb : w0.heap.size ≤ base) (hbw : base ≤ w.heap.size) :
    Calls Tryd.prog 9 #[.pointer (some ⟨g, 0, none⟩), .agg #[.int .i64 day, .string T, .slice a L.length c]] w fun e w' => ∃ v' v3, e = .returned (.tuple #[.int .i64 1, .int .i64 0]) ∧ LedAt w' g M v' (n + L.length) (addL f L) ∧ w'.ownsRow base 93 5 v' 1 [.int .i64 day, .string T, v3, .int .i64 0, .bool false] ∧ w'.ownsRow w.heap.size 39 2 v3 L.length (flat encNm L) ∧ w0.grownBy w' none := by
  have hV := heap_alloc_new w (.cells #[.int .i64 day, .string T, .slice a L.length c] 28)
  have g1 := gr_alloc (gr_refl w none) (.cells #[.int .i64 day, .string T, .slice a L.length c] 28)
  obtain ⟨w1, hw1⟩ : ∃ w1, w1 = w.alloc (.cells #[.int .i64 day, .string T, .slice a L.length c] 28) := ⟨_, rfl⟩
  rw [← hw1] at hV g1
  obtain ⟨V, hVe⟩ : ∃ V, V = w.heap.size := ⟨_, rfl⟩
  rw [← hVe] at hV
  have hl0 := ok.l0
  have hl1 := ok.l1
  obtain ⟨va, vc, rfl, -, -, -, -⟩ := own_shape ho
  obtain ⟨b, off, rfl, -, -⟩ := bk_cells hc 0 (by omega)
  have hgw := lt_of_block hL.blk
  have hMw := hL.mp.lt
  have hoL : ∀ b, (Value.slice va 0 vc).ownBlock = some b → b < w.heap.size := fun b hb => (ho.lt b hb).2
  have CE := Lib.hid (checkEntry_ok day T L (some ⟨b, off, none⟩) c w1 (E.keep g1) (hc.keep0 g1) hcap ok hT hT1 hT2 hd0 hd1)
  have HL1 := Lib.hid (hL.keep0 g1)
  have HO1 := Lib.hid (own_keep0 ho g1)
  have HC1 := Lib.hid (hc.keep0 g1)
  have HG0 := Lib.hid g0
  have HG1 := Lib.hid g1
  have HV := Lib.hid hV
  have HW1 := Lib.hid hw1
  have HVE := Lib.hid hVe
  have HOK := Lib.hid ok
  have HB := Lib.hid hb
  have HOL := Lib.hid hoL
  have hz1 := g1.size
  have hz0 := g0.size
  have p0 : w1.cell? ⟨V, 0, none⟩ = some (.int .i64 day) := blkC hV 0 rfl
  have p1 : w1.cell? ⟨V, 1, none⟩ = some (.string T) := blkC hV 1 rfl
  have p2 : w1.cell? ⟨V, 2, none⟩ = some (.slice (some ⟨b, off, none⟩) L.length c) := blkC hV 2 rfl
  clear hV g1 hw1 hVe E hL ho hc ok hT hb g0 hoL
  go_enter Tryd.func9, Tryd.ntmps9
  go_wp2_with (fail)
  rw [← HW1.out, ← HVE.out]
  go_wp2_with (fail)
  refine CE.out.mono ?_
  rintro e w2 ⟨rfl, g2⟩
  have hV2 := (g2.block _ (lt_of_block HV.out) (by simp)).trans HV.out
  have HL2 := Lib.hid (HL1.out.keep0 g2)
  have HO2 := Lib.hid (own_keep0 HO1.out g2)
  have HC2 := Lib.hid (HC1.out.keep0 g2)
  have x0 : w2.cell? ⟨g, 0, none⟩ = some (.slice va 0 vc) := blkC HL2.out.blk 0 rfl
  have p0 : w2.cell? ⟨V, 0, none⟩ = some (.int .i64 day) := blkC hV2 0 rfl
  have p1 : w2.cell? ⟨V, 1, none⟩ = some (.string T) := blkC hV2 1 rfl
  have p2 : w2.cell? ⟨V, 2, none⟩ = some (.slice (some ⟨b, off, none⟩) L.length c) := blkC hV2 2 rfl
  have HG2 := Lib.hid (gr_trans HG1.out g2)
  have hz2 := g2.size
  have HV2 := Lib.hid hV2
  clear CE g2 hV2
  go_wp2_with (fail)
  go_region
  have gd := gr_drew (gr_refl w2 none)
  obtain ⟨wd, hwd⟩ : ∃ wd, wd = w2.drew := ⟨_, rfl⟩
  have hzd : w2.heap.size ≤ wd.heap.size := by rw [hwd]; exact Nat.le_refl _
  rw [← hwd] at gd
  rw [← hwd]
  have HL2 := Lib.hid (HL2.out.keep0 gd)
  have HO2 := Lib.hid (own_keep0 HO2.out gd)
  have HC2 := Lib.hid (HC2.out.keep0 gd)
  have HG2 := Lib.hid (gr_trans HG2.out gd)
  have hVd := (gd.block _ (lt_of_block HV2.out) (by simp)).trans HV2.out
  have HV2 := Lib.hid hVd
  have p2 : wd.cell? ⟨V, 2, none⟩ = some (.slice (some ⟨b, off, none⟩) L.length c) := blkC hVd 2 rfl
  have CL := Lib.hid (cloneLn_any (some ⟨b, off, none⟩) L.length c (flat encNm L) wd (flat_length (m := 2) (fun _ => rfl) L) HC2.out (fun e => by cases e) (flat_ones (fun _ => rfl) L) (by omega))
  clear gd hwd hVd x0
  go_wp2_with (fail)
  refine CL.out.mono ?_
  rintro e w3 ⟨v3, rfl, o3, g3⟩
  obtain ⟨ga, ca, rfl, hga, hgaw, -, -⟩ := own_some o3 (by omega)
  have hV3 := (g3.block _ (lt_of_block HV2.out) (by simp)).trans HV2.out
  have hz3 := g3.size
  have HG3 := Lib.hid (gr_trans HG2.out g3)
  have gx := gr_set (q := ⟨V, 2, none⟩) (gr_refl w3 (some V)) rfl (.slice (some ⟨ga, 0, none⟩) L.length ca)
  have k2 := heap_setCell_same w3 V 2 _ _ (.slice (some ⟨ga, 0, none⟩) L.length ca) hV3
  have t3 := blkF hV3 2
  have s2 : w3.cell? ⟨V, 2, none⟩ = some (.slice (some ⟨b, off, none⟩) L.length c) := blkC hV3 2 rfl
  have HL3 := Lib.hid ((HL2.out.keep0 g3))
  have HO3 := Lib.hid (own_keep0 HO2.out g3)
  obtain ⟨w4, hw4⟩ : ∃ w4, w4 = w3.setCell ⟨V, 2, none⟩ (.slice (some ⟨ga, 0, none⟩) L.length ca) := ⟨_, rfl⟩
  rw [← hw4] at gx k2
  have hVg : V ≠ g := by have := HVE.out; omega
  have hVM : V ≠ M := by have := HVE.out; omega
  have hz4 := gx.size
  have hVga : V ≠ ga := by have := lt_of_block HV2.out; omega
  have HL4 : Hid (LedAt w4 g M (.slice va 0 vc) n f) := ⟨(gx.block _ (lt_of_block HL3.out.blk) (fun e => by cases e; exact hVg rfl)).trans HL3.out.blk, HL3.out.mp.keep gx (fun e => by cases e; exact hVM rfl)⟩
  have HO4 : Hid (w4.ownsRow base 93 5 (.slice va 0 vc) 0 []) := own_new HO3.out gx (fun e => by have := HOL.out V e; have := HVE.out; omega)
  have HR4 : Hid (w4.ownsRow w.heap.size 39 2 (.slice (some ⟨ga, 0, none⟩) L.length ca) L.length (flat encNm L)) := own_new (own_base o3 (by omega)) gx (fun e => hVga (by simp [Value.ownBlock] at e; exact e.symm))
  have hG4 : w.grownBy w4 none := gr_grown HG3.out gx (fun q e => by cases e; have := HVE.out; omega)
  have HG4 := Lib.hid (gr_trans HG0.out hG4)
  have h4 := hG4.size
  have q0 : w4.cell? ⟨V, 0, none⟩ = some (.int .i64 day) := blkC k2 0 rfl
  have q1 : w4.cell? ⟨V, 1, none⟩ = some (.string T) := blkC k2 1 rfl
  have q2 : w4.cell? ⟨V, 2, none⟩ = some (.slice (some ⟨ga, 0, none⟩) L.length ca) := blkC k2 2 rfl
  have LA := Lib.hid (ledAdd_any day T L (some ⟨ga, 0, none⟩) ca 0 false g M n base 0 (.slice va 0 vc) [] f w0 w4 HL4.out HO4.out (own_shape HR4.out |> fun ⟨_, _, e, _, _, hc, _⟩ => by cases e; exact hc) HOK.out (by omega) hn HB.out HG4.out zg zM zb (by omega))
  have hgaV : ga ≠ g ∧ ga ≠ M ∧ ga < w4.heap.size ∧ some ga ≠ (Value.slice va 0 vc).ownBlock := ⟨by omega, by omega, by omega, fun e => by have := HOL.out ga e.symm; omega⟩
  have HW4 := Lib.hid hw4
  clear p0 p1 p2 gx k2 hw4 hV3 o3 g3
  go_upto_region 8 with (fail)
  rw [← HW4.out]
  clear t3 s2
  go_wp2_with (fail)
  refine LA.out.mono ?_
  rintro e w5 ⟨v5, rfl, l5, o5, g5, f5⟩
  have R5 := own_at HR4.out (w1 := w5) (fun q e => by cases e; exact f5 ga hgaV.2.2.1 hgaV.1 hgaV.2.1 hgaV.2.2.2)
  have R5 := Lib.hid R5
  have L5 := Lib.hid l5
  have O5 := Lib.hid o5
  have G5 := Lib.hid g5
  clear l5 o5 g5 f5 LA
  go_wp2_with (fail)
  go_ret2
  exact ⟨_, _, rfl, L5.out, O5.out, R5.out, G5.out⟩
end Go.Proofs.YtjhdngfliakidaaDoor

/-! till.Ledger.Lines of a ledger with one entry. -/
namespace Go.Proofs.YtjhdngfliakidaaDoor
open Go.RowKit
attribute [local go_sem ↓] Go.wp_at_zero Go.wp_at_succ

structure PoC where
  no : Int
  day : Int
  text : ByteArray
  cents : Int
  sum : Int
def encPo (x : PoC) : List Value := [.int .i64 x.no, .int .i64 x.day, .string x.text, .int .i64 x.cents, .int .i64 x.sum]
theorem ePo : ElemT Tryd.prog 44 49 (.agg #[.int .i64 0, .int .i64 0, .string ⟨#[]⟩, .int .i64 0, .int .i64 0]) 5 48 := ⟨by kernel_rfl, by kernel_rfl, by decide, by decide, by decide⟩
def poStep (K : ByteArray) (day : Int) (T : ByteArray) (s : List PoC × Int) (x : Nm) : List PoC × Int :=
  if lnIs K x then (s.1 ++ [⟨1, day, T, x.many, s.2 + x.many⟩], s.2 + x.many) else s
def poM (K : ByteArray) (day : Int) (T : ByteArray) (L : List Nm) : List PoC × Int := L.foldl (poStep K day T) ([], 0)
theorem poM_next (K : ByteArray) (day : Int) (T : ByteArray) (L : List Nm) (k : Nat) (h : k < L.length) : poM K day T (L.take (k + 1)) = poStep K day T (poM K day T (L.take k)) L[k] := by
  have e : L.take (k + 1) = L.take k ++ [L[k]] := by simp
  unfold poM
  rw [e, List.foldl_append]
  rfl
theorem poM_le (K : ByteArray) (day : Int) (T : ByteArray) (L : List Nm) (ok : EntOk L) : ∀ k, k ≤ L.length → (poM K day T (L.take k)).1.length ≤ k ∧ -(k * 1000000000 : Int) ≤ (poM K day T (L.take k)).2 ∧ (poM K day T (L.take k)).2 ≤ (k * 1000000000 : Int) := by
  intro k
  induction k with
  | zero => intro _; exact ⟨Nat.le_refl _, by simp [poM], by simp [poM]⟩
  | succ k ih =>
    intro h
    obtain ⟨h1, h2, h3⟩ := ih (by omega)
    have := ok.many _ (List.getElem_mem (show k < L.length by omega))
    rw [poM_next K day T L k (by omega)]
    unfold poStep
    split
    · exact ⟨by simp; omega, by simp only; push_cast; omega, by simp only; push_cast; omega⟩
    · exact ⟨by omega, by push_cast; omega, by push_cast; omega⟩
theorem poM_other (K : ByteArray) (day : Int) (T : ByteArray) (s : List PoC × Int) (L : List Nm) (h : ∀ x ∈ L, lnIs K x = false) : L.foldl (poStep K day T) s = s := by
  induction L with
  | nil => rfl
  | cons x L ih =>
    rw [List.foldl_cons]
    have e : poStep K day T s x = s := by unfold poStep; rw [h x (by simp)]; rfl
    rw [e]
    exact ih (fun y hy => h y (by simp [hy]))
theorem poM_first (day : Int) (T : ByteArray) (L : List Nm) (ok : EntOk L) (h0 : 0 < L.length) : (poM L[0].key day T L).1 = [⟨1, day, T, L[0].many, L[0].many⟩] := by
  cases L with
  | nil => simp at h0
  | cons x L =>
    have h1 : ∀ y ∈ L, lnIs x.key y = false := fun y hy => by
      obtain ⟨i, hi, rfl⟩ := List.getElem_of_mem hy
      have h2 := ok.apart (i + 1) (by simp; omega)
      rw [List.any_eq_false] at h2
      have h3 := h2 x (by simp)
      simp only [List.getElem_cons_succ] at h3
      unfold lnIs at *
      simp only [beq_iff_eq] at h3
      simp only [beq_eq_false_iff_ne]
      exact fun e => h3 e.symm
    show (L.foldl (poStep x.key day T) (poStep x.key day T ([], 0) x)).1 = _
    rw [poM_other _ _ _ _ _ h1]
    unfold poStep lnIs
    simp
theorem cell_at {w : World} {b : Nat} {xs : List Value} (h : CellsAt w (some ⟨b, 0, none⟩) xs) (j : Nat) {x : Value} (hx : xs[j]? = some x) : w.cell? ⟨b, j, none⟩ = some x := by
  obtain ⟨b', off, e, hc⟩ := h j x hx
  cases e
  rw [Nat.zero_add] at hc
  exact hc
set_option maxRecDepth 100000 in
set_option maxHeartbeats 2000000 in
theorem lines_one (K : ByteArray) (hK : keyB K = true) (hKs : K.size ≤ 40) (day : Int) (T : ByteArray) (L : List Nm) (a : Option Addr) (c : Nat) (kc : Int) (cd : Bool) (g M n base : Nat) (v : Value) (f : ByteArray → Option Int) (w : World) (hL : LedAt w g M v n f) (ho : w.ownsRow base 93 5 v 1 [.int .i64 day, .string T, .slice a L.length c, .int .i64 kc, .bool cd]) (hc : CellsAt w a (flat encNm L)) (ok : EntOk L) :
    Calls Tryd.prog 13 #[.pointer (some ⟨g, 0, none⟩), .string K] w fun e w' => ∃ v', e = .returned (.tuple #[v', .int .i64 0]) ∧ w'.ownsRow w.heap.size 49 5 v' (poM K day T L).1.length (flat encPo (poM K day T L).1) ∧ w.grownBy w' none := by
  obtain ⟨gp, cp, rfl, -, -, -, -⟩ := own_some ho (by decide)
  obtain ⟨_, _, e9, -, -, hp, -⟩ := own_shape ho
  cases e9
  have hl0 := ok.l0
  have hl1 := ok.l1
  have HP := Lib.hid hp
  have HC := Lib.hid hc
  have HOK := Lib.hid ok
  have HHK := Lib.hid hK
  have x0 : w.cell? ⟨g, 0, none⟩ = some (.slice (some ⟨gp, 0, none⟩) 1 cp) := blkC hL.blk 0 rfl
  clear hp hc ok hL ho
  go_enter Tryd.func13, Tryd.ntmps13
  go_wp2_with (fail)
  refine (key_any K w (by omega)).mono ?_
  rintro e w4 ⟨rfl, rfl⟩
  rw [HHK.out]
  go_wp2_with (fail)
  go_loopw [6, 7, 20] (fun o s i wr => ∃ k : Nat, k ≤ 1 ∧ i = .int .i64 k ∧ s = .int .i64 (poM K day T (L.take (k * L.length))).2 ∧ wr.ownsRow w.heap.size 49 5 o (poM K day T (L.take (k * L.length))).1.length (flat encPo (poM K day T (L.take (k * L.length))).1) ∧ w.grownBy wr none) (fun _ _ i _ => 1 - (intOf i).toNat)
  case atStart => exact ⟨0, Nat.zero_le _, rfl, by simp [poM], by rw [Nat.zero_mul, List.take_zero]; exact World.ownsRow_nil _ _ _ _, gr_refl _ _⟩
  case round =>
    clear x0
    obtain ⟨k, hk, rfl, rfl, hO, hgr⟩ := hrel
    obtain ⟨wo, rfl⟩ : ∃ wo : World, wo = wr := ⟨_, rfl⟩
    by_cases hlt : k < 1
    · obtain rfl : k = 0 := by omega
      have hp := HP.out.keep0 hgr
      have d0 : wo.cell? ⟨gp, 0, none⟩ = some (.int .i64 day) := cell_at hp 0 rfl
      have d1 : wo.cell? ⟨gp, 1, none⟩ = some (.string T) := cell_at hp 1 rfl
      have d2 : wo.cell? ⟨gp, 2, none⟩ = some (.slice a L.length c) := cell_at hp 2 rfl
      have d3 : wo.cell? ⟨gp, 3, none⟩ = some (.int .i64 kc) := cell_at hp 3 rfl
      have d4 : wo.cell? ⟨gp, 4, none⟩ = some (.bool cd) := cell_at hp 4 rfl
      have hX := heap_alloc_new wo (.cells #[.int .i64 day, .string T, .slice a L.length c, .int .i64 kc, .bool cd] 93)
      have ga := gr_alloc (gr_refl wo none) (.cells #[.int .i64 day, .string T, .slice a L.length c, .int .i64 kc, .bool cd] 93)
      obtain ⟨w3, hw3⟩ : ∃ w3, w3 = wo.alloc (.cells #[.int .i64 day, .string T, .slice a L.length c, .int .i64 kc, .bool cd] 93) := ⟨_, rfl⟩
      rw [← hw3] at hX ga
      obtain ⟨P, hP⟩ : ∃ P, P = wo.heap.size := ⟨_, rfl⟩
      rw [← hP] at hX
      have HX := Lib.hid hX
      have HG3 := Lib.hid (gr_trans hgr ga)
      have HO3 := Lib.hid (own_keep0 hO ga)
      rw [Nat.zero_mul] at HO3
      have p2 : w3.cell? ⟨P, 2, none⟩ = some (.slice a L.length c) := blkC hX 2 rfl
      have HW3 := Lib.hid hw3
      have HPE := Lib.hid hP
      rw [Nat.zero_mul]
      have hz3 := hgr.size
      have hPw : w.heap.size ≤ P := by omega
      have hP3 : P < w3.heap.size := lt_of_block hX
      clear hp hX ga hw3 hP hgr hO
      go_upto_region 8 with (fail)
      rw [← HW3.out, ← HPE.out]
      clear d0 d1 d2 d3 d4
      go_wp2_with (fail)
      go_loopw [6, 7, 29] (fun o s i wr => ∃ j : Nat, j ≤ L.length ∧ i = .int .i64 j ∧ s = .int .i64 (poM K day T (L.take j)).2 ∧ wr.ownsRow w.heap.size 49 5 o (poM K day T (L.take j)).1.length (flat encPo (poM K day T (L.take j)).1) ∧ wr.heap[P]? = some (.cells #[.int .i64 day, .string T, .slice a L.length c, .int .i64 kc, .bool cd] 93 (0, 0)) ∧ w.heap.size ≤ wr.heap.size ∧ w.grownBy wr none) (fun _ _ i _ => L.length - (intOf i).toNat)
      case atStart => exact ⟨0, Nat.zero_le _, rfl, rfl, HO3.out, HX.out, by omega, HG3.out⟩
      case round =>
        clear p2
        obtain ⟨j, hj, rfl, rfl, hO, hB, hzz, hgr⟩ := hrel
        obtain ⟨wi, rfl⟩ : ∃ wi : World, wi = wr := ⟨_, rfl⟩
        by_cases hlj : j < L.length
        · obtain ⟨b, off, rfl, d0, d1⟩ := bk_cells (HC.out.keep0 hgr) j hlj
          obtain ⟨b1, b2, b3⟩ := poM_le K day T L HOK.out j hj
          have NX := poM_next K day T L j hlj
          have hky := (HOK.out.key _ (List.getElem_mem hlj)).2
          have hmy := HOK.out.many _ (List.getElem_mem hlj)
          unfold poStep at NX
          obtain ⟨x, hx⟩ : ∃ x, x = L[j] := ⟨_, rfl⟩
          rw [← hx] at d0 d1 NX hky hmy
          obtain ⟨S, Y⟩ := x
          simp only at d0 d1 NX hky hmy
          obtain ⟨R, hR⟩ : ∃ R, R = (poM K day T (L.take j)).1 := ⟨_, rfl⟩
          obtain ⟨q, hq⟩ : ∃ q, q = (poM K day T (L.take j)).2 := ⟨_, rfl⟩
          rw [← hR] at NX b1 hO
          rw [← hq] at NX b2 b3
          rw [← hq]
          have hX := heap_alloc_new wi (.cells #[.string S, .int .i64 Y] 39)
          have ga := gr_alloc (gr_refl wi none) (.cells #[.string S, .int .i64 Y] 39)
          obtain ⟨w5, hw5⟩ : ∃ w5, w5 = wi.alloc (.cells #[.string S, .int .i64 Y] 39) := ⟨_, rfl⟩
          rw [← hw5] at hX ga
          obtain ⟨Q, hQ⟩ : ∃ Q, Q = wi.heap.size := ⟨_, rfl⟩
          rw [← hQ] at hX
          have hB5 := (ga.block _ (lt_of_block hB) (by simp)).trans hB
          have HB5 := Lib.hid hB5
          have HG5 := Lib.hid (gr_trans hgr ga)
          have HO5 := Lib.hid (own_keep0 hO ga)
          have e0 : w5.cell? ⟨Q, 0, none⟩ = some (.string S) := blkC hX 0 rfl
          have e1 : w5.cell? ⟨Q, 1, none⟩ = some (.int .i64 Y) := blkC hX 1 rfl
          have y0 : w5.cell? ⟨P, 0, none⟩ = some (.int .i64 day) := blkC hB5 0 rfl
          have y1 : w5.cell? ⟨P, 1, none⟩ = some (.string T) := blkC hB5 1 rfl
          have HW5 := Lib.hid hw5
          have HQ := Lib.hid hQ
          have hz5 := ga.size
          have hwS : IntKind.i64.wrap (q + Y) = q + Y := IntWalk.i64_in _ (by omega)
          have hOL := Lib.hid (own_keep0 hO ga).lt
          obtain ⟨bb, hbb⟩ : ∃ bb, bb = (S.toList == K.toList) := ⟨_, rfl⟩
          have hlk : lnIs K ⟨S, Y⟩ = bb := hbb.symm
          rw [hlk] at NX
          have HRR := Lib.hid hR
          have HQQ := Lib.hid hq
          clear hx hX hw5 hQ hB5 hB hgr ga hO hlk hR hq
          go_upto_region 11 with (fail)
          rw [← HW5.out, ← HQ.out]
          clear d0 d1
          cases bb with
          | false =>
            replace hbb := hbb.symm
            rw [if_neg (by decide)] at NX
            replace NX := Lib.hid NX
            go_wp2_with (fail)
            go_roundw
            case rel => exact ⟨j + 1, by omega, by go_num, by rw [NX.out, ← HQQ.out], by rw [NX.out, ← HRR.out]; exact HO5.out, HB5.out, by omega, HG5.out⟩
            case measure => simp [intOf]; omega
          | true =>
            replace hbb := hbb.symm
            rw [if_pos rfl] at NX
            replace NX := Lib.hid NX
            go_wp2_with (at_builtin; refine wpList_app1F ePo rfl _ _ rfl w.heap.size _ R.length (flat encPo R) rfl w5 #[.int .i64 1, .int .i64 day, .string T, .int .i64 Y, .int .i64 (q + Y)] rfl HO5.out _ rfl rfl rfl rfl (by omega) (by omega) ?_; intro v7 w7 o7 g7 hl7 hk7)
            have HO7 : Hid (w7.ownsRow w.heap.size 49 5 v7 (R ++ [(⟨1, day, T, Y, q + Y⟩ : PoC)]).length (flat encPo (R ++ [⟨1, day, T, Y, q + Y⟩]))) := by
              show World.ownsRow _ _ _ _ _ _ _
              rw [List.length_append, flat_append, flat_one]; exact o7
            have HG7 := Lib.hid (gr_grown HG5.out g7 (fun q hq => by have := hl7 q hq; omega))
            have HB7 := Lib.hid (held_own HO5.out HB5.out g7 (by decide))
            have hz7 := g7.size
            clear o7 g7 hl7 hk7
            go_wp2_with (fail)
            go_roundw
            case rel => exact ⟨_, _, _, _, ⟨j + 1, by omega, by go_num, by rw [NX.out], by rw [NX.out]; exact HO7.out, HB7.out, by omega, HG7.out⟩, rfl, rfl, rfl, rfl⟩
            case measure => simp [intOf]; omega
        · obtain rfl : j = L.length := by omega
          have HO := Lib.hid hO
          have HGR := Lib.hid hgr
          clear hO hB hgr
          go_wp2_with (fail)
          go_roundw
          case rel => exact ⟨1, Nat.le_refl _, by go_num, by rw [Nat.one_mul], by rw [Nat.one_mul]; exact HO.out, HGR.out⟩
          case measure => simp [intOf]
    · obtain rfl : k = 1 := by omega
      rw [Nat.one_mul, List.take_length] at hO
      rw [Nat.one_mul, List.take_length]
      have HO := Lib.hid hO
      have HGR := Lib.hid hgr
      clear hO hgr
      go_wp2_with (fail)
      go_ret2
      exact ⟨_, rfl, HO.out, HGR.out⟩
end Go.Proofs.YtjhdngfliakidaaDoor
