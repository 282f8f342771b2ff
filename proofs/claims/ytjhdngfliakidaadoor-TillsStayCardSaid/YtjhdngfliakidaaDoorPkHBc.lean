/- The walk of TillsStay. -/
import Derived.Test.YtjhdngfliakidaaDoorPkHAz
import Derived.Test.YtjhdngfliakidaaDoorPkHAp
import Derived.Test.YtjhdngfliakidaaDoorPkHBb
import Derived.Test.YtjhdngfliakidaaDoorPkHAy
import Derived.Test.YtjhdngfliakidaaDoorPkHAx
import Derived.Test.YtjhdngfliakidaaDoorPkHAb
import Derived.Test.YtjhdngfliakidaaDoorPkHAn
namespace Go.Proofs.YtjhdngfliakidaaDoor
open Go.RowKit
attribute [local go_sem ↓] Go.wp_at_zero Go.wp_at_succ

theorem entL_len (l : List Int) (k : Nat) : 2 ≤ (entL l k).length ∧ (entL l k).length ≤ 3 := by
  unfold entL
  split <;> simp
theorem entL_acc (l : List Int) (k : Nat) (h : IsOrder 4 (ordM l (k + 2) 4)) : ∀ x ∈ entL l k, ∃ i : Nat, i < 4 ∧ x.key = accS i := by
  obtain ⟨a, b, c, ha, hb, hc, -, -, -, ea, eb, ec⟩ := ord_three h
  have e0 : entA l k 0 = accS a := by unfold entA; rw [ea]
  have e1 : entA l k 1 = accS b := by unfold entA; rw [eb]
  have e2 : entA l k 2 = accS c := by unfold entA; rw [ec]
  intro x hx
  unfold entL at hx
  rw [e0, e1, e2] at hx
  split at hx
  · simp only [List.mem_cons, List.not_mem_nil, or_false] at hx
    rcases hx with rfl | rfl | rfl
    · exact ⟨a, ha, rfl⟩
    · exact ⟨b, hb, rfl⟩
    · exact ⟨c, hc, rfl⟩
  · simp only [List.mem_cons, List.not_mem_nil, or_false] at hx
    rcases hx with rfl | rfl
    · exact ⟨a, ha, rfl⟩
    · exact ⟨b, hb, rfl⟩
def spoilS : ByteArray := ⟨#[115, 112, 111, 105, 108, 116]⟩
def spoilIs (x : Nm) : Bool := x.key.toList == spoilS.toList
def accSp (i : Nat) : Bool := !((accS i).toList == spoilS.toList)
theorem acc_spoil_all : ((List.range 4).all accSp) = true := by kernel_rfl
theorem acc_spoil (i : Nat) (h : i < 4) : ((accS i).toList == spoilS.toList) = false := by
  have h1 : accSp i = true := List.all_eq_true.1 acc_spoil_all i (List.mem_range.2 h)
  unfold accSp at h1
  rwa [Bool.not_eq_true'] at h1
theorem addL_mem (L : List Nm) (s : ByteArray) (v : Int) (h : addL (fun _ => none) L s = some v) : s ∈ L.map Nm.key := by
  apply Classical.byContradiction
  intro hn
  rw [addL_other _ L s (fun x hx e => hn (by rw [← e]; exact List.mem_map_of_mem hx))] at h
  cases h
theorem tillsStay1_fn : ∀ (args : Array Value) (w : World), (callFunc 17 args).run Tryd.prog w = .ok (.enter 17 args) w := fun _ _ => by kernel_rfl
theorem tillsStay1_any (x : Nm) (w : World) : Calls Tryd.prog 17 #[.agg #[.string x.key, .int .i64 x.many]] w fun e w' => e = .returned (.bool (spoilIs x)) ∧ w.grownBy w' none := by
  have H : spoilIs x = (x.key.toList == [115, 112, 111, 105, 108, 116]) := by
    unfold spoilIs spoilS
    rw [ByteArray.toList_eq ⟨#[115, 112, 111, 105, 108, 116]⟩]
  rw [H]
  clear H
  go_enter Tryd.func17, Tryd.ntmps17
  go_wp2_with (fail)
  go_ret
  exact ⟨rfl, gr_alloc (gr_refl w none) _⟩
theorem shares_some (tot : Int) (p : List Nm) (a : Option Addr) (c : Nat) (w : World) (hc : CellsAt w a (flat encNm p)) (hn : p.length ≤ 12) (hcap : p.length ≤ c) (hks : ∀ x ∈ p, x.key.size ≤ 1000) (ht0 : 0 ≤ tot) (ht1 : tot ≤ 1000000000) :
    Calls Tryd.prog 11 #[.int .i64 tot, .slice a p.length c] w fun e w' => ∃ v r, e = .returned (.tuple #[v, .int .i64 r]) ∧ w.grownBy w' none :=
  (shares_any tot p a c w hc hn hcap hks ht0 ht1).mono fun e w' h => by
    rcases h with ⟨h1, ⟨_, r, _, rfl⟩ | ⟨_, v, P, rfl, _⟩⟩
    · exact ⟨_, _, rfl, h1⟩
    · exact ⟨_, _, rfl, h1⟩
/-- What was handed in, or is beside it. -/
structure KeepT (W : World) (lo X Y : Nat) (T : ByteArray) (L P : List Nm) (vx vy vp vq : Value) : Prop where
  bX : W.heap[X]? = some (.cells #[.int .i64 3, .string T, vx] 28 (0, 0))
  bY : W.heap[Y]? = some (.cells #[.int .i64 3, .string T, vy] 28 (0, 0))
  oy : W.ownsRow lo 39 2 vy L.length (flat encNm L)
  op : W.ownsRow lo 43 2 vp P.length (flat encNm P)
  oq : W.ownsRow lo 43 2 vq P.length (flat encNm P)
  lX : lo ≤ X
  lY : lo ≤ Y
theorem own_keepL {w w1 : World} {base e size n : Nat} {r : Option Nat} {v : Value} {xs : List Value} (h : w.ownsRow base e size v n xs) (g : w.grownBy w1 r) (hr : ∀ q, r = some q → q < base) : w1.ownsRow base e size v n xs := by
  cases r with
  | none => exact own_keep0 h g
  | some p => exact own_keepS h g (hr p rfl)
theorem KeepT.keep {W W1 : World} {lo X Y : Nat} {T : ByteArray} {L P : List Nm} {vx vy vp vq : Value} {r : Option Nat} (h : KeepT W lo X Y T L P vx vy vp vq) (g : W.grownBy W1 r) (hr : ∀ q, r = some q → q < lo) : KeepT W1 lo X Y T L P vx vy vp vq :=
  ⟨(g.block _ (lt_of_block h.bX) (fun e => by have := hr _ e.symm; have := h.lX; omega)).trans h.bX, (g.block _ (lt_of_block h.bY) (fun e => by have := hr _ e.symm; have := h.lY; omega)).trans h.bY, own_keepL h.oy g hr, own_keepL h.op g hr, own_keepL h.oq g hr, h.lX, h.lY⟩
theorem KeepT.keep0 {W W1 : World} {lo X Y : Nat} {T : ByteArray} {L P : List Nm} {vx vy vp vq : Value} (h : KeepT W lo X Y T L P vx vy vp vq) (g : W.grownBy W1 none) : KeepT W1 lo X Y T L P vx vy vp vq := h.keep g (fun q e => by cases e)
/-- A ledger with one entry. -/
structure LedT (W : World) (lo g M : Nat) (T : ByteArray) (L : List Nm) (v v3 : Value) : Prop where
  led : LedAt W g M v (0 + L.length) (addL (fun _ => none) L)
  row : W.ownsRow lo 93 5 v 1 [.int .i64 3, .string T, v3, .int .i64 0, .bool false]
  cl : W.ownsRow lo 39 2 v3 L.length (flat encNm L)
  lg : lo ≤ g
  lM : lo ≤ M
theorem LedT.keep {W W1 : World} {lo g M : Nat} {T : ByteArray} {L : List Nm} {v v3 : Value} {r : Option Nat} (h : LedT W lo g M T L v v3) (gg : W.grownBy W1 r) (hr : ∀ q, r = some q → q < lo) : LedT W1 lo g M T L v v3 :=
  ⟨⟨(gg.block _ (lt_of_block h.led.blk) (fun e => by have := hr _ e.symm; have := h.lg; omega)).trans h.led.blk, h.led.mp.keep gg (fun e => by have := hr M (by first | exact e | exact e.symm); have := h.lM; omega)⟩, own_keepL h.row gg hr, own_keepL h.cl gg hr, h.lg, h.lM⟩
theorem LedT.keep0 {W W1 : World} {lo g M : Nat} {T : ByteArray} {L : List Nm} {v v3 : Value} (h : LedT W lo g M T L v v3) (gg : W.grownBy W1 none) : LedT W1 lo g M T L v v3 := h.keep gg (fun q e => by cases e)
set_option maxRecDepth 100000 in
set_option maxHeartbeats 4000000 in
theorem tillsStay_any (l : List Int) (a : Option Addr) (cap : Nat) (w : World) (E : EnvW w) (hc : CellsAt w a (ints l)) (hl : l.length ≤ 9223372036854775807) :
    Calls Tryd.prog 3 #[.slice a l.length cap] w fun e w' => e = .returned (.bool true) ∧ w.grownBy w' none := by
  have hsA := StreamAt.made cap hc hl
  have hg1 := gr_alloc (gr_refl w none) (.cells #[.slice a l.length cap, .int .i64 0] 25)
  have hsB := StreamAt.madeLow cap hg1 hc hl
  have hg2 := gr_alloc hg1 (.cells #[.slice a l.length cap, .int .i64 0] 25)
  have hsA2 := hsA.keep0 (gr_alloc (gr_refl _ none) (.cells #[.slice a l.length cap, .int .i64 0] 25))
  rw [show (w.alloc (.cells #[.slice a l.length cap, .int .i64 0] 25)).heap.size = w.heap.size + 1 by simp] at hsB
  obtain ⟨w0, hw0⟩ : ∃ w0, w0 = (w.alloc (.cells #[.slice a l.length cap, .int .i64 0] 25)).alloc (.cells #[.slice a l.length cap, .int .i64 0] 25) := ⟨_, rfl⟩
  have hz0 : w0.heap.size = w.heap.size + 2 := by rw [hw0]; simp
  rw [← hw0] at hsA2 hsB hg2
  have HW0 := Lib.hid hw0
  have HSB := Lib.hid hsB
  have HSA := Lib.hid hsA2
  have HG0 := Lib.hid hg2
  have HE := Lib.hid E
  clear hw0 hc hsA hsB hg2 hg1 hsA2 E
  go_enter Tryd.func3, Tryd.ntmps3
  go_wp2_with (fail)
  rw [← HW0.out]
  refine (rightEntry_any l 0 w.heap.size 3 w0 HSA.out (by omega)).mono ?_
  rintro e w1 ⟨vx, rfl, ox, sA1, g1, IO⟩
  have HEO := Lib.hid (entL_ok l 0 IO)
  obtain ⟨bx, cx, rfl, hbx0, hbx1, hcx, -⟩ := own_some ox (by have := entL_len l 0; omega)
  have HEA := Lib.hid (entL_acc l 0 IO)
  have HEL := entL_len l 0
  have HET := Lib.hid (entT_in l 0)
  obtain ⟨T, hT⟩ : ∃ T, T = entT l 0 := ⟨_, rfl⟩
  obtain ⟨L, hL⟩ : ∃ L, L = entL l 0 := ⟨_, rfl⟩
  have HTE := Lib.hid hT
  have HLE := Lib.hid hL
  rw [← hT] at HET
  rw [← hL] at HEO HEA HEL ox hcx
  rw [← hT, ← hL]
  have RB := rightEntry_any l 0 (w.heap.size + 1) 3 w1 (HSB.out.keepNe g1 (fun q e => by cases e; exact ⟨by omega, Nat.le_refl _⟩)) (by omega)
  unfold EntryPost at RB
  rw [← hT, ← hL] at RB
  have HRB := Lib.hid RB
  have HOX := Lib.hid ox
  have HSA1 := Lib.hid sA1
  have HG1 := Lib.hid g1
  clear hT hL IO ox sA1 g1 RB
  go_wp2_with (fail)
  refine HRB.out.mono ?_
  rintro e w2 ⟨vy, rfl, oy, sB2, g2, -⟩
  obtain ⟨yb, cy, rfl, hyb0, hyb1, -, -⟩ := own_some oy (by omega)
  obtain ⟨lo, hlo⟩ : ∃ lo, lo = w1.heap.size := ⟨_, rfl⟩
  rw [← hlo] at oy hbx1 hyb0
  have hz2 := g2.size
  have hz1 := HG1.out.size
  obtain ⟨hXB, hYB⟩ := heap_2 w2 (.cells #[.int .i64 3, .string T, .slice (some ⟨bx, 0, none⟩) L.length cx] 28) (.cells #[.int .i64 3, .string T, .slice (some ⟨yb, 0, none⟩) L.length cy] 28)
  have ga := gr_alloc (gr_alloc (gr_refl w2 none) (.cells #[.int .i64 3, .string T, .slice (some ⟨bx, 0, none⟩) L.length cx] 28)) (.cells #[.int .i64 3, .string T, .slice (some ⟨yb, 0, none⟩) L.length cy] 28)
  obtain ⟨w3, hw3⟩ : ∃ w3, w3 = (w2.alloc (.cells #[.int .i64 3, .string T, .slice (some ⟨bx, 0, none⟩) L.length cx] 28)).alloc (.cells #[.int .i64 3, .string T, .slice (some ⟨yb, 0, none⟩) L.length cy] 28) := ⟨_, rfl⟩
  rw [← hw3] at hXB hYB ga
  obtain ⟨X, hX⟩ : ∃ X, X = w2.heap.size := ⟨_, rfl⟩
  rw [← hX] at hXB hYB
  have hz3 : X + 1 < w3.heap.size := lt_of_block hYB
  have hlX : lo ≤ X := by omega
  have hl0 : w.heap.size + 2 ≤ lo := by omega
  have HXB := Lib.hid hXB
  have HYB := Lib.hid hYB
  have hG2 := gr_grown (gr_grown HG0.out HG1.out (fun q e => by cases e; exact Nat.le_refl _)) g2 (fun q e => by cases e; omega)
  have HG3 := Lib.hid (gr_trans hG2 ga)
  have HOX3 := Lib.hid (own_keep0 (own_keepS HOX.out g2 (by omega)) ga)
  have HOY3 := Lib.hid (own_keep0 oy ga)
  have HSA3 := Lib.hid ((HSA1.out.keepNe g2 (fun q e => by cases e; exact ⟨by omega, by omega⟩)).keep0 ga)
  have HSB3 := Lib.hid (sB2.keep0 ga)
  have HW3 := Lib.hid hw3
  have HXE := Lib.hid hX
  clear hlo hXB hYB ga hw3 hX hG2 oy sB2 g2 HOX HSA1 HG1 HRB HSB HSA HG0
  go_upto_region 3 with (fail)
  rw [← HW3.out, ← HXE.out]
  go_wp2_with (fail)
  refine (partnersG_any l (0 + 6) w.heap.size w3 HSA3.out (by omega)).mono ?_
  rintro e w4 ⟨vp, rfl, op, hp5, hpsm, ⟨q4, hq4, -⟩, g4⟩
  obtain ⟨pa, pc, rfl, hpc, -, -, -⟩ := own_shape op
  have PB := Lib.hid (partnersG_any l (0 + 6) (w.heap.size + 1) w4 (HSB3.out.keepNe g4 (fun q e => by cases e; exact ⟨by omega, by omega⟩)) (by omega))
  have HOP := Lib.hid op
  have HG4 := Lib.hid g4
  clear op g4
  go_wp2_with (fail)
  refine PB.out.mono ?_
  rintro e w5 ⟨vq, rfl, oq, -, -, -, g5⟩
  obtain ⟨qa, qc, rfl, -, -, -, -⟩ := own_shape oq
  obtain ⟨P, hP⟩ : ∃ P, P = partL l (0 + 6) := ⟨_, rfl⟩
  rw [← hP] at oq HOP hp5 hpsm hpc
  rw [← hP]
  have hz4 := HG4.out.size
  have hz5 := g5.size
  have HK5 : Hid (KeepT w5 lo X (X + 1) T L P (.slice (some ⟨bx, 0, none⟩) L.length cx) (.slice (some ⟨yb, 0, none⟩) L.length cy) (.slice pa P.length pc) (.slice qa P.length qc)) :=
    ⟨(g5.block _ (by omega) (fun e => by have := Option.some.inj e; omega)).trans ((HG4.out.block _ (by omega) (fun e => by have := Option.some.inj e; omega)).trans HXB.out), (g5.block _ (by omega) (fun e => by have := Option.some.inj e; omega)).trans ((HG4.out.block _ (by omega) (fun e => by have := Option.some.inj e; omega)).trans HYB.out),
      own_keepS (own_keepS HOY3.out HG4.out (by omega)) g5 (by omega), own_base (own_keepS HOP.out g5 (by omega)) (by omega), own_base oq (by omega), by omega, by omega⟩
  have HOX5 := Lib.hid (own_keepS (own_keepS HOX3.out HG4.out (by omega)) g5 (by omega))
  have HG5 := Lib.hid (gr_grown (gr_grown HG3.out HG4.out (fun q e => by cases e; exact Nat.le_refl _)) g5 (fun q e => by cases e; omega))
  have HPSM := Lib.hid hpsm
  clear hP oq hpsm g5 HOP HG4 PB HSB3 HSA3 HOY3 HOX3 HG3 HXB HYB
  go_wp2_with (fail)
  refine (newLedger_any w5).mono ?_
  rintro e w6 ⟨rfl, l6, g6⟩
  obtain ⟨M, hM⟩ : ∃ M, M = w5.heap.size := ⟨_, rfl⟩
  rw [← hM] at l6
  rw [← hM]
  have HK6 := Lib.hid (HK5.out.keep0 g6)
  have HOX6 := Lib.hid (own_keep0 HOX5.out g6)
  have hG6 := gr_trans HG5.out g6
  have hz6 := g6.size
  have x0 : w6.cell? ⟨X, 0, none⟩ = some (.int .i64 3) := blkC HK6.out.bX 0 rfl
  have x1 : w6.cell? ⟨X, 1, none⟩ = some (.string T) := blkC HK6.out.bX 1 rfl
  have x2 : w6.cell? ⟨X, 2, none⟩ = some (.slice (some ⟨bx, 0, none⟩) L.length cx) := blkC HK6.out.bX 2 rfl
  have hxC : CellsAt w6 (some ⟨bx, 0, none⟩) (flat encNm L) := by
    obtain ⟨_, _, e9, _, _, hc9, _⟩ := own_shape HOX6.out
    cases e9
    exact hc9
  have PO := Lib.hid (post_any 3 T L (some ⟨bx, 0, none⟩) cx (M + 1) M 0 w6.heap.size (.slice none 0 0) (fun _ => none) w5 w6 (HE.out.keep hG6) l6 (World.ownsRow_nil _ _ _ _) hxC hcx HEO.out HET.out.1 HET.out.2.1 HET.out.2.2 (by omega) (by omega) (by omega) (entB HEO.out) g6 (by omega) (by omega) (by omega) (by omega))
  have HG6 := Lib.hid hG6
  have HME := Lib.hid hM
  clear hM l6 g6 hxC hG6 HE HET
  go_wp2_with (fail)
  refine PO.out.mono ?_
  rintro e w7 ⟨v7, v3, rfl, l7, r7, c7, g57⟩
  obtain ⟨cb, cc, rfl, -, -, -, -⟩ := own_some c7 (by omega)
  have HK7 := Lib.hid (HK5.out.keep0 g57)
  have HOX7 := Lib.hid (own_keep0 HOX5.out g57)
  have HG7 := Lib.hid (gr_trans HG5.out g57)
  have HLD7 : Hid (LedT w7 lo (M + 1) M T L v7 (.slice (some ⟨cb, 0, none⟩) L.length cc)) := ⟨l7, own_base r7 (by omega), own_base c7 (by omega), by have := HME.out; omega, by have := HME.out; omega⟩
  have hz7 := g57.size
  have hyC : CellsAt w7 (some ⟨yb, 0, none⟩) (flat encNm L) := by
    obtain ⟨_, _, e9, _, _, hc9, _⟩ := own_shape HK7.out.oy
    cases e9
    exact hc9
  have hxC : CellsAt w7 (some ⟨bx, 0, none⟩) (flat encNm L) := by
    obtain ⟨_, _, e9, _, _, hc9, _⟩ := own_shape HOX7.out
    cases e9
    exact hc9
  have EQ := Lib.hid (equal_Ln L (some ⟨bx, 0, none⟩) (some ⟨yb, 0, none⟩) cx cy w7 hxC hyC (by omega))
  have x2 : w7.cell? ⟨X, 2, none⟩ = some (.slice (some ⟨bx, 0, none⟩) L.length cx) := blkC HK7.out.bX 2 rfl
  have y2 : w7.cell? ⟨X + 1, 2, none⟩ = some (.slice (some ⟨yb, 0, none⟩) L.length cy) := blkC HK7.out.bY 2 rfl
  clear l7 r7 c7 g57 x0 x1 PO HK5 HK6 HOX5 HOX6 HG5 HG6 hyC hxC
  go_wp2_with (fail)
  refine EQ.out.mono ?_
  rintro e w8 ⟨rfl, g8⟩
  have HK8 := Lib.hid (HK7.out.keep0 g8)
  have HOX8 := Lib.hid (own_keep0 HOX7.out g8)
  have HG8 := Lib.hid (gr_trans HG7.out g8)
  have HLD8 := Lib.hid (HLD7.out.keep0 g8)
  have hz8 := g8.size
  have hpC : CellsAt w8 pa (flat encNm P) := by
    obtain ⟨_, _, e9, _, _, hc9, _⟩ := own_shape HK8.out.op
    cases e9
    exact hc9
  have SH := Lib.hid (shares_some 10 P pa pc w8 hpC (by omega) hpc (fun x hx => by have := (HPSM.out x hx).1; omega) (by omega) (by omega))
  clear g8 HK7 HOX7 HG7 HLD7 EQ x2 y2 hpC
  go_wp2_with (fail)
  refine SH.out.mono ?_
  rintro e w9 ⟨sv, sr, rfl, g9⟩
  have HK9 := Lib.hid (HK8.out.keep0 g9)
  have HG9 := Lib.hid (gr_trans HG8.out g9)
  have HLD9 := Lib.hid (HLD8.out.keep0 g9)
  have hz9 := g9.size
  have HR9 : Hid (∃ Z, Z.length = L.length * 2 ∧ RowAt w9 w0.heap.size w9.heap.size (.slice (some ⟨bx, 0, none⟩) L.length cx) L.length Z) := ⟨_, (own_keep0 HOX8.out g9).1, own_row (own_keep0 HOX8.out g9)⟩
  have x2 : w9.cell? ⟨X, 2, none⟩ = some (.slice (some ⟨bx, 0, none⟩) L.length cx) := blkC HK9.out.bX 2 rfl
  clear g9 HK8 HOX8 HG8 HLD8 SH
  go_wp2_with (fail)
  go_loopw [58] (fun i wr => ∃ k : Nat, k ≤ L.length ∧ i = .int .i64 k ∧ (∃ Z, Z.length = L.length * 2 ∧ RowAt wr w0.heap.size w9.heap.size (.slice (some ⟨bx, 0, none⟩) L.length cx) L.length Z) ∧ w9.grownBy wr (some bx)) (fun i _ => L.length - (intOf i).toNat)
  case atStart => exact ⟨0, Nat.zero_le _, rfl, HR9.out, gr_refl _ _⟩
  case round =>
    clear HR9 x2
    obtain ⟨k, hk, rfl, ⟨Z, hZ, hrow⟩, hgr⟩ := hrel
    obtain ⟨wo, rfl⟩ : ∃ wo : World, wo = wr := ⟨_, rfl⟩
    by_cases hlt : k < L.length
    · obtain ⟨b, off, cp, he, r1, r2, r3, r4, r5, r6, r7⟩ := hrow.some (by omega)
      cases he
      have hk0 : k * 2 < Z.length := by omega
      have hk1 : k * 2 + 1 < Z.length := by omega
      have d0 := r6 (k * 2) _ (List.getElem?_eq_getElem hk0)
      have d1 := r6 (k * 2 + 1) _ (List.getElem?_eq_getElem hk1)
      have f0 := r7 (k * 2)
      have f1 := r7 (k * 2 + 1)
      have S1 := hrow.set (k * 2) hk0 (.string { data := #[115, 112, 111, 105, 108, 116] })
      have S2 := S1.set (k * 2 + 1) (by rw [List.length_set]; exact hk1) (.int .i64 1)
      have g2 := gr_set (q := ⟨bx, 0 + (k * 2 + 1), none⟩) (gr_set (q := ⟨bx, 0 + k * 2, none⟩) hgr rfl (.string { data := #[115, 112, 111, 105, 108, 116] })) rfl (.int .i64 1)
      rw [Nat.zero_add] at d0 d1 f0 f1
      rw [Nat.zero_add, Nat.zero_add] at S2 g2
      have HS := Lib.hid S2
      have HGR := Lib.hid g2
      have HZ := Lib.hid hZ
      obtain ⟨u0, hu0⟩ : ∃ u, u = Z[k * 2] := ⟨_, rfl⟩
      obtain ⟨u1, hu1⟩ : ∃ u, u = Z[k * 2 + 1] := ⟨_, rfl⟩
      rw [← hu0] at d0
      rw [← hu1] at d1
      have x2 : wo.cell? ⟨X, 2, none⟩ = some (.slice (some ⟨bx, 0, none⟩) L.length cx) := blkC ((hgr.block _ (lt_of_block HK9.out.bX) (fun e => by have := Option.some.inj e; have := HK9.out.lX; omega)).trans HK9.out.bX) 2 rfl
      clear hu0 hu1 S1 S2 g2 hrow hgr r6 r7 hZ
      go_wp2_with (fail)
      go_roundw
      case rel => exact ⟨k + 1, by omega, by go_num, ⟨_, by rw [List.length_set, List.length_set]; exact HZ.out, HS.out⟩, HGR.out⟩
      case measure => simp [intOf]; omega
    · have hlo2 : ∀ q, some bx = some q → q < lo := fun q e => by have := Option.some.inj e; omega
      have HK10 := Lib.hid (HK9.out.keep hgr hlo2)
      have HLD10 := Lib.hid (HLD9.out.keep hgr hlo2)
      have HG10 := Lib.hid (gr_grown HG9.out hgr (fun q e => by have := Option.some.inj e; omega))
      have hz10 := hgr.size
      have TR := Lib.hid (trial_any M (0 + L.length) (addL (fun _ => none) L) (L.map Nm.key) wo (M + 1) v7 HLD10.out.led (addL_mem L) (by simp; omega))
      clear hrow hgr hlo2 HK9 HLD9 HG9
      go_wp2_with (fail)
      refine TR.out.mono ?_
      rintro e w11 ⟨vt, O, rfl, ot, hNO, g11⟩
      have hO12 := hNO.len
      obtain ⟨ta, tc, rfl, -, -, -, -⟩ := own_shape ot
      have HR11 : Hid (∃ Z, Z.length = O.length * 2 ∧ RowAt w11 wo.heap.size w11.heap.size (.slice ta O.length tc) O.length Z) := ⟨_, ot.1, own_row ot⟩
      have HG11 := Lib.hid g11
      have hz11 := g11.size
      clear ot hNO g11 TR
      go_wp2_with (fail)
      go_loopw [71] (fun i wr => ∃ j : Nat, j ≤ O.length ∧ i = .int .i64 j ∧ (∃ Z, Z.length = O.length * 2 ∧ RowAt wr wo.heap.size w11.heap.size (.slice ta O.length tc) O.length Z) ∧ wo.grownBy wr none) (fun i _ => O.length - (intOf i).toNat)
      case atStart => exact ⟨0, Nat.zero_le _, rfl, HR11.out, HG11.out⟩
      case round =>
        clear HR11 HG11
        obtain ⟨j, hj, rfl, ⟨Z, hZ, hrow⟩, hgr⟩ := hrel
        obtain ⟨wq, rfl⟩ : ∃ wq : World, wq = wr := ⟨_, rfl⟩
        by_cases hjl : j < O.length
        · obtain ⟨b, off, cp, he, r1, r2, r3, r4, r5, r6, r7⟩ := hrow.some (by omega)
          cases he
          have hji : j * 2 < Z.length := by omega
          have d0 := r6 (j * 2) _ (List.getElem?_eq_getElem hji)
          have f0 := r7 (j * 2)
          have HS := Lib.hid (hrow.set (j * 2) hji (.string { data := #[115, 112, 111, 105, 108, 116] }))
          have HZ := Lib.hid hZ
          have HGQ := Lib.hid (gr_new hgr (q := ⟨b, off + j * 2, none⟩) r3 (.string { data := #[115, 112, 111, 105, 108, 116] }))
          obtain ⟨u, hu⟩ : ∃ u, u = Z[j * 2] := ⟨_, rfl⟩
          rw [← hu] at d0
          clear hu hrow hgr r6 r7 hZ
          go_wp2_with (fail)
          go_roundw
          case rel => exact ⟨j + 1, by omega, by go_num, ⟨_, by rw [List.length_set]; exact HZ.out, HS.out⟩, HGQ.out⟩
          case measure => simp [intOf]; omega
        · have HKq := Lib.hid (HK10.out.keep0 hgr)
          have HLDq := Lib.hid (HLD10.out.keep0 hgr)
          have HGq := Lib.hid (gr_trans HG10.out hgr)
          have hyC : CellsAt wq (some ⟨yb, 0, none⟩) (flat encNm L) := by
            obtain ⟨_, _, e9, _, _, hc9, _⟩ := own_shape HKq.out.oy
            cases e9
            exact hc9
          have hcC : CellsAt wq (some ⟨cb, 0, none⟩) (flat encNm L) := by
            obtain ⟨_, _, e9, _, _, hc9, _⟩ := own_shape HLDq.out.cl
            cases e9
            exact hc9
          obtain ⟨_, _, e9, k0, k1⟩ := bk_cells hyC 0 (by omega)
          cases e9
          have hk := HEO.out.key _ (List.getElem_mem (show 0 < L.length by omega))
          have LN := lines_one L[0].key hk.1 hk.2 3 T L (some ⟨cb, 0, none⟩) cc 0 false (M + 1) M (0 + L.length) lo v7 (addL (fun _ => none) L) wq HLDq.out.led HLDq.out.row hcC HEO.out
          have PF := poM_first 3 T L HEO.out (by omega)
          rw [PF] at LN
          obtain ⟨K, hK⟩ : ∃ K, K = L[0].key := ⟨_, rfl⟩
          obtain ⟨C, hC⟩ : ∃ C, C = L[0].many := ⟨_, rfl⟩
          rw [← hK, ← hC] at LN
          rw [← hK] at k0
          rw [← hC] at k1
          have LN := Lib.hid LN
          have y2 : wq.cell? ⟨X + 1, 2, none⟩ = some (.slice (some ⟨yb, 0, none⟩) L.length cy) := blkC HKq.out.bY 2 rfl
          have k0 : wq.cell? ⟨yb, 0, none⟩ = some (.string K) := by simpa using k0
          have k1 : wq.cell? ⟨yb, 1, none⟩ = some (.int .i64 C) := by simpa using k1
          have HK1 := Lib.hid k1
          clear hrow hgr hyC hcC hk PF hK hC k1 HK10 HLD10 HG10
          go_wp2_with (fail)
          refine LN.out.mono ?_
          rintro e w13 ⟨vl, rfl, ol, g13⟩
          obtain ⟨lb, lc, rfl, -, -, -, -⟩ := own_some ol (by simp)
          obtain ⟨_, _, e9, -, -, hlC, -⟩ := own_shape ol
          cases e9
          have HK13 := Lib.hid (HKq.out.keep0 g13)
          have HLD13 := Lib.hid (HLDq.out.keep0 g13)
          have HG13 := Lib.hid (gr_trans HGq.out g13)
          have hz13 := g13.size
          have l3 : w13.cell? ⟨lb, 3, none⟩ = some (.int .i64 C) := cell_at hlC 3 rfl
          have y2 : w13.cell? ⟨X + 1, 2, none⟩ = some (.slice (some ⟨yb, 0, none⟩) L.length cy) := blkC HK13.out.bY 2 rfl
          have k1 : w13.cell? ⟨yb, 1, none⟩ = some (.int .i64 C) := (gr_cell g13 (lt_of_cell HK1.out)).trans HK1.out
          have PC : Hid (CellsAt w13 pa (flat encNm P) ∧ CellsAt w13 qa (flat encNm P)) := by
            obtain ⟨_, _, e9, _, _, hc9, _⟩ := own_shape HK13.out.op
            cases e9
            obtain ⟨_, _, e8, _, _, hc8, _⟩ := own_shape HK13.out.oq
            cases e8
            exact ⟨hc9, hc8⟩
          have gl3 := grew_cell l3
          have gy2 := grew_cell y2
          have gk1 := grew_cell k1
          have hCC : (C == C) = true := beq_self_eq_true C
          clear ol g13 hlC HKq HLDq HGq LN k0 l3 y2 k1
          go_upto_region 23 with (fail)
          refine wp_region_grew_tail 28 (by kernel_rfl) (by kernel_rfl) ?_
          simp only [List.take_succ_cons, List.take_zero, List.drop_succ_cons, List.drop_zero]
          repeat (go_big_quiet_step (first
            | (go_at_call 14; exact Calls.grew_of (fun W g => (tills_any W).mono fun _ _ h => ⟨h.1, by rw [← h.2]; exact gr_refl _ _⟩))
            | (go_at_call 15; exact Calls.grew_of (fun W g => equal_Nm P pa qa pc qc W (PC.out.1.keep0 g) (PC.out.2.keep0 g) (by omega)))))
          refine wpQuiet_nil ?_
          rintro wz ⟨nn, rfl⟩
          have gq := nn.gr
          obtain ⟨wn, hwn⟩ : ∃ wn, wn = nn.w := ⟨_, rfl⟩
          rw [← hwn] at gq
          rw [← hwn]
          have TR2 := Lib.hid (trial_any M (0 + L.length) (addL (fun _ => none) L) (L.map Nm.key) wn (M + 1) v7 (HLD13.out.keep0 gq).led (addL_mem L) (by simp; omega))
          have HGN := Lib.hid (gr_trans HG13.out gq)
          clear gl3 gy2 gk1 hwn gq
          go_wp2_with (fail)
          refine TR2.out.mono ?_
          rintro e w15 ⟨vu, O2, rfl, ou, hNO, g15⟩
          obtain ⟨ua, uc, rfl, -, -, huC, -⟩ := own_shape ou
          have hany : O2.any spoilIs = false := by
            rw [List.any_eq_false]
            intro x hx
            have h1 := addL_mem L x.key x.many (hNO.got x hx)
            obtain ⟨y, hy, e1⟩ := List.mem_map.1 h1
            obtain ⟨i, hi, e2⟩ := HEA.out y hy
            have h2 : spoilIs x = false := by
              unfold spoilIs
              rw [← e1, e2]
              exact acc_spoil i hi
            rw [h2]
            decide
          have CF := containsFunc_Nm0 17 spoilIs O2 ua uc w15 huC (by have := hNO.len; omega) tillsStay1_fn (fun x _ W _ => tillsStay1_any x W)
          rw [hany] at CF
          have CF := Lib.hid CF
          have HG15 := Lib.hid (gr_trans HGN.out g15)
          clear ou hNO g15 huC hany TR2
          go_wp2_with (fail)
          refine CF.out.mono ?_
          rintro e w16 ⟨rfl, g16⟩
          have HG16 := Lib.hid (gr_trans HG15.out g16)
          clear g16
          go_wp2_with (fail)
          go_ret
          exact ⟨rfl, HG16.out⟩
end Go.Proofs.YtjhdngfliakidaaDoor
