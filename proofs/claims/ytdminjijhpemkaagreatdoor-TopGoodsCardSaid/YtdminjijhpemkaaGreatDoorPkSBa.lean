/- How many units can be sent; the comparison of lots by their places. -/
import Derived.Test.YtdminjijhpemkaaGreatDoorPkSAy
import Derived.Test.YtdminjijhpemkaaGreatDoorPkSAl
import Derived.Test.YtdminjijhpemkaaGreatDoorPkSAb
import Derived.Test.YtdminjijhpemkaaGreatDoorPkSAd
import Derived.Test.YtdminjijhpemkaaGreatDoorPkSAz
import Derived.Test.YtdminjijhpemkaaGreatDoorPkSAv
namespace Go.Proofs.YtdminjijhpemkaaGreatDoor
open Go.RowKit
attribute [local go_sem ↓] Go.wp_at_zero Go.wp_at_succ

set_option maxRecDepth 100000 in
set_option maxHeartbeats 1000000 in
theorem fresh_any (P : ByteArray) (d : Int) (xs : List Lot) (a : Option Addr) (c : Nat) (w : World) (h : CellsAt w a (flat encLot xs)) (hl : xs.length ≤ 500) (hb : ∀ i, i < xs.length → 0 ≤ (lotN xs i).many ∧ (lotN xs i).many ≤ 100000) :
    Calls Tryz.prog 41 #[.slice a xs.length c, .string P, .int .i64 d] w fun e w' => e = .returned (.int .i64 (freshTo xs P d xs.length)) ∧ w.grownBy w' none := by
  have H := Lib.hid h
  have HB := Lib.hid hb
  have F0 : Hid ((0 : Int) = freshTo xs P d 0) := by show _ = _; simp [freshTo, pickOrd, manyOf]
  clear h hb
  go_enter Tryz.func41, Tryz.ntmps41
  go_wp2_with (fail)
  go_loopw [7, 12] (fun s i wr => ∃ k : Nat, k ≤ xs.length ∧ i = .int .i64 k ∧ s = .int .i64 (freshTo xs P d k) ∧ w.grownBy wr none) (fun _ i _ => xs.length - (intOf i).toNat)
  case atStart => exact ⟨0, Nat.zero_le _, rfl, congrArg _ F0.out, gr_refl _ _⟩
  case round =>
    obtain ⟨k, hk, rfl, rfl, hgr⟩ := hrel
    obtain ⟨wo, rfl⟩ : ∃ wo : World, wo = wr := ⟨_, rfl⟩
    by_cases hlt : k < xs.length
    · obtain ⟨b, off, rfl, d0, d1, d2, d3⟩ := lot_cells (H.out.keep0 hgr) k hlt
      have hbd := freshTo_bd xs P d k hk HB.out
      have hmn := HB.out k hlt
      have hnx := freshTo_succ xs P d k
      rw [lotN_get hlt] at hmn hnx
      obtain ⟨x, hx⟩ : ∃ x, x = xs[k] := ⟨_, rfl⟩
      rw [← hx] at d0 d1 d2 d3 hmn hnx
      obtain ⟨K, Pr, E, M⟩ := x
      simp only [canGo, Bool.and_eq_true, decide_eq_true_eq] at d0 d1 d2 d3 hmn hnx
      obtain ⟨F, hF⟩ : ∃ F, F = freshTo xs P d k := ⟨_, rfl⟩
      rw [← hF] at hbd hnx
      rw [← hF]
      have HGR := Lib.hid hgr
      have HNX := Lib.hid hnx
      have hF2 : F ≤ 100000 * 500 := by omega
      clear hx hF hgr hnx
      cases hq : (Pr.toList == P.toList) with
      | true =>
        by_cases he : d ≤ E
        · have HE : Hid (F + M = freshTo xs P d (k + 1)) := by show _ = _; rw [HNX.out, if_pos ⟨hq, he⟩]
          have hdb : decide (d ≤ E) = true := decide_eq_true he
          clear HNX
          go_wp2_with (fail)
          go_roundw
          case rel => exact ⟨k + 1, by omega, by go_num, by rw [← HE.out], gr_alloc HGR.out _⟩
          case measure => simp [intOf]; omega
        · have HE : Hid (F = freshTo xs P d (k + 1)) := by show _ = _; rw [HNX.out, if_neg (fun h => he h.2)]
          have hdb : decide (d ≤ E) = false := decide_eq_false he
          clear HNX
          go_wp2_with (fail)
          go_roundw
          case rel => exact ⟨k + 1, by omega, by go_num, by rw [← HE.out], gr_alloc HGR.out _⟩
          case measure => simp [intOf]; omega
      | false =>
        have HE : Hid (F = freshTo xs P d (k + 1)) := by show _ = _; rw [HNX.out, if_neg (fun h => by rw [hq] at h; cases h.1)]
        clear HNX
        go_wp2_with (fail)
        go_roundw
        case rel => exact ⟨k + 1, by omega, by go_num, by rw [← HE.out], gr_alloc HGR.out _⟩
        case measure => simp [intOf]; omega
    · obtain rfl : k = xs.length := by omega
      go_wp2_with (fail)
      go_ret
      exact ⟨rfl, hgr⟩
theorem pickCmp_fn : ∀ (args : Array Value) (w : World), (callFunc 98 args).run Tryz.prog w = .ok (.enter 98 args) w := fun _ _ => by kernel_rfl
set_option maxRecDepth 100000 in
set_option maxHeartbeats 1000000 in
theorem pickCmp_any (xs : List Lot) (i j : Nat) (hi : i < xs.length) (hj : j < xs.length) (a : Option Addr) (c q : Nat) (w : World) (hq : w.cell? ⟨q, 0, none⟩ = some (.slice a xs.length c)) (h : CellsAt w a (flat encLot xs)) :
    Calls Tryz.prog 98 #[.int .i64 i, .int .i64 j, .pointer (some ⟨q, 0, none⟩)] w fun e w' => e = .returned (.int .i64 (expCm xs i j)) ∧ w.grownBy w' none := by
  obtain ⟨b, off, rfl, -, -, d2, -⟩ := lot_cells h i hi
  obtain ⟨_, _, e, -, -, e2, -⟩ := lot_cells h j hj
  cases e
  have hE : expCm xs i j = cmpN xs[i].exp xs[j].exp := by unfold expCm; rw [Int.toNat_natCast, Int.toNat_natCast, lotN_get hi, lotN_get hj]
  rw [hE]
  obtain ⟨u, hu⟩ : ∃ u, u = xs[i].exp := ⟨_, rfl⟩
  obtain ⟨v, hv⟩ : ∃ v, v = xs[j].exp := ⟨_, rfl⟩
  rw [← hu] at d2
  rw [← hv] at e2
  rw [← hu, ← hv]
  clear hu hv hE h
  go_enter Tryz.func98, Tryz.ntmps98
  have gq := grew_cell hq
  have gd := grew_cell d2
  have ge := grew_cell e2
  have h1 : (i : Int) < (xs.length : Int) := by omega
  have h2 : (j : Int) < (xs.length : Int) := by omega
  have h3 : (0 : Int) ≤ (i : Int) := by omega
  have h4 : (0 : Int) ≤ (j : Int) := by omega
  clear hq d2 e2
  go_wp2_with (fail)
  refine wp_region_grew (by kernel_rfl) (by kernel_rfl) ?_
  repeat (go_big_quiet_step (first
    | (go_at_call 51; exact Calls.grew_of (fun W g => (cmpInt_any _ _ W).mono fun _ _ h => ⟨h.1, by rw [← h.2]; exact gr_refl _ _⟩))))
  refine wpQuiet_nil ?_
  rintro wq ⟨nn, rfl⟩
  have g := nn.gr
  go_wp2_with (fail)
  go_ret
  exact ⟨rfl, g⟩

/-! Units are picked out of lots. -/
attribute [local go_sem ↓] Go.wp_at_zero Go.wp_at_succ

theorem takeTo_lots (ord : List Nat) (L : List Lot) (m B : Int) (h : ∀ i, i < L.length → 0 ≤ (lotN L i).many ∧ (lotN L i).many ≤ B) (k : Nat) : (takeTo ord L m k).2.1.length = L.length ∧ ∀ i, i < L.length → 0 ≤ (lotN (takeTo ord L m k).2.1 i).many ∧ (lotN (takeTo ord L m k).2.1 i).many ≤ B := by
  unfold takeTo
  generalize ord.take k = r
  have : ∀ (r : List Nat) (s : List Piece × List Lot × Int), s.2.1.length = L.length → (∀ i, i < L.length → 0 ≤ (lotN s.2.1 i).many ∧ (lotN s.2.1 i).many ≤ B) → (r.foldl takeOne s).2.1.length = L.length ∧ ∀ i, i < L.length → 0 ≤ (lotN (r.foldl takeOne s).2.1 i).many ∧ (lotN (r.foldl takeOne s).2.1 i).many ≤ B := by
    intro r
    induction r with
    | nil => intro s h1 h2; exact ⟨h1, h2⟩
    | cons j r ih =>
      intro s h1 h2
      rw [List.foldl_cons]
      refine ih _ ?_ ?_
      · unfold takeOne; split
        · simp [h1]
        · exact h1
      · intro i hi
        unfold takeOne
        split
        · rename_i hp
          simp only
          rw [lotN_set _ (by omega)]
          split
          · rename_i e
            subst e
            have := h2 j hi
            simp only
            omega
          · exact h2 i hi
        · exact h2 i hi
  exact this r _ rfl h
/-- What stands while units are picked: lots, pieces that are out, the order, the variable of the lots. -/
structure PickW (wr w : World) (base bo B g cap n : Nat) (L : List Lot) (ps : List Piece) (pv : Value) (w1z : Nat) (ov : Value) (O : List Int) : Prop where
  lots : wr.ownsRow base 39 4 (.slice (some ⟨g, 0, none⟩) n cap) n (flat encLot L)
  out : wr.ownsRow bo 53 2 pv ps.length (flat encPc ps)
  ord : wr.ownsRow w1z 3 1 ov O.length (ints O)
  box : wr.heap[B]? = some (.cells #[.slice (some ⟨g, 0, none⟩) n cap] 26 (0, 0))
  gr : w.grownBy wr (some g)
  bz : bo ≤ wr.heap.size
theorem PickW.keep0 {wr w1 w : World} {base bo B g cap n : Nat} {L : List Lot} {ps : List Piece} {pv : Value} {z : Nat} {ov : Value} {O : List Int} (h : PickW wr w base bo B g cap n L ps pv z ov O) (gg : wr.grownBy w1 none) : PickW w1 w base bo B g cap n L ps pv z ov O :=
  ⟨own_keep0 h.lots gg, own_keep0 h.out gg, own_keep0 h.ord gg, (gg.block B (lt_of_block h.box) (by simp)).trans h.box, gr_trans h.gr (gr_weak gg _), Nat.le_trans h.bz gg.size⟩
theorem PickW.app {wr w6 w : World} {base bo B g cap n : Nat} {L : List Lot} {ps : List Piece} {pv v6 : Value} {z : Nat} {ov : Value} {O : List Int} {K : ByteArray} {x : Int} (h : PickW wr w base bo B g cap n L ps pv z ov O) (hgb : g < bo) (hwb : w.heap.size ≤ bo) (o6 : w6.ownsRow bo 53 2 v6 (ps.length + 1) (flat encPc ps ++ [.string K, .int .i64 x])) (g6 : wr.grownBy w6 pv.ownBlock) (hlt : ∀ q, pv.ownBlock = some q → bo ≤ q) : PickW w6 w base bo B g cap n L (ps ++ [⟨K, x⟩]) v6 z ov O := by
  refine ⟨own_keep h.lots g6 (.inr (fun e => ?_)), ?_, own_keepU h.ord h.out (by decide) g6, ?_, gr_grown h.gr g6 (fun q e => Nat.le_trans hwb (hlt q e)), Nat.le_trans h.bz g6.size⟩
  · have := hlt g e.symm; omega
  · rw [List.length_append, flat_append]; exact o6
  · exact (g6.block _ (lt_of_block h.box) (fun e2 => own_ne h.out h.box (by decide) e2.symm)).trans h.box
theorem PickW.sto {wr w : World} {base bo B g cap n : Nat} {L : List Lot} {ps : List Piece} {pv : Value} {z : Nat} {ov : Value} {O : List Int} (h : PickW wr w base bo B g cap n L ps pv z ov O) (hgb : g < bo) (hgz : g < z) (hgB : g ≠ B) (i : Nat) (hi : i < L.length) (hn : L.length = n) (u : Value) (x : Lot) (hx : (encLot L[i]).set 3 u = encLot x) : PickW (wr.setCell ⟨g, i * 4 + 3, none⟩ u) w base bo B g cap n (L.set i x) ps pv z ov O := by
  have gg : wr.grownBy (wr.setCell ⟨g, i * 4 + 3, none⟩ u) (some g) := gr_set (gr_refl _ _) rfl _
  have hc := own_cellE encLot_len h.lots i hi 3 (by decide) (.int .i64 L[i].many) rfl hn
  exact ⟨hc.2.2 u x hx, own_keepS h.out gg hgb, own_keepS h.ord gg hgz, (gg.block B (lt_of_block h.box) (fun e => hgB (by injection e with e; exact e.symm))).trans h.box, gr_trans h.gr gg, Nat.le_trans h.bz gg.size⟩
def PickPost (P : ByteArray) (m d : Int) (L : List Lot) (v : Value) (n base : Nat) (w : World) (e : Ending) (w' : World) : Prop :=
  ∃ ord pv, e = .returned pv ∧ OrdOk L P d ord ∧ w'.ownsRow w.heap.size 53 2 pv (takeTo ord L m ord.length).1.length (flat encPc (takeTo ord L m ord.length).1) ∧
    w'.ownsRow base 39 4 v n (flat encLot (takeTo ord L m ord.length).2.1) ∧ w.grownBy w' v.ownBlock
set_option maxRecDepth 100000 in
set_option maxHeartbeats 4000000 in
theorem picked_any (P : ByteArray) (m d : Int) (L : List Lot) (g cap n base : Nat) (w : World) (hown : w.ownsRow base 39 4 (.slice (some ⟨g, 0, none⟩) n cap) n (flat encLot L)) (hL : L.length = n) (hn : n < 20) (hm0 : 0 ≤ m) (hm1 : m ≤ 1000000000) (hb : ∀ i, i < L.length → 0 ≤ (lotN L i).many ∧ (lotN L i).many ≤ 100000) :
    Calls Tryz.prog 44 #[.slice (some ⟨g, 0, none⟩) n cap, .string P, .int .i64 m, .int .i64 d] w (PickPost P m d L (.slice (some ⟨g, 0, none⟩) n cap) n base w) := by
  have hgl := hown.lt g rfl
  have hB := heap_alloc_new w (.cells #[.slice (some ⟨g, 0, none⟩) n cap] 26)
  have hg1 := gr_alloc (gr_refl w none) (.cells #[.slice (some ⟨g, 0, none⟩) n cap] 26)
  obtain ⟨w1, hw1⟩ : ∃ w1, w1 = w.alloc (.cells #[.slice (some ⟨g, 0, none⟩) n cap] 26) := ⟨_, rfl⟩
  have hz1 : w1.heap.size = w.heap.size + 1 := by rw [hw1]; simp
  rw [← hw1] at hB hg1
  have ho1 := own_keep0 hown hg1
  obtain ⟨B, hBe⟩ : ∃ B, B = w.heap.size := ⟨_, rfl⟩
  rw [← hBe] at hB hgl
  have HO1 := Lib.hid ho1
  have HB := Lib.hid hB
  have HG1 := Lib.hid hg1
  have HW := Lib.hid hw1
  have HBE := Lib.hid hBe
  have HZ1 := Lib.hid hz1
  have HBD := Lib.hid hb
  have HL := Lib.hid hL
  have HGL := Lib.hid hgl
  have HCC := Lib.hid (show CellsAt w1 (some ⟨g, 0, none⟩) (flat encLot L) by obtain ⟨_, _, e, _, _, hc, _⟩ := own_shape ho1; cases e; exact hc)
  clear hown hB hg1 hw1 ho1 hb hL hgl hBe hz1
  go_enter Tryz.func44, Tryz.ntmps44
  go_wp2_with (fail)
  rw [← HW.out, ← HBE.out]
  have l0 := blkC HB.out 0 rfl
  go_wp2_with (fail)
  go_loopw [9, 18] (fun o i wr => ∃ (k : Nat) (ov : Value), k ≤ n ∧ i = .int .i64 k ∧ ov = o ∧ wr.ownsRow w1.heap.size 3 1 ov (pickOrd L P d k).length (ints ((pickOrd L P d k).map Int.ofNat)) ∧ w1.grownBy wr none) (fun _ i _ => n - (intOf i).toNat)
  case atStart => exact ⟨0, _, Nat.zero_le _, rfl, rfl, World.ownsRow_nil _ _ _ _, gr_refl _ _⟩
  case round =>
    clear l0
    obtain ⟨k, ov, hk, rfl, rfl, oo, hgr⟩ := hrel
    obtain ⟨wo, rfl⟩ : ∃ wo : World, wo = wr := ⟨_, rfl⟩
    by_cases hlt : k < n
    · have hlt2 : k < L.length := by rw [HL.out]; exact hlt
      obtain ⟨b, off, e, d0, d1, d2, d3⟩ := lot_cells (HCC.out.keep0 hgr) k hlt2
      cases e
      have hln := pickOrd_len L P d k
      have hnx := pickOrd_succ L P d k
      rw [lotN_get hlt2] at hnx
      obtain ⟨x, hx⟩ : ∃ x, x = L[k] := ⟨_, rfl⟩
      rw [← hx] at d0 d1 d2 d3 hnx
      obtain ⟨K, Pr, E, M⟩ := x
      simp only [canGo, Bool.and_eq_true, decide_eq_true_eq, Nat.zero_add] at d0 d1 d2 d3 hnx
      obtain ⟨S, hS⟩ : ∃ S, S = pickOrd L P d k := ⟨_, rfl⟩
      rw [← hS] at oo hnx hln
      have HNX := Lib.hid hnx
      have HGR := Lib.hid (gr_alloc hgr (.cells #[.string K, .string Pr, .int .i64 E, .int .i64 M] 39))
      have HOO := Lib.hid (own_keep0 oo (gr_alloc (gr_refl wo none) (.cells #[.string K, .string Pr, .int .i64 E, .int .i64 M] 39)))
      have hsz := hgr.size
      clear hx hS oo hgr hnx
      cases hq : (Pr.toList == P.toList) with
      | true =>
        by_cases he : d ≤ E
        · have HE : Hid (pickOrd L P d (k + 1) = S ++ [k]) := by show _ = _; rw [HNX.out, if_pos ⟨hq, he⟩]
          have hdb : decide (d ≤ E) = true := decide_eq_true he
          clear HNX
          go_upto_region 6 with (fail)
          obtain ⟨w3, hw3⟩ : ∃ w3, w3 = wo.alloc (.cells #[.string K, .string Pr, .int .i64 E, .int .i64 M] 39) := ⟨_, rfl⟩
          have hz3 : wo.heap.size ≤ w3.heap.size := by rw [hw3]; simp
          rw [← hw3] at HGR HOO
          rw [← hw3]
          clear hw3 d0 d1 d2 d3
          go_wp2_with (at_builtin; refine wpList_app1 eInt rfl _ _ rfl w1.heap.size _ S.length (ints (S.map Int.ofNat)) rfl w3 #[.int .i64 k] rfl HOO.out _ rfl rfl rfl rfl ?_ ?_ ?_; (· omega); (· omega); intro v6 w6 o6 g6 hl6)
          go_roundw
          case rel =>
            refine ⟨k + 1, _, by omega, by go_num, rfl, ?_, gr_grown HGR.out g6 hl6⟩
            rw [HE.out, List.map_append, List.length_append]
            simpa [ints] using o6
          case measure => simp [intOf]; omega
        · have HE : Hid (pickOrd L P d (k + 1) = S) := by show _ = _; rw [HNX.out, if_neg (fun h => he h.2)]
          have hdb : decide (d ≤ E) = false := decide_eq_false he
          clear HNX
          go_wp2_with (fail)
          go_roundw
          case rel => exact ⟨k + 1, _, by omega, by go_num, rfl, by rw [HE.out]; exact HOO.out, HGR.out⟩
          case measure => simp [intOf]; omega
      | false =>
        have HE : Hid (pickOrd L P d (k + 1) = S) := by show _ = _; rw [HNX.out, if_neg (fun h => by rw [hq] at h; cases h.1)]
        clear HNX
        go_wp2_with (fail)
        go_roundw
        case rel => exact ⟨k + 1, _, by omega, by go_num, rfl, by rw [HE.out]; exact HOO.out, HGR.out⟩
        case measure => simp [intOf]; omega
    · obtain rfl : k = n := by omega
      obtain ⟨O0, hO0⟩ : ∃ O0, O0 = (pickOrd L P d k).map Int.ofNat := ⟨_, rfl⟩
      have hO0l : O0.length = (pickOrd L P d k).length := by rw [hO0]; simp
      have hpl := pickOrd_len L P d k
      rw [← hO0, ← hO0l] at oo
      have hOm : ∀ x ∈ O0, ∃ i : Nat, i < L.length ∧ x = (i : Int) := fun x hx => by
        rw [hO0] at hx
        obtain ⟨i, hi, rfl⟩ := List.mem_map.1 hx
        exact ⟨i, by rw [HL.out]; exact (pickOrd_mem.1 hi).1, rfl⟩
      have SF := sortC1_any 98 B O0.length (expCm L) ov w1.heap.size O0 wo oo rfl (by omega) pickCmp_fn (expCm_ok L) (fun x y W hx hy gW => by
        obtain ⟨i, hi, rfl⟩ := hOm x hx
        obtain ⟨j, hj, rfl⟩ := hOm y hy
        have hlow : ∀ b, b < w1.heap.size → some b ≠ ov.ownBlock := fun b hb e => by have := (oo.lt b e.symm).1; omega
        have hBW := (gW.block B (by have := hgr.size; have := lt_of_block HB.out; omega) (hlow B (lt_of_block HB.out))).trans ((hgr.block B (lt_of_block HB.out) (by simp)).trans HB.out)
        have hCW := (HCC.out.keep0 hgr).keep gW (fun b off e => by cases e; exact hlow g (by have := HGL.out.2; have := lt_of_block HB.out; omega))
        have := pickCmp_any L i j hi hj (some ⟨g, 0, none⟩) cap B W (by rw [HL.out]; exact blkC hBW 0 rfl) hCW
        exact this)
      have SF := Lib.hid SF
      have HO0 := Lib.hid hO0
      have HGR := Lib.hid hgr
      have HOO := Lib.hid oo
      clear hO0 hO0l hOm oo hgr
      go_wp2_with (fail)
      refine SF.out.mono ?_
      rintro e w3 ⟨O, rfl, o3, hperm, hsrt, -, g3⟩
      rw [HO0.out] at hperm
      have hOl : O.length = O0.length := by rw [HO0.out]; exact hperm.length_eq
      obtain ⟨ord, hOe, hord⟩ := ord_of L P d O O0.length (by rw [HL.out]; exact hperm) hsrt hOl
      rw [← hOl] at o3
      have hgr3 : w1.grownBy w3 none := gr_grown HGR.out g3 (fun q hq => (HOO.out.lt q hq).1)
      have hz3 := hgr3.size
      obtain ⟨oa, oc, rfl, -, -, -, -⟩ := own_shape o3
      have KW : PickW w3 w base w3.heap.size B g cap k L [] (.slice none 0 0) w1.heap.size (.slice oa O.length oc) O :=
        ⟨own_keep0 HO1.out hgr3, World.ownsRow_nil _ _ _ _, o3, (hgr3.block B (lt_of_block HB.out) (by simp)).trans HB.out, gr_weak (gr_trans HG1.out hgr3) _, Nat.le_refl _⟩
      have HKW := Lib.hid KW
      have HOE := Lib.hid hOe
      have hol : O.length = ord.length := by rw [hOe]; simp
      have HOL := Lib.hid hol
      have hok : O.length ≤ k := by have := hord.len; have := HL.out; omega
      have HORD := Lib.hid hord
      clear KW o3 hperm hsrt g3 hgr3 hOe hol hOl hord SF HOO HGR HO0 hpl
      go_wp2_with (fail)
      go_loopw [2, 12, 43] (fun mm o i wr => ∃ (j : Nat) (pv : Value), j ≤ O.length ∧ i = .int .i64 j ∧ mm = .int .i64 (takeTo ord L m j).2.2 ∧ pv = o ∧ PickW wr w base w3.heap.size B g cap k (takeTo ord L m j).2.1 (takeTo ord L m j).1 pv w1.heap.size (.slice oa O.length oc) O) (fun _ _ i _ => O.length - (intOf i).toNat)
      case atStart => exact ⟨0, _, Nat.zero_le _, rfl, rfl, rfl, HKW.out⟩
      case round =>
        clear HKW
        obtain ⟨j, pv, hj, rfl, rfl, rfl, hK⟩ := hrel
        obtain ⟨wo, rfl⟩ : ∃ wo : World, wo = wr := ⟨_, rfl⟩
        by_cases hjl : j < O.length
        · have hjo : j < ord.length := by rw [← HOL.out]; exact hjl
          obtain ⟨og, oc', e, -, -, -, -⟩ := own_some hK.ord (by omega)
          cases e
          have d0 := (own_cellc1 hK.ord hjl).1
          have hOj : O[j] = ((ord[j] : Nat) : Int) := by simp [HOE.out]
          rw [hOj] at d0
          have hi := HORD.out.lt ord[j] (List.getElem_mem hjo)
          have hTl := takeTo_lots ord L m 100000 HBD.out j
          have hTm := takeTo_m ord L m hm0 j
          have hTp := takeTo_len ord L m j
          have hnx := takeTo_succ ord L m j hjo
          obtain ⟨i, hie⟩ : ∃ i, i = ord[j] := ⟨_, rfl⟩
          rw [← hie] at d0 hi hnx
          obtain ⟨T, hT⟩ : ∃ T, T = takeTo ord L m j := ⟨_, rfl⟩
          rw [← hT] at hTl hTm hTp hnx hK
          rw [← hT]
          obtain ⟨ps, L', mm⟩ := T
          simp only at hTl hTm hTp hK ⊢
          obtain ⟨hl', hbd⟩ := hTl
          have hLk := HL.out
          have hi' : i < L'.length := by omega
          have hc0 := own_cellE encLot_len hK.lots i hi' 0 (by decide) (.string L'[i].id) rfl (by omega)
          have hc3 := own_cellE encLot_len hK.lots i hi' 3 (by decide) (.int .i64 L'[i].many) rfl (by omega)
          have hbi := hbd i hi
          unfold takeOne at hnx
          simp only at hnx
          rw [lotN_get hi'] at hnx hbi
          have e0 : wo.cell? ⟨g, i * 4, none⟩ = some (.string L'[i].id) := hc0.1
          have e3 := hc3.1
          have f3 := hc3.2.1
          have l0 := blkC hK.box 0 rfl
          obtain ⟨x, hx⟩ : ∃ x, x = L'[i] := ⟨_, rfl⟩
          have STO : Hid (∀ (w6 : World) (ps6 : List Piece) (pv6 : Value) (u : Int), PickW w6 w base w3.heap.size B g cap k L' ps6 pv6 w1.heap.size (.slice (some ⟨og, 0, none⟩) O.length oc) O → w6.cell? ⟨B, 0, none⟩ = some (.slice (some ⟨g, 0, none⟩) k cap) ∧ w6.cell? ⟨g, i * 4 + 3, none⟩ = some (.int .i64 x.many) ∧ w6.frozen? ⟨g, i * 4 + 3, none⟩ = false ∧ PickW (w6.setCell ⟨g, i * 4 + 3, none⟩ (.int .i64 u)) w base w3.heap.size B g cap k (L'.set i ⟨x.id, x.prod, x.exp, u⟩) ps6 pv6 w1.heap.size (.slice (some ⟨og, 0, none⟩) O.length oc) O) := fun w6 ps6 pv6 u h => by
            have hc := own_cellE encLot_len h.lots i hi' 3 (by decide) (.int .i64 L'[i].many) rfl (by omega)
            rw [hx]
            have hgB := HGL.out.2
            have hwz : w.heap.size < w1.heap.size := by rw [HZ1.out]; omega
            exact ⟨blkC h.box 0 rfl, hc.1, hc.2.1, h.sto (by have := HBE.out; omega) (by have := HBE.out; omega) (by have := HBE.out; omega) i hi' (by omega) _ _ rfl⟩
          rw [← hx] at hnx hbi e0 e3
          obtain ⟨K, Pr, E, M⟩ := x
          simp only at hnx hbi e0 e3 STO
          have HK := Lib.hid hK
          have HNX := Lib.hid hnx
          have HIK : Hid (i < k) := by show _ < _; omega
          have hik1 : (i : Int) < (k : Int) := by omega
          have hik0 : (0 : Int) ≤ (i : Int) := by omega
          obtain ⟨y, hy⟩ : ∃ y, y = min mm M := ⟨_, rfl⟩
          rw [← hy] at HNX
          have hmin : min mm M = y := hy.symm
          have hym : y ≤ mm := by rw [hy]; exact Int.min_le_left _ _
          have hyM : y ≤ M := by rw [hy]; exact Int.min_le_right _ _
          clear hK hnx hie hT hOj hc0 hc3 hx hbd hy hl' hi' hi hjo
          by_cases hp : 0 < y
          · have NX := HNX.out
            rw [if_pos hp] at NX
            have HNX := Lib.hid NX
            clear NX
            go_upto_region 15 with (fail)
            go_wp2_with (at_builtin; refine wpList_app1 ePc rfl _ _ rfl w3.heap.size _ ps.length (flat encPc ps) rfl wo #[.string K, .int .i64 y] rfl HK.out.out _ rfl rfl rfl rfl ?_ ?_ ?_; (· omega); (· exact HK.out.bz); intro v6 w6 o6 g6 hl6; have K6 := HK.out.app (by have := HGL.out.2; have := HBE.out; have := HZ1.out; omega) (by have := HZ1.out; omega) o6 g6 hl6; obtain ⟨l0, e3, f3, KS⟩ := STO.out w6 _ _ (M - y) K6; have KS := Lib.hid KS; clear o6 g6 hl6 K6)
            go_roundw
            case rel => exact ⟨j + 1, _, by omega, by go_num, by rw [HNX.out], rfl, by rw [HNX.out]; exact KS.out⟩
            case measure => simp [intOf]; omega
          · have NX := HNX.out
            rw [if_neg hp] at NX
            have HNX := Lib.hid NX
            clear NX
            go_wp2_with (fail)
            go_roundw
            case rel => exact ⟨j + 1, _, by omega, by go_num, by rw [HNX.out], rfl, by rw [HNX.out]; exact HK.out⟩
            case measure => simp [intOf]; omega
        · obtain rfl : j = O.length := by omega
          go_wp2_with (fail)
          go_ret
          refine ⟨ord, pv, rfl, HORD.out, ?_, ?_, hK.gr⟩
          · rw [← HOL.out]
            exact own_base hK.out (Nat.le_trans (by rw [HZ1.out]; omega) hz3)
          · rw [← HOL.out]
            exact hK.lots

/-! What is wrong with a pick; a pick; whether pieces hold a piece. -/
attribute [local go_sem ↓] Go.wp_at_zero Go.wp_at_succ

theorem pick_nilOrd (P : ByteArray) (d : Int) : OrdOk [] P d [] := ⟨List.Perm.refl _, List.Pairwise.nil⟩
set_option maxRecDepth 100000 in
set_option maxHeartbeats 1000000 in
theorem picked_nil (P : ByteArray) (m d : Int) (base : Nat) (w : World) :
    Calls Tryz.prog 44 #[.slice none 0 0, .string P, .int .i64 m, .int .i64 d] w (PickPost P m d [] (.slice none 0 0) 0 base w) := by
  have hB := heap_alloc_new w (.cells #[.slice none 0 0] 26)
  have hg1 := gr_alloc (gr_refl w none) (.cells #[.slice none 0 0] 26)
  obtain ⟨w1, hw1⟩ : ∃ w1, w1 = w.alloc (.cells #[.slice none 0 0] 26) := ⟨_, rfl⟩
  rw [← hw1] at hB hg1
  have SF := Lib.hid (sortC1_any 98 w.heap.size 0 (expCm []) (.slice none 0 0) 0 [] w1 (World.ownsRow_nil _ _ _ _) rfl (by decide) pickCmp_fn (expCm_ok []) (fun x y W hx => by cases hx))
  have HW := Lib.hid hw1
  have HG1 := Lib.hid hg1
  have l0 := blkC hB 0 rfl
  clear hw1 hg1 hB
  go_enter Tryz.func44, Tryz.ntmps44
  go_wp2_with (fail)
  rw [← HW.out]
  go_wp2_with (fail)
  go_loopw [9, 18] (fun o i wr => o = .slice none 0 0 ∧ i = .int .i64 0 ∧ w1 = wr) (fun _ _ _ => 0)
  case atStart => exact ⟨rfl, rfl, rfl⟩
  case round =>
    obtain ⟨rfl, rfl, rfl⟩ := hrel
    go_wp2_with (fail)
    refine SF.out.mono ?_
    rintro e w3 ⟨O, rfl, o3, hperm, -, -, g3⟩
    have g3 : w1.grownBy w3 none := g3
    have HG3 := Lib.hid g3
    clear o3 hperm g3
    go_wp2_with (fail)
    go_loopw [12, 43] (fun o i wr => o = .slice none 0 0 ∧ i = .int .i64 0 ∧ w3 = wr) (fun _ _ _ => 0)
    case atStart => exact ⟨rfl, rfl, rfl⟩
    case round =>
      obtain ⟨rfl, rfl, rfl⟩ := hrel
      go_wp2_with (fail)
      go_ret
      exact ⟨[], _, rfl, pick_nilOrd P d, World.ownsRow_nil _ _ _ _, World.ownsRow_nil _ _ _ _, gr_trans HG1.out HG3.out⟩
theorem picked_all (P : ByteArray) (m d : Int) (L : List Lot) (v : Value) (n base : Nat) (w : World) (hown : w.ownsRow base 39 4 v n (flat encLot L)) (hL : L.length = n) (hn : n < 20) (hm0 : 0 ≤ m) (hm1 : m ≤ 1000000000) (hb : ∀ i, i < L.length → 0 ≤ (lotN L i).many ∧ (lotN L i).many ≤ 100000) :
    Calls Tryz.prog 44 #[v, .string P, .int .i64 m, .int .i64 d] w (PickPost P m d L v n base w) := by
  rcases hown.2 with ⟨rfl, h0⟩ | ⟨g, cap, cur, rfl, r⟩
  · have hl : L = [] := List.eq_nil_of_length_eq_zero (by omega)
    have h0' : n = 0 := by omega
    subst hl h0'
    exact picked_nil P m d base w
  · exact picked_any P m d L g cap n base w hown hL hn hm0 hm1 hb
theorem lotN_bd {xs : List Lot} (h : LotsOk xs) : ∀ i, i < xs.length → 0 ≤ (lotN xs i).many ∧ (lotN xs i).many ≤ 100000 := fun i hi => by
  rw [lotN_get hi]
  have := h.all _ (List.getElem_mem hi)
  exact ⟨this.m0, this.m1⟩
end Go.Proofs.YtdminjijhpemkaaGreatDoor
