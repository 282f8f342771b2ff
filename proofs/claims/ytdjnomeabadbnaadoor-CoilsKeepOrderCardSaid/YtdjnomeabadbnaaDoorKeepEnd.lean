/- What the law of the coils asks at the end: the lots' days, whether pieces are sorted. -/
import Derived.Test.YtdjnomeabadbnaaDoorRotate
import Derived.Test.YtdjnomeabadbnaaDoorKeepUnits
namespace Go.Proofs.YtdjnomeabadbnaaDoor
open Go.RowKit
attribute [local go_sem ↓] Go.wp_at_zero Go.wp_at_succ

set_option maxRecDepth 100000 in
set_option maxHeartbeats 1000000 in
theorem keepLotOf_any (key : ByteArray) (xs : List Lot) (a : Option Addr) (c : Nat) (w : World) (h : CellsAt w a (flat encLot xs)) (hl : xs.length ≤ 100000) :
    Calls Tryd.prog 55 #[.slice a xs.length c, .string key] w fun e w' => e = .returned (vLot (lotGet xs key)) ∧ w.grownBy w' none := by
  have H := Lib.hid h
  clear h
  obtain ⟨dt, hd1⟩ := und_struct (P := Tryd.prog) (t := 106) (by kernel_rfl)
  have HD := Lib.hid hd1
  clear hd1
  have hR := heap_alloc_new w (.cells #[.string ⟨#[]⟩, .string ⟨#[]⟩, .int .i64 0, .int .i64 0] 106)
  have hg0 := gr_alloc (gr_refl w none) (.cells #[.string ⟨#[]⟩, .string ⟨#[]⟩, .int .i64 0, .int .i64 0] 106)
  obtain ⟨w0, hw0⟩ : ∃ w0, w0 = w.alloc (.cells #[.string ⟨#[]⟩, .string ⟨#[]⟩, .int .i64 0, .int .i64 0] 106) := ⟨_, rfl⟩
  rw [← hw0] at hR hg0
  have HW := Lib.hid hw0
  have hz0 : w0.heap.size = w.heap.size + 1 := by rw [hw0]; simp
  obtain ⟨R, hRe⟩ : ∃ R, R = w.heap.size := ⟨_, rfl⟩
  rw [← hRe] at hR hz0
  have HRE := Lib.hid hRe
  have HR := Lib.hid hR
  have HG0 := Lib.hid hg0
  clear hw0 hRe hR hg0
  go_enter Tryd.func55, Tryd.ntmps55
  go_wp2_with (fail)
  rw [← HW.out, ← HRE.out]
  go_loopw [9] (fun i wr => ∃ k : Nat, k ≤ xs.length ∧ i = .int .i64 k ∧ (∀ j (hj : j < xs.length), j < k → idIs key xs[j] = false) ∧ w0.grownBy wr none) (fun i _ => xs.length - (intOf i).toNat)
  case atStart => exact ⟨0, Nat.zero_le _, rfl, fun j _ hj => absurd hj (Nat.not_lt_zero _), gr_refl _ _⟩
  case round =>
    obtain ⟨k, hk, rfl, hno, hgr⟩ := hrel
    obtain ⟨wo, rfl⟩ : ∃ wo : World, wo = wr := ⟨_, rfl⟩
    have HNO := Lib.hid hno
    have HGR := Lib.hid hgr
    have hRo := (hgr.block R (lt_of_block HR.out) (by simp)).trans HR.out
    have HRO := Lib.hid hRo
    have hRl := lt_of_block hRo
    obtain ⟨r0, r1, r2, r3⟩ := blk4 hRo
    have z0 := blkF hRo 0
    have z1 := blkF hRo 1
    have z2 := blkF hRo 2
    have z3 := blkF hRo 3
    clear hno hRo
    by_cases hlt : k < xs.length
    · obtain ⟨b, off, rfl, d0, d1, d2, d3⟩ := lot_cells (H.out.keep0 (gr_trans HG0.out hgr)) k hlt
      have HAT : Hid (idIs key xs[k] = true → lotGet xs key = xs[k] ∧ lotHas xs key = true) := fun hp => by
        have hf := find_at hlt hp (fun j hj h => HNO.out j hj h)
        exact ⟨by unfold lotGet; rw [hf]; rfl, by rw [lotHas_get, hf]; rfl⟩
      have HNX : Hid (idIs key xs[k] = false → ∀ j (hj : j < xs.length), j < k + 1 → idIs key xs[j] = false) := fun hp j hj h => by
        by_cases e : j = k
        · subst e; exact hp
        · exact HNO.out j hj (by omega)
      obtain ⟨x, hx⟩ : ∃ x, x = xs[k] := ⟨_, rfl⟩
      rw [← hx] at d0 d1 d2 d3 HAT HNX
      obtain ⟨K, P, E, M⟩ := x
      simp only at d0 d1 d2 d3
      clear hx hgr HNO
      cases hq : (K.toList == key.toList) with
      | true =>
        have HE : Hid (vLot (lotGet xs key) = .agg #[.string K, .string P, .int .i64 E, .int .i64 M] ∧ lotHas xs key = true) := by
          show _ ∧ _
          rw [(HAT.out hq).1]; exact ⟨rfl, (HAT.out hq).2⟩
        go_wp2_with (fail)
        rw [HE.out.1]
        have hR5 := set4_heap HRO.out (.string K) (.string P) (.int .i64 E) (.int .i64 M)
        have hR6 := ((gr_alloc (gr_refl _ none) (.cells #[.string K, .string P, .int .i64 E, .int .i64 M] 106)).block R (lt_of_block hR5) (by simp)).trans hR5
        refine bodyPost_ret (results_cell_row (p := 4) (by kernel_rfl) _ _ R _ #[.string K, .string P, .int .i64 E, .int .i64 M] _ (.struct dt) rfl hR6 HD.out rfl (by kernel_rfl)) rfl ⟨rfl, ?_⟩
        exact gr_alloc (gr_grown (gr_trans HG0.out HGR.out) (set4_gr _ _ _ _ _ _) (fun g e => by cases e; have := HRE.out; omega)) _
      | false =>
        have HNO := Lib.hid (HNX.out hq)
        go_wp2_with (fail)
        go_roundw
        case rel => exact ⟨k + 1, by omega, by go_num, HNO.out, gr_alloc HGR.out _⟩
        case measure => simp [intOf]; omega
    · obtain rfl : k = xs.length := by omega
      have HE : Hid (vLot (lotGet xs key) = .agg #[.string ⟨#[]⟩, .string ⟨#[]⟩, .int .i64 0, .int .i64 0] ∧ lotHas xs key = false) := by
        have hf := find_not (fun j hj => HNO.out j hj hj)
        exact ⟨by unfold lotGet; rw [hf]; rfl, by rw [lotHas_get, hf]; rfl⟩
      clear hgr
      go_wp2_with (fail)
      rw [HE.out.1]
      refine bodyPost_ret (results_cell_row (p := 4) (by kernel_rfl) _ _ R _ #[.string ⟨#[]⟩, .string ⟨#[]⟩, .int .i64 0, .int .i64 0] _ (.struct dt) rfl (set4_heap HRO.out _ _ _ _) HD.out rfl (by kernel_rfl)) rfl ⟨rfl, ?_⟩
      exact gr_grown (gr_trans HG0.out HGR.out) (set4_gr _ _ _ _ _ _) (fun g e => by cases e; have := HRE.out; omega)
theorem keepCmp_fn : ∀ (args : Array Value) (w : World), (callFunc 54 args).run Tryd.prog w = .ok (.enter 54 args) w := fun _ _ => by kernel_rfl
set_option maxRecDepth 100000 in
set_option maxHeartbeats 2000000 in
theorem keepCmp_any (x y : Piece) (xs : List Lot) (xa : Option Addr) (xc q : Nat) (w : World) (hq : w.cell? ⟨q, 0, none⟩ = some (.slice xa xs.length xc)) (hx : CellsAt w xa (flat encLot xs)) (hxl : xs.length ≤ 100000) (hb : ∀ k, 0 ≤ (lotGet xs k).exp ∧ (lotGet xs k).exp ≤ 4000) :
    Calls Tryd.prog 54 #[.agg #[.string x.lot, .int .i64 x.many], .agg #[.string y.lot, .int .i64 y.many], .pointer (some ⟨q, 0, none⟩)] w fun e w' => e = .returned (.int .i64 ((lotGet xs x.lot).exp - (lotGet xs y.lot).exp)) ∧ w.grownBy w' none := by
  have hqlt := lt_of_cell hq
  obtain ⟨x0, x1⟩ := x
  obtain ⟨y0, y1⟩ := y
  simp only
  have g2 := gr_alloc (gr_alloc (gr_refl w none) (.cells #[.string x0, .int .i64 x1] 94)) (.cells #[.string y0, .int .i64 y1] 94)
  obtain ⟨hA, hB⟩ := heap_2 w (.cells #[.string x0, .int .i64 x1] 94) (.cells #[.string y0, .int .i64 y1] 94)
  obtain ⟨w2, hw2⟩ : ∃ w2, w2 = (w.alloc (.cells #[.string x0, .int .i64 x1] 94)).alloc (.cells #[.string y0, .int .i64 y1] 94) := ⟨_, rfl⟩
  rw [← hw2] at g2 hA hB
  have hq2 := (gr_cell g2 hqlt).trans hq
  have hx2 := hx.keep0 g2
  obtain ⟨p0, p1, -, -⟩ := blk2 hA
  obtain ⟨r0, r1, -, -⟩ := blk2 hB
  obtain ⟨b1, b2⟩ := hb x0
  obtain ⟨b3, b4⟩ := hb y0
  have LX : Hid (∀ W, w2.grownBy W none → Calls Tryd.prog 55 #[.slice xa xs.length xc, .string x0] W fun e w' => e = .returned (vLot (lotGet xs x0)) ∧ W.grownBy w' none) := fun W g => keepLotOf_any x0 xs _ xc W (hx2.keep0 g) hxl
  have LY : Hid (∀ W, w2.grownBy W none → Calls Tryd.prog 55 #[.slice xa xs.length xc, .string y0] W fun e w' => e = .returned (vLot (lotGet xs y0)) ∧ W.grownBy w' none) := fun W g => keepLotOf_any y0 xs _ xc W (hx2.keep0 g) hxl
  obtain ⟨lx, hlx⟩ : ∃ e, e = lotGet xs x0 := ⟨_, rfl⟩
  obtain ⟨ly, hly⟩ : ∃ e, e = lotGet xs y0 := ⟨_, rfl⟩
  rw [← hlx] at LX b1 b2
  rw [← hly] at LY b3 b4
  rw [← hlx, ← hly]
  obtain ⟨u1, u2, u3, u4⟩ := lx
  obtain ⟨v1, v2, v3, v4⟩ := ly
  simp only at b1 b2 b3 b4 ⊢
  have HVX : Hid (vLot ⟨u1, u2, u3, u4⟩ = .agg #[.string u1, .string u2, .int .i64 u3, .int .i64 u4]) := rfl
  have HVY : Hid (vLot ⟨v1, v2, v3, v4⟩ = .agg #[.string v1, .string v2, .int .i64 v3, .int .i64 v4]) := rfl
  rw [HVX.out] at LX
  rw [HVY.out] at LY
  have gq2 := grew_cell hq2
  have gp0 := grew_cell p0
  have gr0 := grew_cell r0
  have HG := Lib.hid g2
  have HW := Lib.hid hw2
  have hwr : IntKind.i64.wrap (u3 - v3) = u3 - v3 := IntWalk.i64_in _ (by omega)
  clear hq hx hx2 g2 hA hB hw2 p0 p1 r0 r1 hq2 hb hlx hly HVX HVY
  go_enter Tryd.func54, Tryd.ntmps54
  go_wp2_with (fail)
  rw [← HW.out]
  have hfx : ∀ W : World, (Instr.field 106 (.agg #[.string u1, .string u2, .int .i64 u3, .int .i64 u4]) 2).run Tryd.prog W = .ok (.int .i64 u3) W := fun W => by kernel_rfl
  have hfy : ∀ W : World, (Instr.field 106 (.agg #[.string v1, .string v2, .int .i64 v3, .int .i64 v4]) 2).run Tryd.prog W = .ok (.int .i64 v3) W := fun W => by kernel_rfl
  refine wp_region_grew (by kernel_rfl) (by kernel_rfl) ?_
  repeat (go_big_quiet_step (first
    | (go_at_call 55; first | (with_reducible exact Calls.grew_of (fun W g => LX.out W g)) | (with_reducible exact Calls.grew_of (fun W g => LY.out W g)))))
  refine wpQuiet_nil ?_
  rintro wq ⟨nn, rfl⟩
  have gq := gr_trans HG.out nn.gr
  go_wp2_with (fail)
  go_ret
  exact ⟨rfl, gq⟩
set_option maxRecDepth 100000 in
set_option maxHeartbeats 1000000 in
theorem isSortedPc_any (F : FuncId) (q : Nat) (cm : Piece → Piece → Int) (ps : List Piece) (a : Option Addr) (c : Nat) (w : World) (hc : CellsAt w a (flat encPc ps)) (hl : ps.length ≤ 100000)
    (hE : ∀ (args : Array Value) (w : World), (callFunc F args).run Tryd.prog w = .ok (.enter F args) w)
    (hF : ∀ (x y : Piece) (w1 : World), w.grownBy w1 none → Calls Tryd.prog F #[.agg #[.string x.lot, .int .i64 x.many], .agg #[.string y.lot, .int .i64 y.many], .pointer (some ⟨q, 0, none⟩)] w1 fun e w2 => e = .returned (.int .i64 (cm x y)) ∧ w1.grownBy w2 none)
    (hs : ∀ i, i + 1 < ps.length → ¬ cm (ps.getD (i + 1) ⟨⟨#[]⟩, 0⟩) (ps.getD i ⟨⟨#[]⟩, 0⟩) < 0) :
    Calls Tryd.prog 53 #[.slice a ps.length c, .func (.func F) #[] #[.pointer (some ⟨q, 0, none⟩)]] w fun e w' => e = .returned (.bool true) ∧ w.grownBy w' none := by
  have HC := Lib.hid hc
  have HF := Lib.hid hF
  have HS := Lib.hid hs
  clear hc hF hs
  go_enter Tryd.func53, Tryd.ntmps53
  go_wp2_with (fail)
  go_loopw [5] (fun i wr => ∃ z : Int, -1 ≤ z ∧ z < ps.length ∧ i = .int .i64 z ∧ w.grownBy wr none) (fun i _ => (intOf i).toNat)
  case atStart => exact ⟨(ps.length : Int) - 1, by omega, by omega, rfl, gr_refl _ _⟩
  case round =>
    obtain ⟨z, hz0, hz1, rfl, hgr⟩ := hrel
    obtain ⟨wo, rfl⟩ : ∃ wo : World, wo = wr := ⟨_, rfl⟩
    by_cases hlt : 0 < z
    · obtain ⟨i, hi⟩ : ∃ i : Nat, z = (i : Int) + 1 := ⟨(z - 1).toNat, by omega⟩
      subst hi
      have hi1 : i + 1 < ps.length := by omega
      obtain ⟨b, off, rfl, d0, d1⟩ := pc_cells (HC.out.keep0 hgr) (i + 1) hi1
      obtain ⟨b', off', e', e0, e1⟩ := pc_cells (HC.out.keep0 hgr) i (by omega)
      cases e'
      have hn := HS.out i hi1
      have CC : Hid (∀ W, wo.grownBy W none → Calls Tryd.prog F #[.agg #[.string (pcLot ps (i + 1)), .int .i64 (pcMany ps (i + 1))], .agg #[.string (pcLot ps i), .int .i64 (pcMany ps i)], .pointer (some ⟨q, 0, none⟩)] W fun e w2 => e = .returned (.int .i64 (cm (ps.getD (i + 1) ⟨⟨#[]⟩, 0⟩) (ps.getD i ⟨⟨#[]⟩, 0⟩))) ∧ W.grownBy w2 none) := fun W g => HF.out (ps.getD (i + 1) ⟨⟨#[]⟩, 0⟩) (ps.getD i ⟨⟨#[]⟩, 0⟩) W (gr_trans hgr g)
      obtain ⟨v, hv⟩ : ∃ v, v = cm (ps.getD (i + 1) ⟨⟨#[]⟩, 0⟩) (ps.getD i ⟨⟨#[]⟩, 0⟩) := ⟨_, rfl⟩
      rw [← hv] at hn CC
      obtain ⟨k1, hk1⟩ : ∃ k, k = pcLot ps (i + 1) := ⟨_, rfl⟩
      obtain ⟨k2, hk2⟩ : ∃ k, k = pcLot ps i := ⟨_, rfl⟩
      obtain ⟨m1, hm1⟩ : ∃ k, k = pcMany ps (i + 1) := ⟨_, rfl⟩
      obtain ⟨m2, hm2⟩ : ∃ k, k = pcMany ps i := ⟨_, rfl⟩
      rw [← hk1, ← hk2, ← hm1, ← hm2] at CC
      rw [← hk1] at d0
      rw [← hm1] at d1
      rw [← hk2] at e0
      rw [← hm2] at e1
      have x0 := grew_cell d0
      have x1 := grew_cell d1
      have x2 := grew_cell e0
      have x3 := grew_cell e1
      have hii : ((i : Int) + 1 - 1) = i := by omega
      have hwi : IntKind.i64.wrap (((i : Int) + 1) - 1) = i := by rw [hii]; exact IntWalk.i64_in _ (by omega)
      have hq0 : (0 : Int) ≤ (i : Int) := by omega
      have hq1 : (i : Int) < (ps.length : Int) := by omega
      have hq2 : (0 : Int) ≤ (i : Int) + 1 := by omega
      have hq3 : (i : Int) + 1 < (ps.length : Int) := by omega
      have hq4 : ((i : Int) + 1).toNat = i + 1 := by omega
      have hdc : decide (v < 0) = false := decide_eq_false (by omega)
      have HGR := Lib.hid hgr
      clear hv hk1 hk2 hm1 hm2 hgr hii d0 d1 e0 e1
      go_wp2_with (fail)
      refine wp_region_grew (by kernel_rfl) (by kernel_rfl) ?_
      repeat (go_big_quiet_step (first | (exact Calls.grew_of (fun W h => CC.out W h))))
      refine wpQuiet_nil ?_
      rintro wq ⟨nn, rfl⟩
      have HGQ := Lib.hid (gr_trans HGR.out nn.gr)
      clear x0 x1 x2 x3
      go_wp2_with (fail)
      go_roundw
      case rel => exact ⟨i, by omega, by omega, by go_num, HGQ.out⟩
      case measure => simp [intOf]
    · go_wp2_with (fail)
      go_ret
      exact ⟨rfl, hgr⟩
/-! No program in sight. -/
/-- A number of the lots does not fall along the pieces: nor does it along the joined ones. -/
theorem joinL_mono (E : ByteArray → Int) (l : List Piece) (h : ∀ p q, p < q → q < l.length → E (pcLot l p) ≤ E (pcLot l q)) : ∀ i, i + 1 < (joinL l).length → E (pcLot (joinL l) i) ≤ E (pcLot (joinL l) (i + 1)) := by
  have key : ∀ k, k ≤ l.length → (0 < k → 0 < (joinTo l k).length ∧ pcLot (joinTo l k) ((joinTo l k).length - 1) = pcLot l (k - 1)) ∧ ∀ i, i + 1 < (joinTo l k).length → E (pcLot (joinTo l k) i) ≤ E (pcLot (joinTo l k) (i + 1)) := by
    intro k
    induction k with
    | zero => exact fun _ => ⟨fun h => by omega, fun i hi => by simp [joinTo] at hi⟩
    | succ k ih =>
      intro hk
      obtain ⟨h1, h2⟩ := ih (by omega)
      have hst : joinTo l (k + 1) = joinStep (joinTo l k) (pcLot l k) (pcMany l k) := rfl
      rw [hst]
      unfold joinStep
      split
      · rename_i hla
        unfold lastIs at hla
        simp only [Bool.and_eq_true, decide_eq_true_eq] at hla
        obtain ⟨h0, he⟩ := hla
        have he := bytes_of (by simpa using he)
        obtain ⟨D, y, hD, e1, e2, e3⟩ := pc_last h0
        have hlen : (joinTo l k).length = D.length + 1 := by rw [hD]; simp
        rw [e1] at he
        rw [e1, e2, e3]
        have hlot : ∀ i, i ≤ D.length → pcLot (D ++ [⟨y.lot, y.many + pcMany l k⟩]) i = pcLot (joinTo l k) i := by
          intro i hi
          rw [hD]
          by_cases hil : i < D.length
          · rw [pcLot_app_left _ _ _ hil, pcLot_app_left _ _ _ hil]
          · obtain rfl : i = D.length := by omega
            rw [pcLot_snoc, pcLot_snoc]
        refine ⟨fun _ => ⟨by simp, ?_⟩, fun i hi => ?_⟩
        · have : (D ++ [(⟨y.lot, y.many + pcMany l k⟩ : Piece)]).length - 1 = D.length := by simp
          rw [this, pcLot_snoc]
          exact he
        · simp only [List.length_append, List.length_cons, List.length_nil] at hi
          rw [hlot i (by omega), hlot (i + 1) (by omega)]
          exact h2 i (by omega)
      · refine ⟨fun _ => ⟨by simp, ?_⟩, fun i hi => ?_⟩
        · have : (joinTo l k ++ [(⟨pcLot l k, pcMany l k⟩ : Piece)]).length - 1 = (joinTo l k).length := by simp
          rw [this, pcLot_snoc]
          rfl
        · simp only [List.length_append, List.length_cons, List.length_nil] at hi
          by_cases hil : i + 1 < (joinTo l k).length
          · rw [pcLot_app_left _ _ _ (by omega), pcLot_app_left _ _ _ hil]
            exact h2 i hil
          · have hi2 : i = (joinTo l k).length - 1 := by omega
            have hk0 : 0 < k := by
              rcases Nat.eq_zero_or_pos k with rfl | h
              · simp [joinTo] at hi hil hi2
              · exact h
            obtain ⟨g1, g2⟩ := h1 hk0
            rw [pcLot_app_left _ _ _ (by omega), show i + 1 = (joinTo l k).length by omega, pcLot_snoc, hi2, g2]
            exact h (k - 1) k (by omega) (by omega)
  exact (key l.length (Nat.le_refl _)).2
end Go.Proofs.YtdjnomeabadbnaaDoor
