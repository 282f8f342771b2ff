/- depot.Price: what a basket costs with deals. -/
import Derived.Test.YtjhfglhoiplfmaaDoorPkDAr
import Derived.Test.YtjhfglhoiplfmaaDoorPkDAt
import Derived.Test.YtjhfglhoiplfmaaDoorPkDAv
import Derived.Test.YtjhfglhoiplfmaaDoorPkDAb
import Derived.Test.YtjhfglhoiplfmaaDoorPkDAw
import Derived.Test.YtjhfglhoiplfmaaDoorPkDAc
import Derived.Test.YtjhfglhoiplfmaaDoorPkDAa
import Derived.Deep.CutBlock
namespace Go.Proofs.YtjhfglhoiplfmaaDoor
open Go.RowKit
attribute [local go_sem ↓] Go.wp_at_zero Go.wp_at_succ

theorem wpList_appN {P : Program} {w : World} {ops : Array Oper} {rest : List Oper} {o : Oper} {a : Act} {Q : Exit → Act → World → Prop} {t e size bytes : Nat} {z : Value} (Et : ElemT P t e z size bytes) (hgd : o.guard = none) (s x : Operand)
    (ho : o.op = .call { callee := .builtin .append, args := #[s, x], argTypes := #[t, t] })
    (base : Nat) (v : Value) (n : Nat) (xs : List Value) (hs : a.eval s = v) (hown : w.ownsRow base e size v n xs)
    (ao : Option Addr) (m c : Nat) (news : List Value) (hx : a.eval x = .slice ao m c) (hl : news.length = m * size) (hc : CellsAt w ao news) (hnil : ao = none → c = 0) (h1 : ∀ u ∈ news, u.oneCell' = true)
    (hb : n + m ≤ 137438953472) (hbase : base ≤ w.heap.size)
    (h : ∀ v' w', w'.ownsRow base e size v' (n + m) (xs ++ news) → w.grownBy w' v.ownBlock → (∀ q, v.ownBlock = some q → base ≤ q) → (∀ k, v'.ownBlock = some k → v.ownBlock = some k ∨ w.heap.size ≤ k) → wpList P ops Q rest (a.put o.dst v') w') : wpList P ops Q (o :: rest) a w :=
  wpList_plain hgd fun _ hK => oper_appN Et s x ho base v n xs hs hown ao m c news hx hl hc hnil h1 hb hbase (fun v' w' h1 h2 h3 h4 => hK _ _ (h v' w' h1 h2 h3 h4))
def slLen : Value → Nat
  | .slice _ n _ => n
  | _ => 0
theorem deal_nat {x : De} (h : DeOk x) : ∃ m f d : Nat, x.many = (m : Int) ∧ x.free = (f : Int) ∧ d + f = m ∧ 2 ≤ m ∧ m ≤ 20 ∧ 1 ≤ f ∧ f < m := by
  obtain ⟨-, -, h1, h2, h3, h4⟩ := h
  exact ⟨x.many.toNat, x.free.toNat, x.many.toNat - x.free.toNat, by omega, by omega, by omega, by omega, by omega, by omega, by omega⟩
theorem cells_drop {w : World} {g off m : Nat} {R : List Int} (h : CellsAt w (some ⟨g, off, none⟩) (ints R)) : CellsAt w (some ⟨g, off + m, none⟩) (ints (R.drop m)) := by
  intro j v hj
  have e : (ints R)[m + j]? = some v := by
    rw [← hj]
    simp [ints]
  obtain ⟨b, o, e1, hc⟩ := h (m + j) v e
  cases e1
  exact ⟨g, off + m, rfl, by rw [Nat.add_assoc]; exact hc⟩
theorem cells_none {w : World} {a : Option Addr} {R : List Int} (h : R.length = 0) : CellsAt w a (ints R) := by
  have : R = [] := List.eq_nil_of_length_eq_zero h
  subst this
  intro j v hj
  cases hj
def PricePost (N : List Wr) (D : List De) (B : List Nm) (w : World) (e : Ending) (w' : World) : Prop := ∃ (v : Value) (K : List ByteArray), e = .returned (.tuple #[.int .i64 (priceM N D B), v, .int .i64 0]) ∧ w'.ownsRow w.heap.size 9 1 v K.length (strs K) ∧ K.length ≤ D.length ∧ w.grownBy w' none
set_option maxRecDepth 100000 in
set_option maxHeartbeats 1500000 in
theorem price_any (N : List Wr) (a : Option Addr) (c : Nat) (D : List De) (a1 : Option Addr) (c1 : Nat) (B : List Nm) (a2 : Option Addr) (c2 : Nat) (w : World) (hw : CellsAt w a (flat encWr N)) (hsw : ∀ x ∈ N, WrSm x) (hlw : N.length ≤ 6)
    (hd : CellsAt w a1 (flat encDe D)) (hsd : ∀ x ∈ D, DeSm x) (hld : D.length ≤ 4) (hcd : D.length ≤ c1) (hb : CellsAt w a2 (flat encNm B)) (hlb : B.length ≤ 6) (okW : WrsOk N) (okD : DesOk D) (okB : BksOk N B) :
    Calls Tryd.prog 13 #[.slice a N.length c, .slice a1 D.length c1, .slice a2 B.length c2] w (PricePost N D B w) := by
  have CD := Lib.hid (dealsCheck_ok N a c D a1 c1 w hw hsw hlw hd hld hcd hsd okW okD)
  have CB := Lib.hid (fun (W : World) (g : w.grownBy W none) => basketCheck_ok N a c B a2 c2 W (hw.keep0 g) hsw hlw (hb.keep0 g) hlb okW okB)
  have HWC := Lib.hid hw
  have HDC := Lib.hid hd
  have HBC := Lib.hid hb
  have HOW := Lib.hid okW
  have HOD := Lib.hid okD
  have HOB := Lib.hid okB
  have HIB := Lib.hid (itms_bd okW okB)
  have HIL : Hid ((itms N B).length = B.length) := by show _ = _; simp [itms]
  have T0 : Hid ((0 : Int) = dlTot ((itms N B).take 0)) := by show _ = _; rfl
  clear hw hd hb okW okD okB hsw hsd
  go_enter Tryd.func13, Tryd.ntmps13
  go_wp2_with (fail)
  refine CD.out.mono ?_
  rintro e w1 ⟨rfl, g1⟩
  have HG1 := Lib.hid g1
  clear g1 CD
  go_wp2_with (fail)
  refine (CB.out w1 HG1.out).mono ?_
  rintro e w2 ⟨rfl, g2⟩
  have g3 := gr_alloc (gr_trans HG1.out g2) (.cells #[.int .i64 0, .int .i64 0] 32)
  have hO := heap_alloc_new w2 (.cells #[.int .i64 0, .int .i64 0] 32)
  obtain ⟨w3, hw3⟩ : ∃ w3, w3 = w2.alloc (.cells #[.int .i64 0, .int .i64 0] 32) := ⟨_, rfl⟩
  rw [← hw3] at g3 hO
  have OR := Lib.hid (or_zeros w2.heap.size 2 w3 (blkC hO 0 rfl) (blkC hO 1 rfl))
  have HG3 := Lib.hid g3
  have HW3 := Lib.hid hw3
  clear g2 g3 hO hw3 CB HG1
  go_wp2_with (fail)
  rw [← HW3.out]
  refine OR.out.mono ?_
  rintro e w4 ⟨rfl, rfl⟩
  go_wp2_with (fail)
  go_loopw [10, 35] (fun s i wr => ∃ k : Nat, k ≤ B.length ∧ i = .int .i64 k ∧ s = .int .i64 (dlTot ((itms N B).take k)) ∧ w.grownBy wr none) (fun _ i _ => B.length - (intOf i).toNat)
  case atStart => exact ⟨0, Nat.zero_le _, rfl, congrArg _ T0.out, HG3.out⟩
  case round =>
    clear OR HG3 HW3 T0
    obtain ⟨k, hk, rfl, rfl, hgr⟩ := hrel
    obtain ⟨wo, rfl⟩ : ∃ wo : World, wo = wr := ⟨_, rfl⟩
    by_cases hlt : k < B.length
    · obtain ⟨b, off, rfl, d0, d1⟩ := bk_cells (HBC.out.keep0 hgr) k hlt
      obtain ⟨⟨oh, o2, o3⟩, -⟩ := HOB.out k hlt
      obtain ⟨wi, hwi, hfi, hwe⟩ := findA_has oh
      obtain ⟨wb, woff, rfl, e0, e1, e2⟩ := wr_cells (HWC.out.keep0 hgr) wi hwi
      have hpr := wrGet_ok HOW.out oh
      have hil := HIL.out
      have NX := Lib.hid (tot_next (itms N B) k (by rw [hil]; exact hlt))
      have TB := ItBd.tot (HIB.out.take k)
      have TB2 := ItBd.tot (HIB.out.take (k + 1))
      have hit : (itms N B)[k]'(by rw [hil]; exact hlt) = itm N B[k] := by simp [itms]
      rw [hit] at NX
      have hwg := wrGet_at hwi hwe
      have hTl : ((itms N B).take k).length ≤ 6 := by rw [List.length_take, hil]; omega
      have hTl2 : ((itms N B).take (k + 1)).length ≤ 6 := by rw [List.length_take, hil]; omega
      have hNX2 : dlTot ((itms N B).take (k + 1)) = dlTot ((itms N B).take k) + (wrGet N B[k].key).price * B[k].many := NX.out
      rw [hwg] at hpr hNX2
      rw [hNX2] at TB2
      obtain ⟨x, hx⟩ : ∃ x, x = B[k] := ⟨_, rfl⟩
      rw [← hx] at d0 d1 o2 o3 hNX2 TB2 hfi
      obtain ⟨K, M⟩ := x
      simp only at d0 d1 o2 o3 hNX2 TB2 hfi
      obtain ⟨y, hy⟩ : ∃ y, y = N[wi] := ⟨_, rfl⟩
      rw [← hy] at e0 e1 e2 hpr hNX2 TB2
      obtain ⟨yk, yp, yg⟩ := y
      simp only at e0 e1 e2 hpr hNX2 TB2
      obtain ⟨T, hT⟩ : ∃ T, T = dlTot ((itms N B).take k) := ⟨_, rfl⟩
      rw [← hT] at hNX2 TB TB2
      rw [← hT]
      have mu0 : 0 ≤ yp * M := Int.mul_nonneg hpr.1 (by omega)
      have mu1 : yp * M ≤ 100000 * 100 := Int.mul_le_mul hpr.2 o3 (by omega) (by omega)
      obtain ⟨p, hp⟩ : ∃ p, yp * M = p := ⟨_, rfl⟩
      rw [hp] at mu0 mu1 hNX2 TB2
      have HNX := Lib.hid hNX2
      have HFI := Lib.hid hfi
      have hV := heap_alloc_new wo (.cells #[.string K, .int .i64 M] 42)
      have ga := gr_alloc (gr_refl wo none) (.cells #[.string K, .int .i64 M] 42)
      obtain ⟨w5, hw5⟩ : ∃ w5, w5 = wo.alloc (.cells #[.string K, .int .i64 M] 42) := ⟨_, rfl⟩
      rw [← hw5] at hV ga
      obtain ⟨V, hVe⟩ : ∃ V, V = wo.heap.size := ⟨_, rfl⟩
      rw [← hVe] at hV
      have WA := Lib.hid (fun (W : World) (g : w5.grownBy W none) => ware_any N K (some ⟨wb, woff, none⟩) c W (HWC.out.keep0 (gr_trans (gr_trans hgr ga) g)) (by omega))
      have x0 := grew_cell (show w5.cell? ⟨V, 0, none⟩ = some (.string K) from blkC hV 0 rfl)
      have x1 := grew_cell (show w5.cell? ⟨V, 1, none⟩ = some (.int .i64 M) from blkC hV 1 rfl)
      have y1 := grew_cell ((gr_cell ga (lt_of_cell e1)).trans e1)
      have HG5 := Lib.hid (gr_trans hgr ga)
      have HW5 := Lib.hid hw5
      have HVE := Lib.hid hVe
      have hi0 : (0 : Int) ≤ (wi : Int) := by omega
      have hi1 : (wi : Int) < (N.length : Int) := by omega
      have hw1 : IntKind.i64.wrap p = p := IntWalk.i64_in _ (by omega)
      have hw2 : IntKind.i64.wrap (T + p) = T + p := IntWalk.i64_in _ (by omega)
      clear hgr e0 e1 e2 hx hy hT hV ga hw5 hVe NX hit hwg hil oh hfi hwe hNX2
      go_upto_region 8 with (fail)
      rw [← HW5.out, ← HVE.out]
      clear d0 d1
      refine wp_region_grew (by kernel_rfl) (by kernel_rfl) ?_
      repeat (go_big_quiet_step (first
        | (go_at_call 57; exact Calls.grew_of (fun W g => (WA.out W g).mono fun e w' h => ⟨by rw [h.1, HFI.out], h.2⟩))))
      refine wpQuiet_nil ?_
      rintro wq ⟨nn, rfl⟩
      have gq := nn.gr
      obtain ⟨wq, hwq⟩ : ∃ wq, wq = nn.w := ⟨_, rfl⟩
      rw [← hwq] at gq
      rw [← hwq]
      have GQ := Lib.hid (gr_trans HG5.out gq)
      clear gq hwq x0 x1 y1
      go_wp2_with (fail)
      go_roundw
      case rel => exact ⟨k + 1, by omega, by go_num, by rw [HNX.out], GQ.out⟩
      case measure => simp [intOf]; omega
    · obtain rfl : k = B.length := by omega
      have hTB := (itms_bd HOW.out HOB.out).tot
      have hTl : (itms N B).length ≤ 6 := by rw [HIL.out]; omega
      have hTE : dlTot ((itms N B).take B.length) = dlTot (itms N B) := by rw [← HIL.out, List.take_length]
      rw [hTE]
      obtain ⟨TT, hTT⟩ : ∃ T, T = dlTot (itms N B) := ⟨_, rfl⟩
      rw [← hTT] at hTB
      rw [← hTT]
      have HTT := Lib.hid hTT
      have P0 : Hid (TT = dlTot (itms N B) - dlOff (itms N B) (dls (D.take 0))) := by
        show _ = _
        rw [hTT, show dlOff (itms N B) (dls (D.take 0)) = 0 from rfl]
        omega
      have HGo := Lib.hid hgr
      have hTb : TT ≤ 60000000 := by omega
      clear hTE hTT hTl hgr
      go_wp2_with (fail)
      go_loopw [10, 13, 55] (fun s kv i wr => ∃ (k : Nat) (K : List ByteArray) (P v : _), k ≤ D.length ∧ i = .int .i64 k ∧ s = .int .i64 P ∧ Hid (P = dlTot (itms N B) - dlOff (itms N B) (dls (D.take k))) ∧ v = kv ∧ wr.ownsRow w.heap.size 9 1 v K.length (strs K) ∧ K.length ≤ k ∧ w.grownBy wr none) (fun _ _ i _ => D.length - (intOf i).toNat)
      case atStart => exact ⟨0, [], TT, _, Nat.zero_le _, rfl, rfl, P0.out, rfl, World.ownsRow_nil _ _ _ _, Nat.le_refl _, HGo.out⟩
      case round =>
        clear P0 HGo
        obtain ⟨k, K, P, kv, hk, rfl, rfl, HP, rfl, hko, hkl, hgr⟩ := hrel
        obtain ⟨wl, rfl⟩ : ∃ wl : World, wl = wr := ⟨_, rfl⟩
        have HKO := Lib.hid hko
        have HGR := Lib.hid hgr
        by_cases hlt : k < D.length
        · obtain ⟨b, off, rfl, d0, d1, d2, d3⟩ := de_cells (HDC.out.keep0 hgr) k hlt
          obtain ⟨m, f, d, em, ef, hdm, hm2, hm20, hf1, hfm⟩ := deal_nat (HOD.out k hlt).1
          have OFN := Lib.hid (off_next (itms N B) D k hlt)
          have PB := price_bd HOW.out HOB.out HOD.out (k + 1)
          rw [← HTT.out] at PB
          have DLK : Hid (dlFree (itms N B) (dl D[k]) = freeSum m f (sortD (dlUn D[k].group (itms N B)))) := by
            show _ = _
            unfold dlFree dl
            rw [em, ef]
            rfl
          rw [em] at d2
          rw [ef] at d3
          obtain ⟨x, hx⟩ : ∃ x, x = D[k] := ⟨_, rfl⟩
          rw [← hx] at d0 d1 OFN DLK
          obtain ⟨KD, G, MM, FF⟩ := x
          simp only at d0 d1 DLK
          have HX := Lib.hid hx
          have hV := heap_alloc_new wl (.cells #[.string KD, .string G, .int .i64 (m : Int), .int .i64 (f : Int)] 40)
          have ga := gr_alloc (gr_refl wl none) (.cells #[.string KD, .string G, .int .i64 (m : Int), .int .i64 (f : Int)] 40)
          obtain ⟨wd, hwd⟩ : ∃ wd, wd = wl.alloc (.cells #[.string KD, .string G, .int .i64 (m : Int), .int .i64 (f : Int)] 40) := ⟨_, rfl⟩
          rw [← hwd] at hV ga
          obtain ⟨V, hVe⟩ : ∃ V, V = wl.heap.size := ⟨_, rfl⟩
          rw [← hVe] at hV
          have HV := Lib.hid hV
          have HKD := Lib.hid (own_keep0 hko ga)
          have HGD := Lib.hid (gr_trans hgr ga)
          have HWD := Lib.hid hwd
          have HVE := Lib.hid hVe
          have hzd := HGD.out.size
          have U0 : Hid (([] : List Int) = dlUn G ((itms N B).take 0)) := by show _ = _; rfl
          clear hx em ef hgr hko hV ga hwd hVe
          go_upto_region 14 with (fail)
          rw [← HWD.out, ← HVE.out]
          clear d0 d1 d2 d3
          go_wp2_with (fail)
          go_loopw [16, 61] (fun u i wr => ∃ (j : Nat) (v : Value) (U : List Int), j ≤ B.length ∧ i = .int .i64 j ∧ v = u ∧ Hid (U = dlUn G ((itms N B).take j)) ∧ wr.ownsRow wd.heap.size 3 1 v U.length (ints U) ∧ wd.grownBy wr none) (fun _ i _ => B.length - (intOf i).toNat)
          case atStart => exact ⟨0, _, [], Nat.zero_le _, rfl, rfl, U0.out, World.ownsRow_nil _ _ _ _, gr_refl _ _⟩
          case round =>
            clear U0
            obtain ⟨j, uv, U, hj, rfl, rfl, HU, huo, hgj⟩ := hrel
            obtain ⟨wo, rfl⟩ : ∃ wo : World, wo = wr := ⟨_, rfl⟩
            have HUO := Lib.hid huo
            have HGJ := Lib.hid hgj
            have hUl : U.length ≤ 600 := by
              have h1 := ItBd.un_len (HIB.out.take j) G
              rw [← HU.out, List.length_take, HIL.out] at h1
              omega
            by_cases hjl : j < B.length
            · obtain ⟨b2, off2, rfl, d0, d1⟩ := bk_cells (HBC.out.keep0 (gr_trans HGD.out hgj)) j hjl
              obtain ⟨⟨oh, o2, o3⟩, -⟩ := HOB.out j hjl
              obtain ⟨wi, hwi, hfi, hwe⟩ := findA_has oh
              have hil := HIL.out
              have NX := un_next G (itms N B) j (by rw [hil]; exact hjl)
              have hit : (itms N B)[j]'(by rw [hil]; exact hjl) = itm N B[j] := by simp [itms]
              rw [hit] at NX
              have hwg := wrGet_at hwi hwe
              have NX2 : dlUn G ((itms N B).take (j + 1)) = dlUn G ((itms N B).take j) ++ (if dlSame (wrGet N B[j].key).group G then List.replicate B[j].many.toNat (wrGet N B[j].key).price else []) := NX
              rw [hwg, ← HU.out] at NX2
              obtain ⟨m3, hm3⟩ : ∃ m3 : Nat, B[j].many = (m3 : Int) := ⟨B[j].many.toNat, by omega⟩
              rw [hm3] at d1 o2 o3 NX2
              obtain ⟨x, hx⟩ : ∃ x, x = B[j] := ⟨_, rfl⟩
              rw [← hx] at d0 hfi
              obtain ⟨K3, M3⟩ := x
              simp only at d0 hfi
              have hcw := HWC.out.keep0 (gr_trans HGD.out hgj)
              obtain ⟨wb, woff, rfl, -, -, -⟩ := wr_cells hcw wi hwi
              obtain ⟨y, hy⟩ : ∃ y, y = N[wi] := ⟨_, rfl⟩
              have HY := Lib.hid hy
              rw [← hy] at NX2
              obtain ⟨yk, yp, yg⟩ := y
              simp only at NX2
              have NX3 : Hid (dlUn G ((itms N B).take (j + 1)) = U ++ (if dlSame yg G then List.replicate m3 yp else [])) := by
                show _ = _
                rw [NX2]
                simp
              have HFI := Lib.hid hfi
              have hV3 := heap_alloc_new wo (.cells #[.string K3, .int .i64 (m3 : Int)] 42)
              have ga := gr_alloc (gr_refl wo none) (.cells #[.string K3, .int .i64 (m3 : Int)] 42)
              obtain ⟨w5, hw5⟩ : ∃ w5, w5 = wo.alloc (.cells #[.string K3, .int .i64 (m3 : Int)] 42) := ⟨_, rfl⟩
              rw [← hw5] at hV3 ga
              obtain ⟨V3, hVe⟩ : ∃ V3, V3 = wo.heap.size := ⟨_, rfl⟩
              rw [← hVe] at hV3
              have WA := Lib.hid (ware_any N K3 _ c w5 (hcw.keep0 ga) (by omega))
              have HG5 := Lib.hid (gr_trans hgj ga)
              have HW5 := Lib.hid hw5
              have HVE3 := Lib.hid hVe
              have HV3 := Lib.hid hV3
              have HU5 := Lib.hid (own_keep0 huo ga)
              have HCW := Lib.hid hcw
              have HGA := Lib.hid ga
              have hi0 : (0 : Int) ≤ (wi : Int) := by omega
              have hi1 : (wi : Int) < (N.length : Int) := by omega
              have hm3b : 1 ≤ m3 ∧ m3 ≤ 100 := by omega
              clear hm3 hx hy NX NX2 hit hwg hil oh hfi hwe hgj huo hV3 ga hw5 hVe o2 o3 hcw
              go_upto_region 18 with (fail)
              rw [← HW5.out, ← HVE3.out]
              have z0 : w5.cell? ⟨V3, 0, none⟩ = some (.string K3) := blkC HV3.out 0 rfl
              clear d0 d1
              go_wp2_with (fail)
              refine WA.out.mono ?_
              rintro e w6 ⟨rfl, g6⟩
              rw [HFI.out]
              obtain ⟨wb', woff', hae, e0, e1, e2⟩ := wr_cells (HCW.out.keep0 (gr_trans HGA.out g6)) wi hwi
              cases hae
              rw [← HY.out] at e0 e1 e2
              simp only at e0 e1 e2
              have hV4 := heap_alloc_new w6 (.cells #[.string yk, .int .i64 yp, .string yg] 97)
              have ga := gr_alloc g6 (.cells #[.string yk, .int .i64 yp, .string yg] 97)
              obtain ⟨w7, hw7⟩ : ∃ w7, w7 = w6.alloc (.cells #[.string yk, .int .i64 yp, .string yg] 97) := ⟨_, rfl⟩
              rw [← hw7] at hV4 ga
              obtain ⟨V4, hVe⟩ : ∃ V4, V4 = w6.heap.size := ⟨_, rfl⟩
              rw [← hVe] at hV4
              have hV7 := ((gr_trans HG5.out ga).block _ (lt_of_block HV.out) (by simp)).trans HV.out
              have hV37 := (ga.block _ (lt_of_block HV3.out) (by simp)).trans HV3.out
              have v1 : w7.cell? ⟨V, 1, none⟩ = some (.string G) := blkC hV7 1 rfl
              have z1 : w7.cell? ⟨V3, 1, none⟩ = some (.int .i64 (m3 : Int)) := blkC hV37 1 rfl
              have y1 : w7.cell? ⟨V4, 1, none⟩ = some (.int .i64 yp) := blkC hV4 1 rfl
              have y2 : w7.cell? ⟨V4, 2, none⟩ = some (.string yg) := blkC hV4 2 rfl
              have HG7 := Lib.hid (gr_trans HG5.out ga)
              have HU7 := Lib.hid (own_keep0 HU5.out ga)
              have HW7 := Lib.hid hw7
              have HVE4 := Lib.hid hVe
              clear g6 hV4 ga hw7 hVe hV7 hV37 z0 WA HU5 HG5 HV3
              go_upto_region 19 with (fail)
              rw [← HW7.out, ← HVE4.out]
              clear e0 e1 e2
              cases hq : (yg.toList == G.toList) with
              | false =>
                have NXF : Hid (U = dlUn G ((itms N B).take (j + 1))) := by
                  show _ = _
                  have h := NX3.out
                  unfold dlSame at h
                  rw [hq] at h
                  rw [h]
                  simp
                go_wp2_with (fail)
                go_roundw
                case rel => exact ⟨j + 1, _, U, by omega, by go_num, rfl, NXF.out, HU7.out, HG7.out⟩
                case measure => simp [intOf]; omega
              | true =>
                have NXT : Hid (U ++ List.replicate m3 yp = dlUn G ((itms N B).take (j + 1))) := by
                  show _ = _
                  have h := NX3.out
                  unfold dlSame at h
                  rw [hq] at h
                  rw [h]
                  simp
                have hR := heap_alloc_new w7 (.cells #[.int .i64 yp] 3)
                have gr8 := gr_alloc (gr_refl w7 none) (.cells #[.int .i64 yp] 3)
                have RP := Lib.hid (repeat_any yp m3 hm3b.1 (by omega) w7.heap.size 1 (w7.alloc (.cells #[.int .i64 yp] 3)) (blkC hR 0 rfl))
                have HG8 := Lib.hid (gr_trans HG7.out gr8)
                have hz37 := lt_of_cell z1
                have hz47 := lt_of_cell y1
                have HU8 := Lib.hid (own_keep0 HU7.out gr8)
                clear hR gr8 NX3 HU7
                go_wp2_with (fail)
                refine RP.out.mono ?_
                rintro e w9 ⟨G9, hG9, rfl, o9, g9⟩
                obtain ⟨_, _, ev, -, -, hc9, -⟩ := own_shape o9
                cases ev
                have HC9 := Lib.hid hc9
                have HG9 := Lib.hid (gr_trans HG8.out g9)
                have HU9 := Lib.hid (own_keep0 HU8.out g9)
                have hz9 := HG9.out.size
                clear o9 g9 hc9 RP HU8 HG8 hG9
                go_wp2_with (at_builtin; refine wpList_appN eInt rfl _ _ rfl wd.heap.size _ U.length (ints U) rfl HU9.out (some ⟨G9, 0, none⟩) m3 m3 (ints (List.replicate m3 yp)) rfl (by simp [ints]) HC9.out (fun e => by cases e) (ints_one _) (by omega) hz9 ?_; intro v10 w10 o10 g10 hl10 hk10)
                have HU10 : Hid (w10.ownsRow wd.heap.size 3 1 v10 (U ++ List.replicate m3 yp).length (ints (U ++ List.replicate m3 yp))) := by
                  show World.ownsRow _ _ _ _ _ _ _
                  rw [List.length_append, List.length_replicate]
                  have e : ints (U ++ List.replicate m3 yp) = ints U ++ ints (List.replicate m3 yp) := by simp [ints]
                  rw [e]
                  exact o10
                have HG10 := Lib.hid (gr_grown HG9.out g10 (fun q hq => hl10 q hq))
                clear o10 g10 hl10 hk10 HU9 HG9
                go_wp2_with (fail)
                go_roundw
                case rel => exact ⟨j + 1, _, U ++ List.replicate m3 yp, by omega, by go_num, rfl, NXT.out, HU10.out, HG10.out⟩
                case measure => simp [intOf]; omega
            · obtain rfl : j = B.length := by omega
              have HUF : Hid (U = dlUn G (itms N B)) := by
                show _ = _
                rw [HU.out, ← HIL.out, List.take_length]
              have HUM : Hid (∀ x ∈ sortD U, 0 ≤ x ∧ x ≤ 100000) := fun x hx => HIB.out.un_mem G x (by rw [← HUF.out]; exact (sortD_perm U).mem_iff.1 hx)
              have hSl : (sortD U).length = U.length := (sortD_perm U).length_eq
              have SI := sortI1_any uv U.length wd.heap.size U wo huo rfl (by omega)
              unfold SortI1Post at SI
              have SI := Lib.hid SI
              have LT := Lib.hid huo.lt
              obtain ⟨va, vc, rfl, hvc, -, -, -⟩ := own_shape huo
              clear huo hgj HU HUO
              go_wp2_with (fail)
              refine SI.out.mono ?_
              rintro e w6 ⟨rfl, o6, g6⟩
              obtain ⟨O, hO⟩ : ∃ O, O = sortD U := ⟨_, rfl⟩
              rw [← hO] at o6 HUM hSl
              have HOE := Lib.hid hO
              obtain ⟨n, hn⟩ : ∃ n, n = U.length := ⟨_, rfl⟩
              rw [← hn] at o6 hSl hUl hvc
              rw [← hn]
              have HSL := Lib.hid hSl
              have HG6 := Lib.hid (gr_grown HGJ.out g6 (fun q hq => (LT.out q hq).1))
              have hV6 := (HG6.out.block _ (lt_of_block HV.out) (by simp)).trans HV.out
              have v0 : w6.cell? ⟨V, 0, none⟩ = some (.string KD) := blkC hV6 0 rfl
              have v2 : w6.cell? ⟨V, 2, none⟩ = some (.int .i64 (m : Int)) := blkC hV6 2 rfl
              have HV6 := Lib.hid hV6
              have HO6 := Lib.hid o6
              have HK6 := Lib.hid (own_keep0 HKD.out HG6.out)
              have hz6 := (gr_trans HGD.out HG6.out).size
              clear hO hn hSl g6 o6 hV6 SI LT HGJ
              go_upto_if 92 with (fail)
              go_cut [13] (fun s wx => ∃ (K' : List ByteArray) (v' : Value), v' = s ∧ wx.ownsRow w.heap.size 9 1 v' K'.length (strs K') ∧ K'.length ≤ k + 1 ∧ CellsAt wx va (ints O) ∧ wx.heap[V]? = some (.cells #[.string KD, .string G, .int .i64 (m : Int), .int .i64 (f : Int)] 40 (0, 0)) ∧ w.grownBy wx none)
              case first =>
                by_cases hge : m ≤ n
                · go_wp2_with (at_builtin; refine wpList_app1F eStr rfl _ _ rfl w.heap.size _ K.length (strs K) rfl w6 #[.string KD] rfl HK6.out _ rfl rfl rfl rfl (by omega) hz6 ?_; intro v7 w7 o7 g7 hl7 hk7)
                  have HO7 := own_keepU HO6.out HK6.out (by decide) g7
                  have HV7 := held_own HK6.out HV6.out g7 (by decide)
                  have HGF := gr_grown (gr_trans HGD.out HG6.out) g7 (fun q hq => hl7 q hq)
                  obtain ⟨_, _, ev, -, -, hcu, -⟩ := own_shape HO7
                  cases ev
                  have HK7 : w7.ownsRow w.heap.size 9 1 v7 (K ++ [KD]).length (strs (K ++ [KD])) := by
                    rw [List.length_append]
                    have e : strs (K ++ [KD]) = strs K ++ [Value.string KD] := by simp [strs]
                    rw [e]
                    exact o7
                  have HA := Lib.hid HK7
                  have HB := Lib.hid hcu
                  have HC := Lib.hid HV7
                  have HD := Lib.hid HGF
                  clear o7 g7 hl7 hk7 HO7 HV7 HGF hcu HK7
                  go_wp2_with (fail)
                  go_meet
                  exact ⟨K ++ [KD], _, rfl, HA.out, by rw [List.length_append]; simp; omega, HB.out, HC.out, HD.out⟩
                · obtain ⟨_, _, ev, -, -, hcu, -⟩ := own_shape HO6.out
                  cases ev
                  have HB := Lib.hid hcu
                  clear hcu
                  go_wp2_with (fail)
                  go_meet
                  exact ⟨K, _, rfl, HK6.out, by omega, HB.out, HV6.out, gr_trans HGD.out HG6.out⟩
              case rest =>
              obtain ⟨K', kv', rfl, hko', hkl', hcu, hV8, hg8⟩ := hcut
              obtain ⟨w8, rfl⟩ : ∃ w8 : World, w8 = wc := ⟨_, rfl⟩
              have HK8 := Lib.hid hko'
              have HC8 := Lib.hid hcu
              have HG8 := Lib.hid hg8
              have q2 : w8.cell? ⟨V, 2, none⟩ = some (.int .i64 (m : Int)) := blkC hV8 2 rfl
              have q3 : w8.cell? ⟨V, 3, none⟩ = some (.int .i64 (f : Int)) := blkC hV8 3 rfl
              have HON := Lib.hid (show O.length = n from HSL.out)
              have hFB := freeSum_bd2 m f O HUM.out
              rw [HON.out] at hFB
              obtain ⟨fs, hfs⟩ : ∃ fs, fs = freeSum m f O := ⟨_, rfl⟩
              rw [← hfs] at hFB
              have hA2 : P - fs = TT - dlOff (itms N B) (dls (D.take (k + 1))) := by
                rw [OFN.out, hfs, HOE.out, HUF.out, ← DLK.out, HP.out, HTT.out]
                omega
              rw [← hA2] at PB
              obtain ⟨A, hA⟩ : ∃ A, A = P - fs := ⟨_, rfl⟩
              rw [← hA] at PB hA2
              have hPA : P = A + fs := by omega
              have HA2 := Lib.hid hA2
              have HS0 : Hid (P = A + freeSum m f O) := by show _ = _; rw [hPA, hfs]
              clear hko' hcu hV8 hg8 hfs hA hA2 v0 v2
              go_wp2_with (fail)
              go_loopw [10, 16] (fun s u wr => ∃ (R : List Int) (ad : Option Addr) (cp : Nat), u = .slice ad R.length cp ∧ R.length ≤ cp ∧ CellsAt w8 ad (ints R) ∧ Hid (∀ x ∈ R, 0 ≤ x ∧ x ≤ 100000) ∧ s = .int .i64 (A + freeSum m f R) ∧ R.length ≤ 600 ∧ w8 = wr) (fun _ u _ => slLen u)
              case atStart => exact ⟨O, va, vc, by rw [HON.out], by rw [HON.out]; exact hvc, HC8.out, HUM.out, congrArg _ HS0.out, by rw [HON.out]; exact hUl, rfl⟩
              case round =>
                clear hPA HS0
                obtain ⟨R, ad, cp, rfl, hRc, hCR, HRM, rfl, hRl, rfl⟩ := hrel
                have HCR := Lib.hid hCR
                by_cases hge : m ≤ R.length
                · obtain ⟨g, off3, rfl, -⟩ := hCR 0 _ (ints_get R 0 (by omega))
                  have hFB2 := freeSum_bd2 m f (R.drop m) (fun x hx => HRM.out x (List.mem_of_mem_drop hx))
                  have hdl : (R.drop m).length ≤ 600 := by rw [List.length_drop]; omega
                  have hSE := freeSum_more (m := m) (f := f) (u := R) (by omega) hge
                  have hST : (setF m f R).sum + freeSum m f (R.drop m) = freeSum m f R := hSE.symm
                  obtain ⟨A2, hA2⟩ : ∃ A2, A2 = A + freeSum m f (R.drop m) := ⟨_, rfl⟩
                  have hS1 : A + freeSum m f R = A2 + ((setF m f R).drop 0).sum := by rw [hA2, List.drop_zero]; omega
                  have hA2b : 0 ≤ A2 ∧ A2 ≤ 200000000 := by omega
                  have hfl := setF_len (f := f) hge (by omega)
                  have HFM : Hid (∀ x ∈ setF m f R, 0 ≤ x ∧ x ≤ 100000) := fun x hx => HRM.out x (List.mem_of_mem_take (List.mem_of_mem_drop hx))
                  have HFL := Lib.hid hfl
                  have HA2 := Lib.hid hA2
                  have hdm1 : d ≤ m := by omega
                  have hmcp : m ≤ cp := by omega
                  have hcd : ¬ cp = d := by omega
                  have hmd : m - d = f := by omega
                  have hsub : IntKind.i64.wrap ((m : Int) - (f : Int)) = (d : Int) := by rw [IntWalk.i64_in _ (by omega)]; omega
                  rw [hS1]
                  clear hCR hSE hST hS1 hA2 hfl hFB2
                  go_wp2_with (fail)
                  go_loopw [10, 117] (fun s i wr => ∃ j : Nat, j ≤ f ∧ i = .int .i64 j ∧ s = .int .i64 (A2 + ((setF m f R).drop j).sum) ∧ w8 = wr) (fun _ i _ => f - (intOf i).toNat)
                  case atStart => exact ⟨0, Nat.zero_le _, rfl, rfl, rfl⟩
                  case round =>
                    obtain ⟨j, hj, rfl, rfl, rfl⟩ := hrel
                    by_cases hjf : j < f
                    · obtain ⟨g', o', e', d0⟩ := HCR.out (m - f + j) _ (ints_get R (m - f + j) (by omega))
                      cases e'
                      have hjs : j < (setF m f R).length := by rw [HFL.out]; exact hjf
                      have NX := Lib.hid (drop_sum (setF m f R) j hjs)
                      have hgt := setF_get (f := f) hge (by omega) hjf
                      rw [getD_eq R _ 0 (by omega), ← hgt] at d0
                      have hb0 := drop_sum_bd _ HFM.out j
                      have hb1 := drop_sum_bd _ HFM.out (j + 1)
                      rw [HFL.out] at hb0 hb1
                      have hxb := HFM.out _ (List.getElem_mem hjs)
                      obtain ⟨x, hx⟩ : ∃ x, x = (setF m f R)[j] := ⟨_, rfl⟩
                      rw [← hx] at d0 NX hxb
                      obtain ⟨S, hS⟩ : ∃ S, S = ((setF m f R).drop j).sum := ⟨_, rfl⟩
                      obtain ⟨S', hS'⟩ : ∃ S', S' = ((setF m f R).drop (j + 1)).sum := ⟨_, rfl⟩
                      rw [← hS, ← hS'] at NX
                      rw [← hS] at hb0
                      rw [← hS'] at hb1
                      rw [← hS]
                      have NX2 : Hid (A2 + S - x = A2 + S') := by show _ = _; have := NX.out; omega
                      have HS' := Lib.hid hS'
                      have hoff : off3 + (m - f + j) = off3 + d + j := by omega
                      rw [hoff] at d0
                      have hws : IntKind.i64.wrap (A2 + S - x) = A2 + S - x := IntWalk.i64_in _ (by omega)
                      clear hx hS hS' hgt NX hoff hjs
                      go_wp2_with (fail)
                      go_roundw
                      case rel => exact ⟨j + 1, by omega, by go_num, by rw [NX2.out, HS'.out], by trivial⟩
                      case measure => simp [intOf]; omega
                    · obtain rfl : j = f := by omega
                      have HE : Hid (A2 + ((setF m j R).drop j).sum = A + freeSum m j (R.drop m)) := by
                        show _ = _
                        rw [List.drop_eq_nil_of_le (by rw [HFL.out]; exact Nat.le_refl _), HA2.out]
                        simp
                      have HRD : Hid (∀ x ∈ R.drop m, 0 ≤ x ∧ x ≤ 100000) := fun x hx => HRM.out x (List.mem_of_mem_drop hx)
                      have HLD : Hid ((R.drop m).length = R.length - m) := List.length_drop
                      have hlt2 : R.length - m < R.length := by omega
                      rw [HE.out]
                      by_cases hcm : cp = m
                      · have HC2 : Hid (CellsAt w8 (some ⟨g, off3, none⟩) (ints (R.drop m))) := cells_none (by rw [List.length_drop]; omega)
                        clear hdl
                        go_wp2_with (fail)
                        go_roundw
                        case rel => exact ⟨R.drop m, _, _, by rw [HLD.out], by rw [HLD.out]; omega, HC2.out, HRD.out, rfl, by rw [HLD.out]; omega, by trivial⟩
                        case measure => simp [slLen]; omega
                      · have HC2 : Hid (CellsAt w8 (some ⟨g, off3 + m, none⟩) (ints (R.drop m))) := cells_drop HCR.out
                        clear hdl
                        go_wp2_with (fail)
                        go_roundw
                        case rel => exact ⟨R.drop m, _, _, by rw [HLD.out], by rw [HLD.out]; omega, HC2.out, HRD.out, rfl, by rw [HLD.out]; omega, by trivial⟩
                        case measure => simp [slLen]; omega
                · have HF0 : Hid (A + freeSum m f R = TT - dlOff (itms N B) (dls (D.take (k + 1)))) := by
                    show _ = _
                    rw [freeSum_end (by omega), ← HA2.out]
                    omega
                  clear hCR
                  go_wp2_with (fail)
                  go_roundw
                  case rel => exact ⟨k + 1, K', _, _, by omega, by go_num, rfl, by show _ = _; rw [HF0.out, HTT.out], rfl, HK8.out, hkl', HG8.out⟩
                  case measure => simp [intOf]; omega
        · obtain rfl : k = D.length := by omega
          have HPF : Hid (P = priceM N D B) := by
            have h := HP.out
            rw [List.take_length] at h
            exact h
          clear hko hgr
          go_wp2_with (fail)
          go_ret3
          exact ⟨_, K, by rw [← HPF.out]; rfl, HKO.out, hkl, HGR.out⟩
end Go.Proofs.YtjhfglhoiplfmaaDoor
