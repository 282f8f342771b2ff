/- Kits are picked for all needs. -/
import Derived.Test.YtdminjijhpemkaaGreatDoorPkSBb
import Derived.Deep.RegionLaw
import Derived.Deep.RegionHeld3
import Derived.Deep.DeepCutAuto
import Derived.Deep.DeepFit
namespace Go.Proofs.YtdminjijhpemkaaGreatDoor
open Go.RowKit
attribute [local go_sem ↓] Go.wp_at_zero Go.wp_at_succ

/-- What stands while the counts are cut down: the counts, bounded. -/
structure GetsW (wr w : World) (gg n : Nat) (gl : List Int) : Prop where
  own : wr.ownsRow gg 3 1 (.slice (some ⟨gg, 0, none⟩) n n) n (ints gl)
  bd : ∀ x ∈ gl, 0 ≤ x ∧ x ≤ 100000000
  gr : w.grownBy wr none
  gw : w.heap.size ≤ gg
theorem GetsW.keep0 {wr w1 w : World} {gg n : Nat} {gl : List Int} (h : GetsW wr w gg n gl) (g : wr.grownBy w1 none) : GetsW w1 w gg n gl := ⟨own_keep0 h.own g, h.bd, gr_trans h.gr g, h.gw⟩
theorem GetsW.set {wr w : World} {gg n : Nat} {gl : List Int} (h : GetsW wr w gg n gl) (k : Nat) (hk : k < n) (x : Int) (hx : 0 ≤ x ∧ x ≤ 100000000) : GetsW (wr.setCell ⟨gg, k, none⟩ (.int .i64 x)) w gg n (gl.set k x) :=
  ⟨(own_int h.own k hk).2.2 x, fun y hy => by
    rcases List.mem_or_eq_of_mem_set hy with hy | rfl
    · exact h.bd y hy
    · exact hx, gr_new h.gr h.gw _, h.gw⟩
theorem share_each {tot sum : Int} {ws P : List Int} (h : ShareOk tot sum ws P) (h0 : 0 ≤ tot) (hs : 0 < sum) (hw : ∀ x ∈ ws, 0 ≤ x) (he : ws.sum = sum) (j : Nat) (hj : j < ws.length) : 0 ≤ P.getD j 0 ∧ P.getD j 0 ≤ tot + 1 := by
  have h1 := h.each j hj
  have e : (quoL tot sum ws).getD j 0 = quoT tot sum ws[j] := by
    unfold quoL
    rw [List.getD_eq_getElem?_getD, List.getElem?_map, List.getElem?_eq_getElem hj]; rfl
  rw [e] at h1
  have h2 := quo_rem h0 hs (hw _ (List.getElem_mem hj))
  have h3 := quoT_le h0 hs (hw _ (List.getElem_mem hj)) (by rw [← he]; exact mem_le_sum ws hw _ (List.getElem_mem hj))
  omega
theorem needSum_next (N : List Need) (k : Nat) (hk : k < N.length) (s : ByteArray) : needSum (N.take (k + 1)) s = needSum (N.take k) s + (if N[k].prod = s then N[k].many else 0) := by
  have e : N.take (k + 1) = N.take k ++ [N[k]] := by simp
  rw [e, needSum_app]
  simp [needSum]
def KitPost (xs : List Lot) (n : Nat) (w : World) (e : Ending) (w' : World) : Prop := ∃ kv rv ks L, e = .returned (.tuple #[kv, rv, .int .i64 0]) ∧ ks.length = n ∧ w'.ownsRow w.heap.size 42 3 kv ks.length (flat encKit ks) ∧ w'.ownsRow w.heap.size 39 4 rv xs.length (flat encLot L) ∧
  (∀ k ∈ ks, ∃ b, w'.ownsRow b 53 2 k.pv k.ps.length (flat encPc k.ps)) ∧ Keeps xs L (allPs ks) 100000 ∧ w.grownBy w' none
set_option maxRecDepth 100000 in
set_option maxHeartbeats 8000000 in
theorem kit_ok (xs : List Lot) (xa : Option Addr) (xc : Nat) (N : List Need) (day left : Int) (a : Option Addr) (c : Nat) (w : World) (hx : CellsAt w xa (flat encLot xs)) (hnil : xa = none → xc = 0) (hxo : LotsOk xs) (hxl : xs.length < 20) (hap : Apart xs) (h : CellsAt w a (flat encNeed N)) (hsm : NeedsSm N) (hok : NeedsOk N) (hd : 0 ≤ day ∧ day ≤ 4000) (hf : 0 ≤ left ∧ left ≤ 4000) :
    Calls Tryz.prog 8 #[.slice xa xs.length xc, .slice a N.length c, .int .i64 day, .int .i64 left] w (KitPost xs N.length w) := by
  have WA := Lib.hid (wanted_ok xs xa xc N day left a c w hx hxo h hsm hok hd hf)
  have FR : Hid (∀ (P : ByteArray) (W : World), w.grownBy W none → Calls Tryz.prog 41 #[.slice xa xs.length xc, .string P, .int .i64 (day + left)] W fun e w' => e = .returned (.int .i64 (freshTo xs P (day + left) xs.length)) ∧ W.grownBy w' none) := fun P W g => fresh_any P (day + left) xs xa xc W (hx.keep0 g) (by omega) (lotN_bd hxo)
  have CL : Hid (∀ W, w.grownBy W none → Calls Tryz.prog 43 #[.slice xa xs.length xc] W fun e w' => ∃ v, e = .returned v ∧ w'.ownsRow W.heap.size 39 4 v xs.length (flat encLot xs) ∧ W.grownBy w' none) :=
    fun W g => cloneLot_any xa xs.length xc (flat encLot xs) W (flat_length encLot_len _) (hx.keep0 g) (fun e => ⟨nil_of_lots hx e, hnil e⟩) (flat_ones encLot_one _) (by omega)
  have H := Lib.hid h
  have HSM := Lib.hid hsm
  have HOK := Lib.hid hok
  have HXO := Lib.hid hxo
  have HAP := Lib.hid hap
  have hnl := hsm.len
  have hw : IntKind.i64.wrap (day + left) = day + left := IntWalk.i64_in _ (by omega)
  clear hx hnil hxo hap h hsm hok
  go_enter Tryz.func8, Tryz.ntmps8
  go_wp2_with (fail)
  refine WA.out.mono ?_
  rintro e w1 ⟨B, rfl, hBw, hM, g1⟩
  have HM := Lib.hid hM
  have G1 := Lib.hid g1
  have HBW := Lib.hid hBw
  clear hM g1 hBw WA
  go_upto_region 5 with (at_make; refine wpList_mk _ eInt rfl _ _ rfl w1.heap.size _ N.length rfl rfl rfl ?_ ?_ ?_; (· omega); (· omega); intro w2 o2 g2)
  obtain ⟨gg, hgg⟩ : ∃ G, G = w1.heap.size := ⟨_, rfl⟩
  rw [← hgg] at o2
  rw [← hgg]
  have hBg : B < gg := by rw [hgg]; exact HM.out.lt
  have GW2 : Hid (GetsW w2 w gg N.length (List.replicate N.length 0)) := ⟨o2, fun x hx => by rw [(List.mem_replicate.1 hx).2]; omega, gr_trans G1.out g2, by rw [hgg]; exact G1.out.size⟩
  have HM2 := Lib.hid (HM.out.keep0 g2)
  clear o2 g2 hgg HM
  go_wp2_with (fail)
  go_loopw [47] (fun i wr => ∃ (k : Nat) (gl : List Int), k ≤ N.length ∧ i = .int .i64 k ∧ GetsW wr w gg N.length gl ∧ MapIs wr B N.length (needMap N)) (fun i _ => N.length - (intOf i).toNat)
  case atStart => exact ⟨0, _, Nat.zero_le _, rfl, GW2.out, HM2.out⟩
  case round =>
    clear GW2 HM2
    obtain ⟨k, gl, hk, rfl, hG, hMp⟩ := hrel
    obtain ⟨wo, rfl⟩ : ∃ wo : World, wo = wr := ⟨_, rfl⟩
    by_cases hlt : k < N.length
    · obtain ⟨b, off, rfl, d0, d1, d2⟩ := need_cells (H.out.keep0 hG.gr) k hlt
      have ho := HOK.out k hlt
      have hlo := ho.lo
      have hhi := ho.hi
      obtain ⟨x, hx⟩ : ∃ x, x = N[k] := ⟨_, rfl⟩
      rw [← hx] at d0 d1 d2 hlo hhi
      obtain ⟨P, R, M⟩ := x
      simp only at d0 d1 d2 hlo hhi
      have g3 := gr_alloc (gr_refl wo none) (.cells #[.string P, .string R, .int .i64 M] 32)
      obtain ⟨w3, hw3⟩ : ∃ w3, w3 = wo.alloc (.cells #[.string P, .string R, .int .i64 M] 32) := ⟨_, rfl⟩
      have hV := heap_alloc_new wo (.cells #[.string P, .string R, .int .i64 M] 32)
      rw [← hw3] at g3 hV
      have hG3 := hG.keep0 g3
      obtain ⟨e1, f1, -⟩ := own_int hG3.own k hlt
      have v2 : w3.cell? ⟨wo.heap.size, 2, none⟩ = some (.int .i64 M) := blkC hV 2 rfl
      have HGS := Lib.hid (hG3.set k hlt M (by omega))
      have HMS := Lib.hid ((hMp.keep0 g3).keep (gr_set (q := ⟨gg, k, none⟩) (gr_refl w3 (some gg)) rfl (.int .i64 M)) (fun e => by injection e with e; omega))
      have HW3 := Lib.hid hw3
      clear hx hG hG3 g3 hV hMp hw3 ho
      go_upto_region 8 with (fail)
      rw [← HW3.out]
      go_wp2_with (fail)
      go_roundw
      case rel => exact ⟨k + 1, _, by omega, by go_num, HGS.out, HMS.out⟩
      case measure => simp [intOf]; omega
    · obtain rfl : k = N.length := by omega
      have HG := Lib.hid hG
      have HMp := Lib.hid hMp
      clear hG hMp
      obtain ⟨f, hf⟩ : ∃ f, f = needMap N := ⟨_, rfl⟩
      rw [← hf] at HMp
      have HF : Hid (∀ s x, f s = some x → s.size ≤ 3 ∧ x = needSum N s) := fun s x h => by
        rw [hf] at h
        obtain ⟨e1, e2, -⟩ := needMap_key HSM.out.all h
        exact ⟨e1, e2⟩
      clear hf
      go_wp2_with (first | (at_range; refine wpList_rangeSI rfl _ rfl B N.length f rfl HMp.out ?_; intro w5 lft cnt hr hleft g5 hz5))
      go_frame
      have HR5 := Lib.hid hr
      have HG5 := Lib.hid (HG.out.keep0 g5)
      obtain ⟨ib, hib⟩ : ∃ b, b = wo.heap.size := ⟨_, rfl⟩
      rw [← hib] at HR5
      rw [← hib]
      have hibg : gg < ib := by rw [hib]; exact (HG.out.own.lt gg rfl).2
      have hibl : w.heap.size ≤ ib := by rw [hib]; exact HG.out.gr.size
      clear hr hleft g5 hz5 hib HG HMp
      go_loopw [16] (fun _ wr => ∃ lft cnt gl, RangeIs wr B ib N.length f lft cnt ∧ GetsW wr w gg N.length gl) (fun _ wr => wr.rangeLeft B ib)
      case atStart => exact ⟨_, _, _, HR5.out, HG5.out⟩
      case round =>
        clear HR5 HG5
        obtain ⟨lft, cnt, gl, hr, hG⟩ := hrel
        obtain ⟨wi, rfl⟩ : ∃ wi : World, wi = wr := ⟨_, rfl⟩
        go_wp2_with (first | (at_next; refine wpList_nextSI rfl _ rfl B ib N.length f lft cnt rfl hr ?_ ?_))
        · intro _
          have BD := Lib.hid hG.bd
          have HG := Lib.hid hG
          have CL2 := Lib.hid (CL.out wi hG.gr)
          clear hG hr
          go_wp2_with (fail)
          refine CL2.out.mono ?_
          rintro e w26 ⟨rv, rfl, o26, g26⟩
          have K0 : Hid (KitW w26 w gg gg N.length wi.heap.size w26.heap.size gl rv (.slice none 0 0) xs xs []) :=
            ⟨own_keep0 HG.out.own g26, o26, World.ownsRow_nil _ _ _ _, (fun k hk => by cases hk), Keeps.start (lotN_bd HXO.out), gr_trans HG.out.gr g26, HG.out.gr.size, Nat.le_trans HG.out.gr.size g26.size, Nat.le_refl _⟩
          obtain ⟨Rb, hRb⟩ : ∃ b, b = wi.heap.size := ⟨_, rfl⟩
          rw [← hRb] at K0
          have hgl : gl.length = N.length := by have := HG.out.own.1; simpa [ints] using this
          clear o26 g26 HG CL2 hRb
          go_wp2_with (fail)
          go_loopw [28, 123] (fun kv i wr => ∃ (k : Nat) (ks : List KitV) (L : List Lot) (kv' : Value), k ≤ N.length ∧ i = .int .i64 k ∧ kv' = kv ∧ ks.length = k ∧ KitW wr w gg gg N.length Rb w26.heap.size gl rv kv' xs L ks) (fun _ i _ => N.length - (intOf i).toNat)
          case atStart => exact ⟨0, [], xs, _, Nat.zero_le _, rfl, rfl, rfl, K0.out⟩
          case round =>
            clear K0
            obtain ⟨k, ks, L, kv, hk, rfl, rfl, hks, hW⟩ := hrel
            obtain ⟨wo, rfl⟩ : ∃ wo : World, wo = wr := ⟨_, rfl⟩
            by_cases hkl : k < N.length
            · obtain ⟨b, off, rfl, d0, d1, d2⟩ := need_cells (H.out.keep0 hW.gr) k hkl
              obtain ⟨y, hy⟩ : ∃ y, y = N[k] := ⟨_, rfl⟩
              rw [← hy] at d0 d1 d2
              obtain ⟨P, R, M⟩ := y
              simp only at d0 d1 d2
              have g3 := gr_alloc (gr_refl wo none) (.cells #[.string P, .string R, .int .i64 M] 32)
              have hV := heap_alloc_new wo (.cells #[.string P, .string R, .int .i64 M] 32)
              obtain ⟨w3, hw3⟩ : ∃ w3, w3 = wo.alloc (.cells #[.string P, .string R, .int .i64 M] 32) := ⟨_, rfl⟩
              rw [← hw3] at g3 hV
              have HW3 := Lib.hid hw3
              have K3 := Lib.hid (hW.keep0 (gr_drew g3))
              have hVd : w3.drew.heap[wo.heap.size]? = some (.cells #[.string P, .string R, .int .i64 M] 32 (0, 0)) := hV
              have HVD := Lib.hid hVd
              have hm := BD.out _ (List.getElem_mem (show k < gl.length by omega))
              have e0 := (own_int K3.out.gets k hkl).1
              rw [getD_eq gl k 0 (by omega)] at e0
              obtain ⟨m, hme⟩ : ∃ m, m = gl[k] := ⟨_, rfl⟩
              rw [← hme] at hm e0
              have hLl := hW.keeps.len
              have PK := Lib.hid (picked_all R m (day + left) L rv xs.length Rb w3.drew K3.out.rest hLl hxl hm.1 (by omega) (fun i hi => hW.keeps.bd i (by omega)))
              have HKP := Lib.hid hW.keeps
              have hkz : ks.length ≤ 7 := by omega
              clear hy hV hVd hw3 hW g3
              go_upto_region 35 with (fail)
              rw [← HW3.out]
              have v0 := blkC HVD.out 0 rfl
              have v1 : w3.drew.cell? ⟨wo.heap.size, 1, none⟩ = some (.string R) := blkC HVD.out 1 rfl
              have HGE : Hid (∀ W : World, W.ownsRow gg 3 1 (.slice (some ⟨gg, 0, none⟩) N.length N.length) N.length (ints gl) → W.cell? ⟨gg, k, none⟩ = some (.int .i64 m)) := fun W o => by
                have := (own_int o k hkl).1
                rw [getD_eq gl k 0 (by omega), ← hme] at this
                exact this
              have HLl := Lib.hid hLl
              clear hme d0 d1 d2 hLl
              go_region_held3 (fun w' => w'.cell? ⟨wo.heap.size, 0, none⟩ = some (.string P) ∧ w'.cell? ⟨wo.heap.size, 1, none⟩ = some (.string R) ∧ w'.cell? ⟨gg, k, none⟩ = some (.int .i64 m))
                (first | exact ⟨v0, v1, e0⟩ | exact ⟨t0, t1, te⟩ | exact ⟨cellUp t0 _, cellUp t1 _, cellUp te _⟩ | exact ⟨u0, u1, ue⟩)
                (first | (go_at_call 44; go_fit PK.out; rintro e w5 ⟨ord, pv, rfl, hord, op, ol, g5⟩; have hkp5 : Keeps xs (takeTo ord L m ord.length).2.1 (allPs ks ++ (takeTo ord L m ord.length).1) 100000 := Keeps.take HAP.out HKP.out ord (fun i hi => by have h1 := hord.lt i hi; have h2 := HLl.out; omega) ord.length; obtain ⟨ps, hps⟩ : ∃ ps, ps = (takeTo ord L m ord.length).1 := ⟨_, rfl⟩; obtain ⟨L2, hL2⟩ : ∃ L2, L2 = (takeTo ord L m ord.length).2.1 := ⟨_, rfl⟩; rw [← hps] at op; rw [← hL2] at ol; rw [← hps, ← hL2] at hkp5; have HKP5 := Lib.hid hkp5; clear hkp5; obtain ⟨pa, pc, rfl, -, -, -, -⟩ := own_shape op; have KP := Lib.hid (K3.out.pick g5); have hV5 := held_own K3.out.rest HVD.out g5 (by decide); have HV5 := Lib.hid hV5; have t0 := blkC hV5 0 rfl; have t1 : w5.cell? ⟨wo.heap.size, 1, none⟩ = some (.string R) := blkC hV5 1 rfl; have te := HGE.out w5 KP.out.1; have OP := Lib.hid op; have OL := Lib.hid ol; have HG5 := Lib.hid g5; clear op ol g5 hord hps hL2 hV5) | (revert t0; intro t0; refine step_app1 eKit rfl _ _ rfl w26.heap.size kv ks.length (flat encKit ks) rfl w5 #[.string P, .string R, .slice pa ps.length pc] rfl KP.out.2.1 _ rfl rfl rfl rfl ?_ ?_ ?_; (· omega); (· exact Nat.le_trans K3.out.zK HG5.out.size); intro v8 w8 o8 g8 hl8 hk8; have K8 := Lib.hid (K3.out.app HG5.out OL.out OP.out o8 g8 HKP5.out); have hV8 := held_own KP.out.2.1 HV5.out g8 (by decide); have u0 := blkC hV8 0 rfl; have u1 : w8.cell? ⟨wo.heap.size, 1, none⟩ = some (.string R) := blkC hV8 1 rfl; have ue := HGE.out w8 K8.out.gets; clear o8 g8 hl8 hk8 hV8))
              all_goals (go_wp2_with (fail))
              all_goals go_roundw
              all_goals first | (simp [intOf]; omega; done) | skip
              all_goals exact ⟨k + 1, ks ++ [⟨P, R, .slice pa ps.length pc, ps⟩], L2, v8, by omega, by go_num, rfl, by simp [hks], K8.out⟩
            · obtain rfl : k = N.length := by omega
              have HW := Lib.hid hW
              obtain ⟨ka, kc, rfl, -, -, -, -⟩ := own_shape hW.kits
              obtain ⟨ra, rc, rfl, -, -, -, -⟩ := own_shape hW.rest
              clear hW
              go_wp2_with (fail)
              go_ret3
              exact ⟨_, _, ks, L, rfl, hks, own_base HW.out.kits HW.out.hK, own_base HW.out.rest HW.out.hR, HW.out.pcs, HW.out.keeps, HW.out.gr⟩
        · intro s x w22 cnt' hfs hl2 hr22 hlt g22 hz22 hen
          obtain ⟨hss, hxs⟩ := HF.out s x hfs
          have HG22 : Hid (GetsW w22 w gg N.length gl) := ⟨own_keep hG.own g22 (.inr (fun e => by simp [Value.ownBlock] at e; omega)), hG.bd, gr_grown hG.gr g22 (fun k hk => by cases hk; exact hibl), hG.gw⟩
          have HR22 := Lib.hid hr22
          have HLT := Lib.hid hlt
          have HRo := Lib.hid hr
          have HXS := Lib.hid hxs
          have hFb := freshTo_bd xs s (day + left) xs.length (Nat.le_refl _) (lotN_bd HXO.out)
          have FR2 := Lib.hid (FR.out s w22 HG22.out.gr)
          obtain ⟨F, hF⟩ : ∃ F, F = freshTo xs s (day + left) xs.length := ⟨_, rfl⟩
          rw [← hF] at FR2 hFb
          have hF2 : F ≤ 2000000 := by omega
          obtain ⟨hF0, -⟩ := hFb
          clear hfs hl2 hlt g22 hz22 hr hG hr22 hF hxs
          go_wp2_with (fail)
          refine FR2.out.mono ?_
          rintro e w23 ⟨rfl, g23⟩
          have HG23 := Lib.hid (HG22.out.keep0 g23)
          have HR23 := Lib.hid (HR22.out.keep0 g23)
          clear g23 FR2 HG22 HR22
          by_cases hge : x ≤ F
          · have hgd : decide (x ≤ F) = true := decide_eq_true hge
            go_wp2_with (fail)
            go_roundw
            case rel => exact ⟨_, _, _, HR23.out, HG23.out⟩
            case measure => rw [HR23.out.left, HRo.out.left]; exact HLT.out
          · have hgd : decide (x ≤ F) = false := decide_eq_false hge
            have T0 : Hid (TwoI w23 w23.heap.size (.slice none 0 0) (.slice none 0 0) [] []) := ⟨World.ownsRow_nil _ _ _ _, World.ownsRow_nil _ _ _ _, fun k hk => by simp [Value.ownBlock] at hk⟩
            have hbase : gg < w23.heap.size := (HG23.out.own.lt gg rfl).2
            have S0 : Hid ((0 : Int) = needSum (N.take 0) s) := by show _ = _; simp [needSum]
            go_wp2_with (fail)
            go_loopw [19, 20, 76] (fun u v i wr => ∃ (k : Nat) (A D : List Int) (u' v' : Value), k ≤ N.length ∧ i = .int .i64 k ∧ u' = u ∧ v' = v ∧ TwoI wr w23.heap.size u' v' A D ∧ A.length = D.length ∧ A.length ≤ k ∧ (∀ y ∈ A, ∃ j : Nat, j < N.length ∧ y = (j : Int)) ∧ (∀ y ∈ D, 0 ≤ y ∧ y ≤ 1000000) ∧ D.sum = needSum (N.take k) s ∧ w23.grownBy wr none) (fun _ _ i _ => N.length - (intOf i).toNat)
            case atStart => exact ⟨0, [], [], _, _, Nat.zero_le _, rfl, rfl, rfl, T0.out, rfl, Nat.le_refl _, (fun y hy => by cases hy), (fun y hy => by cases hy), S0.out, gr_refl _ _⟩
            case round =>
              clear T0 S0
              obtain ⟨k, A, D, u, v, hk, rfl, rfl, rfl, hT, hAD, hAk, hA, hDb, hDs, hgr⟩ := hrel
              obtain ⟨wj, rfl⟩ : ∃ wj : World, wj = wr := ⟨_, rfl⟩
              by_cases hkl : k < N.length
              · obtain ⟨b, off, rfl, d0, d1, d2⟩ := need_cells (H.out.keep0 (gr_trans HG23.out.gr hgr)) k hkl
                have hno := HOK.out k hkl
                have hlo := hno.lo
                have hhi := hno.hi
                have hnx := needSum_next N k hkl s
                obtain ⟨y, hy⟩ : ∃ y, y = N[k] := ⟨_, rfl⟩
                rw [← hy] at d0 d1 d2 hlo hhi hnx
                obtain ⟨P, R, M⟩ := y
                simp only at d0 d1 d2 hlo hhi hnx
                have g3 := gr_alloc (gr_refl wj none) (.cells #[.string P, .string R, .int .i64 M] 32)
                have hV := heap_alloc_new wj (.cells #[.string P, .string R, .int .i64 M] 32)
                have hsz := hgr.size
                clear hy hno
                cases hq : (R.toList == s.toList) with
                | false =>
                  have hne : ¬ R = s := fun e => by rw [e] at hq; simp at hq
                  rw [if_neg hne, Int.add_zero] at hnx
                  have HN := Lib.hid hnx
                  have HT := Lib.hid (hT.keep0 g3)
                  have HA2 := Lib.hid hA
                  have HD2 := Lib.hid hDb
                  have HDS := Lib.hid hDs
                  have HGR := Lib.hid (gr_trans hgr g3)
                  clear hnx hT hA hDb hDs hgr g3 hV hne
                  go_wp2_with (fail)
                  go_roundw
                  case rel => exact ⟨k + 1, A, D, _, _, by omega, by go_num, rfl, rfl, HT.out, hAD, by omega, HA2.out, HD2.out, by rw [HN.out]; exact HDS.out, HGR.out⟩
                  case measure => simp [intOf]; omega
                | true =>
                  have heq : R = s := bytes_of (by simpa using hq)
                  rw [if_pos heq] at hnx
                  have HN := Lib.hid hnx
                  have HA2 := Lib.hid hA
                  have HD2 := Lib.hid hDb
                  have HDS := Lib.hid hDs
                  obtain ⟨w3, hw3⟩ : ∃ w3, w3 = wj.alloc (.cells #[.string P, .string R, .int .i64 M] 32) := ⟨_, rfl⟩
                  rw [← hw3] at g3 hV
                  have HW3 := Lib.hid hw3
                  have HT3 := Lib.hid (hT.keep0 g3)
                  have HGR := Lib.hid (gr_trans hgr g3)
                  have hz3 := g3.size
                  have HV := Lib.hid hV
                  clear hnx hT hA hDb hDs hgr g3 hV heq hw3
                  go_upto_region 20 with (fail)
                  rw [← HW3.out]
                  have hgd := gr_drew (gr_refl w3 none)
                  have v2 : w3.cell? ⟨wj.heap.size, 2, none⟩ = some (.int .i64 M) := blkC HV.out 2 rfl
                  have hl3 := lt_of_block HV.out
                  have hlu : ∀ b, w3.heap.size ≤ b → some b ≠ u.ownBlock := fun b hb e => by have := (HT3.out.a.lt b e.symm).2; omega
                  have HLU := Lib.hid hlu
                  have hA7 : A.length ≤ 7 := by omega
                  have hD7 : D.length ≤ 7 := by omega
                  have hb3 : w23.heap.size ≤ w3.heap.size := Nat.le_trans hsz hz3
                  clear d0 d1 d2 hlu
                  go_region_law (first
                    | (refine step_appN eInt rfl _ _ rfl w23.heap.size u A.length (ints A) rfl ?_ (some ⟨_, 0, none⟩) 1 1 [.int .i64 k] rfl rfl ?_ (fun e => by cases e) ?_ ?_ ?_ ?_; (· first | exact own_keep0 HT3.out.a (gr_alloc hgd _) | exact own_keep0 HT3.out.a (gr_alloc (gr_alloc hgd _) _)); (· first | exact (CellsAt.new w3 #[.int .i64 k] 3).keep0 (gr_drew (gr_refl _ _)) | exact ((CellsAt.new w3 #[.int .i64 k] 3).keep0 (gr_alloc (gr_refl _ _) _)).keep0 (gr_drew (gr_refl _ _)) | exact (CellsAt.new2 w3 _ #[.int .i64 k] 3).keep0 (gr_drew (gr_refl _ _))); (· intro z hz; simp at hz; subst hz; rfl); (· omega); (· first | exact Nat.le_trans hb3 (gr_alloc hgd _).size | exact Nat.le_trans hb3 (gr_alloc (gr_alloc hgd _) _).size); intro v6 w6 o6 g6 hl6 hf6; (first | have S6 := TwoI.step1 HT3.out (gr_alloc hgd _) o6 g6 hf6 HV.out (by decide) | have S6 := TwoI.step1 HT3.out (gr_alloc (gr_alloc hgd _) _) o6 g6 hf6 HV.out (by decide)); obtain ⟨T6, V6, G6⟩ := S6; have v2 : w6.cell? ⟨wj.heap.size, 2, none⟩ = some (.int .i64 M) := blkC V6 2 rfl; have hl6' := lt_of_block V6; (try have C2 := ((CellsAt.new2 w3 (.cells #[.int .i64 k] 3) #[.int .i64 M] 3).keep0 (gr_drew (gr_refl _ _))).keep g6 (fun b off e => by cases e; exact HLU.out _ (Nat.le_succ _))); (try have C2 := (((CellsAt.new w3 #[.int .i64 M] 3).keep0 (gr_alloc (gr_refl _ _) (.cells #[.int .i64 k] 3))).keep0 (gr_drew (gr_refl _ _))).keep g6 (fun b off e => by cases e; exact HLU.out _ (Nat.le_refl _))))
                    | (refine step_appN eInt rfl _ _ rfl w23.heap.size v D.length (ints D) rfl ?_ (some ⟨_, 0, none⟩) 1 1 [.int .i64 M] rfl rfl ?_ (fun e => by cases e) ?_ ?_ ?_ ?_; (· first | exact T6.b | exact own_keep0 T6.b (gr_alloc (gr_refl _ _) _)); (· first | exact C2 | exact CellsAt.new _ #[.int .i64 M] _ | simpa using C2); (· intro z hz; simp at hz; subst hz; rfl); (· omega); (· first | exact (G6 w23 (Nat.le_refl _) HGR.out).size | exact (gr_alloc (G6 w23 (Nat.le_refl _) HGR.out) _).size); intro v8 w8 o8 g8 hl8 hf8; (first | have S8 := TwoI.step2 T6 (gr_refl _ _) o8 g8 hf8 V6 (by decide) | have S8 := TwoI.step2 T6 (gr_alloc (gr_refl _ _) _) o8 g8 hf8 V6 (by decide)); obtain ⟨T8, V8, G8⟩ := S8)
                    | fail)
                  all_goals (go_wp2_with (fail))
                  all_goals go_roundw
                  all_goals first | (simp [intOf]; omega; done) | skip
                  all_goals
                    refine ⟨k + 1, A ++ [(k : Int)], D ++ [M], v6, v8, by omega, by go_num, rfl, rfl, T8, by simp [hAD], by simp; omega, ?_, ?_, ?_, G8 w23 (Nat.le_refl _) (G6 w23 (Nat.le_refl _) HGR.out)⟩
                    · intro y hy
                      rcases List.mem_append.1 hy with hy | hy
                      · exact HA2.out y hy
                      · exact ⟨k, hkl, by simpa using hy⟩
                    · intro y hy
                      rcases List.mem_append.1 hy with hy | hy
                      · exact HD2.out y hy
                      · have e : y = M := by simpa using hy
                        omega
                    · rw [HN.out, ← HDS.out]; simp
              · obtain rfl : k = N.length := by omega
                rw [List.take_length, ← HXS.out] at hDs
                have hAD7 : A.length ≤ 7 := by omega
                have hx0 : 0 < D.sum := by omega
                obtain ⟨ua, uc, rfl, -, -, -, -⟩ := own_shape hT.a
                obtain ⟨va, vc, rfl, -, -, cD, -⟩ := own_shape hT.b
                have SH := Lib.hid (meterShare_ok F D va vc wj cD (by omega) hF0 (by omega) hx0 hDb)
                have HGj := Lib.hid (HG23.out.keep0 hgr)
                have HRj := Lib.hid (HR23.out.keep0 hgr)
                have HOA := Lib.hid hT.a
                have HA2 := Lib.hid hA
                have HD2 := Lib.hid hDb
                have hbj : gg < wj.heap.size := (HGj.out.own.lt gg rfl).2
                have HX0 := Lib.hid hx0
                clear hT cD hDs hA hDb hgr HR23 HG23
                go_wp2_with (fail)
                refine SH.out.mono ?_
                rintro e w24 ⟨pv, Pl, rfl, op, hSh, g24⟩
                obtain ⟨pa, pc, rfl, -, -, -, -⟩ := own_shape op
                have HOP := Lib.hid op
                have HSh := Lib.hid hSh
                have HG24 := Lib.hid (HGj.out.keep0 g24)
                have HR24 : Hid (∃ lf c2, c2 < cnt ∧ RangeIs w24 B ib N.length f lf c2) := ⟨_, _, HLT.out, HRj.out.keep0 g24⟩
                have HOA24 := Lib.hid (own_keep0 HOA.out g24)
                clear op hSh g24 SH HGj HRj HOA
                go_wp2_with (fail)
                go_loopw [106] (fun i wr => ∃ (t : Nat) (gl2 : List Int), t ≤ A.length ∧ i = .int .i64 t ∧ GetsW wr w gg N.length gl2 ∧ wr.ownsRow w23.heap.size 3 1 (.slice ua A.length uc) A.length (ints A) ∧ wr.ownsRow wj.heap.size 3 1 (.slice pa D.length pc) D.length (ints Pl) ∧ ∃ lf c2, c2 < cnt ∧ RangeIs wr B ib N.length f lf c2) (fun i _ => A.length - (intOf i).toNat)
                case atStart => exact ⟨0, gl, Nat.zero_le _, rfl, HG24.out, HOA24.out, HOP.out, HR24.out⟩
                case round =>
                  clear HG24 HOA24 HOP HR24
                  obtain ⟨t, gl2, ht, rfl, hG, hOA, hOP, lf, c2, hc2, hRg⟩ := hrel
                  obtain ⟨wz, rfl⟩ : ∃ wz : World, wz = wr := ⟨_, rfl⟩
                  by_cases htl : t < A.length
                  · have htd : t < D.length := by omega
                    obtain ⟨ug, uc2, e, -, -, -, -⟩ := own_some hOA (by omega)
                    cases e
                    obtain ⟨pg, pc2, e, -, -, -, -⟩ := own_some hOP (by omega)
                    cases e
                    obtain ⟨j, hj, hAt⟩ := HA2.out _ (List.getElem_mem htl)
                    have d0 := (own_int hOA t htl).1
                    rw [getD_eq A t 0 htl, hAt] at d0
                    have d1 := (own_int hOP t htd).1
                    obtain ⟨hp0, hp1⟩ := share_each HSh.out hF0 HX0.out (fun x hx => (HD2.out x hx).1) rfl t htd
                    obtain ⟨y, hy⟩ : ∃ y, y = Pl.getD t 0 := ⟨_, rfl⟩
                    rw [← hy] at d1 hp0 hp1
                    obtain ⟨e1, f1, -⟩ := own_int hG.own j hj
                    have gs : wz.grownBy (wz.setCell ⟨gg, j, none⟩ (.int .i64 y)) (some gg) := gr_set (gr_refl _ _) rfl _
                    have HGS := Lib.hid (hG.set j hj y (by omega))
                    have HAS := Lib.hid (own_keepS hOA gs (by omega))
                    have HPS := Lib.hid (own_keepS hOP gs (by omega))
                    have HRS := Lib.hid (hRg.keep gs (fun e => by injection e with e; omega) (fun e => by injection e with e; omega))
                    have hj0 : (0 : Int) ≤ (j : Int) := by omega
                    have hj1 : (j : Int) < (N.length : Int) := by omega
                    have htd2 : (t : Int) < (D.length : Int) := by omega
                    clear hG hOA hOP hRg gs hy hAt
                    go_wp2_with (fail)
                    go_roundw
                    case rel => exact ⟨t + 1, _, by omega, by go_num, HGS.out, HAS.out, HPS.out, lf, c2, hc2, HRS.out⟩
                    case measure => simp [intOf]; omega
                  · obtain rfl : t = A.length := by omega
                    have HG := Lib.hid hG
                    have HRg := Lib.hid hRg
                    have HC2 := Lib.hid hc2
                    clear hG hOA hOP hRg hc2
                    go_wp2_with (fail)
                    go_roundw
                    case rel => exact ⟨_, _, _, HRg.out, HG.out⟩
                    case measure => rw [HRg.out.left, HRo.out.left]; exact HC2.out
end Go.Proofs.YtdminjijhpemkaaGreatDoor

/-! Kits are picked for all needs: how many units a kit holds, and of what product (written by gen_kitsb.py out of XKits). -/
namespace Go.Proofs.YtdminjijhpemkaaGreatDoor
open Go.RowKit
attribute [local go_sem ↓] Go.wp_at_zero Go.wp_at_succ

/-- What stands while the counts are cut down: the counts, bounded. -/
structure GetsB (Bd : Int) (wr w : World) (gg n : Nat) (gl : List Int) : Prop where
  own : wr.ownsRow gg 3 1 (.slice (some ⟨gg, 0, none⟩) n n) n (ints gl)
  bd : ∀ x ∈ gl, 0 ≤ x ∧ x ≤ Bd
  gr : w.grownBy wr none
  gw : w.heap.size ≤ gg
theorem GetsB.keep0 {Bd : Int} {wr w1 w : World} {gg n : Nat} {gl : List Int} (h : GetsB Bd wr w gg n gl) (g : wr.grownBy w1 none) : GetsB Bd w1 w gg n gl := ⟨own_keep0 h.own g, h.bd, gr_trans h.gr g, h.gw⟩
theorem GetsB.set {Bd : Int} {wr w : World} {gg n : Nat} {gl : List Int} (h : GetsB Bd wr w gg n gl) (k : Nat) (hk : k < n) (x : Int) (hx : 0 ≤ x ∧ x ≤ Bd) : GetsB Bd (wr.setCell ⟨gg, k, none⟩ (.int .i64 x)) w gg n (gl.set k x) :=
  ⟨(own_int h.own k hk).2.2 x, fun y hy => by
    rcases List.mem_or_eq_of_mem_set hy with hy | rfl
    · exact h.bd y hy
    · exact hx, gr_new h.gr h.gw _, h.gw⟩
theorem outP_mem (xs : List Lot) : ∀ (ord : List Nat) (m : Int), ∀ p ∈ outP xs ord m, 1 ≤ p.many ∧ ∃ i ∈ ord, p.lot = (lotN xs i).id
  | [], _, p, h => by cases h
  | i :: r, m, p, h => by
    unfold outP at h
    split at h
    · rename_i hp
      rcases List.mem_cons.1 h with rfl | h
      · exact ⟨by show 1 ≤ min m (lotN xs i).many; omega, i, List.mem_cons_self .., rfl⟩
      · obtain ⟨h1, j, hj, e⟩ := outP_mem xs r _ p h
        exact ⟨h1, j, List.mem_cons_of_mem _ hj, e⟩
    · obtain ⟨h1, j, hj, e⟩ := outP_mem xs r _ p h
      exact ⟨h1, j, List.mem_cons_of_mem _ hj, e⟩
/-- A kit holds what was wanted of its product, and no more than it may. -/
structure KitGood (xs : List Lot) (N : List Need) (Bd : Int) (k : KitV) : Prop where
  prod : ∃ j, ∃ h : j < N.length, k.prod = N[j].prod
  fit : ∀ p ∈ k.ps, 1 ≤ p.many ∧ ∃ i, i < xs.length ∧ p.lot = (lotN xs i).id ∧ (lotN xs i).prod = k.prod
  sum : pcSum k.ps ≤ Bd
theorem kit_good {xs L : List Lot} {N : List Need} {Bd m d : Int} {ps0 : List Piece} {P R : ByteArray} {pv : Value} {ord : List Nat} (j : Nat) (hj : j < N.length) (hR : N[j].prod = R) (hk : Keeps xs L ps0 100000) (ho : OrdOk L R d ord) (hm : 0 ≤ m ∧ m ≤ Bd) : KitGood xs N Bd ⟨P, R, pv, (takeTo ord L m ord.length).1⟩ := by
  have hlt : ∀ i ∈ ord, i < L.length := ho.lt
  have e := takeTo_out L ord m ho.nodup hlt
  have hLl := hk.len
  refine ⟨⟨j, hj, hR.symm⟩, fun p hp => ?_, ?_⟩
  · simp only [e] at hp
    obtain ⟨h1, i, hi, h2⟩ := outP_mem L ord m p hp
    have hil : i < xs.length := by have := hlt i hi; omega
    obtain ⟨s1, s2, _⟩ := hk.same i hil
    have hc := (pickOrd_mem.1 (ho.perm.mem_iff.1 hi)).2
    refine ⟨h1, i, hil, h2.trans s1, ?_⟩
    unfold canGo at hc
    rw [Bool.and_eq_true] at hc
    exact s2.symm.trans (bytes_of (by simpa using hc.1))
  · show pcSum (takeTo ord L m ord.length).1 ≤ Bd
    rw [e, outP_sum L ord m hm.1 (fun i hi => (hk.bd i (by have := hlt i hi; omega)).1)]
    omega
def KitPostB (xs : List Lot) (N : List Need) (Bd : Int) (w : World) (e : Ending) (w' : World) : Prop := ∃ kv rv ks L, e = .returned (.tuple #[kv, rv, .int .i64 0]) ∧ ks.length = N.length ∧ w'.ownsRow w.heap.size 42 3 kv ks.length (flat encKit ks) ∧ w'.ownsRow w.heap.size 39 4 rv xs.length (flat encLot L) ∧
  (∀ k ∈ ks, ∃ b, w'.ownsRow b 53 2 k.pv k.ps.length (flat encPc k.ps)) ∧ Keeps xs L (allPs ks) 100000 ∧ (∀ k ∈ ks, KitGood xs N Bd k) ∧ w.grownBy w' none
set_option maxRecDepth 100000 in
set_option maxHeartbeats 8000000 in
theorem kit_okB (Bd : Int) (hBd : 0 ≤ Bd ∧ Bd ≤ 100000000) (xs : List Lot) (xa : Option Addr) (xc : Nat) (N : List Need) (day left : Int) (a : Option Addr) (c : Nat) (w : World) (hx : CellsAt w xa (flat encLot xs)) (hnil : xa = none → xc = 0) (hxo : LotsOk xs) (hxl : xs.length < 20) (hap : Apart xs) (h : CellsAt w a (flat encNeed N)) (hsm : NeedsSm N) (hok : NeedsOk N) (hd : 0 ≤ day ∧ day ≤ 4000) (hf : 0 ≤ left ∧ left ≤ 4000) (hB1 : ∀ k (h : k < N.length), N[k].many ≤ Bd) (hB2 : ∀ s, needSum N s ≤ Bd) :
    Calls Tryz.prog 8 #[.slice xa xs.length xc, .slice a N.length c, .int .i64 day, .int .i64 left] w (KitPostB xs N Bd w) := by
  have WA := Lib.hid (wanted_ok xs xa xc N day left a c w hx hxo h hsm hok hd hf)
  have FR : Hid (∀ (P : ByteArray) (W : World), w.grownBy W none → Calls Tryz.prog 41 #[.slice xa xs.length xc, .string P, .int .i64 (day + left)] W fun e w' => e = .returned (.int .i64 (freshTo xs P (day + left) xs.length)) ∧ W.grownBy w' none) := fun P W g => fresh_any P (day + left) xs xa xc W (hx.keep0 g) (by omega) (lotN_bd hxo)
  have CL : Hid (∀ W, w.grownBy W none → Calls Tryz.prog 43 #[.slice xa xs.length xc] W fun e w' => ∃ v, e = .returned v ∧ w'.ownsRow W.heap.size 39 4 v xs.length (flat encLot xs) ∧ W.grownBy w' none) :=
    fun W g => cloneLot_any xa xs.length xc (flat encLot xs) W (flat_length encLot_len _) (hx.keep0 g) (fun e => ⟨nil_of_lots hx e, hnil e⟩) (flat_ones encLot_one _) (by omega)
  have H := Lib.hid h
  have HSM := Lib.hid hsm
  have HOK := Lib.hid hok
  have HXO := Lib.hid hxo
  have HAP := Lib.hid hap
  have hnl := hsm.len
  have hw : IntKind.i64.wrap (day + left) = day + left := IntWalk.i64_in _ (by omega)
  have HB1 := Lib.hid hB1
  have HB2 := Lib.hid hB2
  clear hx hnil hxo hap h hsm hok hB1 hB2
  go_enter Tryz.func8, Tryz.ntmps8
  go_wp2_with (fail)
  refine WA.out.mono ?_
  rintro e w1 ⟨B, rfl, hBw, hM, g1⟩
  have HM := Lib.hid hM
  have G1 := Lib.hid g1
  have HBW := Lib.hid hBw
  clear hM g1 hBw WA
  go_upto_region 5 with (at_make; refine wpList_mk _ eInt rfl _ _ rfl w1.heap.size _ N.length rfl rfl rfl ?_ ?_ ?_; (· omega); (· omega); intro w2 o2 g2)
  obtain ⟨gg, hgg⟩ : ∃ G, G = w1.heap.size := ⟨_, rfl⟩
  rw [← hgg] at o2
  rw [← hgg]
  have hBg : B < gg := by rw [hgg]; exact HM.out.lt
  have GW2 : Hid (GetsB Bd w2 w gg N.length (List.replicate N.length 0)) := ⟨o2, fun x hx => by rw [(List.mem_replicate.1 hx).2]; omega, gr_trans G1.out g2, by rw [hgg]; exact G1.out.size⟩
  have HM2 := Lib.hid (HM.out.keep0 g2)
  clear o2 g2 hgg HM
  go_wp2_with (fail)
  go_loopw [47] (fun i wr => ∃ (k : Nat) (gl : List Int), k ≤ N.length ∧ i = .int .i64 k ∧ GetsB Bd wr w gg N.length gl ∧ MapIs wr B N.length (needMap N)) (fun i _ => N.length - (intOf i).toNat)
  case atStart => exact ⟨0, _, Nat.zero_le _, rfl, GW2.out, HM2.out⟩
  case round =>
    clear GW2 HM2
    obtain ⟨k, gl, hk, rfl, hG, hMp⟩ := hrel
    obtain ⟨wo, rfl⟩ : ∃ wo : World, wo = wr := ⟨_, rfl⟩
    by_cases hlt : k < N.length
    · obtain ⟨b, off, rfl, d0, d1, d2⟩ := need_cells (H.out.keep0 hG.gr) k hlt
      have ho := HOK.out k hlt
      have hlo := ho.lo
      have hhi := ho.hi
      have hB := HB1.out k hlt
      obtain ⟨x, hx⟩ : ∃ x, x = N[k] := ⟨_, rfl⟩
      rw [← hx] at d0 d1 d2 hlo hhi hB
      obtain ⟨P, R, M⟩ := x
      simp only at d0 d1 d2 hlo hhi hB
      have g3 := gr_alloc (gr_refl wo none) (.cells #[.string P, .string R, .int .i64 M] 32)
      obtain ⟨w3, hw3⟩ : ∃ w3, w3 = wo.alloc (.cells #[.string P, .string R, .int .i64 M] 32) := ⟨_, rfl⟩
      have hV := heap_alloc_new wo (.cells #[.string P, .string R, .int .i64 M] 32)
      rw [← hw3] at g3 hV
      have hG3 := hG.keep0 g3
      obtain ⟨e1, f1, -⟩ := own_int hG3.own k hlt
      have v2 : w3.cell? ⟨wo.heap.size, 2, none⟩ = some (.int .i64 M) := blkC hV 2 rfl
      have HGS := Lib.hid (hG3.set k hlt M (by omega))
      have HMS := Lib.hid ((hMp.keep0 g3).keep (gr_set (q := ⟨gg, k, none⟩) (gr_refl w3 (some gg)) rfl (.int .i64 M)) (fun e => by injection e with e; omega))
      have HW3 := Lib.hid hw3
      clear hx hG hG3 g3 hV hMp hw3 ho
      go_upto_region 8 with (fail)
      rw [← HW3.out]
      go_wp2_with (fail)
      go_roundw
      case rel => exact ⟨k + 1, _, by omega, by go_num, HGS.out, HMS.out⟩
      case measure => simp [intOf]; omega
    · obtain rfl : k = N.length := by omega
      have HG := Lib.hid hG
      have HMp := Lib.hid hMp
      clear hG hMp
      obtain ⟨f, hf⟩ : ∃ f, f = needMap N := ⟨_, rfl⟩
      rw [← hf] at HMp
      have HF : Hid (∀ s x, f s = some x → s.size ≤ 3 ∧ x = needSum N s) := fun s x h => by
        rw [hf] at h
        obtain ⟨e1, e2, -⟩ := needMap_key HSM.out.all h
        exact ⟨e1, e2⟩
      clear hf
      go_wp2_with (first | (at_range; refine wpList_rangeSI rfl _ rfl B N.length f rfl HMp.out ?_; intro w5 lft cnt hr hleft g5 hz5))
      go_frame
      have HR5 := Lib.hid hr
      have HG5 := Lib.hid (HG.out.keep0 g5)
      obtain ⟨ib, hib⟩ : ∃ b, b = wo.heap.size := ⟨_, rfl⟩
      rw [← hib] at HR5
      rw [← hib]
      have hibg : gg < ib := by rw [hib]; exact (HG.out.own.lt gg rfl).2
      have hibl : w.heap.size ≤ ib := by rw [hib]; exact HG.out.gr.size
      clear hr hleft g5 hz5 hib HG HMp
      go_loopw [16] (fun _ wr => ∃ lft cnt gl, RangeIs wr B ib N.length f lft cnt ∧ GetsB Bd wr w gg N.length gl) (fun _ wr => wr.rangeLeft B ib)
      case atStart => exact ⟨_, _, _, HR5.out, HG5.out⟩
      case round =>
        clear HR5 HG5
        obtain ⟨lft, cnt, gl, hr, hG⟩ := hrel
        obtain ⟨wi, rfl⟩ : ∃ wi : World, wi = wr := ⟨_, rfl⟩
        go_wp2_with (first | (at_next; refine wpList_nextSI rfl _ rfl B ib N.length f lft cnt rfl hr ?_ ?_))
        · intro _
          have BD := Lib.hid hG.bd
          have HG := Lib.hid hG
          have CL2 := Lib.hid (CL.out wi hG.gr)
          clear hG hr
          go_wp2_with (fail)
          refine CL2.out.mono ?_
          rintro e w26 ⟨rv, rfl, o26, g26⟩
          have K0 : Hid (KitW w26 w gg gg N.length wi.heap.size w26.heap.size gl rv (.slice none 0 0) xs xs []) :=
            ⟨own_keep0 HG.out.own g26, o26, World.ownsRow_nil _ _ _ _, (fun k hk => by cases hk), Keeps.start (lotN_bd HXO.out), gr_trans HG.out.gr g26, HG.out.gr.size, Nat.le_trans HG.out.gr.size g26.size, Nat.le_refl _⟩
          obtain ⟨Rb, hRb⟩ : ∃ b, b = wi.heap.size := ⟨_, rfl⟩
          rw [← hRb] at K0
          have hgl : gl.length = N.length := by have := HG.out.own.1; simpa [ints] using this
          clear o26 g26 HG CL2 hRb
          go_wp2_with (fail)
          go_loopw [28, 123] (fun kv i wr => ∃ (k : Nat) (ks : List KitV) (L : List Lot) (kv' : Value), k ≤ N.length ∧ i = .int .i64 k ∧ kv' = kv ∧ ks.length = k ∧ KitW wr w gg gg N.length Rb w26.heap.size gl rv kv' xs L ks ∧ ∀ q ∈ ks, KitGood xs N Bd q) (fun _ i _ => N.length - (intOf i).toNat)
          case atStart => exact ⟨0, [], xs, _, Nat.zero_le _, rfl, rfl, rfl, K0.out, fun q hq => by cases hq⟩
          case round =>
            clear K0
            obtain ⟨k, ks, L, kv, hk, rfl, rfl, hks, hW, hKG⟩ := hrel
            have HKG := Lib.hid hKG
            clear hKG
            obtain ⟨wo, rfl⟩ : ∃ wo : World, wo = wr := ⟨_, rfl⟩
            by_cases hkl : k < N.length
            · obtain ⟨b, off, rfl, d0, d1, d2⟩ := need_cells (H.out.keep0 hW.gr) k hkl
              obtain ⟨y, hy⟩ : ∃ y, y = N[k] := ⟨_, rfl⟩
              rw [← hy] at d0 d1 d2
              obtain ⟨P, R, M⟩ := y
              have HYR : Hid (N[k].prod = R) := by show _ = _; rw [← hy]
              simp only at d0 d1 d2
              have g3 := gr_alloc (gr_refl wo none) (.cells #[.string P, .string R, .int .i64 M] 32)
              have hV := heap_alloc_new wo (.cells #[.string P, .string R, .int .i64 M] 32)
              obtain ⟨w3, hw3⟩ : ∃ w3, w3 = wo.alloc (.cells #[.string P, .string R, .int .i64 M] 32) := ⟨_, rfl⟩
              rw [← hw3] at g3 hV
              have HW3 := Lib.hid hw3
              have K3 := Lib.hid (hW.keep0 (gr_drew g3))
              have hVd : w3.drew.heap[wo.heap.size]? = some (.cells #[.string P, .string R, .int .i64 M] 32 (0, 0)) := hV
              have HVD := Lib.hid hVd
              have hm := BD.out _ (List.getElem_mem (show k < gl.length by omega))
              have e0 := (own_int K3.out.gets k hkl).1
              rw [getD_eq gl k 0 (by omega)] at e0
              obtain ⟨m, hme⟩ : ∃ m, m = gl[k] := ⟨_, rfl⟩
              rw [← hme] at hm e0
              have hLl := hW.keeps.len
              have PK := Lib.hid (picked_all R m (day + left) L rv xs.length Rb w3.drew K3.out.rest hLl hxl hm.1 (by omega) (fun i hi => hW.keeps.bd i (by omega)))
              have HKP := Lib.hid hW.keeps
              have hkz : ks.length ≤ 7 := by omega
              clear hy hV hVd hw3 hW g3
              go_upto_region 35 with (fail)
              rw [← HW3.out]
              have v0 := blkC HVD.out 0 rfl
              have v1 : w3.drew.cell? ⟨wo.heap.size, 1, none⟩ = some (.string R) := blkC HVD.out 1 rfl
              have HGE : Hid (∀ W : World, W.ownsRow gg 3 1 (.slice (some ⟨gg, 0, none⟩) N.length N.length) N.length (ints gl) → W.cell? ⟨gg, k, none⟩ = some (.int .i64 m)) := fun W o => by
                have := (own_int o k hkl).1
                rw [getD_eq gl k 0 (by omega), ← hme] at this
                exact this
              have HLl := Lib.hid hLl
              clear hme d0 d1 d2 hLl
              go_region_held3 (fun w' => w'.cell? ⟨wo.heap.size, 0, none⟩ = some (.string P) ∧ w'.cell? ⟨wo.heap.size, 1, none⟩ = some (.string R) ∧ w'.cell? ⟨gg, k, none⟩ = some (.int .i64 m))
                (first | exact ⟨v0, v1, e0⟩ | exact ⟨t0, t1, te⟩ | exact ⟨cellUp t0 _, cellUp t1 _, cellUp te _⟩ | exact ⟨u0, u1, ue⟩)
                (first | (go_at_call 44; go_fit PK.out; rintro e w5 ⟨ord, pv, rfl, hord, op, ol, g5⟩; have hkp5 : Keeps xs (takeTo ord L m ord.length).2.1 (allPs ks ++ (takeTo ord L m ord.length).1) 100000 := Keeps.take HAP.out HKP.out ord (fun i hi => by have h1 := hord.lt i hi; have h2 := HLl.out; omega) ord.length; have hkg : ∀ pv2 : Value, KitGood xs N Bd ⟨P, R, pv2, (takeTo ord L m ord.length).1⟩ := (fun pv2 => kit_good k hkl HYR.out HKP.out hord hm); obtain ⟨ps, hps⟩ : ∃ ps, ps = (takeTo ord L m ord.length).1 := ⟨_, rfl⟩; rw [← hps] at hkg; have HKG2 := Lib.hid hkg; clear hkg; obtain ⟨L2, hL2⟩ : ∃ L2, L2 = (takeTo ord L m ord.length).2.1 := ⟨_, rfl⟩; rw [← hps] at op; rw [← hL2] at ol; rw [← hps, ← hL2] at hkp5; have HKP5 := Lib.hid hkp5; clear hkp5; obtain ⟨pa, pc, rfl, -, -, -, -⟩ := own_shape op; have KP := Lib.hid (K3.out.pick g5); have hV5 := held_own K3.out.rest HVD.out g5 (by decide); have HV5 := Lib.hid hV5; have t0 := blkC hV5 0 rfl; have t1 : w5.cell? ⟨wo.heap.size, 1, none⟩ = some (.string R) := blkC hV5 1 rfl; have te := HGE.out w5 KP.out.1; have OP := Lib.hid op; have OL := Lib.hid ol; have HG5 := Lib.hid g5; clear op ol g5 hord hps hL2 hV5) | (revert t0; intro t0; refine step_app1 eKit rfl _ _ rfl w26.heap.size kv ks.length (flat encKit ks) rfl w5 #[.string P, .string R, .slice pa ps.length pc] rfl KP.out.2.1 _ rfl rfl rfl rfl ?_ ?_ ?_; (· omega); (· exact Nat.le_trans K3.out.zK HG5.out.size); intro v8 w8 o8 g8 hl8 hk8; have K8 := Lib.hid (K3.out.app HG5.out OL.out OP.out o8 g8 HKP5.out); have hV8 := held_own KP.out.2.1 HV5.out g8 (by decide); have u0 := blkC hV8 0 rfl; have u1 : w8.cell? ⟨wo.heap.size, 1, none⟩ = some (.string R) := blkC hV8 1 rfl; have ue := HGE.out w8 K8.out.gets; clear o8 g8 hl8 hk8 hV8))
              all_goals (go_wp2_with (fail))
              all_goals go_roundw
              all_goals first | (simp [intOf]; omega; done) | skip
              all_goals exact ⟨k + 1, ks ++ [⟨P, R, .slice pa ps.length pc, ps⟩], L2, v8, by omega, by go_num, rfl, by simp [hks], K8.out, fun q hq => (List.mem_append.1 hq).elim (fun h => HKG.out q h) (fun h => by have e : q = ⟨P, R, .slice pa ps.length pc, ps⟩ := (by simpa using h); rw [e]; exact HKG2.out _)⟩
            · obtain rfl : k = N.length := by omega
              have HW := Lib.hid hW
              obtain ⟨ka, kc, rfl, -, -, -, -⟩ := own_shape hW.kits
              obtain ⟨ra, rc, rfl, -, -, -, -⟩ := own_shape hW.rest
              clear hW
              go_wp2_with (fail)
              go_ret3
              exact ⟨_, _, ks, L, rfl, hks, own_base HW.out.kits HW.out.hK, own_base HW.out.rest HW.out.hR, HW.out.pcs, HW.out.keeps, HKG.out, HW.out.gr⟩
        · intro s x w22 cnt' hfs hl2 hr22 hlt g22 hz22 hen
          obtain ⟨hss, hxs⟩ := HF.out s x hfs
          have HG22 : Hid (GetsB Bd w22 w gg N.length gl) := ⟨own_keep hG.own g22 (.inr (fun e => by simp [Value.ownBlock] at e; omega)), hG.bd, gr_grown hG.gr g22 (fun k hk => by cases hk; exact hibl), hG.gw⟩
          have HR22 := Lib.hid hr22
          have HLT := Lib.hid hlt
          have HRo := Lib.hid hr
          have HXS := Lib.hid hxs
          have hFb := freshTo_bd xs s (day + left) xs.length (Nat.le_refl _) (lotN_bd HXO.out)
          have FR2 := Lib.hid (FR.out s w22 HG22.out.gr)
          obtain ⟨F, hF⟩ : ∃ F, F = freshTo xs s (day + left) xs.length := ⟨_, rfl⟩
          rw [← hF] at FR2 hFb
          have hF2 : F ≤ 2000000 := by omega
          obtain ⟨hF0, -⟩ := hFb
          clear hfs hl2 hlt g22 hz22 hr hG hr22 hF hxs
          go_wp2_with (fail)
          refine FR2.out.mono ?_
          rintro e w23 ⟨rfl, g23⟩
          have HG23 := Lib.hid (HG22.out.keep0 g23)
          have HR23 := Lib.hid (HR22.out.keep0 g23)
          clear g23 FR2 HG22 HR22
          by_cases hge : x ≤ F
          · have hgd : decide (x ≤ F) = true := decide_eq_true hge
            go_wp2_with (fail)
            go_roundw
            case rel => exact ⟨_, _, _, HR23.out, HG23.out⟩
            case measure => rw [HR23.out.left, HRo.out.left]; exact HLT.out
          · have hgd : decide (x ≤ F) = false := decide_eq_false hge
            have T0 : Hid (TwoI w23 w23.heap.size (.slice none 0 0) (.slice none 0 0) [] []) := ⟨World.ownsRow_nil _ _ _ _, World.ownsRow_nil _ _ _ _, fun k hk => by simp [Value.ownBlock] at hk⟩
            have hbase : gg < w23.heap.size := (HG23.out.own.lt gg rfl).2
            have S0 : Hid ((0 : Int) = needSum (N.take 0) s) := by show _ = _; simp [needSum]
            go_wp2_with (fail)
            go_loopw [19, 20, 76] (fun u v i wr => ∃ (k : Nat) (A D : List Int) (u' v' : Value), k ≤ N.length ∧ i = .int .i64 k ∧ u' = u ∧ v' = v ∧ TwoI wr w23.heap.size u' v' A D ∧ A.length = D.length ∧ A.length ≤ k ∧ (∀ y ∈ A, ∃ j : Nat, j < N.length ∧ y = (j : Int)) ∧ (∀ y ∈ D, 0 ≤ y ∧ y ≤ 1000000) ∧ D.sum = needSum (N.take k) s ∧ w23.grownBy wr none) (fun _ _ i _ => N.length - (intOf i).toNat)
            case atStart => exact ⟨0, [], [], _, _, Nat.zero_le _, rfl, rfl, rfl, T0.out, rfl, Nat.le_refl _, (fun y hy => by cases hy), (fun y hy => by cases hy), S0.out, gr_refl _ _⟩
            case round =>
              clear T0 S0
              obtain ⟨k, A, D, u, v, hk, rfl, rfl, rfl, hT, hAD, hAk, hA, hDb, hDs, hgr⟩ := hrel
              obtain ⟨wj, rfl⟩ : ∃ wj : World, wj = wr := ⟨_, rfl⟩
              by_cases hkl : k < N.length
              · obtain ⟨b, off, rfl, d0, d1, d2⟩ := need_cells (H.out.keep0 (gr_trans HG23.out.gr hgr)) k hkl
                have hno := HOK.out k hkl
                have hlo := hno.lo
                have hhi := hno.hi
                have hnx := needSum_next N k hkl s
                obtain ⟨y, hy⟩ : ∃ y, y = N[k] := ⟨_, rfl⟩
                rw [← hy] at d0 d1 d2 hlo hhi hnx
                obtain ⟨P, R, M⟩ := y
                simp only at d0 d1 d2 hlo hhi hnx
                have g3 := gr_alloc (gr_refl wj none) (.cells #[.string P, .string R, .int .i64 M] 32)
                have hV := heap_alloc_new wj (.cells #[.string P, .string R, .int .i64 M] 32)
                have hsz := hgr.size
                clear hy hno
                cases hq : (R.toList == s.toList) with
                | false =>
                  have hne : ¬ R = s := fun e => by rw [e] at hq; simp at hq
                  rw [if_neg hne, Int.add_zero] at hnx
                  have HN := Lib.hid hnx
                  have HT := Lib.hid (hT.keep0 g3)
                  have HA2 := Lib.hid hA
                  have HD2 := Lib.hid hDb
                  have HDS := Lib.hid hDs
                  have HGR := Lib.hid (gr_trans hgr g3)
                  clear hnx hT hA hDb hDs hgr g3 hV hne
                  go_wp2_with (fail)
                  go_roundw
                  case rel => exact ⟨k + 1, A, D, _, _, by omega, by go_num, rfl, rfl, HT.out, hAD, by omega, HA2.out, HD2.out, by rw [HN.out]; exact HDS.out, HGR.out⟩
                  case measure => simp [intOf]; omega
                | true =>
                  have heq : R = s := bytes_of (by simpa using hq)
                  rw [if_pos heq] at hnx
                  have HN := Lib.hid hnx
                  have HA2 := Lib.hid hA
                  have HD2 := Lib.hid hDb
                  have HDS := Lib.hid hDs
                  obtain ⟨w3, hw3⟩ : ∃ w3, w3 = wj.alloc (.cells #[.string P, .string R, .int .i64 M] 32) := ⟨_, rfl⟩
                  rw [← hw3] at g3 hV
                  have HW3 := Lib.hid hw3
                  have HT3 := Lib.hid (hT.keep0 g3)
                  have HGR := Lib.hid (gr_trans hgr g3)
                  have hz3 := g3.size
                  have HV := Lib.hid hV
                  clear hnx hT hA hDb hDs hgr g3 hV heq hw3
                  go_upto_region 20 with (fail)
                  rw [← HW3.out]
                  have hgd := gr_drew (gr_refl w3 none)
                  have v2 : w3.cell? ⟨wj.heap.size, 2, none⟩ = some (.int .i64 M) := blkC HV.out 2 rfl
                  have hl3 := lt_of_block HV.out
                  have hlu : ∀ b, w3.heap.size ≤ b → some b ≠ u.ownBlock := fun b hb e => by have := (HT3.out.a.lt b e.symm).2; omega
                  have HLU := Lib.hid hlu
                  have hA7 : A.length ≤ 7 := by omega
                  have hD7 : D.length ≤ 7 := by omega
                  have hb3 : w23.heap.size ≤ w3.heap.size := Nat.le_trans hsz hz3
                  clear d0 d1 d2 hlu
                  go_region_law (first
                    | (refine step_appN eInt rfl _ _ rfl w23.heap.size u A.length (ints A) rfl ?_ (some ⟨_, 0, none⟩) 1 1 [.int .i64 k] rfl rfl ?_ (fun e => by cases e) ?_ ?_ ?_ ?_; (· first | exact own_keep0 HT3.out.a (gr_alloc hgd _) | exact own_keep0 HT3.out.a (gr_alloc (gr_alloc hgd _) _)); (· first | exact (CellsAt.new w3 #[.int .i64 k] 3).keep0 (gr_drew (gr_refl _ _)) | exact ((CellsAt.new w3 #[.int .i64 k] 3).keep0 (gr_alloc (gr_refl _ _) _)).keep0 (gr_drew (gr_refl _ _)) | exact (CellsAt.new2 w3 _ #[.int .i64 k] 3).keep0 (gr_drew (gr_refl _ _))); (· intro z hz; simp at hz; subst hz; rfl); (· omega); (· first | exact Nat.le_trans hb3 (gr_alloc hgd _).size | exact Nat.le_trans hb3 (gr_alloc (gr_alloc hgd _) _).size); intro v6 w6 o6 g6 hl6 hf6; (first | have S6 := TwoI.step1 HT3.out (gr_alloc hgd _) o6 g6 hf6 HV.out (by decide) | have S6 := TwoI.step1 HT3.out (gr_alloc (gr_alloc hgd _) _) o6 g6 hf6 HV.out (by decide)); obtain ⟨T6, V6, G6⟩ := S6; have v2 : w6.cell? ⟨wj.heap.size, 2, none⟩ = some (.int .i64 M) := blkC V6 2 rfl; have hl6' := lt_of_block V6; (try have C2 := ((CellsAt.new2 w3 (.cells #[.int .i64 k] 3) #[.int .i64 M] 3).keep0 (gr_drew (gr_refl _ _))).keep g6 (fun b off e => by cases e; exact HLU.out _ (Nat.le_succ _))); (try have C2 := (((CellsAt.new w3 #[.int .i64 M] 3).keep0 (gr_alloc (gr_refl _ _) (.cells #[.int .i64 k] 3))).keep0 (gr_drew (gr_refl _ _))).keep g6 (fun b off e => by cases e; exact HLU.out _ (Nat.le_refl _))))
                    | (refine step_appN eInt rfl _ _ rfl w23.heap.size v D.length (ints D) rfl ?_ (some ⟨_, 0, none⟩) 1 1 [.int .i64 M] rfl rfl ?_ (fun e => by cases e) ?_ ?_ ?_ ?_; (· first | exact T6.b | exact own_keep0 T6.b (gr_alloc (gr_refl _ _) _)); (· first | exact C2 | exact CellsAt.new _ #[.int .i64 M] _ | simpa using C2); (· intro z hz; simp at hz; subst hz; rfl); (· omega); (· first | exact (G6 w23 (Nat.le_refl _) HGR.out).size | exact (gr_alloc (G6 w23 (Nat.le_refl _) HGR.out) _).size); intro v8 w8 o8 g8 hl8 hf8; (first | have S8 := TwoI.step2 T6 (gr_refl _ _) o8 g8 hf8 V6 (by decide) | have S8 := TwoI.step2 T6 (gr_alloc (gr_refl _ _) _) o8 g8 hf8 V6 (by decide)); obtain ⟨T8, V8, G8⟩ := S8)
                    | fail)
                  all_goals (go_wp2_with (fail))
                  all_goals go_roundw
                  all_goals first | (simp [intOf]; omega; done) | skip
                  all_goals
                    refine ⟨k + 1, A ++ [(k : Int)], D ++ [M], v6, v8, by omega, by go_num, rfl, rfl, T8, by simp [hAD], by simp; omega, ?_, ?_, ?_, G8 w23 (Nat.le_refl _) (G6 w23 (Nat.le_refl _) HGR.out)⟩
                    · intro y hy
                      rcases List.mem_append.1 hy with hy | hy
                      · exact HA2.out y hy
                      · exact ⟨k, hkl, by simpa using hy⟩
                    · intro y hy
                      rcases List.mem_append.1 hy with hy | hy
                      · exact HD2.out y hy
                      · have e : y = M := by simpa using hy
                        omega
                    · rw [HN.out, ← HDS.out]; simp
              · obtain rfl : k = N.length := by omega
                rw [List.take_length, ← HXS.out] at hDs
                have hAD7 : A.length ≤ 7 := by omega
                have hx0 : 0 < D.sum := by omega
                obtain ⟨ua, uc, rfl, -, -, -, -⟩ := own_shape hT.a
                obtain ⟨va, vc, rfl, -, -, cD, -⟩ := own_shape hT.b
                have SH := Lib.hid (meterShare_ok F D va vc wj cD (by omega) hF0 (by omega) hx0 hDb)
                have HGj := Lib.hid (HG23.out.keep0 hgr)
                have HRj := Lib.hid (HR23.out.keep0 hgr)
                have HOA := Lib.hid hT.a
                have HA2 := Lib.hid hA
                have HD2 := Lib.hid hDb
                have hbj : gg < wj.heap.size := (HGj.out.own.lt gg rfl).2
                have HX0 := Lib.hid hx0
                clear hT cD hDs hA hDb hgr HR23 HG23
                go_wp2_with (fail)
                refine SH.out.mono ?_
                rintro e w24 ⟨pv, Pl, rfl, op, hSh, g24⟩
                obtain ⟨pa, pc, rfl, -, -, -, -⟩ := own_shape op
                have HOP := Lib.hid op
                have HSh := Lib.hid hSh
                have HG24 := Lib.hid (HGj.out.keep0 g24)
                have HR24 : Hid (∃ lf c2, c2 < cnt ∧ RangeIs w24 B ib N.length f lf c2) := ⟨_, _, HLT.out, HRj.out.keep0 g24⟩
                have HOA24 := Lib.hid (own_keep0 HOA.out g24)
                clear op hSh g24 SH HGj HRj HOA
                go_wp2_with (fail)
                go_loopw [106] (fun i wr => ∃ (t : Nat) (gl2 : List Int), t ≤ A.length ∧ i = .int .i64 t ∧ GetsB Bd wr w gg N.length gl2 ∧ wr.ownsRow w23.heap.size 3 1 (.slice ua A.length uc) A.length (ints A) ∧ wr.ownsRow wj.heap.size 3 1 (.slice pa D.length pc) D.length (ints Pl) ∧ ∃ lf c2, c2 < cnt ∧ RangeIs wr B ib N.length f lf c2) (fun i _ => A.length - (intOf i).toNat)
                case atStart => exact ⟨0, gl, Nat.zero_le _, rfl, HG24.out, HOA24.out, HOP.out, HR24.out⟩
                case round =>
                  clear HG24 HOA24 HOP HR24
                  obtain ⟨t, gl2, ht, rfl, hG, hOA, hOP, lf, c2, hc2, hRg⟩ := hrel
                  obtain ⟨wz, rfl⟩ : ∃ wz : World, wz = wr := ⟨_, rfl⟩
                  by_cases htl : t < A.length
                  · have htd : t < D.length := by omega
                    obtain ⟨ug, uc2, e, -, -, -, -⟩ := own_some hOA (by omega)
                    cases e
                    obtain ⟨pg, pc2, e, -, -, -, -⟩ := own_some hOP (by omega)
                    cases e
                    obtain ⟨j, hj, hAt⟩ := HA2.out _ (List.getElem_mem htl)
                    have d0 := (own_int hOA t htl).1
                    rw [getD_eq A t 0 htl, hAt] at d0
                    have d1 := (own_int hOP t htd).1
                    obtain ⟨hp0, hp1⟩ := share_each HSh.out hF0 HX0.out (fun x hx => (HD2.out x hx).1) rfl t htd
                    obtain ⟨y, hy⟩ : ∃ y, y = Pl.getD t 0 := ⟨_, rfl⟩
                    rw [← hy] at d1 hp0 hp1
                    obtain ⟨e1, f1, -⟩ := own_int hG.own j hj
                    have gs : wz.grownBy (wz.setCell ⟨gg, j, none⟩ (.int .i64 y)) (some gg) := gr_set (gr_refl _ _) rfl _
                    have HGS := Lib.hid (hG.set j hj y (by have h1 := HB2.out s; have h2 := HXS.out; omega))
                    have HAS := Lib.hid (own_keepS hOA gs (by omega))
                    have HPS := Lib.hid (own_keepS hOP gs (by omega))
                    have HRS := Lib.hid (hRg.keep gs (fun e => by injection e with e; omega) (fun e => by injection e with e; omega))
                    have hj0 : (0 : Int) ≤ (j : Int) := by omega
                    have hj1 : (j : Int) < (N.length : Int) := by omega
                    have htd2 : (t : Int) < (D.length : Int) := by omega
                    clear hG hOA hOP hRg gs hy hAt
                    go_wp2_with (fail)
                    go_roundw
                    case rel => exact ⟨t + 1, _, by omega, by go_num, HGS.out, HAS.out, HPS.out, lf, c2, hc2, HRS.out⟩
                    case measure => simp [intOf]; omega
                  · obtain rfl : t = A.length := by omega
                    have HG := Lib.hid hG
                    have HRg := Lib.hid hRg
                    have HC2 := Lib.hid hc2
                    clear hG hOA hOP hRg hc2
                    go_wp2_with (fail)
                    go_roundw
                    case rel => exact ⟨_, _, _, HRg.out, HG.out⟩
                    case measure => rw [HRg.out.left, HRo.out.left]; exact HC2.out
end Go.Proofs.YtdminjijhpemkaaGreatDoor

/-! What the law of picks asks: lots are apart; whether pieces hold a piece; counts of pieces. -/
namespace Go.Proofs.YtdminjijhpemkaaGreatDoor
open Go.RowKit
attribute [local go_sem ↓] Go.wp_at_zero Go.wp_at_succ

theorem lots_apart {xs : List Lot} (h : LotsOk xs) : Apart xs := by
  have key : ∀ i j, (hi : i < xs.length) → (hj : j < xs.length) → i < j → xs[i].id ≠ xs[j].id := fun i j hi hj hij e => by
    have := h.lt j hj xs[i] (by rw [List.mem_iff_getElem]; exact ⟨i, by simp; omega, by simp⟩)
    rw [e, cmpB_zero.2 rfl] at this
    omega
  intro i j hi hj e
  rw [lotN_get hi, lotN_get hj] at e
  rcases Nat.lt_trichotomy i j with h1 | h1 | h1
  · exact absurd e (key i j hi hj h1)
  · exact h1
  · exact absurd e.symm (key j i hj hi h1)
theorem lotGet_of {xs : List Lot} (h : Apart xs) (i : Nat) (hi : i < xs.length) : lotGet xs (lotN xs i).id = lotN xs i := by
  unfold lotGet
  rw [lotN_get hi, find_at hi (by simp [idIs]) (fun j hj hji => by
    cases hb : idIs xs[i].id xs[j] with
    | false => rfl
    | true =>
      have e : xs[j].id = xs[i].id := bytes_of (by simpa [idIs] using hb)
      have := h j i hj hi (by rw [lotN_get hj, lotN_get hi]; exact e)
      omega)]
  rfl
theorem cntP_nonneg (ps : List Piece) (k : ByteArray) (h : ∀ p ∈ ps, 0 ≤ p.many) : 0 ≤ cntP ps k := by
  induction ps with
  | nil => simp [cntP]
  | cons p ps ih =>
    have e : cntP (p :: ps) k = (if (p.lot.toList == k.toList) = true then p.many else 0) + cntP ps k := by simp [cntP]
    have h1 := ih (fun q hq => h q (by simp [hq]))
    have h2 := h p (by simp)
    rw [e]; split <;> omega
theorem cntP_take (ps : List Piece) (t : Nat) (ht : t < ps.length) (k : ByteArray) : cntP (ps.take (t + 1)) k = cntP (ps.take t) k + if (ps[t].lot.toList == k.toList) = true then ps[t].many else 0 := by
  have e : ps.take (t + 1) = ps.take t ++ [ps[t]] := by simp
  rw [e, cntP_app]
  simp [cntP]
theorem cntP_pre (ps : List Piece) (t : Nat) (k : ByteArray) (h : ∀ p ∈ ps, 0 ≤ p.many) : cntP (ps.take t) k ≤ cntP ps k := by
  have e : cntP ps k = cntP (ps.take t) k + cntP (ps.drop t) k := by rw [← cntP_app, List.take_append_drop]
  have := cntP_nonneg (ps.drop t) k (fun p hp => h p (List.mem_of_mem_drop hp))
  omega
theorem allPs_take (ks : List KitV) (j : Nat) (hj : j < ks.length) : allPs (ks.take (j + 1)) = allPs (ks.take j) ++ ks[j].ps := by
  have e : ks.take (j + 1) = ks.take j ++ [ks[j]] := by simp
  rw [e, allPs_app]
theorem pcSum_take (ps : List Piece) (t : Nat) (ht : t < ps.length) : pcSum (ps.take (t + 1)) = pcSum (ps.take t) + pcMany ps t := by
  have e : ps.take (t + 1) = ps.take t ++ [ps[t]] := by simp
  rw [e, pcSum_app]
  unfold pcMany
  rw [getD_eq ps t _ ht]
  simp [pcSum]
end Go.Proofs.YtdminjijhpemkaaGreatDoor
