/- shelf.Do of the tasks that make a layout of another one. -/
import Derived.Test.YthikknnadmebgaaGreatDoorPkSBh
import Derived.Test.YthikknnadmebgaaGreatDoorPkSAz
import Derived.Deep.DeepCutAuto
import Derived.Test.YthikknnadmebgaaGreatDoorPkSAe
import Derived.Test.YthikknnadmebgaaGreatDoorPkSBc
namespace Go.Proofs.YthikknnadmebgaaGreatDoor
open Go.RowKit
attribute [local go_sem ↓] Go.wp_at_zero Go.wp_at_succ

def doTo (x a : List ByteArray) (L : List Int) : List ByteArray := L.foldl (fun o z => o.set z.toNat (a.getD z.toNat e0B)) x
theorem doTo_app (x a : List ByteArray) (L : List Int) (z : Int) : doTo x a (L ++ [z]) = (doTo x a L).set z.toNat (a.getD z.toNat e0B) := by
  unfold doTo
  rw [List.foldl_append]
  rfl
theorem doTo_len (x a : List ByteArray) (L : List Int) : (doTo x a L).length = x.length := by
  unfold doTo
  induction L generalizing x with
  | nil => rfl
  | cons z L ih => rw [List.foldl_cons, ih, List.length_set]
theorem doTo_chg (x a : List ByteArray) (h : a.length = x.length) : ∀ k, k ≤ x.length → doTo x a (chgTo x a k) = a.take k ++ x.drop k
  | 0, _ => by simp [chgTo, doTo]
  | k + 1, hk => by
    have ih := doTo_chg x a h k (by omega)
    have hkx : k < x.length := hk
    have hka : k < a.length := by rw [h]; exact hk
    have hs : (a.take k ++ x.drop k).set k a[k] = a.take (k + 1) ++ x.drop (k + 1) := by
      rw [List.set_append_right _ _ (by rw [List.length_take]; omega), List.length_take, Nat.min_eq_left (by omega), Nat.sub_self, List.drop_eq_getElem_cons hkx, List.set_cons_zero, List.take_succ_eq_append_getElem hka, List.append_assoc]
      rfl
    show doTo x a (chgTo x a k ++ _) = _
    split
    · rename_i e
      rw [getD_eq x k _ hkx, getD_eq a k _ hka] at e
      rw [List.append_nil, ih, ← hs, ← e, List.set_append_right _ _ (by rw [List.length_take]; omega), List.length_take, Nat.min_eq_left (by omega), Nat.sub_self, List.drop_eq_getElem_cons hkx, List.set_cons_zero]
    · rw [doTo_app, ih, Int.toNat_natCast, getD_eq a k _ hka, hs]
theorem doTo_end (x a : List ByteArray) (h : a.length = x.length) : doTo x a (chgTo x a x.length) = a := by
  rw [doTo_chg x a h x.length (Nat.le_refl _), List.drop_length, List.append_nil, ← h, List.take_length]
theorem chgTo_up (x a : List ByteArray) : ∀ k, (chgTo x a k).Pairwise (· < ·)
  | 0 => List.Pairwise.nil
  | k + 1 => by
    have ih := chgTo_up x a k
    show (chgTo x a k ++ _).Pairwise _
    rw [List.pairwise_append]
    refine ⟨ih, by split <;> simp, fun y hy z hz => ?_⟩
    split at hz
    · cases hz
    · have : z = (k : Int) := by simpa using hz
      obtain ⟨i, e, hi, -⟩ := chgTo_mem x a k y hy
      omega
theorem tk_cells {w : World} {ta : Option Addr} {x a : List ByteArray} {G : List Int} (h : CellsAt w ta (flat (encTk x a) G)) (k : Nat) (hk : k < G.length) : ∃ b off, ta = some ⟨b, off, none⟩ ∧ w.cell? ⟨b, off + k * 3, none⟩ = some (.int .i64 G[k]) ∧ w.cell? ⟨b, off + k * 3 + 1, none⟩ = some (.string (x.getD G[k].toNat e0B)) ∧ w.cell? ⟨b, off + k * 3 + 2, none⟩ = some (.string (a.getD G[k].toNat e0B)) := by
  obtain ⟨b, off, rfl, hcs⟩ := flat_cells (enc := encTk x a) (m := 3) (fun _ => rfl) (by decide) h (by omega)
  exact ⟨b, off, rfl, by have := hcs k hk 0 _ rfl; simpa using this, by have := hcs k hk 1 _ rfl; simpa using this, by have := hcs k hk 2 _ rfl; simpa using this⟩
set_option maxRecDepth 100000 in
set_option maxHeartbeats 2000000 in
theorem do_any (x a : List ByteArray) (hl : a.length = x.length) (h1 : 1 ≤ x.length) (h60 : x.length ≤ 60) (ha0 : EvenB a) (xa ta : Option Addr) (xc tc : Nat) (w : World) (hx : CellsAt w xa (strs x)) (ht : CellsAt w ta (flat (encTk x a) (chgTo x a x.length))) :
    Calls Tryz.prog 31 #[.slice xa x.length xc, .slice ta (chgTo x a x.length).length tc] w fun e w' => ∃ v, e = .returned (.tuple #[v, .int .i64 0]) ∧ w'.ownsRow w.heap.size 9 1 v x.length (strs a) ∧ w.grownBy w' none := by
  have hend := doTo_end x a hl
  have hmem := chgTo_mem x a x.length
  have hup := chgTo_up x a x.length
  have hlen := chgTo_le x a x.length
  obtain ⟨G, hG⟩ : ∃ G, G = chgTo x a x.length := ⟨_, rfl⟩
  rw [← hG] at hend hmem hup hlen ht
  rw [← hG]
  have HX := Lib.hid hx
  have HT := Lib.hid ht
  have HL := Lib.hid hl
  have HA0 := Lib.hid ha0
  have HM := Lib.hid hmem
  have HUP := Lib.hid hup
  have HEND := Lib.hid hend
  have d60 : decide ((60 : Int) < (x.length : Int)) = false := decide_eq_false (by omega)
  have hxn : xa = none → x.length = 0 ∧ xc = 0 := fun e => by
    obtain ⟨b, off, he, -⟩ := str_cell hx 0 h1
    rw [e] at he; cases he
  have CL := Lib.hid (cloneStr_any xa x.length xc (strs x) w (by rw [strs_length, Nat.mul_one]) hx hxn (strs_one x) (by omega))
  clear hx ht hl ha0 hmem hup hend hG hxn
  go_enter Tryz.func31, Tryz.ntmps31
  go_wp2_with (fail)
  refine CL.out.mono ?_
  rintro e w1 ⟨v1, rfl, o1, g1⟩
  obtain ⟨ob, oc, rfl, hob, hobw, -, -⟩ := own_some o1 (by omega)
  have Z1 : Hid (w1.ownsRow w.heap.size 9 1 (.slice (some ⟨ob, 0, none⟩) x.length oc) x.length (strs (doTo x a (G.take 0))) ∧ w.grownBy w1 none) := ⟨o1, g1⟩
  clear o1 g1 CL
  go_wp2_with (fail)
  go_loopw [16] (fun i wr => ∃ k : Nat, k ≤ G.length ∧ i = .int .i64 k ∧ wr.ownsRow w.heap.size 9 1 (.slice (some ⟨ob, 0, none⟩) x.length oc) x.length (strs (doTo x a (G.take k))) ∧ w.grownBy wr none) (fun i _ => G.length - (intOf i).toNat)
  case atStart => exact ⟨0, Nat.zero_le _, rfl, Z1.out.1, Z1.out.2⟩
  case round =>
    clear Z1
    obtain ⟨k, hk, rfl, hO, hgr⟩ := hrel
    obtain ⟨wo, rfl⟩ : ∃ wo : World, wo = wr := ⟨_, rfl⟩
    by_cases hlt : k < G.length
    · obtain ⟨tb, toff, rfl, d0, d1, d2⟩ := tk_cells (HT.out.keep0 hgr) k hlt
      obtain ⟨i, hi, hix, hne⟩ := HM.out G[k] (List.getElem_mem hlt)
      rw [hi, Int.toNat_natCast] at d1 d2
      rw [hi] at d0
      have hst : doTo x a (G.take (k + 1)) = (doTo x a (G.take k)).set i (a.getD i e0B) := by
        rw [List.take_succ_eq_append_getElem hlt, doTo_app, hi, Int.toNat_natCast]
      have hev := HA0.out (a.getD i e0B) (by rw [getD_eq a i _ (by rw [HL.out]; exact hix)]; exact List.getElem_mem _)
      have hprev : ∀ hk0 : 0 < k, ∃ j : Nat, wo.cell? ⟨tb, toff + (k - 1) * 3, none⟩ = some (.int .i64 (j : Int)) ∧ j < i := by
        intro hk0
        obtain ⟨_, _, he, e0, -, -⟩ := tk_cells (HT.out.keep0 hgr) (k - 1) (by omega)
        cases he
        obtain ⟨j, hj, -, -⟩ := HM.out G[k - 1] (List.getElem_mem _)
        have hlt3 := (List.pairwise_iff_getElem.1 HUP.out) (k - 1) k (by omega) hlt (by omega)
        rw [hj] at e0
        exact ⟨j, e0, by omega⟩
      obtain ⟨xb, xoff, rfl, f0⟩ := str_cell (HX.out.keep0 hgr) i hix
      obtain ⟨y, hy⟩ : ∃ y, y = x.getD i e0B := ⟨_, rfl⟩
      obtain ⟨z, hz⟩ : ∃ z, z = a.getD i e0B := ⟨_, rfl⟩
      rw [← hy] at d1 hne f0
      rw [← hz] at d2 hne hst hev
      have hE : (y.toList == z.toList) = false := by rw [eq_bytesA]; exact decide_eq_false hne
      have hX := heap_alloc_new wo (.cells #[.int .i64 (i : Int), .string y, .string z] 133)
      have ga := gr_alloc (gr_refl wo none) (.cells #[.int .i64 (i : Int), .string y, .string z] 133)
      obtain ⟨w3, hw3⟩ : ∃ w3, w3 = wo.alloc (.cells #[.int .i64 (i : Int), .string y, .string z] 133) := ⟨_, rfl⟩
      rw [← hw3] at hX ga
      obtain ⟨X, hXe⟩ : ∃ X, X = wo.heap.size := ⟨_, rfl⟩
      rw [← hXe] at hX
      have y0 : w3.cell? ⟨X, 0, none⟩ = some (.int .i64 (i : Int)) := blkC hX 0 rfl
      have y1 : w3.cell? ⟨X, 1, none⟩ = some (.string y) := blkC hX 1 rfl
      have y2 : w3.cell? ⟨X, 2, none⟩ = some (.string z) := blkC hX 2 rfl
      have f3 := (gr_cell ga (lt_of_cell f0)).trans f0
      have hprev3 : Hid (∀ hk0 : 0 < k, ∃ j : Nat, w3.cell? ⟨tb, toff + (k - 1) * 3, none⟩ = some (.int .i64 (j : Int)) ∧ j < i) := fun hk0 => by
        obtain ⟨j, h1, h2⟩ := hprev hk0
        exact ⟨j, (gr_cell ga (lt_of_cell h1)).trans h1, h2⟩
      have HO3 := Lib.hid (own_keep0 hO ga)
      have HG3 := Lib.hid (gr_trans hgr ga)
      have HST := Lib.hid hst
      have HEV := Lib.hid hev
      have HW3 := Lib.hid hw3
      have HXE := Lib.hid hXe
      have hwx : IntKind.i64.wrap ((x.length : Int) - 1) = (x.length : Int) - 1 := IntWalk.i64_in _ (by omega)
      have dO : (decide ((i : Int) < 0) || decide ((x.length : Int) - 1 < (i : Int))) = false := by simp; omega
      clear hst hev hprev hX ga hw3 hXe hO hgr hy hz hi hne f0
      go_upto_region 7 with (fail)
      rw [← HW3.out, ← HXE.out]
      clear d0 d1 d2
      go_wp2_with (fail)
      refine (out_any (i : Int) 0 ((x.length : Int) - 1) w3).mono ?_
      rintro e w4 ⟨rfl, rfl⟩
      rw [dO]
      go_upto_region 9 with (fail)
      go_cut [28] (fun s wx => s = .bool false ∧ w3.grownBy wx none)
      case first =>
        have z0 := grew_cell y0
        rcases Nat.eq_zero_or_pos k with h0 | h0
        · have hd : decide ((0 : Int) < (k : Int)) = false := decide_eq_false (by omega)
          refine wp_region_grew (by kernel_rfl) (by kernel_rfl) ?_
          repeat (go_big_quiet_step (fail))
          refine wpQuiet_nil ?_
          rintro wq ⟨nn, rfl⟩
          have gq := nn.gr
          go_wp2_with (fail)
          go_meet
          exact ⟨rfl, gq⟩
        · have hd : decide ((0 : Int) < (k : Int)) = true := decide_eq_true (by omega)
          obtain ⟨j, h2, hji⟩ := hprev3.out h0
          have z2 := grew_cell h2
          have hdl : decide (i ≤ j) = false := decide_eq_false (by omega)
          obtain ⟨q, hq⟩ : ∃ q, k = q + 1 := ⟨k - 1, by omega⟩
          subst hq
          have hwk : IntKind.i64.wrap ((q : Int) + 1 - 1) = (q : Int) := by
            rw [show (q : Int) + 1 - 1 = (q : Int) by omega]; exact IntWalk.i64_in _ (by omega)
          have hwk2 : IntKind.i64.wrap (q : Int) = (q : Int) := IntWalk.i64_in _ (by omega)
          have hqG : (q : Int) < (G.length : Int) := by omega
          have hqG2 : q < G.length := by omega
          rw [show q + 1 - 1 = q by omega] at z2
          clear h2
          refine wp_region_grew (by kernel_rfl) (by kernel_rfl) ?_
          repeat (go_big_quiet_step (fail))
          refine wpQuiet_nil ?_
          rintro wq ⟨nn, rfl⟩
          have gq := nn.gr
          go_wp2_with (fail)
          go_meet
          exact ⟨rfl, gq⟩
      case rest =>
      obtain ⟨rfl, gd⟩ := hcut
      obtain ⟨wd, rfl⟩ : ∃ wd : World, wd = wc := ⟨_, rfl⟩
      have p0 := (gr_cell gd (lt_of_cell y0)).trans y0
      have p1 := (gr_cell gd (lt_of_cell y1)).trans y1
      have p2 := (gr_cell gd (lt_of_cell y2)).trans y2
      have p3 := (gr_cell gd (lt_of_cell f3)).trans f3
      have HO4 := Lib.hid (own_keep0 HO3.out gd)
      have HG4 := Lib.hid (gr_trans HG3.out gd)
      clear y0 y1 y2 f3 gd hprev3 HO3 HG3
      go_upto_region 11 with (fail)
      have z0 := grew_cell p0
      have z1 := grew_cell p1
      have z3 := grew_cell p3
      refine wp_region_grew (by kernel_rfl) (by kernel_rfl) ?_
      repeat (go_big_quiet_step (fail))
      refine wpQuiet_nil ?_
      rintro wq ⟨nn, rfl⟩
      have gq := nn.gr
      obtain ⟨W, hW⟩ : ∃ W, W = nn.w := ⟨_, rfl⟩
      rw [← hW] at gq
      rw [← hW]
      have r0 := (gr_cell gq (lt_of_cell p0)).trans p0
      have r1 := (gr_cell gq (lt_of_cell p1)).trans p1
      have r2 := (gr_cell gq (lt_of_cell p2)).trans p2
      have HO5 := Lib.hid (own_keep0 HO4.out gq)
      have HG5 := Lib.hid (gr_trans HG4.out gq)
      clear z0 z1 z3 p0 p1 p2 p3 gq hW HO4 HG4
      go_wp2_with (fail)
      refine (odd_any z W (by have := HEV.out.2; omega)).mono ?_
      rintro e w6 ⟨rfl, g6⟩
      rw [HEV.out.1]
      have q0 := (gr_cell g6 (lt_of_cell r0)).trans r0
      have q2 := (gr_cell g6 (lt_of_cell r2)).trans r2
      have HO6 := own_keep0 HO5.out g6
      have c2 := HO6.cellAt i (by omega)
      rw [strs_get _ i (by rw [doTo_len]; exact hix)] at c2
      have t2 := HO6.frozenAt i
      have st := HO6.stored i (.string z)
      have R := Lib.hid (And.intro st.1 (gr_grown (gr_trans HG5.out g6) st.2 (fun q e => by cases e; exact hob)))
      clear r0 r1 r2 g6 st HO6 HO5 HG5
      go_wp2_with (fail)
      go_roundw
      case rel => exact ⟨k + 1, by omega, by go_num, by rw [HST.out, ← strs_setA]; exact R.out.1, R.out.2⟩
      case measure => simp [intOf]; omega
    · obtain rfl : k = G.length := by omega
      rw [List.take_length, HEND.out] at hO
      have K := Lib.hid (And.intro hO hgr)
      clear hO hgr
      go_wp2_with (fail)
      go_ret2
      exact ⟨_, rfl, K.out.1, K.out.2⟩
end Go.Proofs.YthikknnadmebgaaGreatDoor

/-! shelf.hated: whether one product hates what the other one has; slices.Contains at strings. -/
namespace Go.Proofs.YthikknnadmebgaaGreatDoor
open Go.RowKit
attribute [local go_sem ↓] Go.wp_at_zero Go.wp_at_succ

theorem indexStr_any (xs : List ByteArray) (v : ByteArray) (a : Option Addr) (c : Nat) (w : World) (hc : CellsAt w a (strs xs)) (hl : xs.length ≤ 100000) :
    Calls Tryz.prog 148 #[.slice a xs.length c, .string v] w fun e w' => e = .returned (.int .i64 (findA (fun s => v.toList == s.toList) xs)) ∧ w.grownBy w' none := by
  have HC := Lib.hid hc
  clear hc
  go_enter Tryz.func148, Tryz.ntmps148
  go_wp2_with (fail)
  go_loopw [8] (fun i wr => ∃ k : Nat, k ≤ xs.length ∧ i = .int .i64 k ∧ (∀ j (hj : j < xs.length), j < k → (v.toList == xs[j].toList) = false) ∧ w.grownBy wr none) (fun i _ => xs.length - (intOf i).toNat)
  case atStart => exact ⟨0, Nat.zero_le _, rfl, fun j _ hj => absurd hj (Nat.not_lt_zero _), gr_refl _ _⟩
  case round =>
    obtain ⟨k, hk, rfl, hno, hgr⟩ := hrel
    obtain ⟨wo, rfl⟩ : ∃ wo : World, wo = wr := ⟨_, rfl⟩
    have HNO := Lib.hid hno
    have HG := Lib.hid hgr
    by_cases hlt : k < xs.length
    · obtain ⟨b, off, rfl, d0⟩ := str_cell (HC.out.keep0 hgr) k hlt
      rw [getD_eq xs k _ hlt] at d0
      obtain ⟨x, hx⟩ : ∃ x, x = xs[k] := ⟨_, rfl⟩
      rw [← hx] at d0
      have HX := Lib.hid hx
      clear hno hgr hx
      obtain ⟨bb, hbb⟩ : ∃ bb, bb = (v.toList == x.toList) := ⟨_, rfl⟩
      have hE : (v.toList == x.toList) = bb := hbb.symm
      clear hbb
      cases bb with
      | true =>
        have HE := Lib.hid hE
        go_wp2_with (fail)
        go_ret
        exact ⟨ret_int (findA_at hlt (by rw [← HX.out]; exact HE.out) (fun j hj => HNO.out j (by omega) hj)).symm, HG.out⟩
      | false =>
        have HE := Lib.hid hE
        go_wp2_with (fail)
        go_roundw
        case rel =>
          refine ⟨k + 1, by omega, by go_num, fun j hjl hj => ?_, HG.out⟩
          by_cases hjk : j = k
          · subst hjk; rw [← HX.out]; exact HE.out
          · exact HNO.out j hjl (by omega)
        case measure => simp [intOf]; omega
    · have hkl : k = xs.length := by omega
      have HK := Lib.hid hkl
      clear hkl hno hgr
      go_wp2_with (fail)
      go_ret
      exact ⟨ret_int (findA_none (fun j hj => HNO.out j hj (by rw [HK.out]; exact hj))).symm, HG.out⟩
theorem containsStr_any (xs : List ByteArray) (v : ByteArray) (a : Option Addr) (c : Nat) (w : World) (hc : CellsAt w a (strs xs)) (hl : xs.length ≤ 100000) :
    Calls Tryz.prog 118 #[.slice a xs.length c, .string v] w fun e w' => e = .returned (.bool (xs.any (fun s => v.toList == s.toList))) ∧ w.grownBy w' none := by
  have HA := Lib.hid (any_findA (fun s : ByteArray => v.toList == s.toList) xs)
  go_enter Tryz.func118, Tryz.ntmps118
  go_wp2_with (fail)
  refine (indexStr_any xs v a c w hc hl).mono ?_
  rintro e w1 ⟨rfl, hg1⟩
  go_wp2_with (fail)
  go_ret
  exact ⟨ret_bool (by rw [HA.out]), hg1⟩
def hatesB (o p : Offer) : Bool := o.hates.any (fun k => p.has.any (fun s => k.toList == s.toList))
def hatedB (os : List Offer) (a b : ByteArray) : Bool :=
  if offIx os a < 0 ∨ offIx os b < 0 then false
  else match os[(offIx os a).toNat]?, os[(offIx os b).toNat]? with
    | some o, some p => hatesB o p || hatesB p o
    | _, _ => false
theorem hated11_fn : ∀ (args : Array Value) (w : World), (callFunc 117 args).run Tryz.prog w = .ok (.enter 117 args) w := fun _ _ => by kernel_rfl
theorem hated1_fn : ∀ (args : Array Value) (w : World), (callFunc 116 args).run Tryz.prog w = .ok (.enter 116 args) w := fun _ _ => by kernel_rfl
theorem hated11_any (k : ByteArray) (has : List ByteArray) (ha : Option Addr) (hc q : Nat) (w : World) (hq : w.cell? ⟨q, 3, none⟩ = some (.slice ha has.length hc)) (hh : CellsAt w ha (strs has)) (hl : has.length ≤ 100000) :
    Calls Tryz.prog 117 #[.string k, .pointer (some ⟨q, 0, none⟩)] w fun e w' => e = .returned (.bool (has.any (fun s => k.toList == s.toList))) ∧ w.grownBy w' none := by
  have CS := Lib.hid (containsStr_any has k ha hc w hh hl)
  clear hh
  go_enter Tryz.func117, Tryz.ntmps117
  go_wp2_with (fail)
  refine CS.out.mono ?_
  rintro e w1 ⟨rfl, g1⟩
  go_wp2_with (fail)
  go_ret
  exact ⟨rfl, g1⟩
def valOV (v : OV) : Value := .agg #[.string v.key, .string v.group, .slice v.pa v.pn v.pc, .slice v.ha v.hn v.hc, .slice v.ta v.tn v.tc]
set_option maxRecDepth 100000 in
theorem hates_any (o p : Offer) (u v : OV) (w : World) (hu : OvR w u o) (hv : OvR w v p) (h1 : o.hates.length ≤ 1000) (h2 : p.has.length ≤ 1000) :
    Calls Tryz.prog 116 #[.agg #[.string u.key, .string u.group, .slice u.pa u.pn u.pc, .slice u.ha u.hn u.hc, .slice u.ta u.tn u.tc], .agg #[.string v.key, .string v.group, .slice v.pa v.pn v.pc, .slice v.ha v.hn v.hc, .slice v.ta v.tn v.tc]] w fun e w' => e = .returned (.bool (hatesB o p)) ∧ w.grownBy w' none := by
  have utn := hu.tn
  have vhn := hv.hn
  have uhat := hu.hat
  have vhas := hv.has
  obtain ⟨u1, u2, u3, u4, u5, u6, u7, u8, uta, utn', utc⟩ := u
  obtain ⟨v1, v2, v3, v4, v5, vha, vhn', vhc, v10, v11, v12⟩ := v
  simp only at utn vhn uhat vhas ⊢
  subst utn
  subst vhn
  obtain ⟨hA, hB⟩ := heap_2 w (.cells #[.string u1, .string u2, .slice u3 u4 u5, .slice u6 u7 u8, .slice uta o.hates.length utc] 119) (.cells #[.string v1, .string v2, .slice v3 v4 v5, .slice vha p.has.length vhc, .slice v10 v11 v12] 119)
  have g2 := gr_alloc (gr_alloc (gr_refl w none) (.cells #[.string u1, .string u2, .slice u3 u4 u5, .slice u6 u7 u8, .slice uta o.hates.length utc] 119)) (.cells #[.string v1, .string v2, .slice v3 v4 v5, .slice vha p.has.length vhc, .slice v10 v11 v12] 119)
  obtain ⟨w2, hw2⟩ : ∃ w2, w2 = (w.alloc (.cells #[.string u1, .string u2, .slice u3 u4 u5, .slice u6 u7 u8, .slice uta o.hates.length utc] 119)).alloc (.cells #[.string v1, .string v2, .slice v3 v4 v5, .slice vha p.has.length vhc, .slice v10 v11 v12] 119) := ⟨_, rfl⟩
  rw [← hw2] at g2 hA hB
  have p4 : w2.cell? ⟨w.heap.size, 4, none⟩ = some (.slice uta o.hates.length utc) := blkC hA 4 rfl
  have r3 : w2.cell? ⟨w.heap.size + 1, 3, none⟩ = some (.slice vha p.has.length vhc) := blkC hB 3 rfl
  have CF := containsFunc_StrC 117 ⟨w.heap.size + 1, 0, none⟩ (fun k => p.has.any (fun s => k.toList == s.toList)) o.hates uta utc w2 (by rw [strs_flat]; exact uhat.keep0 g2) (by omega) hated11_fn (fun k _ W gW => hated11_any k p.has vha vhc (w.heap.size + 1) W ((gr_cell gW (lt_of_cell r3)).trans r3) (vhas.keep0 (gr_trans g2 gW)) (by omega))
  have HCF := Lib.hid CF
  have HW := Lib.hid hw2
  have HG := Lib.hid g2
  clear hA hB hw2 g2 CF r3 uhat vhas hu hv
  go_enter Tryz.func116, Tryz.ntmps116
  go_upto_region 1 with (fail)
  rw [← HW.out]
  go_wp2_with (fail)
  refine HCF.out.mono ?_
  rintro e w3 ⟨rfl, g3⟩
  have HG3 := Lib.hid (gr_trans HG.out g3)
  clear g3 HCF
  go_wp2_with (fail)
  go_ret
  exact ⟨rfl, HG3.out⟩
set_option maxRecDepth 100000 in
set_option maxHeartbeats 1000000 in
theorem hated_any (os : List Offer) (x y : ByteArray) (a : Option Addr) (vs : List OV) (c : Nat) (w : World) (h : OffsAt w a vs os) (hl : os.length ≤ 1000) (hh : ∀ o ∈ os, o.hates.length ≤ 1000 ∧ o.has.length ≤ 1000) :
    Calls Tryz.prog 79 #[.slice a os.length c, .string x, .string y] w fun e w' => e = .returned (.bool (hatedB os x y)) ∧ w.grownBy w' none := by
  have hlx := offIx_lt os x
  have hly := offIx_lt os y
  have OX := Lib.hid (offer_any x os a vs c w h (by omega))
  have OY := Lib.hid (fun (W : World) (g : w.grownBy W none) => offer_any y os a vs c W (h.keep0 g) (by omega))
  have H := Lib.hid h
  have HH := Lib.hid hh
  have hB : hatedB os x y = if offIx os x < 0 ∨ offIx os y < 0 then false else match os[(offIx os x).toNat]?, os[(offIx os y).toNat]? with
    | some o, some p => hatesB o p || hatesB p o
    | _, _ => false := rfl
  obtain ⟨i, hi⟩ : ∃ i, i = offIx os x := ⟨_, rfl⟩
  obtain ⟨j, hj⟩ : ∃ j, j = offIx os y := ⟨_, rfl⟩
  rw [← hi] at OX hlx hB
  rw [← hj] at OY hly hB
  have HB := Lib.hid hB
  clear h hh hi hj hB
  go_enter Tryz.func79, Tryz.ntmps79
  go_wp2_with (fail)
  refine OX.out.mono ?_
  rintro e w1 ⟨rfl, g1⟩
  have HG1 := Lib.hid g1
  clear g1 OX
  go_wp2_with (fail)
  refine (OY.out w1 HG1.out).mono ?_
  rintro e w2 ⟨rfl, g2⟩
  have HG2 := Lib.hid (gr_trans HG1.out g2)
  clear g2 OY
  by_cases h1 : i < 0
  · have d1 : decide (i < 0) = true := decide_eq_true h1
    have HR : Hid (hatedB os x y = false) := by show _ = _; rw [HB.out, if_pos (.inl h1)]
    clear h1
    go_wp2_with (fail)
    go_ret
    exact ⟨by rw [HR.out]; rfl, HG2.out⟩
  · have d1 : decide (i < 0) = false := decide_eq_false h1
    by_cases h2 : j < 0
    · have d2 : decide (j < 0) = true := decide_eq_true h2
      have HR : Hid (hatedB os x y = false) := by show _ = _; rw [HB.out, if_pos (.inr h2)]
      clear h1 h2
      go_wp2_with (fail)
      go_ret
      exact ⟨by rw [HR.out]; rfl, HG2.out⟩
    · have d2 : decide (j < 0) = false := decide_eq_false h2
      obtain ⟨i, rfl⟩ : ∃ n : Nat, i = (n : Int) := ⟨i.toNat, by omega⟩
      obtain ⟨j, rfl⟩ : ∃ n : Nat, j = (n : Int) := ⟨j.toNat, by omega⟩
      have hil : i < os.length := by omega
      have hjl : j < os.length := by omega
      have HR : Hid (hatedB os x y = (hatesB os[i] os[j] || hatesB os[j] os[i])) := by
        show _ = _
        rw [HB.out, if_neg (by omega), Int.toNat_natCast, Int.toNat_natCast, List.getElem?_eq_getElem hil, List.getElem?_eq_getElem hjl]
      obtain ⟨b, off, u, rfl, hu, u0, u1, u2, u3, u4⟩ := (H.out.keep0 HG2.out).at i hil
      obtain ⟨_, _, v, he, hv, v0, v1, v2, v3, v4⟩ := (H.out.keep0 HG2.out).at j hjl
      cases he
      have hhi := HH.out os[i] (List.getElem_mem _)
      have hhj := HH.out os[j] (List.getElem_mem _)
      obtain ⟨b1, hb1⟩ : ∃ b1, b1 = hatesB os[i] os[j] := ⟨_, rfl⟩
      obtain ⟨b2, hb2⟩ : ∃ b2, b2 = hatesB os[j] os[i] := ⟨_, rfl⟩
      rw [← hb1, ← hb2] at HR
      have HT := Lib.hid (fun (W : World) (g : w2.grownBy W none) => hates_any os[i] os[j] u v W (hu.keep0 g) (hv.keep0 g) hhi.1 hhj.2)
      have HT2 := Lib.hid (fun (W : World) (g : w2.grownBy W none) => hates_any os[j] os[i] v u W (hv.keep0 g) (hu.keep0 g) hhj.1 hhi.2)
      rw [← hb1] at HT
      rw [← hb2] at HT2
      clear hu hv hhi hhj hb1 hb2 HH HB h1 h2
      go_upto_region 5 with (fail)
      have g0 := grew_cell u0
      have g1 := grew_cell u1
      have g2 := grew_cell u2
      have g3 := grew_cell u3
      have g4 := grew_cell u4
      have k0 := grew_cell v0
      have k1 := grew_cell v1
      have k2 := grew_cell v2
      have k3 := grew_cell v3
      have k4 := grew_cell v4
      clear u0 u1 u2 u3 u4 v0 v1 v2 v3 v4
      cases b1 with
      | true =>
        refine wp_region_grew (by kernel_rfl) (by kernel_rfl) ?_
        repeat (go_big_quiet_step (first | (go_at_call 116; exact Calls.grew_of (fun W g => HT.out W g)) | (go_at_call 116; exact Calls.grew_of (fun W g => HT2.out W g))))
        refine wpQuiet_nil ?_
        rintro wq ⟨nn, rfl⟩
        have gq := Lib.hid (gr_trans HG2.out nn.gr)
        go_wp2_with (fail)
        go_ret
        exact ⟨by rw [HR.out]; rfl, gq.out⟩
      | false =>
        refine wp_region_grew (by kernel_rfl) (by kernel_rfl) ?_
        repeat (go_big_quiet_step (first | (go_at_call 116; exact Calls.grew_of (fun W g => HT.out W g)) | (go_at_call 116; exact Calls.grew_of (fun W g => HT2.out W g))))
        refine wpQuiet_nil ?_
        rintro wq ⟨nn, rfl⟩
        have gq := Lib.hid (gr_trans HG2.out nn.gr)
        go_wp2_with (fail)
        go_ret
        exact ⟨by rw [HR.out]; rfl, gq.out⟩
end Go.Proofs.YthikknnadmebgaaGreatDoor

/-! shelf.CheckRack, CheckLayout, touching and Clashes of right layouts. -/
namespace Go.Proofs.YthikknnadmebgaaGreatDoor
open Go.RowKit
attribute [local go_sem ↓] Go.wp_at_zero Go.wp_at_succ

theorem checkRack_any (R C : Nat) (w : World) (h1 : 1 ≤ R) (h2 : R ≤ 6) (h3 : 1 ≤ C) (h4 : C ≤ 6) :
    Calls Tryz.prog 80 #[.agg #[.int .i64 R, .int .i64 C]] w fun e w' => e = .returned (.int .i64 0) ∧ w.grownBy w' none := by
  have hB := heap_alloc_new w (.cells #[.int .i64 R, .int .i64 C] 54)
  have ga := gr_alloc (gr_refl w none) (.cells #[.int .i64 R, .int .i64 C] 54)
  obtain ⟨w1, hw1⟩ : ∃ w1, w1 = w.alloc (.cells #[.int .i64 R, .int .i64 C] 54) := ⟨_, rfl⟩
  rw [← hw1] at hB ga
  obtain ⟨X, hX⟩ : ∃ X, X = w.heap.size := ⟨_, rfl⟩
  rw [← hX] at hB
  have p0 : w1.cell? ⟨X, 0, none⟩ = some (.int .i64 (R : Int)) := blkC hB 0 rfl
  have p1 : w1.cell? ⟨X, 1, none⟩ = some (.int .i64 (C : Int)) := blkC hB 1 rfl
  have HW := Lib.hid hw1
  have HX := Lib.hid hX
  have HG := Lib.hid ga
  have dR : (decide ((R : Int) < 1) || decide (10 < (R : Int))) = false := by simp; omega
  have dC : (decide ((C : Int) < 1) || decide (10 < (C : Int))) = false := by simp; omega
  have hRC : R * C ≤ 36 := Nat.mul_le_mul h2 h4
  have hRCc : ((R * C : Nat) : Int) = (R : Int) * C := Int.natCast_mul R C
  have hw : IntKind.i64.wrap ((R : Int) * C) = (R : Int) * C := IntWalk.i64_in _ (by omega)
  have dm : decide ((60 : Int) < (R : Int) * C) = false := decide_eq_false (by omega)
  clear hB hw1 hX ga hRCc hRC
  go_enter Tryz.func80, Tryz.ntmps80
  go_upto_region 1 with (fail)
  rw [← HW.out, ← HX.out]
  go_wp2_with (fail)
  refine (out_any (R : Int) 1 10 w1).mono ?_
  rintro e w2 ⟨rfl, rfl⟩
  rw [dR]
  go_wp2_with (fail)
  refine (out_any (C : Int) 1 10 w1).mono ?_
  rintro e w2 ⟨rfl, rfl⟩
  rw [dC]
  go_wp2_with (fail)
  go_ret
  exact ⟨rfl, HG.out⟩
/-- A right layout on a right rack. -/
structure LayOk (R C : Nat) (os : List Offer) (xs : List ByteArray) : Prop where
  ok : OffersOk os
  r1 : 1 ≤ R
  r6 : R ≤ 6
  c1 : 1 ≤ C
  c6 : C ≤ 6
  len : xs.length = R * C
  st : xs.any (strangeB os) = false
set_option maxRecDepth 100000 in
set_option maxHeartbeats 1000000 in
theorem checkLayout_any (R C : Nat) (os : List Offer) (xs : List ByteArray) (h : LayOk R C os xs) (a xa : Option Addr) (vs : List OV) (c xc : Nat) (w : World) (ho : OffsAt w a vs os) (hx : CellsAt w xa (strs xs)) :
    Calls Tryz.prog 76 #[.agg #[.int .i64 R, .int .i64 C], .slice a os.length c, .slice xa xs.length xc] w fun e w' => e = .returned (.int .i64 0) ∧ w.grownBy w' none := by
  have hB := heap_alloc_new w (.cells #[.int .i64 R, .int .i64 C] 54)
  have ga := gr_alloc (gr_refl w none) (.cells #[.int .i64 R, .int .i64 C] 54)
  obtain ⟨w1, hw1⟩ : ∃ w1, w1 = w.alloc (.cells #[.int .i64 R, .int .i64 C] 54) := ⟨_, rfl⟩
  rw [← hw1] at hB ga
  obtain ⟨X, hX⟩ : ∃ X, X = w.heap.size := ⟨_, rfl⟩
  rw [← hX] at hB
  have p0 : w1.cell? ⟨X, 0, none⟩ = some (.int .i64 (R : Int)) := blkC hB 0 rfl
  have p1 : w1.cell? ⟨X, 1, none⟩ = some (.int .i64 (C : Int)) := blkC hB 1 rfl
  have HBk := Lib.hid hB
  have HW := Lib.hid hw1
  have HX := Lib.hid hX
  have HG := Lib.hid ga
  have HH := Lib.hid h
  have HO := Lib.hid ho
  have HXS := Lib.hid hx
  have hol := h.ok.len
  have hRC : R * C ≤ 36 := Nat.mul_le_mul h.r6 h.c6
  have hRCc : ((R * C : Nat) : Int) = (R : Int) * C := Int.natCast_mul R C
  have hw : IntKind.i64.wrap ((R : Int) * C) = (R : Int) * C := IntWalk.i64_in _ (by omega)
  have hlen := h.len
  have dl : ((xs.length : Int) == (R : Int) * C) = true := by rw [beq_iff_eq]; omega
  have hxl : xs.length ≤ 36 := by omega
  have UN := Lib.hid (fun (W : World) (g : w.grownBy W none) => unknown_any xs os a xa vs c xc W (ho.keep0 g) (by omega) (hx.keep0 g) (by omega))
  clear hB hw1 hX ga h ho hx hRCc hRC hlen
  go_enter Tryz.func76, Tryz.ntmps76
  go_upto_region 1 with (fail)
  rw [← HW.out, ← HX.out]
  go_wp2_with (fail)
  refine (checkRack_any R C w1 HH.out.r1 HH.out.r6 HH.out.c1 HH.out.c6).mono ?_
  rintro e w2 ⟨rfl, g2⟩
  have HG2 := Lib.hid (gr_trans HG.out g2)
  have hB2 := Lib.hid ((g2.block X (lt_of_block HBk.out) (by simp)).trans HBk.out)
  clear g2 p0 p1
  go_wp2_with (fail)
  refine (checkOffers_ok os a vs c w2 (HO.out.keep0 HG2.out) HH.out.ok).mono ?_
  rintro e w3 ⟨rfl, g3⟩
  have HG3 := Lib.hid (gr_trans HG2.out g3)
  have hB3 := Lib.hid ((g3.block X (lt_of_block hB2.out) (by simp)).trans hB2.out)
  clear g3
  have hS := heap_alloc_new w3 (.cells #[.int .i64 0, .int .i64 0] 29)
  have gs := gr_alloc (gr_refl w3 none) (.cells #[.int .i64 0, .int .i64 0] 29)
  go_wp2_with (fail)
  refine (or_zeros2 2 w3.heap.size 2 _ (by decide) (fun j hj => by have : j = 0 ∨ j = 1 := (by omega); rcases this with rfl | rfl <;> exact blkC hS _ rfl)).mono ?_
  rintro e w4 ⟨rfl, rfl⟩
  obtain ⟨w4, hw4⟩ : ∃ w4, w4 = w3.alloc (.cells #[.int .i64 0, .int .i64 0] 29) := ⟨_, rfl⟩
  rw [← hw4] at gs
  rw [← hw4]
  have HG4 := Lib.hid (gr_trans HG3.out gs)
  have hB4 := (gs.block X (lt_of_block hB3.out) (by simp)).trans hB3.out
  have p0 : w4.cell? ⟨X, 0, none⟩ = some (.int .i64 (R : Int)) := blkC hB4 0 rfl
  have p1 : w4.cell? ⟨X, 1, none⟩ = some (.int .i64 (C : Int)) := blkC hB4 1 rfl
  clear gs hS hw4 hB4
  go_wp2_with (fail)
  refine (UN.out w4 HG4.out).mono ?_
  rintro e w5 ⟨rfl, g5⟩
  rw [HH.out.st]
  have HG5 := Lib.hid (gr_trans HG4.out g5)
  clear g5 UN
  go_wp2_with (fail)
  go_ret
  exact ⟨rfl, HG5.out⟩
end Go.Proofs.YthikknnadmebgaaGreatDoor

/-! shelf.touching: the slots behind a slot that touch it. -/
namespace Go.Proofs.YthikknnadmebgaaGreatDoor
open Go.RowKit
attribute [local go_sem ↓] Go.wp_at_zero Go.wp_at_succ

def tchL (R C i : Nat) : List Int := (if i % C + 1 < C then [((i + 1 : Nat) : Int)] else []) ++ (if i + C < R * C then [((i + C : Nat) : Int)] else [])
set_option maxRecDepth 100000 in
set_option maxHeartbeats 1000000 in
theorem touching_any (R C i : Nat) (w : World) (h1 : 1 ≤ C) (h2 : C ≤ 6) (h3 : R ≤ 6) (hi : i < R * C) :
    Calls Tryz.prog 78 #[.agg #[.int .i64 R, .int .i64 C], .int .i64 i] w fun e w' => ∃ v, e = .returned v ∧ w'.ownsRow w.heap.size 3 1 v (tchL R C i).length (ints (tchL R C i)) ∧ w.grownBy w' none := by
  have hB := heap_alloc_new w (.cells #[.int .i64 R, .int .i64 C] 54)
  have ga := gr_alloc (gr_refl w none) (.cells #[.int .i64 R, .int .i64 C] 54)
  obtain ⟨w1, hw1⟩ : ∃ w1, w1 = w.alloc (.cells #[.int .i64 R, .int .i64 C] 54) := ⟨_, rfl⟩
  rw [← hw1] at hB ga
  obtain ⟨X, hX⟩ : ∃ X, X = w.heap.size := ⟨_, rfl⟩
  rw [← hX] at hB
  have p0 : w1.cell? ⟨X, 0, none⟩ = some (.int .i64 (R : Int)) := blkC hB 0 rfl
  have p1 : w1.cell? ⟨X, 1, none⟩ = some (.int .i64 (C : Int)) := blkC hB 1 rfl
  have hRC : R * C ≤ 36 := Nat.mul_le_mul h3 h2
  have hRCc : ((R * C : Nat) : Int) = (R : Int) * C := Int.natCast_mul R C
  have hw : IntKind.i64.wrap ((R : Int) * C) = (R : Int) * C := IntWalk.i64_in _ (by omega)
  have hm : Int.tmod (i : Int) (C : Int) = ((i % C : Nat) : Int) := rfl
  have hml := Nat.mod_lt i (show 0 < C by omega)
  obtain ⟨m, hme⟩ : ∃ m, m = i % C := ⟨_, rfl⟩
  rw [← hme] at hm hml
  have hC0 : ((C : Int) == 0) = false := beq_eq_false_iff_ne.2 (by omega)
  have hC1 : ¬ (C : Int) = 0 := by omega
  have hC2 : ¬ C = 0 := by omega
  have hwm : IntKind.i64.wrap (m : Int) = (m : Int) := IntWalk.i64_in _ (by omega)
  have hwm1 : IntKind.i64.wrap ((m : Int) + 1) = (m : Int) + 1 := IntWalk.i64_in _ (by omega)
  have hwi1 : IntKind.i64.wrap ((i : Int) + 1) = (i : Int) + 1 := IntWalk.i64_in _ (by omega)
  have hwiC : IntKind.i64.wrap ((i : Int) + (C : Int)) = (i : Int) + (C : Int) := IntWalk.i64_in _ (by omega)
  obtain ⟨b1, hb1⟩ : ∃ b, b = decide ((m : Int) + 1 < (C : Int)) := ⟨_, rfl⟩
  obtain ⟨b2, hb2⟩ : ∃ b, b = decide ((i : Int) + (C : Int) < (R : Int) * C) := ⟨_, rfl⟩
  have hT : Hid (tchL R C i = (if b1 then [(i : Int) + 1] else []) ++ (if b2 then [(i : Int) + C] else [])) := by
    show _ = _
    unfold tchL
    rw [← hme, hb1, hb2]
    congr 1
    · by_cases h : m + 1 < C
      · rw [if_pos h, if_pos (by simp; omega)]; rfl
      · rw [if_neg h, if_neg (by simp; omega)]
    · by_cases h : i + C < R * C
      · rw [if_pos h, if_pos (by simp; omega)]; rfl
      · rw [if_neg h, if_neg (by simp; omega)]
  have e1 : decide ((m : Int) + 1 < (C : Int)) = b1 := hb1.symm
  have e2 : decide ((i : Int) + (C : Int) < (R : Int) * C) = b2 := hb2.symm
  have HBk := Lib.hid hB
  have HW := Lib.hid hw1
  have HX := Lib.hid hX
  have HG := Lib.hid ga
  clear hB hw1 hX ga hRC hRCc hme hb1 hb2 hml hi
  go_enter Tryz.func78, Tryz.ntmps78
  go_upto_region 2 with (fail)
  rw [← HW.out, ← HX.out]
  go_cut [13] (fun s wx => s = .bool b1 ∧ w1.grownBy wx none)
  case first =>
    have z1 := grew_cell p1
    refine wp_region_grew (by kernel_rfl) (by kernel_rfl) ?_
    repeat (go_big_quiet_step (fail))
    refine wpQuiet_nil ?_
    rintro wq ⟨nn, rfl⟩
    have gq := nn.gr
    go_wp2_with (fail)
    go_meet
    exact ⟨rfl, gq⟩
  case rest =>
  obtain ⟨rfl, gd⟩ := hcut
  obtain ⟨wd, rfl⟩ : ∃ wd : World, wd = wc := ⟨_, rfl⟩
  have hBd := (gd.block X (lt_of_block HBk.out) (by simp)).trans HBk.out
  have HG2 := Lib.hid (gr_trans HG.out gd)
  have hzd := HG2.out.size
  have HBD := Lib.hid hBd
  clear p0 p1 gd hBd
  cases b1 with
  | false =>
    have p0 : wd.cell? ⟨X, 0, none⟩ = some (.int .i64 (R : Int)) := blkC HBD.out 0 rfl
    have p1 : wd.cell? ⟨X, 1, none⟩ = some (.int .i64 (C : Int)) := blkC HBD.out 1 rfl
    cases b2 with
    | false =>
      go_wp2_with (fail)
      go_ret
      exact ⟨_, rfl, by rw [hT.out]; exact World.ownsRow_nil _ _ _ _, HG2.out⟩
    | true =>
      go_wp2_with (at_builtin; refine wpList_app1 eInt rfl _ _ rfl w.heap.size _ 0 [] rfl wd #[.int .i64 ((i : Int) + (C : Int))] rfl (World.ownsRow_nil _ _ _ _) _ rfl rfl rfl rfl (by omega) hzd ?_)
      intro v6 w6 o6 g6 hl6
      have R := Lib.hid (And.intro o6 (gr_grown HG2.out g6 (fun q e => hl6 q e)))
      clear o6 g6 hl6
      go_wp2_with (fail)
      go_ret
      exact ⟨_, rfl, by rw [hT.out]; exact R.out.1, R.out.2⟩
  | true =>
    go_wp2_with (at_builtin; refine wpList_app1 eInt rfl _ _ rfl w.heap.size _ 0 [] rfl wd #[.int .i64 ((i : Int) + 1)] rfl (World.ownsRow_nil _ _ _ _) _ rfl rfl rfl rfl (by omega) hzd ?_)
    intro v6 w6 o6 g6 hl6
    have g6' : wd.grownBy w6 none := ⟨g6.os, g6.tape, g6.output, g6.size, fun k hk _ => g6.block k hk (by simp [Value.ownBlock])⟩
    have hB6 := (g6'.block X (lt_of_block HBD.out) (by simp)).trans HBD.out
    have p0 : w6.cell? ⟨X, 0, none⟩ = some (.int .i64 (R : Int)) := blkC hB6 0 rfl
    have p1 : w6.cell? ⟨X, 1, none⟩ = some (.int .i64 (C : Int)) := blkC hB6 1 rfl
    have HG6 := Lib.hid (gr_trans HG2.out g6')
    have hz6 := HG6.out.size
    have HO6 := Lib.hid o6
    obtain ⟨va, vc, rfl, _, _, _, _⟩ := own_shape o6
    clear o6 g6 g6' hl6 hB6
    cases b2 with
    | false =>
      go_wp2_with (fail)
      go_ret
      exact ⟨_, rfl, by rw [hT.out]; exact HO6.out, HG6.out⟩
    | true =>
      go_wp2_with (at_builtin; refine wpList_app1 eInt rfl _ _ rfl w.heap.size _ 1 [.int .i64 ((i : Int) + 1)] rfl w6 #[.int .i64 ((i : Int) + (C : Int))] rfl HO6.out _ rfl rfl rfl rfl (by omega) hz6 ?_)
      intro v7 w7 o7 g7 hl7
      have R := Lib.hid (And.intro o7 (gr_grown HG6.out g7 (fun q e => hl7 q e)))
      clear o7 g7 hl7
      go_wp2_with (fail)
      go_ret
      exact ⟨_, rfl, by rw [hT.out]; exact R.out.1, R.out.2⟩
end Go.Proofs.YthikknnadmebgaaGreatDoor

/-! shelf.Clashes of a layout without clashes. -/
namespace Go.Proofs.YthikknnadmebgaaGreatDoor
open Go.RowKit
attribute [local go_sem ↓] Go.wp_at_zero Go.wp_at_succ

/-- No slot touches one that it hates. -/
def NoCl (R C : Nat) (os : List Offer) (xs : List ByteArray) : Prop := ∀ i j : Nat, i < xs.length → j < xs.length → (j : Int) ∈ tchL R C i → hatedB os (xs.getD i e0B) (xs.getD j e0B) = false
theorem tchL_mem (R C i : Nat) (hi : i < R * C) : ∀ z ∈ tchL R C i, ∃ j : Nat, z = (j : Int) ∧ j < R * C := by
  intro z hz
  unfold tchL at hz
  rcases List.mem_append.1 hz with hz | hz
  · split at hz
    · rename_i h
      have hz : z = ((i + 1 : Nat) : Int) := by simpa using hz
      refine ⟨i + 1, hz, ?_⟩
      have hdm := Nat.div_add_mod i C
      have hC : 0 < C := by omega
      have hq : i / C < R := by rw [Nat.div_lt_iff_lt_mul hC]; exact hi
      have h2 : C * (i / C) + C ≤ R * C := by
        have := Nat.mul_le_mul_left C (show i / C + 1 ≤ R from hq)
        rw [Nat.mul_add, Nat.mul_one, Nat.mul_comm C R] at this
        exact this
      omega
    · cases hz
  · split at hz
    · rename_i h
      have hz : z = ((i + C : Nat) : Int) := by simpa using hz
      exact ⟨i + C, hz, h⟩
    · cases hz
theorem tchL_len (R C i : Nat) : (tchL R C i).length ≤ 2 := by
  unfold tchL
  rw [List.length_append]
  split <;> split <;> simp
set_option maxRecDepth 100000 in
set_option maxHeartbeats 1000000 in
theorem clashes_any (R C : Nat) (os : List Offer) (xs : List ByteArray) (h : LayOk R C os xs) (hn : NoCl R C os xs) (hh : ∀ o ∈ os, o.hates.length ≤ 1000 ∧ o.has.length ≤ 1000) (a xa : Option Addr) (vs : List OV) (c xc : Nat) (w : World) (ho : OffsAt w a vs os) (hx : CellsAt w xa (strs xs)) :
    Calls Tryz.prog 35 #[.agg #[.int .i64 R, .int .i64 C], .slice a os.length c, .slice xa xs.length xc] w fun e w' => e = .returned (.tuple #[.slice none 0 0, .int .i64 0]) ∧ w.grownBy w' none := by
  have hB := heap_alloc_new w (.cells #[.int .i64 R, .int .i64 C] 54)
  have ga := gr_alloc (gr_refl w none) (.cells #[.int .i64 R, .int .i64 C] 54)
  obtain ⟨w1, hw1⟩ : ∃ w1, w1 = w.alloc (.cells #[.int .i64 R, .int .i64 C] 54) := ⟨_, rfl⟩
  rw [← hw1] at hB ga
  obtain ⟨X, hX⟩ : ∃ X, X = w.heap.size := ⟨_, rfl⟩
  rw [← hX] at hB
  have p0 : w1.cell? ⟨X, 0, none⟩ = some (.int .i64 (R : Int)) := blkC hB 0 rfl
  have p1 : w1.cell? ⟨X, 1, none⟩ = some (.int .i64 (C : Int)) := blkC hB 1 rfl
  have hRC : R * C ≤ 36 := Nat.mul_le_mul h.r6 h.c6
  have hlen := h.len
  have hol := h.ok.len
  have hxl : xs.length ≤ 36 := by omega
  have HBk := Lib.hid hB
  have HW := Lib.hid hw1
  have HX := Lib.hid hX
  have HG := Lib.hid ga
  have HH := Lib.hid h
  have HHH := Lib.hid hh
  have HN := Lib.hid hn
  have HO := Lib.hid ho
  have HXS := Lib.hid hx
  have HLE := Lib.hid hlen
  clear hB hw1 hX ga h hn hh ho hx hRC hlen
  go_enter Tryz.func35, Tryz.ntmps35
  go_upto_region 1 with (fail)
  rw [← HW.out, ← HX.out]
  go_wp2_with (fail)
  refine (checkLayout_any R C os xs HH.out a xa vs c xc w1 (HO.out.keep0 HG.out) (HXS.out.keep0 HG.out)).mono ?_
  rintro e w2 ⟨rfl, g2⟩
  have HG2 := Lib.hid (gr_trans HG.out g2)
  have hB2 := Lib.hid ((g2.block X (lt_of_block HBk.out) (by simp)).trans HBk.out)
  have Z2 : Hid (w2.grownBy w2 none) := gr_refl _ _
  clear g2 p0 p1
  go_wp2_with (fail)
  go_loopw [9, 22] (fun f i wr => ∃ k : Nat, k ≤ xs.length ∧ i = .int .i64 k ∧ f = .slice none 0 0 ∧ w2.grownBy wr none) (fun _ i _ => xs.length - (intOf i).toNat)
  case atStart => exact ⟨0, Nat.zero_le _, rfl, rfl, Z2.out⟩
  case round =>
    clear Z2
    obtain ⟨k, hk, rfl, rfl, hgr⟩ := hrel
    obtain ⟨wo, rfl⟩ : ∃ wo : World, wo = wr := ⟨_, rfl⟩
    by_cases hlt : k < xs.length
    · have hBo := (hgr.block X (lt_of_block hB2.out) (by simp)).trans hB2.out
      have q0 : wo.cell? ⟨X, 0, none⟩ = some (.int .i64 (R : Int)) := blkC hBo 0 rfl
      have q1 : wo.cell? ⟨X, 1, none⟩ = some (.int .i64 (C : Int)) := blkC hBo 1 rfl
      have hkRC : k < R * C := by have := HLE.out; omega
      have TA := Lib.hid (touching_any R C k wo HH.out.c1 HH.out.c6 HH.out.r6 hkRC)
      have HG3 := Lib.hid hgr
      clear hBo hgr
      go_wp2_with (fail)
      refine TA.out.mono ?_
      rintro e w4 ⟨v4, rfl, o4, g4⟩
      obtain ⟨ta, tc, rfl, _, _, hT, _⟩ := own_shape o4
      have hTm := tchL_mem R C k hkRC
      have hTl := tchL_len R C k
      have hNk := fun j hj hm => HN.out k j hlt hj hm
      obtain ⟨T, hTe⟩ : ∃ T, T = tchL R C k := ⟨_, rfl⟩
      rw [← hTe] at hT hTm hTl hNk
      rw [← hTe]
      have HT := Lib.hid hT
      have HTM := Lib.hid hTm
      have HNK := Lib.hid hNk
      have HG4 := Lib.hid (gr_trans HG3.out g4)
      have Z4 : Hid (w4.grownBy w4 none) := gr_refl _ _
      clear o4 g4 hT hTm hNk hTe TA q0 q1
      go_wp2_with (fail)
      go_loopw [9, 29] (fun f i wr => ∃ q : Nat, q ≤ T.length ∧ i = .int .i64 q ∧ f = .slice none 0 0 ∧ w4.grownBy wr none) (fun _ i _ => T.length - (intOf i).toNat)
      case atStart => exact ⟨0, Nat.zero_le _, rfl, rfl, Z4.out⟩
      case round =>
        clear Z4
        obtain ⟨q, hq, rfl, rfl, hgx⟩ := hrel
        obtain ⟨wx, rfl⟩ : ∃ wx : World, wx = wr := ⟨_, rfl⟩
        by_cases hlt2 : q < T.length
        · obtain ⟨tb, toff, rfl, d0⟩ := (HT.out.keep0 hgx) q (.int .i64 T[q]) (by simp [ints, List.getElem?_eq_getElem hlt2])
          obtain ⟨j, hj, hjl⟩ := HTM.out T[q] (List.getElem_mem hlt2)
          have hjx : j < xs.length := by have := HLE.out; omega
          have hno := HNK.out j hjx (by rw [← hj]; exact List.getElem_mem hlt2)
          rw [hj] at d0
          have hgw := gr_trans (gr_trans HG2.out HG4.out) hgx
          obtain ⟨b1, o1, rfl, d1⟩ := str_cell (HXS.out.keep0 hgw) k hlt
          obtain ⟨_, _, he, d2⟩ := str_cell (HXS.out.keep0 hgw) j hjx
          cases he
          obtain ⟨y, hy⟩ : ∃ y, y = xs.getD k ⟨#[]⟩ := ⟨_, rfl⟩
          obtain ⟨z, hz⟩ : ∃ z, z = xs.getD j ⟨#[]⟩ := ⟨_, rfl⟩
          rw [← hy] at d1
          rw [← hz] at d2
          have hno2 : hatedB os y z = false := by rw [hy, hz]; exact hno
          have HA := Lib.hid (fun (W : World) (g : wx.grownBy W none) => by have h := hated_any os y z a vs c W (HO.out.keep0 (gr_trans hgw g)) (by omega) HHH.out; rw [hno2] at h; exact h)
          have HG5 := Lib.hid hgx
          clear hno hno2 hgw hgx hy hz hj
          go_upto_region 11 with (fail)
          clear d0
          have z1 := grew_cell d1
          have z2 := grew_cell d2
          clear d1 d2
          refine wp_region_grew (by kernel_rfl) (by kernel_rfl) ?_
          repeat (go_big_quiet_step (first | (go_at_call 79; exact Calls.grew_of (fun W g => HA.out W g))))
          refine wpQuiet_nil ?_
          rintro wq ⟨nn, rfl⟩
          have gq := Lib.hid (gr_trans HG5.out nn.gr)
          go_wp2_with (fail)
          go_roundw
          case rel => exact ⟨q + 1, by omega, by go_num, rfl, gq.out⟩
          case measure => simp [intOf]; omega
        · obtain rfl : q = T.length := by omega
          have HG5 := Lib.hid (gr_trans HG4.out hgx)
          clear hgx
          go_wp2_with (fail)
          go_roundw
          case rel => exact ⟨k + 1, by omega, by go_num, rfl, HG5.out⟩
          case measure => simp [intOf]; omega
    · obtain rfl : k = xs.length := by omega
      have K := Lib.hid (gr_trans HG2.out hgr)
      clear hgr
      go_wp2_with (fail)
      go_ret2
      exact ⟨rfl, K.out⟩
end Go.Proofs.YthikknnadmebgaaGreatDoor

/-! What stands while a layout without clashes is looked for. No program in sight. -/
namespace Go.Proofs.YthikknnadmebgaaGreatDoor

/-- The counts of a beginning: what is left of each offer, and of the empty slots. -/
structure PlC (ks x : List ByteArray) (cs : List Int) (N : List ByteArray) (L : List Int) (em : Int) : Prop where
  nl : N.length ≤ x.length
  inV : ∀ y ∈ N, y ∈ e0B :: ks
  ll : L.length = ks.length
  cnt : ∀ o (h : o < ks.length), L.getD o 0 + (cntB ks[o] N : Int) = cs.getD o 0 ∧ 0 ≤ L.getD o 0
  emp : em + (cntB e0B N : Int) = (x.length : Int) - cs.sum
  emp0 : 0 ≤ em
/-- A layout that may be chosen. -/
structure PlIs (ks x : List ByteArray) (cs : List Int) (R C : Nat) (os : List Offer) (B : List ByteArray) : Prop where
  len : B.length = x.length
  inV : ∀ y ∈ B, y ∈ e0B :: ks
  cnt : ∀ o (h : o < ks.length), (cntB ks[o] B : Int) = cs.getD o 0
  nocl : NoCl R C os B
theorem cntB_nil (v : ByteArray) : cntB v [] = 0 := rfl
theorem cntB_app (v y : ByteArray) (l : List ByteArray) : cntB v (l ++ [y]) = cntB v l + (if y = v then 1 else 0) := by
  unfold cntB
  rw [List.countP_append]
  by_cases h : y = v <;> simp [h]
theorem PlC.start {ks x : List ByteArray} {cs : List Int} (C : ArC ks x cs) : PlC ks x cs [] cs ((x.length : Int) - cs.sum) :=
  ⟨Nat.zero_le _, fun y hy => (by cases hy), C.csl, fun o ho => ⟨by rw [cntB_nil]; omega, C.cs0 o ho⟩, by rw [cntB_nil]; omega, by have := C.tot; omega⟩
theorem PlC.empty {ks x : List ByteArray} {cs : List Int} {N : List ByteArray} {L : List Int} {em : Int} (C : ArC ks x cs) (h : PlC ks x cs N L em) (hn : N.length < x.length) (he : 0 < em) : PlC ks x cs (N ++ [e0B]) L (em - 1) := by
  refine ⟨by rw [List.length_append]; exact hn, fun y hy => ?_, h.ll, fun o ho => ?_, ?_, by omega⟩
  · rcases List.mem_append.1 hy with hy | hy
    · exact h.inV y hy
    · have : y = e0B := by simpa using hy
      rw [this]; exact List.mem_cons_self ..
  · rw [cntB_app, if_neg (fun e => key_ne C.nd o ho e.symm)]
    exact h.cnt o ho
  · rw [cntB_app, if_pos rfl]
    have := h.emp
    omega
theorem PlC.key {ks x : List ByteArray} {cs : List Int} {N : List ByteArray} {L : List Int} {em : Int} (C : ArC ks x cs) (h : PlC ks x cs N L em) (hn : N.length < x.length) (o : Nat) (ho : o < ks.length) (hL : 0 < L.getD o 0) : PlC ks x cs (N ++ [ks[o]]) (L.set o (L.getD o 0 - 1)) em := by
  refine ⟨by rw [List.length_append]; exact hn, fun y hy => ?_, by rw [List.length_set]; exact h.ll, fun p hp => ?_, ?_, h.emp0⟩
  · rcases List.mem_append.1 hy with hy | hy
    · exact h.inV y hy
    · have : y = ks[o] := by simpa using hy
      rw [this]; exact List.mem_cons_of_mem _ (List.getElem_mem ho)
  · obtain ⟨c1, c2⟩ := h.cnt p hp
    rw [cntB_app, getD_setI L o p _ (by rw [h.ll]; exact ho)]
    by_cases e : p = o
    · subst e
      rw [if_pos rfl, if_pos rfl]
      omega
    · rw [if_neg e, if_neg (fun e2 => e (key_inj C.nd hp ho e2.symm))]
      omega
  · rw [cntB_app, if_neg (key_ne C.nd o ho)]
    have := h.emp
    omega
/-- A whole layout has the counts. -/
theorem PlC.whole {ks x : List ByteArray} {cs : List Int} {R Cc : Nat} {os : List Offer} {N : List ByteArray} {L : List Int} {em : Int} (C : ArC ks x cs) (h : PlC ks x cs N L em) (hn : N.length = x.length) (hc : NoCl R Cc os N) : PlIs ks x cs R Cc os N := by
  refine ⟨hn, h.inV, fun j hj => ?_, hc⟩
  have h1 := cntB_all (e0B :: ks) C.nd N h.inV
  simp only [List.map_cons, List.sum_cons] at h1
  have g : ∀ p (hp : p < ks.length), ((ks.map fun v => cntB v N).getD p 0) = cntB ks[p] N := by
    intro p hp
    rw [List.getD_eq_getElem?_getD, List.getElem?_map, List.getElem?_eq_getElem hp]
    rfl
  have h2 := sum_leA (ks.map fun v => cntB v N) cs j (L.getD j 0) (by rw [List.length_map, C.csl]) (by rw [List.length_map]; exact hj) (fun p hp => by
    rw [List.length_map] at hp
    rw [g p hp]
    have := h.cnt p hp
    omega) (by rw [g j hj]; have := (h.cnt j hj).1; omega)
  have h3 := h.emp
  have h4 := h.emp0
  obtain ⟨c1, c2⟩ := h.cnt j hj
  omega
theorem mod_next {i C : Nat} (h : i % C + 1 < C) : (i + 1) % C = i % C + 1 := by
  have h1 := Nat.div_add_mod i C
  have e : i + 1 = C * (i / C) + (i % C + 1) := by omega
  have h3 : (C * (i / C) + (i % C + 1)) % C = i % C + 1 := by rw [Nat.mul_comm, Nat.mul_add_mod_of_lt h]
  rw [← e] at h3
  exact h3
theorem NoCl.nil (R C : Nat) (os : List Offer) : NoCl R C os [] := fun i _ hi => absurd hi (Nat.not_lt_zero i)
/-- The two tests of put. -/
theorem NoCl.push {R C : Nat} {os : List Offer} {N : List ByteArray} {y : ByteArray} (h : NoCl R C os N) (hup : C ≤ N.length → hatedB os (N.getD (N.length - C) e0B) y = false) (hside : 0 < N.length % C → hatedB os (N.getD (N.length - 1) e0B) y = false) : NoCl R C os (N ++ [y]) := by
  intro i j hi hj hm
  rw [List.length_append] at hi hj
  simp only [List.length_cons, List.length_nil] at hi hj
  have old : ∀ k, k < N.length → (N ++ [y]).getD k e0B = N.getD k e0B := fun k hk => by
    rw [List.getD_eq_getElem?_getD, List.getD_eq_getElem?_getD, List.getElem?_append_left hk]
  have new : (N ++ [y]).getD N.length e0B = y := by
    rw [List.getD_eq_getElem?_getD, List.getElem?_append_right (Nat.le_refl _), Nat.sub_self]
    rfl
  have hgo : (j = i + 1 ∧ i % C + 1 < C) ∨ (j = i + C ∧ i + C < R * C) := by
    unfold tchL at hm
    rcases List.mem_append.1 hm with hm | hm
    · split at hm
      · rename_i h1
        have : (j : Int) = ((i + 1 : Nat) : Int) := by simpa using hm
        exact .inl ⟨by omega, h1⟩
      · cases hm
    · split at hm
      · rename_i h1
        have : (j : Int) = ((i + C : Nat) : Int) := by simpa using hm
        exact .inr ⟨by omega, h1⟩
      · cases hm
  by_cases hjn : j = N.length
  · subst hjn
    rw [new]
    rcases hgo with ⟨e, h1⟩ | ⟨e, h1⟩
    · have hil : i < N.length := by omega
      rw [old i hil]
      have h2 := mod_next h1
      rw [← e] at h2
      have h3 := hside (by omega)
      rw [show N.length - 1 = i by omega] at h3
      exact h3
    · rcases Nat.eq_zero_or_pos C with h0 | h0
      · subst h0
        rw [Nat.mul_zero] at h1
        omega
      · have hil : i < N.length := by omega
        rw [old i hil]
        have h3 := hup (by omega)
        rw [show N.length - C = i by omega] at h3
        exact h3
  · have hjl : j < N.length := by omega
    have hil : i < N.length := by
      rcases hgo with ⟨e, -⟩ | ⟨e, -⟩ <;> omega
    rw [old i hil, old j hjl]
    exact h i j hil hjl hm
end Go.Proofs.YthikknnadmebgaaGreatDoor
