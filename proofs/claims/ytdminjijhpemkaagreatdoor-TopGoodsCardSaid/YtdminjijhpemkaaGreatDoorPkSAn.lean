/- The comparison by which a coil is rotated. -/
import Derived.Test.YtdminjijhpemkaaGreatDoorPkSAd
import Derived.Test.YtdminjijhpemkaaGreatDoorPkSAe
import Derived.Test.YtdminjijhpemkaaGreatDoorPkSAl
import Derived.Test.YtdminjijhpemkaaGreatDoorPkSAm
import Derived.Test.YtdminjijhpemkaaGreatDoorPkSAj
namespace Go.Proofs.YtdminjijhpemkaaGreatDoor
open Go.RowKit
attribute [local go_sem ↓] Go.wp_at_zero Go.wp_at_succ

def cmpN (a b : Int) : Int := if a < b then -1 else if b < a then 1 else 0
theorem nanInt_any (x : Int) (w : World) : Calls Tryz.prog 103 #[.int .i64 x] w fun e w' => e = .returned (.bool false) ∧ w = w' := by
  go_enter Tryz.func103, Tryz.ntmps103
  go_wp2_with (fail)
  go_ret
  exact ⟨ret_bool (by simp), rfl⟩
theorem cmpInt_any (a b : Int) (w : World) : Calls Tryz.prog 51 #[.int .i64 a, .int .i64 b] w fun e w' => e = .returned (.int .i64 (cmpN a b)) ∧ w = w' := by
  go_enter Tryz.func51, Tryz.ntmps51
  go_wp2_with (fail)
  refine (nanInt_any a w).mono ?_
  rintro e w1 ⟨rfl, rfl⟩
  go_wp2_with (fail)
  refine (nanInt_any b w).mono ?_
  rintro e w1 ⟨rfl, rfl⟩
  by_cases h1 : a < b
  · have HC : Hid (cmpN a b = -1) := by show _ = _; unfold cmpN; rw [if_pos h1]
    go_wp2_with (fail)
    go_ret
    exact ⟨ret_int HC.out.symm, rfl⟩
  · by_cases h2 : b < a
    · have HC : Hid (cmpN a b = 1) := by show _ = _; unfold cmpN; rw [if_neg h1, if_pos h2]
      go_wp2_with (fail)
      go_ret
      exact ⟨ret_int HC.out.symm, rfl⟩
    · have HC : Hid (cmpN a b = 0) := by show _ = _; unfold cmpN; rw [if_neg h1, if_neg h2]
      go_wp2_with (fail)
      go_ret
      exact ⟨ret_int HC.out.symm, rfl⟩
def orI (a b : Int) : Int := if a = 0 then b else a
set_option maxRecDepth 100000 in
theorem orInt_any (a b : Int) (g c : Nat) (w : World) (h0 : w.cell? ⟨g, 0, none⟩ = some (.int .i64 a)) (h1 : w.cell? ⟨g, 1, none⟩ = some (.int .i64 b)) :
    Calls Tryz.prog 50 #[.slice (some ⟨g, 0, none⟩) 2 c] w fun e w' => e = .returned (.int .i64 (orI a b)) ∧ w = w' := by
  unfold orI
  go_enter Tryz.func50, Tryz.ntmps50
  go_wp2_with (fail)
  go_loop [8] (fun i => (i = .int .i64 0 ∨ (i = .int .i64 1 ∧ a = 0) ∨ (i = .int .i64 2 ∧ a = 0 ∧ b = 0))) (fun i => 2 - (intOf i).toNat)
  case atStart => exact .inl rfl
  case round =>
    rcases hrel with rfl | ⟨rfl, rfl⟩ | ⟨rfl, rfl, rfl⟩
    · by_cases ha : a = 0
      · subst ha
        go_wp2_with (fail)
        go_round
        case rel => exact .inr (.inl (by simp))
        case measure => simp [intOf]
      · have ha2 : (a != 0) = true := by simpa using ha
        go_wp2_with (fail)
        go_ret
        exact ⟨rfl, rfl⟩
    · by_cases hb : b = 0
      · subst hb
        go_wp2_with (fail)
        go_round
        case rel => exact .inr (.inr (by simp))
        case measure => simp [intOf]
      · have hb2 : (b != 0) = true := by simpa using hb
        go_wp2_with (fail)
        go_ret
        exact ⟨rfl, rfl⟩
    · go_wp2_with (fail)
      go_ret
      exact ⟨rfl, rfl⟩
def rotCm (xs : List Lot) (x y : Piece) : Int := orI (cmpN (lotGet xs x.lot).exp (lotGet xs y.lot).exp) (cmpB x.lot y.lot)
theorem rotCm_bd (xs : List Lot) (x y : Piece) : -1 ≤ rotCm xs x y ∧ rotCm xs x y ≤ 1 := by
  have := cmpB_bd x.lot y.lot
  unfold rotCm orI cmpN
  split <;> split at * <;> (try split at *) <;> omega
theorem rotCm_neg {xs : List Lot} {x y : Piece} : rotCm xs x y < 0 ↔ (lotGet xs x.lot).exp < (lotGet xs y.lot).exp ∨ ((lotGet xs x.lot).exp = (lotGet xs y.lot).exp ∧ x.lot.data.toList < y.lot.data.toList) := by
  rw [← cmpB_neg]
  unfold rotCm orI cmpN
  by_cases h1 : (lotGet xs x.lot).exp < (lotGet xs y.lot).exp
  · rw [if_pos h1]; simp [h1]
  · rw [if_neg h1]
    by_cases h2 : (lotGet xs y.lot).exp < (lotGet xs x.lot).exp
    · rw [if_pos h2]; simp; omega
    · rw [if_neg h2]; simp; omega
theorem rotCm_ok (xs : List Lot) : CmpOk (rotCm xs) := by
  refine ⟨fun a b h => ?_, fun a b c h1 h2 h3 => ?_⟩
  · rw [rotCm_neg] at h ⊢
    rintro (g | ⟨g, g2⟩)
    · rcases h with h | ⟨h, _⟩ <;> omega
    · rcases h with h | ⟨_, h2⟩
      · omega
      · exact ltL_irrefl _ (ltL_trans h2 g2)
  · rw [rotCm_neg] at h1 h2 h3
    have tri := fun (x y : ByteArray) => compareBytes_sign x.data.toList y.data.toList
    rcases h3 with h3 | ⟨h3, h4⟩
    · have a1 : ¬ (lotGet xs b.lot).exp < (lotGet xs a.lot).exp := fun h => h1 (.inl h)
      have a2 : ¬ (lotGet xs c.lot).exp < (lotGet xs b.lot).exp := fun h => h2 (.inl h)
      omega
    · have a1 : ¬ (lotGet xs b.lot).exp < (lotGet xs a.lot).exp := fun h => h1 (.inl h)
      have a2 : ¬ (lotGet xs c.lot).exp < (lotGet xs b.lot).exp := fun h => h2 (.inl h)
      have e1 : (lotGet xs b.lot).exp = (lotGet xs a.lot).exp := by omega
      have e2 : (lotGet xs c.lot).exp = (lotGet xs b.lot).exp := by omega
      have n1 : ¬ b.lot.data.toList < a.lot.data.toList := fun h => h1 (.inr ⟨e1, h⟩)
      have n2 : ¬ c.lot.data.toList < b.lot.data.toList := fun h => h2 (.inr ⟨e2, h⟩)
      rcases tri a.lot b.lot with ⟨_, h⟩ | ⟨_, h⟩ | ⟨_, h⟩
      · exact n2 (ltL_trans h4 h)
      · rw [h] at h4; exact n2 h4
      · exact n1 h
set_option maxRecDepth 100000 in
set_option maxHeartbeats 4000000 in
theorem rot1_any (x y : Piece) (xs : List Lot) (xa : Option Addr) (xc q : Nat) (w : World) (hq : w.cell? ⟨q, 0, none⟩ = some (.slice xa xs.length xc)) (hx : CellsAt w xa (flat encLot xs)) (hxl : xs.length ≤ 100000) (h1 : lotHas xs x.lot = true) (h2 : lotHas xs y.lot = true) :
    Calls Tryz.prog 49 #[.agg #[.string x.lot, .int .i64 x.many], .agg #[.string y.lot, .int .i64 y.many], .pointer (some ⟨q, 0, none⟩)] w fun e w' => e = .returned (.int .i64 (rotCm xs x y)) ∧ w.grownBy w' none := by
  have hqlt := lt_of_cell hq
  obtain ⟨x0, x1⟩ := x
  obtain ⟨y0, y1⟩ := y
  simp only at h1 h2 ⊢
  obtain ⟨i, hi, hie, hig⟩ := lotIx_at h1
  obtain ⟨j, hj, hje, hjg⟩ := lotIx_at h2
  have g2 := gr_alloc (gr_alloc (gr_refl w none) (.cells #[.string x0, .int .i64 x1] 53)) (.cells #[.string y0, .int .i64 y1] 53)
  obtain ⟨hA, hB⟩ := heap_2 w (.cells #[.string x0, .int .i64 x1] 53) (.cells #[.string y0, .int .i64 y1] 53)
  obtain ⟨w2, hw2⟩ : ∃ w2, w2 = (w.alloc (.cells #[.string x0, .int .i64 x1] 53)).alloc (.cells #[.string y0, .int .i64 y1] 53) := ⟨_, rfl⟩
  rw [← hw2] at g2 hA hB
  have hq2 := (gr_cell g2 hqlt).trans hq
  have hx2 := hx.keep0 g2
  obtain ⟨lb, lo, rfl, a0, a1, a2, a3⟩ := lot_cells hx2 i hi
  obtain ⟨lb', lo', e', b0, b1, b2, b3⟩ := lot_cells hx2 j hj
  cases e'
  rw [hig] at a2
  rw [hjg] at b2
  obtain ⟨p0, p1, -, -⟩ := blk2 hA
  obtain ⟨r0, r1, -, -⟩ := blk2 hB
  have LX : Hid (∀ W, w2.grownBy W none → Calls Tryz.prog 52 #[.slice (some ⟨lb, lo, none⟩) xs.length xc, .string x0] W fun e w' => e = .returned (.int .i64 i) ∧ W.grownBy w' none) := fun W g => by
    have := lot_any x0 xs _ xc W (hx2.keep0 g) hxl
    rw [hie] at this; exact this
  have LY : Hid (∀ W, w2.grownBy W none → Calls Tryz.prog 52 #[.slice (some ⟨lb, lo, none⟩) xs.length xc, .string y0] W fun e w' => e = .returned (.int .i64 j) ∧ W.grownBy w' none) := fun W g => by
    have := lot_any y0 xs _ xc W (hx2.keep0 g) hxl
    rw [hje] at this; exact this
  have HE : Hid (rotCm xs ⟨x0, x1⟩ ⟨y0, y1⟩ = orI (cmpN (lotGet xs x0).exp (lotGet xs y0).exp) (cmpB x0 y0)) := rfl
  obtain ⟨ex, hex⟩ : ∃ e, e = (lotGet xs x0).exp := ⟨_, rfl⟩
  obtain ⟨ey, hey⟩ : ∃ e, e = (lotGet xs y0).exp := ⟨_, rfl⟩
  rw [← hex] at a2 HE
  rw [← hey] at b2 HE
  have gq2 := grew_cell hq2
  have ga2 := grew_cell a2
  have gb2 := grew_cell b2
  have gp0 := grew_cell p0
  have gr0 := grew_cell r0
  have HG := Lib.hid g2
  have HW := Lib.hid hw2
  have hi0 : (0 : Int) ≤ (i : Int) := by omega
  have hi1 : (i : Int) < (xs.length : Int) := by omega
  have hj0 : (0 : Int) ≤ (j : Int) := by omega
  have hj1 : (j : Int) < (xs.length : Int) := by omega
  clear hq hx hx2 g2 hA hB hw2 hie hig hje hjg a0 a1 a2 a3 b0 b1 b2 b3 p0 p1 r0 r1 hq2 hex hey h1 h2
  go_enter Tryz.func49, Tryz.ntmps49
  go_wp2_with (fail)
  rw [← HW.out]
  refine wp_region_grew_tail 22 (by kernel_rfl) (by kernel_rfl) ?_
  simp only [List.take_succ_cons, List.take_zero, List.drop_succ_cons, List.drop_zero]
  repeat (go_big_quiet_step (first
    | (go_at_call 52; first | (with_reducible exact Calls.grew_of (fun W g => LX.out W g)) | (with_reducible exact Calls.grew_of (fun W g => LY.out W g)))
    | (go_at_call 51; exact Calls.grew_of (fun W g => (cmpInt_any _ _ W).mono fun _ _ h => ⟨h.1, by rw [← h.2]; exact gr_refl _ _⟩))
    | (go_at_call 53; exact Calls.grew_of (fun W g => (compare_any _ _ W).mono fun _ _ h => ⟨h.1, by rw [← h.2]; exact gr_refl _ _⟩))))
  refine wpQuiet_nil ?_
  rintro wq ⟨nn, rfl⟩
  have gq := nn.gr
  obtain ⟨wn, hwn⟩ : ∃ wn, wn = nn.w := ⟨_, rfl⟩
  rw [← hwn] at gq
  rw [← hwn]
  obtain ⟨u, hu⟩ : ∃ u, u = cmpN ex ey := ⟨_, rfl⟩
  obtain ⟨v, hv⟩ : ∃ v, v = cmpB x0 y0 := ⟨_, rfl⟩
  rw [← hu, ← hv] at HE
  rw [← hu, ← hv]
  have gN := gr_alloc (gr_refl wn none) (.cells #[.int .i64 u, .int .i64 v] 3)
  have hN := heap_alloc_new wn (.cells #[.int .i64 u, .int .i64 v] 3)
  have OR := Lib.hid (orInt_any u v wn.heap.size 2 _ (blkC hN 0 rfl) (blkC hN 1 rfl))
  clear ga2 gb2 gp0 gr0 gq2 hwn hu hv hN
  go_wp2_with (fail)
  refine OR.out.mono ?_
  rintro e w5 ⟨rfl, rfl⟩
  go_wp2_with (fail)
  go_ret
  exact ⟨ret_int HE.out.symm, gr_trans HG.out (gr_trans gq gN)⟩
end Go.Proofs.YtdminjijhpemkaaGreatDoor

/-! What is wrong with needs: as the reference says it, and the program. -/
namespace Go.Proofs.YtdminjijhpemkaaGreatDoor
open Go.RowKit
attribute [local go_sem ↓] Go.wp_at_zero Go.wp_at_succ

theorem need_cells {w : World} {a : Option Addr} {N : List Need} (h : CellsAt w a (flat encNeed N)) (k : Nat) (hk : k < N.length) :
    ∃ b off, a = some ⟨b, off, none⟩ ∧ w.cell? ⟨b, off + k * 3, none⟩ = some (.string N[k].place) ∧ w.cell? ⟨b, off + k * 3 + 1, none⟩ = some (.string N[k].prod) ∧ w.cell? ⟨b, off + k * 3 + 2, none⟩ = some (.int .i64 N[k].many) := by
  obtain ⟨b, off, rfl, hcs⟩ := flat_cells encNeed_len (by decide) h (by omega)
  exact ⟨b, off, rfl, hcs k hk 0 _ rfl, hcs k hk 1 _ rfl, hcs k hk 2 _ rfl⟩
structure NeedOk (N : List Need) (i : Nat) (hi : i < N.length) : Prop where
  kp : keyB N[i].place = true
  kr : keyB N[i].prod = true
  up : ∀ (h : 0 < i), orI (cmpB (N[i - 1]'(by omega)).place N[i].place) (cmpB (N[i - 1]'(by omega)).prod N[i].prod) < 0
  lo : 0 ≤ N[i].many
  hi : N[i].many ≤ 100000
def NeedsOk (N : List Need) : Prop := ∀ i (hi : i < N.length), NeedOk N i hi
theorem orI_anti {a b c d : ByteArray} (h : orI (cmpB a b) (cmpB c d) < 0) : 0 < orI (cmpB b a) (cmpB d c) := by
  rw [cmpB_anti a b, cmpB_anti c d]
  unfold orI at *
  split at h <;> split <;> omega
theorem cmpS_grew {w : World} (a b : ByteArray) : ∀ W, w.grownBy W none → Calls Tryz.prog 53 #[.string a, .string b] W fun e w' => e = .returned (.int .i64 (cmpB a b)) ∧ W.grownBy w' none := fun W _ => (compare_any a b W).mono fun _ _ h => ⟨h.1, by rw [← h.2]; exact gr_refl _ _⟩
set_option maxRecDepth 100000 in
set_option maxHeartbeats 4000000 in
theorem checkNeeds_ok (N : List Need) (a : Option Addr) (c : Nat) (w : World) (h : CellsAt w a (flat encNeed N)) (hsm : NeedsSm N) (hok : NeedsOk N) :
    Calls Tryz.prog 94 #[.slice a N.length c] w fun e w' => e = .returned (.int .i64 0) ∧ w.grownBy w' none := by
  have H := Lib.hid h
  have HSM := Lib.hid hsm
  have HOK := Lib.hid hok
  have hl := hsm.len
  clear h hsm hok
  go_enter Tryz.func94, Tryz.ntmps94
  go_wp2_with (fail)
  go_loopw [10] (fun i wr => ∃ k : Nat, k ≤ N.length ∧ i = .int .i64 k ∧ w.grownBy wr none) (fun i _ => N.length - (intOf i).toNat)
  case atStart => exact ⟨0, Nat.zero_le _, rfl, gr_refl _ _⟩
  case round =>
    obtain ⟨k, hk, rfl, hgr⟩ := hrel
    obtain ⟨wo, rfl⟩ : ∃ wo : World, wo = wr := ⟨_, rfl⟩
    by_cases hlt : k < N.length
    · obtain ⟨b, off, rfl, d0, d1, d2⟩ := need_cells (H.out.keep0 hgr) k hlt
      have hs := HSM.out.all _ (List.getElem_mem hlt)
      have ho := HOK.out k hlt
      obtain ⟨hk1, hk2, hup, hlo, hhi⟩ := ho
      have PV : Hid (∀ (h : 0 < k), wo.cell? ⟨b, off + (k - 1) * 3, none⟩ = some (.string (N[k - 1]'(by omega)).place) ∧ wo.cell? ⟨b, off + (k - 1) * 3 + 1, none⟩ = some (.string (N[k - 1]'(by omega)).prod)) := fun h => by
        obtain ⟨b', off', e', y0, y1, -⟩ := need_cells (H.out.keep0 hgr) (k - 1) (by omega)
        cases e'
        exact ⟨y0, y1⟩
      obtain ⟨x, hx⟩ : ∃ x, x = N[k] := ⟨_, rfl⟩
      rw [← hx] at d0 d1 d2 hs hk1 hk2 hlo hhi
      simp only [← hx] at hup
      obtain ⟨P, R, M⟩ := x
      obtain ⟨hs1, hs2, hs3, hs4⟩ := hs
      simp only at d0 d1 d2 hs1 hs2 hs3 hs4 hk1 hk2 hlo hhi hup
      have HUP := Lib.hid hup
      have HGR := Lib.hid hgr
      have hV := heap_alloc_new wo (.cells #[.string P, .string R, .int .i64 M] 32)
      have hg2 := gr_alloc (gr_refl wo none) (.cells #[.string P, .string R, .int .i64 M] 32)
      obtain ⟨w2, hw2⟩ : ∃ w2, w2 = wo.alloc (.cells #[.string P, .string R, .int .i64 M] 32) := ⟨_, rfl⟩
      rw [← hw2] at hV hg2
      have HV := Lib.hid hV
      have HG2 := Lib.hid hg2
      have HW2 := Lib.hid hw2
      clear hx hgr hV hg2 hw2 hup
      have KP := Lib.hid (fun W : World => key_any P W (by omega))
      have KR := Lib.hid (fun W : World => key_any R W (by omega))
      rw [hk1] at KP
      rw [hk2] at KR
      have hM0 : (decide (M < 0) || decide (100000 < M)) = false := by simp; omega
      clear hk1 hk2
      go_wp2_with (fail)
      rw [← HW2.out]
      have v0 := blkC HV.out 0 rfl
      have v1 : w2.cell? ⟨wo.heap.size, 1, none⟩ = some (.string R) := blkC HV.out 1 rfl
      have v2 : w2.cell? ⟨wo.heap.size, 2, none⟩ = some (.int .i64 M) := blkC HV.out 2 rfl
      go_wp2_with (fail)
      refine (KP.out w2).mono ?_
      rintro e w3 ⟨rfl, rfl⟩
      go_wp2_with (fail)
      refine (KR.out w2).mono ?_
      rintro e w3 ⟨rfl, rfl⟩
      clear d0 d1 d2
      go_upto_region 8 with (fail)
      go_cut [26] (fun s wx => s = .bool false ∧ w2.grownBy wx none)
      case first =>
        by_cases hk0 : 0 < k
        · obtain ⟨i, rfl⟩ : ∃ i, k = i + 1 := ⟨k - 1, by omega⟩
          obtain ⟨y0, y1⟩ := PV.out hk0
          simp only [Nat.add_sub_cancel] at y0 y1
          have y0 := (gr_cell HG2.out (lt_of_cell y0)).trans y0
          have y1 := (gr_cell HG2.out (lt_of_cell y1)).trans y1
          have UP := orI_anti (HUP.out hk0)
          simp only [Nat.add_sub_cancel] at UP
          obtain ⟨P', hP'⟩ : ∃ x, x = N[i].place := ⟨_, rfl⟩
          obtain ⟨R', hR'⟩ : ∃ x, x = N[i].prod := ⟨_, rfl⟩
          rw [← hP'] at y0 UP
          rw [← hR'] at y1 UP
          have UP := Lib.hid UP
          have gy0 := grew_cell y0
          have gy1 := grew_cell y1
          have gv0 := grew_cell v0
          have gv1 := grew_cell v1
          have hd : decide ((0 : Int) < (i : Int) + 1) = true := decide_eq_true (by omega)
          have hq0 : (0 : Int) ≤ (i : Int) := by omega
          have hq1 : (i : Int) < (N.length : Int) := by omega
          clear y0 y1 v0 v1 v2 hP' hR' PV HUP
          refine wp_region_grew_tail 21 (by kernel_rfl) (by kernel_rfl) ?_
          simp only [List.take_succ_cons, List.take_zero, List.drop_succ_cons, List.drop_zero]
          repeat (go_big_quiet_step (first
            | (go_at_call 53; exact Calls.grew_of (fun W g => (compare_any _ _ W).mono fun _ _ h => ⟨h.1, by rw [← h.2]; exact gr_refl _ _⟩))))
          refine wpQuiet_nil ?_
          rintro wq ⟨nn, rfl⟩
          have gq := nn.gr
          obtain ⟨wn, hwn⟩ : ∃ wn, wn = nn.w := ⟨_, rfl⟩
          rw [← hwn] at gq
          rw [← hwn]
          obtain ⟨c1, hc1⟩ : ∃ u, u = cmpB P P' := ⟨_, rfl⟩
          obtain ⟨c2, hc2⟩ : ∃ v, v = cmpB R R' := ⟨_, rfl⟩
          rw [← hc1, ← hc2] at UP
          rw [← hc1, ← hc2]
          have gN := gr_alloc (gr_refl wn none) (.cells #[.int .i64 c1, .int .i64 c2] 3)
          have hN := heap_alloc_new wn (.cells #[.int .i64 c1, .int .i64 c2] 3)
          have OR := Lib.hid (orInt_any c1 c2 wn.heap.size 2 _ (blkC hN 0 rfl) (blkC hN 1 rfl))
          have GQ := Lib.hid (gr_trans gq gN)
          obtain ⟨o, ho⟩ : ∃ o, o = orI c1 c2 := ⟨_, rfl⟩
          rw [← ho] at UP OR
          have hoo : 0 < o := UP.out
          have hd2 : decide (o ≤ 0) = false := decide_eq_false (by omega)
          clear gy0 gy1 gv0 gv1 hwn hc1 hc2 hN gq gN ho
          go_wp2_with (fail)
          refine OR.out.mono ?_
          rintro e w5 ⟨rfl, rfl⟩
          go_wp2_with (fail)
          go_meet
          exact ⟨rfl, GQ.out⟩
        · have hk00 : k = 0 := by omega
          subst hk00
          have gv0 := grew_cell v0
          have gv1 := grew_cell v1
          clear v0 v1 v2 PV
          refine wp_region_grew_tail 21 (by kernel_rfl) (by kernel_rfl) ?_
          simp only [List.take_succ_cons, List.take_zero, List.drop_succ_cons, List.drop_zero]
          repeat (go_big_quiet_step (fail))
          refine wpQuiet_nil ?_
          rintro wq ⟨nn, rfl⟩
          have gq := nn.gr
          clear gv0 gv1
          go_wp2_with (fail)
          go_meet
          exact ⟨rfl, gq⟩
      case rest =>
      obtain ⟨rfl, g5⟩ := hcut
      obtain ⟨w5, rfl⟩ : ∃ w5 : World, w5 = wc := ⟨_, rfl⟩
      have hV5 := (g5.block _ (lt_of_block HV.out) (by simp)).trans HV.out
      have HG5 := Lib.hid (gr_trans HG2.out g5)
      clear v0 v1 v2 g5
      have v2 : w5.cell? ⟨wo.heap.size, 2, none⟩ = some (.int .i64 M) := blkC hV5 2 rfl
      clear hV5
      go_wp2_with (fail)
      refine (out_any M 0 100000 w5).mono ?_
      rintro e w6 ⟨rfl, rfl⟩
      rw [hM0]
      go_wp2_with (fail)
      go_roundw
      case rel => exact ⟨k + 1, by omega, by go_num, gr_trans HGR.out HG5.out⟩
      case measure => simp [intOf]; omega
    · obtain rfl : k = N.length := by omega
      go_wp2_with (fail)
      go_ret
      exact ⟨rfl, hgr⟩
end Go.Proofs.YtdminjijhpemkaaGreatDoor

/-! A total divided among weights: no program in sight. -/
namespace Go.Proofs.YtdminjijhpemkaaGreatDoor
open Go.RowKit

def quoT (tot sum w : Int) : Int := (tot * w).tdiv sum
def remT (tot sum w : Int) : Int := (tot * w).tmod sum
theorem quo_rem {tot sum w : Int} (h0 : 0 ≤ tot) (hs : 0 < sum) (hw : 0 ≤ w) : sum * quoT tot sum w + remT tot sum w = tot * w ∧ 0 ≤ remT tot sum w ∧ remT tot sum w < sum ∧ 0 ≤ quoT tot sum w := by
  have hn : 0 ≤ tot * w := Int.mul_nonneg h0 hw
  unfold quoT remT
  refine ⟨Int.mul_tdiv_add_tmod _ _, ?_, Int.tmod_lt_of_pos _ hs, ?_⟩
  · rw [Int.tmod_eq_emod_of_nonneg hn]; exact Int.emod_nonneg _ (by omega)
  · rw [Int.tdiv_eq_ediv_of_nonneg hn]; exact Int.ediv_nonneg hn (by omega)
theorem quoT_le {tot sum w : Int} (h0 : 0 ≤ tot) (hs : 0 < sum) (hw : 0 ≤ w) (hws : w ≤ sum) : quoT tot sum w ≤ tot := by
  have hn : 0 ≤ tot * w := Int.mul_nonneg h0 hw
  unfold quoT
  rw [Int.tdiv_eq_ediv_of_nonneg hn]
  exact Int.ediv_le_of_le_mul hs (Int.mul_le_mul_of_nonneg_left hws h0)
def quoL (tot sum : Int) (ws : List Int) : List Int := ws.map (quoT tot sum)
theorem sumI_app (a b : List Int) : (a ++ b).sum = a.sum + b.sum := by simp
theorem share_bd (tot sum : Int) (h0 : 0 ≤ tot) (hs : 0 < sum) (ws : List Int) (h : ∀ w ∈ ws, 0 ≤ w) : sum * (quoL tot sum ws).sum ≤ tot * ws.sum ∧ tot * ws.sum ≤ sum * (quoL tot sum ws).sum + sum * ws.length := by
  induction ws with
  | nil => simp [quoL]
  | cons w ws ih =>
    obtain ⟨i1, i2⟩ := ih (fun x hx => h x (by simp [hx]))
    obtain ⟨e, r0, r1, -⟩ := quo_rem h0 hs (h w (by simp))
    have e1 : (quoL tot sum (w :: ws)).sum = quoT tot sum w + (quoL tot sum ws).sum := by simp [quoL]
    have e2 : (w :: ws).sum = w + ws.sum := by simp
    have e3 : ((w :: ws).length : Int) = ws.length + 1 := by simp
    rw [e1, e2, e3, Int.mul_add, Int.mul_add, Int.mul_add, Int.mul_one]
    omega
theorem share_left (tot sum : Int) (h0 : 0 ≤ tot) (hs : 0 < sum) (ws : List Int) (h : ∀ w ∈ ws, 0 ≤ w) (he : ws.sum = sum) : 0 ≤ tot - (quoL tot sum ws).sum ∧ tot - (quoL tot sum ws).sum ≤ ws.length := by
  obtain ⟨h1, h2⟩ := share_bd tot sum h0 hs ws h
  rw [he] at h1 h2
  constructor
  · have : sum * (quoL tot sum ws).sum ≤ sum * tot := by rw [Int.mul_comm sum tot]; exact h1
    have := Int.le_of_mul_le_mul_left this hs
    omega
  · have : sum * tot ≤ sum * ((quoL tot sum ws).sum + ws.length) := by rw [Int.mul_add, Int.mul_comm sum tot]; exact h2
    have := Int.le_of_mul_le_mul_left this hs
    omega
/-- The comparison of two places by what their parts leave. -/
def shareCm (tot sum : Int) (ws : List Int) (a b : Int) : Int := cmpN (remT tot sum (ws.getD b.toNat 0)) (remT tot sum (ws.getD a.toNat 0))
theorem shareCm_neg {tot sum : Int} {ws : List Int} {a b : Int} : shareCm tot sum ws a b < 0 ↔ remT tot sum (ws.getD b.toNat 0) < remT tot sum (ws.getD a.toNat 0) := by
  unfold shareCm cmpN
  generalize remT tot sum (ws.getD b.toNat 0) = u
  generalize remT tot sum (ws.getD a.toNat 0) = v
  split
  · simp [*]
  · split <;> simp <;> omega
theorem shareCm_ok (tot sum : Int) (ws : List Int) : CmpOk (shareCm tot sum ws) := ⟨fun a b h => by rw [shareCm_neg] at *; omega, fun a b c h1 h2 => by rw [shareCm_neg] at *; omega⟩
/-- What stands while the rest is given out, one to each of the first in order. -/
structure Given (Q : List Int) (O : List Int) (t : Nat) (L : List Int) : Prop where
  len : L.length = Q.length
  sum : L.sum = Q.sum + t
  at_ : ∀ j, j < Q.length → L.getD j 0 = Q.getD j 0 + if (j : Int) ∈ O.take t then 1 else 0
theorem Given.start (Q O : List Int) : Given Q O 0 Q := ⟨rfl, by simp, fun j _ => by simp⟩
theorem sum_setS (L : List Int) (i : Nat) (h : i < L.length) (x : Int) : (L.set i x).sum = L.sum - L.getD i 0 + x := by
  induction L generalizing i with
  | nil => simp at h
  | cons y L ih =>
    cases i with
    | zero => simp; omega
    | succ i =>
      have := ih i (by simpa using h)
      simp only [List.set_cons_succ, List.sum_cons, List.getD_cons_succ]
      omega
theorem Given.next {Q O L : List Int} {t i : Nat} (h : Given Q O t L) (hnd : O.Nodup) (ht : t < O.length) (hi : O[t] = (i : Int)) (hil : i < Q.length) : Given Q O (t + 1) (L.set i (L.getD i 0 + 1)) ∧ L.getD i 0 = Q.getD i 0 := by
  have hni : (i : Int) ∉ O.take t := fun hm => by
    rw [← hi] at hm
    obtain ⟨j, hj, e⟩ := List.getElem_of_mem hm
    rw [List.getElem_take] at e
    have hjt : j < t := by rw [List.length_take] at hj; omega
    have := (List.pairwise_iff_getElem.1 hnd) j t (by omega) ht hjt
    exact this e
  have hlen := h.len
  have hq : L.getD i 0 = Q.getD i 0 := by rw [h.at_ i hil, if_neg hni, Int.add_zero]
  refine ⟨⟨by simp [hlen], ?_, fun j hj => ?_⟩, hq⟩
  · rw [sum_setS L i (by omega), h.sum]; omega
  · have hg : (L.set i (L.getD i 0 + 1)).getD j 0 = if i = j then L.getD i 0 + 1 else L.getD j 0 := by
      rw [List.getD_eq_getElem?_getD, List.getElem?_set]
      by_cases e : i = j
      · subst e; simp [show i < L.length by omega]
      · rw [if_neg e, if_neg e, ← List.getD_eq_getElem?_getD]
    rw [hg, List.take_succ_eq_append_getElem ht, hi]
    by_cases e : i = j
    · subst e
      rw [if_pos rfl, if_pos (List.mem_append_right _ (by simp)), hq]
    · rw [if_neg e, h.at_ j hj]
      have e2 : ¬ (j : Int) = (i : Int) := by omega
      have e3 : ((j : Int) ∈ O.take t ++ [(i : Int)]) ↔ (j : Int) ∈ O.take t := by simp [e2]
      by_cases e4 : (j : Int) ∈ O.take t
      · rw [if_pos e4, if_pos (e3.2 e4)]
      · rw [if_neg e4, if_neg (fun h => e4 (e3.1 h))]
def placesL (n : Nat) : List Int := (List.range n).map Int.ofNat
/-- What a division has: the quotients, and one more at the first places in order. -/
structure ShareOk (tot sum : Int) (ws P : List Int) : Prop where
  len : P.length = ws.length
  all : P.sum = tot
  ex : ∃ O : List Int, O.Perm (placesL ws.length) ∧ Srt (shareCm tot sum ws) 0 O ws.length ∧ StbC3 (shareCm tot sum ws) O ws.length ∧ ∀ j, j < ws.length → P.getD j 0 = (quoL tot sum ws).getD j 0 + if (j : Int) ∈ O.take (tot - (quoL tot sum ws).sum).toNat then 1 else 0
theorem ShareOk.each {tot sum : Int} {ws P : List Int} (h : ShareOk tot sum ws P) (j : Nat) (hj : j < ws.length) : (quoL tot sum ws).getD j 0 ≤ P.getD j 0 ∧ P.getD j 0 ≤ (quoL tot sum ws).getD j 0 + 1 := by
  obtain ⟨O, -, -, -, h⟩ := h.ex
  rw [h j hj]
  split <;> omega
def sortT (cm : Int → Int → Int) (a b : Int) : Prop := cm a b < 0 ∨ (¬ cm b a < 0 ∧ a < b)
theorem sort_unique {cm : Int → Int → Int} (hc : CmpOk cm) {O O' : List Int} {n : Nat} (hl : O.length = n) (hl' : O'.length = n) (hp : O.Perm O') (h1 : Srt cm 0 O n) (h2 : StbC3 cm O n) (h1' : Srt cm 0 O' n) (h2' : StbC3 cm O' n) : O = O' := by
  have pw : ∀ {O : List Int}, O.length = n → Srt cm 0 O n → StbC3 cm O n → O.Pairwise (sortT cm) := fun {O} hl h1 h2 => by
    rw [List.pairwise_iff_getElem]
    intro p q hp hq hpq
    have a1 := h1 p q hpq (by omega)
    have a2 := h2 p q hpq (by omega) a1
    rw [getD_eq O q 0 hq, getD_eq O p 0 hp] at a1 a2
    by_cases h : cm O[p] O[q] < 0
    · exact .inl h
    · exact .inr ⟨a1, a2 h⟩
  refine List.Perm.eq_of_pairwise (le := sortT cm) (fun a b _ _ hab hba => ?_) (pw hl h1 h2) (pw hl' h1' h2') hp
  rcases hab with hab | ⟨hab, hlt⟩
  · rcases hba with hba | ⟨hba, _⟩
    · exact absurd hba (hc.1 _ _ hab)
    · exact absurd hab hba
  · rcases hba with hba | ⟨_, hlt2⟩
    · exact absurd hba hab
    · omega
theorem ShareOk.unique {tot sum : Int} {ws P P' : List Int} (h : ShareOk tot sum ws P) (h' : ShareOk tot sum ws P') : P = P' := by
  obtain ⟨O, p1, p2, p3, p4⟩ := h.ex
  obtain ⟨O', q1, q2, q3, q4⟩ := h'.ex
  have hl : (placesL ws.length).length = ws.length := by simp [placesL]
  have e := sort_unique (shareCm_ok tot sum ws) (by rw [p1.length_eq, hl]) (by rw [q1.length_eq, hl]) (p1.trans q1.symm) p2 p3 q2 q3
  subst e
  refine List.ext_getElem (by rw [h.len, h'.len]) (fun j h1 h2 => ?_)
  have hj : j < ws.length := by rw [← h.len]; exact h1
  have a := p4 j hj
  rw [← q4 j hj, getD_eq P j 0 h1, getD_eq P' j 0 h2] at a
  exact a
theorem places_stb (cm : Int → Int → Int) (n : Nat) : StbC3 cm (placesL n) n := fun p q h1 h2 _ _ => by
  have e : ∀ i, i < n → (placesL n).getD i 0 = (i : Int) := fun i hi => by
    unfold placesL
    rw [List.getD_eq_getElem?_getD, List.getElem?_map, List.getElem?_range hi]; rfl
  rw [e p (by omega), e q h2]; omega
theorem places_nodup (n : Nat) : (placesL n).Nodup := by
  unfold placesL
  have := List.nodup_range (n := n)
  unfold List.Nodup at *
  rw [List.pairwise_map]
  exact this.imp (fun h e => h (Int.ofNat.inj e))
theorem places_mem {n : Nat} {x : Int} (h : x ∈ placesL n) : ∃ i : Nat, i < n ∧ x = (i : Int) := by
  obtain ⟨i, hi, rfl⟩ := List.mem_map.1 h
  exact ⟨i, List.mem_range.1 hi, rfl⟩

/-! A total divided among weights: the program. -/
attribute [local go_sem ↓] Go.wp_at_zero Go.wp_at_succ

theorem sum_bd (M : Int) (l : List Int) (h : ∀ x ∈ l, 0 ≤ x ∧ x ≤ M) : 0 ≤ l.sum ∧ l.sum ≤ M * l.length := by
  induction l with
  | nil => simp
  | cons x l ih =>
    have h1 := ih (fun y hy => h y (by simp [hy]))
    have h2 := h x (by simp)
    have e3 : ((x :: l).length : Int) = l.length + 1 := by simp
    rw [e3, Int.mul_add, List.sum_cons]
    omega
theorem mem_le_sum (l : List Int) (h : ∀ x ∈ l, 0 ≤ x) : ∀ x ∈ l, x ≤ l.sum := by
  induction l with
  | nil => intro x hx; cases hx
  | cons y l ih =>
    have h1 : 0 ≤ l.sum := by
      clear ih
      induction l with
      | nil => simp
      | cons z l ih => have := h z (by simp); have := ih (fun x hx => h x (by simp at hx ⊢; rcases hx with hx | hx <;> simp [hx])); simp only [List.sum_cons]; omega
    intro x hx
    have hy := h y (by simp)
    rw [List.sum_cons]
    rcases List.mem_cons.1 hx with rfl | hx
    · omega
    · have := ih (fun x hx => h x (by simp [hx])) x hx; omega
theorem quoL_bd (tot sum : Int) (ws : List Int) (ht0 : 0 ≤ tot) (ht1 : tot ≤ 1000000000) (hs0 : 0 < sum) (hw : ∀ x ∈ ws, 0 ≤ x) (hsum : ws.sum = sum) (k : Nat) : 0 ≤ (quoL tot sum (ws.take k)).sum ∧ (quoL tot sum (ws.take k)).sum ≤ 1000000000 * k := by
  have h := sum_bd 1000000000 (quoL tot sum (ws.take k)) (fun x hx => by
    obtain ⟨y, hy, rfl⟩ := List.mem_map.1 hx
    have hy2 := List.mem_of_mem_take hy
    have := quo_rem ht0 hs0 (hw y hy2)
    have := quoT_le ht0 hs0 (hw y hy2) (by rw [← hsum]; exact mem_le_sum ws hw y hy2)
    omega)
  have hl : (quoL tot sum (ws.take k)).length ≤ k := by simp [quoL]; omega
  omega
theorem fill_next (A : List Int) (n k : Nat) (x : Int) (hA : A.length = k) (hk : k < n) : (A ++ List.replicate (n - k) 0).set k x = (A ++ [x]) ++ List.replicate (n - (k + 1)) 0 := by
  rw [List.set_append_right _ _ (by omega), hA, Nat.sub_self, show n - k = (n - (k + 1)) + 1 by omega, List.replicate_succ, List.set_cons_zero]
  simp
theorem take_snoc (ws : List Int) (k : Nat) (h : k < ws.length) : ws.take (k + 1) = ws.take k ++ [ws[k]] := by simp
theorem places_next (k : Nat) : placesL (k + 1) = placesL k ++ [(k : Int)] := by unfold placesL; rw [List.range_succ, List.map_append]; rfl
theorem places_len (k : Nat) : (placesL k).length = k := by simp [placesL]
theorem shareCmp_fn : ∀ (args : Array Value) (w : World), (callFunc 142 args).run Tryz.prog w = .ok (.enter 142 args) w := fun _ _ => by kernel_rfl
set_option maxRecDepth 100000 in
set_option maxHeartbeats 2000000 in
theorem shareCmp_any (tot sum : Int) (ws : List Int) (i j : Nat) (hi : i < ws.length) (hj : j < ws.length) (a : Option Addr) (c q0 q1 q2 : Nat) (w : World) (h0 : w.cell? ⟨q0, 0, none⟩ = some (.int .i64 tot)) (h1 : w.cell? ⟨q1, 0, none⟩ = some (.slice a ws.length c)) (h2 : w.cell? ⟨q2, 0, none⟩ = some (.int .i64 sum)) (hc : CellsAt w a (ints ws))
    (ht0 : 0 ≤ tot) (ht1 : tot ≤ 1000000000) (hs0 : 0 < sum) (hs1 : sum ≤ 1000000000000) (hw : ∀ x ∈ ws, 0 ≤ x ∧ x ≤ 1000000) :
    Calls Tryz.prog 142 #[.int .i64 i, .int .i64 j, .pointer (some ⟨q0, 0, none⟩), .pointer (some ⟨q1, 0, none⟩), .pointer (some ⟨q2, 0, none⟩)] w fun e w' => e = .returned (.int .i64 (shareCm tot sum ws i j)) ∧ w.grownBy w' none := by
  obtain ⟨b, off, rfl, d0⟩ := hc i _ (by rw [show (ints ws)[i]? = _ from ints_at ws i hi])
  obtain ⟨_, _, e, d1⟩ := hc j _ (by rw [show (ints ws)[j]? = _ from ints_at ws j hj])
  cases e
  have hwi := hw _ (List.getElem_mem hi)
  have hwj := hw _ (List.getElem_mem hj)
  rw [getD_eq ws i 0 hi] at d0
  rw [getD_eq ws j 0 hj] at d1
  have hE : shareCm tot sum ws i j = cmpN (remT tot sum ws[j]) (remT tot sum ws[i]) := by unfold shareCm; rw [Int.toNat_natCast, Int.toNat_natCast, getD_eq ws i 0 hi, getD_eq ws j 0 hj]
  rw [hE]
  obtain ⟨u, hu⟩ : ∃ u, u = ws[i] := ⟨_, rfl⟩
  obtain ⟨v, hv⟩ : ∃ v, v = ws[j] := ⟨_, rfl⟩
  rw [← hu] at d0 hwi
  rw [← hv] at d1 hwj
  rw [← hu, ← hv]
  obtain ⟨-, ru0, ru1, -⟩ := quo_rem ht0 hs0 hwi.1
  obtain ⟨-, rv0, rv1, -⟩ := quo_rem ht0 hs0 hwj.1
  have mu0 : 0 ≤ tot * u := Int.mul_nonneg ht0 hwi.1
  have mu1 : tot * u ≤ 1000000000 * 1000000 := Int.mul_le_mul ht1 hwi.2 hwi.1 (by omega)
  have mv0 : 0 ≤ tot * v := Int.mul_nonneg ht0 hwj.1
  have mv1 : tot * v ≤ 1000000000 * 1000000 := Int.mul_le_mul ht1 hwj.2 hwj.1 (by omega)
  unfold remT at ru0 ru1 rv0 rv1 ⊢
  obtain ⟨pu, hpu⟩ : ∃ p, tot * u = p := ⟨_, rfl⟩
  obtain ⟨pv, hpv⟩ : ∃ p, tot * v = p := ⟨_, rfl⟩
  rw [hpu] at ru0 ru1 mu0 mu1
  rw [hpv] at rv0 rv1 mv0 mv1
  rw [hpu, hpv]
  obtain ⟨ru, hru⟩ : ∃ r, pu.tmod sum = r := ⟨_, rfl⟩
  obtain ⟨rv, hrv⟩ : ∃ r, pv.tmod sum = r := ⟨_, rfl⟩
  rw [hru] at ru0 ru1
  rw [hrv] at rv0 rv1
  rw [hru, hrv]
  have hsz : (sum == 0) = false := beq_eq_false_iff_ne.2 (by omega)
  have g0 := grew_cell h0
  have g1 := grew_cell h1
  have g2 := grew_cell h2
  have gd := grew_cell d0
  have ge := grew_cell d1
  have i1 : (i : Int) < (ws.length : Int) := by omega
  have j1 : (j : Int) < (ws.length : Int) := by omega
  have i0 : (0 : Int) ≤ (i : Int) := by omega
  have j0 : (0 : Int) ≤ (j : Int) := by omega
  clear hc hw hu hv hE h0 h1 h2 d0 d1 hwi hwj
  go_enter Tryz.func142, Tryz.ntmps142
  go_wp2_with (fail)
  refine wp_region_grew (by kernel_rfl) (by kernel_rfl) ?_
  repeat (go_big_quiet_step (first
    | (go_at_call 51; exact Calls.grew_of (fun W g => (cmpInt_any _ _ W).mono fun _ _ h => ⟨h.1, by rw [← h.2]; exact gr_refl _ _⟩))))
  refine wpQuiet_nil ?_
  rintro wq ⟨nn, rfl⟩
  have g := nn.gr
  go_wp2_with (fail)
  go_ret
  exact ⟨rfl, g⟩
structure ShareW (wr w1 : World) (G1 G2 n : Nat) (L O : List Int) : Prop where
  out : wr.ownsRow G1 3 1 (.slice (some ⟨G1, 0, none⟩) n n) n (ints L)
  ord : wr.ownsRow G2 3 1 (.slice (some ⟨G2, 0, none⟩) n n) n (ints O)
  gr : w1.grownBy wr none
theorem ShareW.setOut {wr w1 : World} {G1 G2 n : Nat} {L O : List Int} (h : ShareW wr w1 G1 G2 n L O) (h12 : G1 < G2) (hz : w1.heap.size ≤ G1) (k : Nat) (hk : k < n) (x : Int) : ShareW (wr.setCell ⟨G1, k, none⟩ (.int .i64 x)) w1 G1 G2 n (L.set k x) O :=
  ⟨(own_int h.out k hk).2.2 x, own_keepS h.ord (gr_set (gr_refl _ _) rfl _) h12, gr_new h.gr hz _⟩
theorem ShareW.setOrd {wr w1 : World} {G1 G2 n : Nat} {L O : List Int} (h : ShareW wr w1 G1 G2 n L O) (h12 : G1 < G2) (hz : w1.heap.size ≤ G1) (k : Nat) (hk : k < n) (x : Int) : ShareW (wr.setCell ⟨G2, k, none⟩ (.int .i64 x)) w1 G1 G2 n L (O.set k x) :=
  ⟨own_keep h.out (gr_set (q := ⟨G2, k, none⟩) (gr_refl wr (some G2)) rfl _) (.inr (fun e => by simp [Value.ownBlock] at e; omega)), (own_int h.ord k hk).2.2 x, gr_new h.gr (Nat.le_trans hz (Nat.le_of_lt h12)) _⟩
def SharePost (tot sum : Int) (ws : List Int) (w : World) (e : Ending) (w' : World) : Prop := ∃ v P, e = .returned v ∧ w'.ownsRow w.heap.size 3 1 v ws.length (ints P) ∧ ShareOk tot sum ws P ∧ w.grownBy w' none
set_option maxRecDepth 100000 in
set_option maxHeartbeats 4000000 in
theorem shared_any (tot sum : Int) (ws : List Int) (a : Option Addr) (c : Nat) (w : World) (hc : CellsAt w a (ints ws)) (hn : ws.length < 20)
    (ht0 : 0 ≤ tot) (ht1 : tot ≤ 1000000000) (hs0 : 0 < sum) (hw : ∀ x ∈ ws, 0 ≤ x ∧ x ≤ 1000000) (hsum : ws.sum = sum) :
    Calls Tryz.prog 96 #[.int .i64 tot, .slice a ws.length c, .int .i64 sum] w (SharePost tot sum ws w) := by
  have hs1 : sum ≤ 1000000 * ws.length := by rw [← hsum]; exact (sum_bd 1000000 ws hw).2
  have hLF := share_left tot sum ht0 hs0 ws (fun x hx => (hw x hx).1) hsum
  obtain ⟨hA, hB, hC⟩ := heap_3 w (.cells #[.int .i64 tot] 3) (.cells #[.slice a ws.length c] 22) (.cells #[.int .i64 sum] 3)
  have hg := gr_alloc (gr_alloc (gr_alloc (gr_refl w none) (.cells #[.int .i64 tot] 3)) (.cells #[.slice a ws.length c] 22)) (.cells #[.int .i64 sum] 3)
  obtain ⟨w1, hw1⟩ : ∃ w1, w1 = ((w.alloc (.cells #[.int .i64 tot] 3)).alloc (.cells #[.slice a ws.length c] 22)).alloc (.cells #[.int .i64 sum] 3) := ⟨_, rfl⟩
  rw [← hw1] at hA hB hC hg
  have hz1 : w.heap.size + 2 < w1.heap.size := lt_of_block hC
  obtain ⟨B, hBe⟩ : ∃ B, B = w.heap.size := ⟨_, rfl⟩
  rw [← hBe] at hA hB hC hz1
  have HC1 := Lib.hid (hc.keep0 hg)
  have HA := Lib.hid hA
  have HB := Lib.hid hB
  have HCc := Lib.hid hC
  have HG1 := Lib.hid hg
  have HW1 := Lib.hid hw1
  have HBE := Lib.hid hBe
  have HWS := Lib.hid hw
  have HLF := Lib.hid hLF
  have HSUM := Lib.hid hsum
  have l0 := blkC HA.out 0 rfl
  have l1 := blkC HB.out 0 rfl
  have l2 := blkC HCc.out 0 rfl
  clear hc hA hB hC hg hw1 hBe hw hsum
  go_enter Tryz.func96, Tryz.ntmps96
  go_upto_region 1 with (fail)
  rw [← HW1.out, ← HBE.out]
  go_upto_region 2 with (at_make; refine wpList_mk _ eInt rfl _ _ rfl w1.heap.size _ ws.length rfl rfl rfl ?_ ?_ ?_; (· omega); (· omega); intro w2 o2 g2; have hz2 := g2.size; have l1 := (gr_cell g2 (lt_of_cell l1)).trans l1; have l0 := (gr_cell g2 (lt_of_cell l0)).trans l0)
  obtain ⟨G1, hG1⟩ : ∃ G, G = w1.heap.size := ⟨_, rfl⟩
  have HG1e := Lib.hid hG1
  rw [← hG1] at o2
  rw [← hG1]
  have HG2 := Lib.hid g2
  have HO2 := Lib.hid o2
  clear hG1 g2 o2
  go_wp2_with (at_make; refine wpList_mk _ eInt rfl _ _ rfl w2.heap.size _ ws.length rfl rfl rfl ?_ ?_ ?_; (· omega); (· omega); intro w3 o3 g3; have hz3 := g3.size; have l1 := (gr_cell g3 (lt_of_cell l1)).trans l1; have l0 := (gr_cell g3 (lt_of_cell l0)).trans l0)
  obtain ⟨G2, hG2⟩ : ∃ G, G = w2.heap.size := ⟨_, rfl⟩
  have HG2e := Lib.hid hG2
  rw [← hG2] at o3
  rw [← hG2]
  have hG12 : G1 < G2 := by rw [hG2]; exact (HO2.out.lt G1 rfl).2
  have HG3 := Lib.hid (gr_trans HG2.out g3)
  have HO3 := Lib.hid o3
  have HP3 := Lib.hid (own_keep0 HO2.out g3)
  have W3 : Hid (ShareW w3 w1 G1 G2 ws.length (List.replicate ws.length 0) (List.replicate ws.length 0)) := ⟨HP3.out, HO3.out, HG3.out⟩
  have hzG : w1.heap.size ≤ G1 := by rw [HG1e.out]; exact Nat.le_refl _
  clear hG2 g3 o3 HO2 l2 hz2 hz3 HP3 HO3 HG3 HG2 HG1e HG2e
  go_wp2_with (fail)
  clear l0 l1
  go_loopw [9, 23] (fun lf i wr => ∃ k : Nat, k ≤ ws.length ∧ i = .int .i64 k ∧ lf = .int .i64 (tot - (quoL tot sum (ws.take k)).sum) ∧ ShareW wr w1 G1 G2 ws.length (quoL tot sum (ws.take k) ++ List.replicate (ws.length - k) 0) (placesL k ++ List.replicate (ws.length - k) 0)) (fun _ i _ => ws.length - (intOf i).toNat)
  case atStart => exact ⟨0, Nat.zero_le _, rfl, by simp [quoL], by simpa [quoL, placesL] using W3.out⟩
  case round =>
    clear W3
    obtain ⟨k, hk, rfl, rfl, hW⟩ := hrel
    obtain ⟨wo, rfl⟩ : ∃ wo : World, wo = wr := ⟨_, rfl⟩
    have hl0 := (gr_cell hW.gr (lt_of_block HA.out)).trans (blkC HA.out 0 rfl)
    have hl1 := (gr_cell hW.gr (lt_of_block HB.out)).trans (blkC HB.out 0 rfl)
    have hl2 := (gr_cell hW.gr (lt_of_block HCc.out)).trans (blkC HCc.out 0 rfl)
    by_cases hlt : k < ws.length
    · obtain ⟨b, off, rfl, d0⟩ := (HC1.out.keep0 hW.gr) k _ (by rw [show (ints ws)[k]? = _ from ints_at ws k hlt])
      rw [getD_eq ws k 0 hlt] at d0
      have hwk := HWS.out _ (List.getElem_mem hlt)
      have hsk : ws[k] ≤ sum := by rw [← HSUM.out]; exact mem_le_sum ws (fun x hx => (HWS.out x hx).1) _ (List.getElem_mem hlt)
      have hq := quo_rem ht0 hs0 hwk.1
      have hqm := quoT_le ht0 hs0 hwk.1 hsk
      have hS := quoL_bd tot sum ws ht0 ht1 hs0 (fun x hx => (HWS.out x hx).1) HSUM.out k
      have hQl : (quoL tot sum (ws.take k)).length = k := by simp [quoL]; omega
      have mu0 : 0 ≤ tot * ws[k] := Int.mul_nonneg ht0 hwk.1
      have mu1 : tot * ws[k] ≤ 1000000000 * 1000000 := Int.mul_le_mul ht1 hwk.2 hwk.1 (by omega)
      have NX : Hid (quoL tot sum (ws.take (k + 1)) = quoL tot sum (ws.take k) ++ [quoT tot sum ws[k]]) := by show _ = _; rw [take_snoc ws k hlt]; unfold quoL; rw [List.map_append]; rfl
      obtain ⟨x, hx⟩ : ∃ x, x = ws[k] := ⟨_, rfl⟩
      rw [← hx] at d0 hwk hsk hq hqm mu0 mu1 NX
      obtain ⟨QL, hQL⟩ : ∃ Q, Q = quoL tot sum (ws.take k) := ⟨_, rfl⟩
      rw [← hQL] at hW hS hQl NX
      rw [← hQL]
      obtain ⟨S, hSe⟩ : ∃ S, S = QL.sum := ⟨_, rfl⟩
      rw [← hSe] at hS
      rw [← hSe]
      obtain ⟨p, hp⟩ : ∃ p, tot * x = p := ⟨_, rfl⟩
      have hqt : p.tdiv sum = quoT tot sum x := by rw [← hp]; rfl
      rw [hp] at mu0 mu1
      have hq0 := hq.2.2.2
      obtain ⟨q, hqe⟩ : ∃ q, q = quoT tot sum x := ⟨_, rfl⟩
      rw [← hqe] at hqm hqt hq0 NX
      have hsz : (sum == 0) = false := beq_eq_false_iff_ne.2 (by omega)
      have o1 := (own_int hW.out k hlt)
      have HQL := Lib.hid hQl
      have HSE := Lib.hid hSe
      have hW2 := hW.setOut hG12 hzG k hlt q
      rw [fill_next QL ws.length k q hQl hlt] at hW2
      have o2 := own_int hW2.ord k hlt
      have o2b := (own_int hW2.out k hlt)
      have hgq : (QL ++ [q] ++ List.replicate (ws.length - (k + 1)) 0).getD k 0 = q := by
        rw [List.getD_eq_getElem?_getD, List.append_assoc, List.getElem?_append_right (by omega), hQl, Nat.sub_self]; rfl
      rw [hgq] at o2b
      have hW3 := hW2.setOrd hG12 hzG k hlt (k : Int)
      rw [fill_next (placesL k) ws.length k (k : Int) (places_len k) hlt, ← places_next] at hW3
      have o3b := (own_int hW3.out k hlt)
      rw [hgq] at o3b
      have e1 := o1.1
      have f1 := o1.2.1
      have e2 := o2.1
      have f2 := o2.2.1
      have e3 := o3b.1
      have HW3 := Lib.hid hW3
      clear hx hQL hSe hW hW2 hW3 o1 o2 o2b o3b hq hqe hgq hQl
      go_wp2_with (fail)
      go_roundw
      case rel =>
        refine ⟨k + 1, by omega, by go_num, congrArg (Value.int .i64) ?_, by rw [NX.out]; exact HW3.out⟩
        rw [NX.out, sumI_app, ← HSE.out]
        simp
        omega
      case measure => simp [intOf]; omega
    · obtain rfl : k = ws.length := by omega
      rw [List.take_length, Nat.sub_self, List.replicate_zero, List.append_nil, List.append_nil] at hW
      rw [List.take_length]
      obtain ⟨hm0, hm1⟩ := HLF.out
      obtain ⟨QL, hQL⟩ : ∃ Q, Q = quoL tot sum ws := ⟨_, rfl⟩
      rw [← hQL] at hW hm0 hm1
      rw [← hQL]
      have hQl : QL.length = ws.length := by rw [hQL]; simp [quoL]
      obtain ⟨m, hm⟩ : ∃ m : Nat, tot - QL.sum = (m : Int) := ⟨(tot - QL.sum).toNat, by omega⟩
      rw [hm]
      have hQe : ∀ j, j < ws.length → 0 ≤ QL.getD j 0 ∧ QL.getD j 0 ≤ 1000000000 := fun j hj => by
        have hj2 : j < QL.length := by omega
        rw [getD_eq QL j 0 hj2]
        have : QL[j] ∈ quoL tot sum ws := by rw [← hQL]; exact List.getElem_mem _
        obtain ⟨y, hy, e⟩ := List.mem_map.1 this
        rw [← e]
        have h1 := quo_rem ht0 hs0 (HWS.out y hy).1
        have h2 := quoT_le ht0 hs0 (HWS.out y hy).1 (by rw [← HSUM.out]; exact mem_le_sum ws (fun x hx => (HWS.out x hx).1) y hy)
        omega
      have SF := sortC3_any 142 B (B + 1) (B + 2) ws.length (shareCm tot sum ws) (.slice (some ⟨G2, 0, none⟩) ws.length ws.length) G2 (placesL ws.length) wo hW.ord (places_len _) hn shareCmp_fn (shareCm_ok tot sum ws) (fun x y W hx hy gW => by
        obtain ⟨i, hi, rfl⟩ := places_mem hx
        obtain ⟨j, hj, rfl⟩ := places_mem hy
        have hlow : ∀ b, b < w1.heap.size → some b ≠ some G2 := fun b hb e => by injection e with e; omega
        have hbk : ∀ (b : Nat) (cs : Array Value) (t : TypeId), w1.heap[b]? = some (Obj.cells cs t (0, 0)) → W.heap[b]? = some (Obj.cells cs t (0, 0)) := fun b cs t h => by
          have hb := lt_of_block h
          exact (gW.block b (Nat.lt_of_lt_of_le hb hW.gr.size) (hlow b hb)).trans ((hW.gr.block b hb (by simp)).trans h)
        exact shareCmp_any tot sum ws i j hi hj a c B (B + 1) (B + 2) W (blkC (hbk _ _ _ HA.out) 0 rfl) (blkC (hbk _ _ _ HB.out) 0 rfl) (blkC (hbk _ _ _ HCc.out) 0 rfl) (fun j v hv => by
          obtain ⟨b, off, e, hcell⟩ := HC1.out j v hv
          have hb := lt_of_cell hcell
          exact ⟨b, off, e, (World.cell?_of_block (w := w1) ((gW.block b (Nat.lt_of_lt_of_le hb hW.gr.size) (hlow b hb)).trans (hW.gr.block b hb (by simp)))).trans hcell⟩) ht0 ht1 hs0 (by omega) HWS.out)
      have SF := Lib.hid SF
      have HW := Lib.hid hW
      have HQE := Lib.hid hQe
      have HQL := Lib.hid hQL
      have HQl := Lib.hid hQl
      have HM := Lib.hid hm
      have hmn : m ≤ ws.length := by omega
      clear hW hQe hQL hQl hm hl0 hl1 hl2 hm0 hm1
      go_wp2_with (fail)
      refine SF.out.mono ?_
      rintro e w5 ⟨O, rfl, o5, hperm, hsrt, hstb, g5⟩
      have HSRT := Lib.hid hsrt
      have HSTB := Lib.hid (hstb (places_stb _ _))
      have HPERM := Lib.hid hperm
      have g5 : wo.grownBy w5 (some G2) := g5
      have W5 : Hid (ShareW w5 w1 G1 G2 ws.length QL O) := ⟨own_keep HW.out.out g5 (.inr (fun e => by simp [Value.ownBlock] at e; omega)), o5, gr_grown HW.out.gr g5 (fun k hk => by cases hk; omega)⟩
      have HND := Lib.hid (hperm.nodup_iff.2 (places_nodup ws.length))
      have hOl : O.length = ws.length := by rw [hperm.length_eq, places_len]
      have HOM : Hid (∀ t (ht : t < O.length), ∃ i : Nat, i < ws.length ∧ O[t] = (i : Int)) := fun t ht => places_mem (hperm.mem_iff.1 (List.getElem_mem ht))
      have HOl := Lib.hid hOl
      clear g5 o5 hperm HW SF hOl hsrt hstb
      go_wp2_with (fail)
      go_loopw [54] (fun i wr => ∃ (t : Nat) (L : List Int), t ≤ m ∧ i = .int .i64 t ∧ Given QL O t L ∧ ShareW wr w1 G1 G2 ws.length L O) (fun i _ => m - (intOf i).toNat)
      case atStart => exact ⟨0, QL, Nat.zero_le _, rfl, Given.start _ _, W5.out⟩
      case round =>
        clear W5
        obtain ⟨t, L, ht, rfl, hG, hW⟩ := hrel
        obtain ⟨wi, rfl⟩ : ∃ wi : World, wi = wr := ⟨_, rfl⟩
        by_cases htm : t < m
        · have htO : t < O.length := by rw [HOl.out]; omega
          obtain ⟨i, hi, hOt⟩ := HOM.out t htO
          have d0 := (own_int hW.ord t (by omega)).1
          rw [getD_eq O t 0 htO, hOt] at d0
          obtain ⟨e1, f1, -⟩ := own_int hW.out i hi
          obtain ⟨hGn, hLq⟩ := hG.next HND.out htO hOt (by rw [HQl.out]; exact hi)
          have hWn := hW.setOut hG12 hzG i hi (L.getD i 0 + 1)
          have hb := HQE.out i hi
          rw [← hLq] at hb
          obtain ⟨y, hy⟩ : ∃ y, y = L.getD i 0 := ⟨_, rfl⟩
          rw [← hy] at e1 hGn hWn hb
          have hii : (i : Int) < (ws.length : Int) := by omega
          have hi0 : (0 : Int) ≤ (i : Int) := by omega
          have HGN := Lib.hid hGn
          have HWN := Lib.hid hWn
          clear hG hW hGn hWn hLq hy hOt
          go_wp2_with (fail)
          go_roundw
          case rel => exact ⟨t + 1, _, by omega, by go_num, HGN.out, HWN.out⟩
          case measure => simp [intOf]; omega
        · obtain rfl : t = m := by omega
          have HG := Lib.hid hG
          have HW := Lib.hid hW
          clear hG hW
          go_wp2_with (fail)
          go_ret
          refine ⟨_, L, rfl, own_base HW.out.out (by have := HG1.out.size; omega), ⟨by rw [HG.out.len, HQl.out], by rw [HG.out.sum]; have := HM.out; omega, O, HPERM.out, HSRT.out, HSTB.out, fun j hj => ?_⟩, gr_trans HG1.out HW.out.gr⟩
          have := HG.out.at_ j (by rw [HQl.out]; exact hj)
          rw [← HQL.out, show (tot - QL.sum).toNat = t by have := HM.out; omega]
          exact this
set_option maxRecDepth 100000 in
set_option maxHeartbeats 2000000 in
theorem meterShare_ok (tot : Int) (ws : List Int) (a : Option Addr) (c : Nat) (w : World) (hc : CellsAt w a (ints ws)) (hn : ws.length < 20)
    (ht0 : 0 ≤ tot) (ht1 : tot ≤ 1000000000) (hs0 : 0 < ws.sum) (hw : ∀ x ∈ ws, 0 ≤ x ∧ x ≤ 1000000) :
    Calls Tryz.prog 42 #[.int .i64 tot, .slice a ws.length c] w fun e w' => ∃ v P, e = .returned (.tuple #[v, .int .i64 0]) ∧ w'.ownsRow w.heap.size 3 1 v ws.length (ints P) ∧ ShareOk tot ws.sum ws P ∧ w.grownBy w' none := by
  have hpos : 0 < ws.length := by
    cases ws with
    | nil => simp at hs0
    | cons x ws => simp
  have SH := Lib.hid (fun (W : World) (g : w.grownBy W none) => shared_any tot ws.sum ws a c W (hc.keep0 g) hn ht0 ht1 hs0 hw rfl)
  have H := Lib.hid hc
  have HWS := Lib.hid hw
  have d1 : (decide (tot < 0) || decide (1000000000 < tot)) = false := by simp; omega
  have hbs := (sum_bd 1000000 ws hw).2
  have F0 : Hid ((0 : Int) = (ws.take 0).sum) := by show _ = _; simp
  have HS0 := Lib.hid hs0
  clear hc hw hs0
  go_enter Tryz.func42, Tryz.ntmps42
  go_wp2_with (fail)
  refine (out_any tot 0 1000000000 w).mono ?_
  rintro e w1 ⟨rfl, rfl⟩
  rw [d1]
  have hz : ((ws.length : Int) == 0) = false := beq_eq_false_iff_ne.2 (by omega)
  have hz5 : decide ((5000 : Int) < (ws.length : Int)) = false := decide_eq_false (by omega)
  go_wp2_with (fail)
  go_loopw [6, 22] (fun s i wr => ∃ k : Nat, k ≤ ws.length ∧ i = .int .i64 k ∧ s = .int .i64 (ws.take k).sum ∧ w = wr) (fun _ i _ => ws.length - (intOf i).toNat)
  case atStart => exact ⟨0, Nat.zero_le _, rfl, congrArg _ F0.out, rfl⟩
  case round =>
    obtain ⟨k, hk, rfl, rfl, rfl⟩ := hrel
    by_cases hlt : k < ws.length
    · obtain ⟨b, off, rfl, d0⟩ := H.out k _ (by rw [show (ints ws)[k]? = _ from ints_at ws k hlt])
      rw [getD_eq ws k 0 hlt] at d0
      have hwk := HWS.out _ (List.getElem_mem hlt)
      have hS := sum_bd 1000000 (ws.take k) (fun x hx => HWS.out x (List.mem_of_mem_take hx))
      have hSl : (ws.take k).length = k := by simp; omega
      rw [hSl] at hS
      have NX : Hid ((ws.take (k + 1)).sum = (ws.take k).sum + ws[k]) := by show _ = _; rw [take_snoc ws k hlt, sumI_app]; simp
      obtain ⟨x, hx⟩ : ∃ x, x = ws[k] := ⟨_, rfl⟩
      rw [← hx] at d0 hwk NX
      obtain ⟨S, hSe⟩ : ∃ S, S = (ws.take k).sum := ⟨_, rfl⟩
      rw [← hSe] at hS NX
      rw [← hSe]
      have d2 : (decide (x < 0) || decide (1000000 < x)) = false := by simp; omega
      clear hx hSe hSl
      go_wp2_with (fail)
      refine (out_any x 0 1000000 w).mono ?_
      rintro e w1 ⟨rfl, rfl⟩
      rw [d2]
      go_wp2_with (fail)
      go_roundw
      case rel => exact ⟨k + 1, by omega, by go_num, by rw [NX.out], trivial⟩
      case measure => simp [intOf]; omega
    · obtain rfl : k = ws.length := by omega
      rw [List.take_length]
      have hs0 := HS0.out
      obtain ⟨S, hSe⟩ : ∃ S, S = ws.sum := ⟨_, rfl⟩
      rw [← hSe] at SH hs0
      rw [← hSe]
      have hsz : (S == 0) = false := beq_eq_false_iff_ne.2 (by omega)
      have hsz2 : ¬ S = 0 := by omega
      have HSE := Lib.hid hSe
      clear hSe HS0
      go_wp2_with (fail)
      refine (SH.out w (gr_refl _ _)).mono ?_
      rintro e w2 ⟨v, P, rfl, o2, hP, g2⟩
      have HO := Lib.hid o2
      have HP := Lib.hid hP
      have HG := Lib.hid g2
      obtain ⟨va, vc, rfl, -, -, -, -⟩ := own_shape o2
      clear o2 hP g2
      go_wp2_with (fail)
      go_ret2
      exact ⟨_, P, rfl, HO.out, by rw [← HSE.out]; exact HP.out, HG.out⟩
end Go.Proofs.YtdminjijhpemkaaGreatDoor
