/- Package meter: what is in windows of both lists. -/
import Derived.Test.YtehhmgbgkemidaaGreatDoorPkSAd
import Derived.Test.YtehhmgbgkemidaaGreatDoorPkSAe
import Derived.Test.YtehhmgbgkemidaaGreatDoorPkSAq
import Derived.BigRegion
namespace Go.Proofs.YtehhmgbgkemidaaGreatDoor
open Go.RowKit

theorem win_tail {w : World} {b off : Nat} {x : Win} {L : List Win} (h : CellsAt w (some ⟨b, off, none⟩) (flat encWin (x :: L))) : CellsAt w (some ⟨b, off + 2, none⟩) (flat encWin L) := by
  intro k v hk
  obtain ⟨b', off', e, hc⟩ := h (k + 2) v (by
    have e : flat encWin (x :: L) = .int .i64 x.fr :: .int .i64 x.to :: flat encWin L := rfl
    rw [e]; simpa using hk)
  cases e
  exact ⟨b, off + 2, rfl, by rw [show off + 2 + k = off + (k + 2) by omega]; exact hc⟩
theorem win_tailC {w : World} {b off c : Nat} {x : Win} {L : List Win} (h : CellsAt w (some ⟨b, off, none⟩) (flat encWin (x :: L))) (hc : L.length + 1 ≤ c) : CellsAt w (if c = 1 then some ⟨b, off, none⟩ else some ⟨b, off + 2, none⟩) (flat encWin L) := by
  split
  · have e : L = [] := List.eq_nil_of_length_eq_zero (by omega)
    subst e
    intro k v hk
    simp [flat] at hk
  · exact win_tail h
def slLenN : Value → Nat
  | .slice _ n _ => n
  | _ => 0
set_option maxRecDepth 100000 in
set_option maxHeartbeats 2000000 in
theorem both_any (N M : List Win) (a b : Option Addr) (c d : Nat) (w : World) (h : CellsAt w a (flat encWin N)) (g : CellsAt w b (flat encWin M)) (hl : N.length ≤ 100) (gl : M.length ≤ 100) (hc : N.length ≤ c ∧ c ≤ maxLen) (hd : M.length ≤ d ∧ d ≤ maxLen) :
    Calls Tryz.prog 63 #[.slice a N.length c, .slice b M.length d] w (WinPost (bothM N M) w) := by
  have H := Lib.hid h
  have G := Lib.hid g
  unfold maxLen at hc hd
  obtain ⟨hc1, hc2⟩ := hc
  obtain ⟨hd1, hd2⟩ := hd
  clear h g
  go_enter Tryz.func63, Tryz.ntmps63
  go_wp2_with (fail)
  go_loopw [0, 1, 5] (fun u v o wr => ∃ (A B C : List Win) (p q : Option Addr) (c d : Nat), u = .slice p A.length c ∧ v = .slice q B.length d ∧ A.length ≤ N.length ∧ B.length ≤ M.length ∧ (A.length ≤ c ∧ c ≤ 9223372036854775807) ∧ (B.length ≤ d ∧ d ≤ 9223372036854775807) ∧ CellsAt w p (flat encWin A) ∧ CellsAt w q (flat encWin B) ∧ C.length + A.length + B.length ≤ N.length + M.length ∧ C ++ bothM A B = bothM N M ∧ wr.ownsRow w.heap.size 39 2 o C.length (flat encWin C) ∧ w.grownBy wr none) (fun u v _ _ => slLenN u + slLenN v)
  case atStart => exact ⟨N, M, [], a, b, c, d, rfl, rfl, Nat.le_refl _, Nat.le_refl _, ⟨hc1, by omega⟩, ⟨hd1, by omega⟩, H.out, G.out, by simp, by simp, World.ownsRow_nil _ _ _ _, gr_refl _ _⟩
  case round =>
    obtain ⟨A, B, C, p, q, c1, d1, rfl, rfl, hA, hB, ⟨hc3, hc4⟩, ⟨hd3, hd4⟩, hp, hq, hCl, hG, hown, hgr⟩ := hrel
    obtain ⟨wo, rfl⟩ : ∃ wo : World, wo = wr := ⟨_, rfl⟩
    obtain ⟨va, vc, rfl, -, -, -, -⟩ := own_shape hown
    cases A with
    | nil =>
      rw [bothM_nil, List.append_nil] at hG
      subst hG
      simp only [List.length_nil]
      go_wp2_with (fail)
      go_ret
      exact ⟨_, rfl, hown, hgr⟩
    | cons x A =>
      cases B with
      | nil =>
        rw [bothM_nil2, List.append_nil] at hG
        subst hG
        simp only [List.length_nil]
        have hz : (0 : Int) < ((x :: A).length : Int) := by simp
        go_wp2_with (fail)
        go_ret
        exact ⟨_, rfl, hown, hgr⟩
      | cons y B =>
        rw [bothM_cons, ← List.append_assoc] at hG
        obtain ⟨b1, o1, rfl, x0, x1⟩ := win_cells (hp.keep0 hgr) 0 (by simp)
        obtain ⟨b2, o2, rfl, y0, y1⟩ := win_cells (hq.keep0 hgr) 0 (by simp)
        have HPT := Lib.hid (win_tailC (c := c1) hp hc3)
        have HQT := Lib.hid (win_tailC (c := d1) hq hd3)
        have HP := Lib.hid hp
        have HQ := Lib.hid hq
        obtain ⟨f1, t1⟩ := x
        obtain ⟨f2, t2⟩ := y
        simp only [List.getElem_cons_zero, Nat.zero_mul, Nat.add_zero] at x0 x1 y0 y1
        simp only at hG
        obtain ⟨n1, hn1⟩ : ∃ n1, n1 = A.length := ⟨_, rfl⟩
        obtain ⟨n2, hn2⟩ : ∃ n2, n2 = B.length := ⟨_, rfl⟩
        simp only [List.length_cons, ← hn1, ← hn2] at hA hB hc3 hd3 hCl
        simp only [List.length_cons, ← hn1, ← hn2]
        have HN1 := Lib.hid hn1
        have HN2 := Lib.hid hn2
        have HGG := Lib.hid hG
        have HOWN := Lib.hid hown
        have HGR := Lib.hid hgr
        have HLT : Hid (∀ b, (Value.slice va C.length vc).ownBlock = some b → b < wo.heap.size) := fun b e => (hown.lt b e).2
        clear hp hq hG hown hgr hn1 hn2
        obtain ⟨F, hF⟩ : ∃ F, F = max f1 f2 := ⟨_, rfl⟩
        obtain ⟨T, hT⟩ : ∃ T, T = min t1 t2 := ⟨_, rfl⟩
        rw [← hF, ← hT] at HGG
        have HF := Lib.hid hF
        have HT := Lib.hid hT
        clear hF hT
        go_upto_region 3 with (fail)
        go_cut [6] from 6 to 33 (fun s wx => ∃ X, s = .pointer (some ⟨X, 0, none⟩) ∧ wx.heap[X]? = some (.cells #[.int .i64 F, .int .i64 T] 39 (0, 0)) ∧ wo.heap.size ≤ X ∧ wo.grownBy wx none)
        case first =>
          have hga := gr_alloc (gr_refl wo none) (.cells #[.int .i64 0, .int .i64 0] 39)
          have x0' := (gr_cell hga (lt_of_cell x0)).trans x0
          have x1' := (gr_cell hga (lt_of_cell x1)).trans x1
          have y0' := (gr_cell hga (lt_of_cell y0)).trans y0
          have y1' := (gr_cell hga (lt_of_cell y1)).trans y1
          clear hga
          by_cases e1 : f1 < f2 <;> by_cases e2 : t2 < t1
          all_goals
            (first | (have hFe : F = f2 := (by have := HF.out; omega)) | (have hFe : F = f1 := (by have := HF.out; omega)))
            (first | (have hTe : T = t2 := (by have := HT.out; omega)) | (have hTe : T = t1 := (by have := HT.out; omega)))
            have HFE := Lib.hid hFe
            have HTE := Lib.hid hTe
            clear hFe hTe
            go_region
            go_wp2_with (fail)
            go_meet
            refine ⟨wo.heap.size, rfl, ?_, Nat.le_refl _, gr_drew (gr_alloc (gr_refl wo none) _)⟩
            rw [HFE.out, HTE.out]
            exact heap_alloc_new wo _
        case rest =>
          obtain ⟨X, rfl, hX, hzX, hgX⟩ := hcut
          obtain ⟨wd, rfl⟩ : ∃ wd : World, wd = wc := ⟨_, rfl⟩
          have v0 := blkC hX 0 rfl
          have v1 := blkC hX 1 rfl
          have HGX := Lib.hid (gr_trans HGR.out hgX)
          have HOX := Lib.hid (own_keep0 HOWN.out hgX)
          have hzx := HGX.out.size
          clear x0 x1 y0 y1 hX hgX
          by_cases hFT : F < T
          · rw [if_pos hFT] at HGG
            by_cases e2 : t1 < t2
            · rw [if_pos e2] at HGG
              go_wp2_with (at_builtin; refine wpList_app1F eWin rfl _ _ rfl w.heap.size _ C.length (flat encWin C) rfl wd #[.int .i64 F, .int .i64 T] rfl HOX.out _ rfl rfl rfl rfl (by omega) hzx ?_; intro v7 w7 o7 g7 hl7 _)
              have HG7 := Lib.hid (gr_grown HGX.out g7 hl7)
              have HO7 : Hid (w7.ownsRow w.heap.size 39 2 v7 (C ++ [(⟨F, T⟩ : Win)]).length (flat encWin (C ++ [(⟨F, T⟩ : Win)]))) := by show World.ownsRow _ _ _ _ _ _ _; rw [flat_snoc, List.length_append]; exact o7
              clear o7 g7 hl7
              go_wp2_with (fail)
              obtain ⟨_, _, hh, -, x1⟩ := win_cells (HP.out.keep0 HG7.out) 0 (by simp)
              cases hh
              obtain ⟨_, _, hh, -, y1⟩ := win_cells (HQ.out.keep0 HG7.out) 0 (by simp)
              cases hh
              simp only [List.getElem_cons_zero, Nat.zero_mul, Nat.add_zero] at x1 y1
              go_quiet (fail)
              go_wp2_with (fail)
              go_roundw
              case rel => exact ⟨A, (⟨f2, t2⟩ : Win) :: B, C ++ [(⟨F, T⟩ : Win)], (if c1 = 1 then some ⟨b1, o1, none⟩ else some ⟨b1, o1 + 2, none⟩), some ⟨b2, o2, none⟩, c1 - 1, d1, by rw [← HN1.out], by simp only [List.length_cons, ← HN2.out], by have := HN1.out; omega, by simp only [List.length_cons, ← HN2.out]; omega, ⟨by have := HN1.out; omega, by omega⟩, ⟨by simp only [List.length_cons, ← HN2.out]; omega, by omega⟩, HPT.out, HQ.out, by simp only [List.length_cons, List.length_append, List.length_nil, ← HN1.out, ← HN2.out]; omega, by rw [← HGG.out], own_keep0 HO7.out (gr_drewN (gr_refl _ none) nq), gr_drewN HG7.out nq⟩
              case measure => simp only [slLenN]; omega
            · rw [if_neg e2] at HGG
              go_wp2_with (at_builtin; refine wpList_app1F eWin rfl _ _ rfl w.heap.size _ C.length (flat encWin C) rfl wd #[.int .i64 F, .int .i64 T] rfl HOX.out _ rfl rfl rfl rfl (by omega) hzx ?_; intro v7 w7 o7 g7 hl7 _)
              have HG7 := Lib.hid (gr_grown HGX.out g7 hl7)
              have HO7 : Hid (w7.ownsRow w.heap.size 39 2 v7 (C ++ [(⟨F, T⟩ : Win)]).length (flat encWin (C ++ [(⟨F, T⟩ : Win)]))) := by show World.ownsRow _ _ _ _ _ _ _; rw [flat_snoc, List.length_append]; exact o7
              clear o7 g7 hl7
              go_wp2_with (fail)
              obtain ⟨_, _, hh, -, x1⟩ := win_cells (HP.out.keep0 HG7.out) 0 (by simp)
              cases hh
              obtain ⟨_, _, hh, -, y1⟩ := win_cells (HQ.out.keep0 HG7.out) 0 (by simp)
              cases hh
              simp only [List.getElem_cons_zero, Nat.zero_mul, Nat.add_zero] at x1 y1
              go_quiet (fail)
              go_wp2_with (fail)
              go_roundw
              case rel => exact ⟨(⟨f1, t1⟩ : Win) :: A, B, C ++ [(⟨F, T⟩ : Win)], some ⟨b1, o1, none⟩, (if d1 = 1 then some ⟨b2, o2, none⟩ else some ⟨b2, o2 + 2, none⟩), c1, d1 - 1, by simp only [List.length_cons, ← HN1.out], by rw [← HN2.out], by simp only [List.length_cons, ← HN1.out]; omega, by have := HN2.out; omega, ⟨by simp only [List.length_cons, ← HN1.out]; omega, by omega⟩, ⟨by have := HN2.out; omega, by omega⟩, HP.out, HQT.out, by simp only [List.length_cons, List.length_append, List.length_nil, ← HN1.out, ← HN2.out]; omega, by rw [← HGG.out], own_keep0 HO7.out (gr_drewN (gr_refl _ none) nq), gr_drewN HG7.out nq⟩
              case measure => simp only [slLenN]; omega
          · rw [if_neg hFT, List.append_nil] at HGG
            by_cases e2 : t1 < t2
            · rw [if_pos e2] at HGG
              go_wp2_with (fail)
              obtain ⟨_, _, hh, -, x1⟩ := win_cells (HP.out.keep0 HGX.out) 0 (by simp)
              cases hh
              obtain ⟨_, _, hh, -, y1⟩ := win_cells (HQ.out.keep0 HGX.out) 0 (by simp)
              cases hh
              simp only [List.getElem_cons_zero, Nat.zero_mul, Nat.add_zero] at x1 y1
              go_quiet (fail)
              go_wp2_with (fail)
              go_roundw
              case rel => exact ⟨A, (⟨f2, t2⟩ : Win) :: B, C, (if c1 = 1 then some ⟨b1, o1, none⟩ else some ⟨b1, o1 + 2, none⟩), some ⟨b2, o2, none⟩, c1 - 1, d1, by rw [← HN1.out], by simp only [List.length_cons, ← HN2.out], by have := HN1.out; omega, by simp only [List.length_cons, ← HN2.out]; omega, ⟨by have := HN1.out; omega, by omega⟩, ⟨by simp only [List.length_cons, ← HN2.out]; omega, by omega⟩, HPT.out, HQ.out, by simp only [List.length_cons, ← HN1.out, ← HN2.out]; omega, by rw [← HGG.out], own_keep0 HOX.out (gr_drewN (gr_refl _ none) nq), gr_drewN HGX.out nq⟩
              case measure => simp only [slLenN]; omega
            · rw [if_neg e2] at HGG
              go_wp2_with (fail)
              obtain ⟨_, _, hh, -, x1⟩ := win_cells (HP.out.keep0 HGX.out) 0 (by simp)
              cases hh
              obtain ⟨_, _, hh, -, y1⟩ := win_cells (HQ.out.keep0 HGX.out) 0 (by simp)
              cases hh
              simp only [List.getElem_cons_zero, Nat.zero_mul, Nat.add_zero] at x1 y1
              go_quiet (fail)
              go_wp2_with (fail)
              go_roundw
              case rel => exact ⟨(⟨f1, t1⟩ : Win) :: A, B, C, some ⟨b1, o1, none⟩, (if d1 = 1 then some ⟨b2, o2, none⟩ else some ⟨b2, o2 + 2, none⟩), c1, d1 - 1, by simp only [List.length_cons, ← HN1.out], by rw [← HN2.out], by simp only [List.length_cons, ← HN1.out]; omega, by have := HN2.out; omega, ⟨by simp only [List.length_cons, ← HN1.out]; omega, by omega⟩, ⟨by have := HN2.out; omega, by omega⟩, HP.out, HQT.out, by simp only [List.length_cons, ← HN1.out, ← HN2.out]; omega, by rw [← HGG.out], own_keep0 HOX.out (gr_drewN (gr_refl _ none) nq), gr_drewN HGX.out nq⟩
              case measure => simp only [slLenN]; omega
end Go.Proofs.YtehhmgbgkemidaaGreatDoor
