/- Windows in memory; package meter's others and both. -/
import Derived.Test.YtehhmgbgkemidaaGreatDoorPkSAa
import Derived.Test.YtehhmgbgkemidaaGreatDoorPkSAb
import Derived.Test.YtehhmgbgkemidaaGreatDoorPkSAc
import Derived.Deep.RegionLaw
import Derived.Deep.DeepCutAuto
import Derived.Deep.DeepFit
import Derived.IntWalk
namespace Go.Proofs.YtehhmgbgkemidaaGreatDoor
open Go.RowKit

def encWin (x : Win) : List Value := [.int .i64 x.fr, .int .i64 x.to]
theorem encWin_len (x : Win) : (encWin x).length = 2 := rfl
theorem eWin : ElemT Tryz.prog 107 39 (.agg #[.int .i64 0, .int .i64 0]) 2 16 := ⟨by kernel_rfl, by kernel_rfl, by decide, by decide, by decide⟩
theorem win_cells {w : World} {a : Option Addr} {L : List Win} (h : CellsAt w a (flat encWin L)) (k : Nat) (hk : k < L.length) : ∃ b off, a = some ⟨b, off, none⟩ ∧ w.cell? ⟨b, off + k * 2, none⟩ = some (.int .i64 L[k].fr) ∧ w.cell? ⟨b, off + k * 2 + 1, none⟩ = some (.int .i64 L[k].to) := by
  obtain ⟨b, off, e, hcs⟩ := flat_cells (enc := encWin) (m := 2) (fun _ => rfl) (by decide) h (by omega)
  exact ⟨b, off, e, hcs k hk 0 _ rfl, hcs k hk 1 _ rfl⟩
abbrev endM : Int := 5761440
def WinPost (N : List Win) (w : World) (e : Ending) (w' : World) : Prop :=
  ∃ v, e = .returned v ∧ w'.ownsRow w.heap.size 39 2 v N.length (flat encWin N) ∧ w.grownBy w' none
theorem flat_snoc (N : List Win) (x : Win) : flat encWin (N ++ [x]) = flat encWin N ++ [.int .i64 x.fr, .int .i64 x.to] := by rw [flat_append, flat_one]; rfl
theorem othersG_nil (E at_ : Int) : othersG E at_ [] = if at_ < E then [⟨at_, E⟩] else [] := rfl
theorem othersG_next (E at_ : Int) (x : Win) (l : List Win) : othersG E at_ (x :: l) = (if at_ < x.fr then [⟨at_, x.fr⟩] else []) ++ othersG E x.to l := rfl
set_option maxRecDepth 100000 in
set_option maxHeartbeats 1000000 in
theorem others_any (N : List Win) (a : Option Addr) (c : Nat) (w : World) (h : CellsAt w a (flat encWin N)) (hl : N.length ≤ 100) :
    Calls Tryz.prog 66 #[.slice a N.length c] w (WinPost (othersG endM 0 N) w) := by
  have H := Lib.hid h
  clear h
  go_enter Tryz.func66, Tryz.ntmps66
  go_wp2_with (fail)
  go_loopw [3, 4, 9] (fun v t i wr => ∃ (k : Nat) (A : List Win) (at_ : Int), k ≤ N.length ∧ i = .int .i64 k ∧ t = .int .i64 at_ ∧ A.length ≤ k ∧ A ++ othersG endM at_ (N.drop k) = othersG endM 0 N ∧ wr.ownsRow w.heap.size 39 2 v A.length (flat encWin A) ∧ w.grownBy wr none) (fun _ _ i _ => N.length - (intOf i).toNat)
  case atStart => exact ⟨0, [], 0, Nat.zero_le _, rfl, rfl, Nat.le_refl _, by simp, World.ownsRow_nil _ _ _ _, gr_refl _ _⟩
  case round =>
    obtain ⟨k, A, at_, hk, rfl, rfl, hA, hG, hown, hgr⟩ := hrel
    obtain ⟨va, vc, rfl, -, -, -, -⟩ := own_shape hown
    obtain ⟨wo, rfl⟩ : ∃ wo : World, wo = wr := ⟨_, rfl⟩
    by_cases hlt : k < N.length
    · obtain ⟨b, off, rfl, d0, d1⟩ := win_cells (H.out.keep0 hgr) k hlt
      have hd : N.drop k = N[k] :: N.drop (k + 1) := List.drop_eq_getElem_cons hlt
      rw [hd, othersG_next, ← List.append_assoc] at hG
      obtain ⟨x, hx⟩ : ∃ x, x = N[k] := ⟨_, rfl⟩
      rw [← hx] at d0 d1 hG
      obtain ⟨f, t⟩ := x
      simp only at d0 d1 hG
      have hO := heap_alloc_new wo (.cells #[.int .i64 f, .int .i64 t] 39)
      have hg5 := gr_alloc (gr_refl wo none) (.cells #[.int .i64 f, .int .i64 t] 39)
      obtain ⟨w5, hw5⟩ : ∃ w5, w5 = wo.alloc (.cells #[.int .i64 f, .int .i64 t] 39) := ⟨_, rfl⟩
      rw [← hw5] at hO hg5
      obtain ⟨X, hX⟩ : ∃ X, X = wo.heap.size := ⟨_, rfl⟩
      rw [← hX] at hO
      have HLT : Hid (∀ b, (Value.slice va A.length vc).ownBlock = some b → b < X) := fun b e => by rw [hX]; exact (hown.lt b e).2
      have HO := Lib.hid hO
      have HW5 := Lib.hid hw5
      have HX := Lib.hid hX
      have HG5 := Lib.hid (gr_trans hgr hg5)
      have HOWN := Lib.hid (own_keep0 hown hg5)
      have hz5 := HG5.out.size
      clear hx hd hO hg5 hw5 hX hown hgr
      go_upto_region 6 with (fail)
      rw [← HW5.out, ← HX.out]
      clear d0 d1 HW5 HX
      have c0 : w5.cell? ⟨X, 0, none⟩ = some (.int .i64 f) := blkC HO.out 0 rfl
      have c1 : w5.cell? ⟨X, 1, none⟩ = some (.int .i64 t) := blkC HO.out 1 rfl
      by_cases hat : at_ < f
      · rw [if_pos hat] at hG
        have HGG := Lib.hid hG
        clear hG
        go_wp2_with (at_builtin; refine wpList_app1F eWin rfl _ _ rfl w.heap.size _ A.length (flat encWin A) rfl w5 #[.int .i64 at_, .int .i64 f] rfl HOWN.out _ rfl rfl rfl rfl (by omega) hz5 ?_; intro v7 w7 o7 g7 hl7 _; have c1 : w7.cell? ⟨X, 1, none⟩ = some (.int .i64 t) := blkC ((g7.block X (lt_of_block HO.out) (fun e => by have := HLT.out X e.symm; omega)).trans HO.out) 1 rfl)
        have HG7 := Lib.hid (gr_grown HG5.out g7 hl7)
        have HO7 : Hid (w7.ownsRow w.heap.size 39 2 v7 (A ++ [(⟨at_, f⟩ : Win)]).length (flat encWin (A ++ [(⟨at_, f⟩ : Win)]))) := by show World.ownsRow _ _ _ _ _ _ _; rw [flat_snoc, List.length_append]; exact o7
        clear o7 g7 hl7
        go_wp2_with (fail)
        go_roundw
        case rel => exact ⟨k + 1, A ++ [⟨at_, f⟩], t, by omega, by go_num, rfl, by rw [List.length_append]; simp; omega, HGG.out, HO7.out, HG7.out⟩
        case measure => simp [intOf]; omega
      · rw [if_neg hat] at hG
        have HGG := Lib.hid hG
        clear hG
        go_wp2_with (fail)
        go_roundw
        case rel => exact ⟨k + 1, A, t, by omega, by go_num, rfl, by omega, by simpa using HGG.out, HOWN.out, HG5.out⟩
        case measure => simp [intOf]; omega
    · obtain rfl : k = N.length := by omega
      rw [List.drop_length] at hG
      rw [othersG_nil] at hG
      have HOWN := Lib.hid hown
      have HGR := Lib.hid hgr
      have hzo := hgr.size
      clear hown hgr
      by_cases hat : at_ < endM
      · have hat' : at_ < 5761440 := hat
        rw [if_pos hat] at hG
        have HGG := Lib.hid hG
        clear hG hat
        go_wp2_with (at_builtin; refine wpList_app1F eWin rfl _ _ rfl w.heap.size _ A.length (flat encWin A) rfl wo #[.int .i64 at_, .int .i64 5761440] rfl HOWN.out _ rfl rfl rfl rfl (by omega) hzo ?_; intro v7 w7 o7 g7 hl7 _)
        go_wp2_with (fail)
        go_ret
        refine ⟨_, rfl, ?_, gr_grown HGR.out g7 hl7⟩
        rw [← HGG.out, flat_snoc, List.length_append]
        exact o7
      · have hat' : ¬ at_ < 5761440 := hat
        rw [if_neg hat, List.append_nil] at hG
        have HGG := Lib.hid hG
        clear hG hat
        go_wp2_with (fail)
        go_ret
        exact ⟨_, rfl, by rw [← HGG.out]; exact HOWN.out, HGR.out⟩
end Go.Proofs.YtehhmgbgkemidaaGreatDoor
