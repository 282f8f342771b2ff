/- The units of pieces, one by one: the reference. -/
import Derived.Test.YtdjnomeabadbnaaDoorLotAt
namespace Go.Proofs.YtdjnomeabadbnaaDoor
open Go.RowKit
attribute [local go_sem ↓] Go.wp_at_zero Go.wp_at_succ

def unitsL (ps : List Piece) : List ByteArray := ps.flatMap (fun p => List.replicate p.many.toNat p.lot)
theorem unitsL_take (ps : List Piece) (k : Nat) (hk : k < ps.length) : unitsL (ps.take (k + 1)) = unitsL (ps.take k) ++ List.replicate (pcMany ps k).toNat (pcLot ps k) := by
  have : ps.take (k + 1) = ps.take k ++ [ps[k]] := by simp
  rw [this]
  unfold unitsL pcMany pcLot
  rw [List.flatMap_append]
  rw [getD_eq ps k _ hk]
  simp
theorem unitsL_mono (ps : List Piece) (k : Nat) : (unitsL (ps.take k)).length ≤ (unitsL ps).length := by
  have : unitsL ps = unitsL (ps.take k) ++ unitsL (ps.drop k) := by
    unfold unitsL; rw [← List.flatMap_append, List.take_append_drop]
  rw [this, List.length_append]; omega
theorem strs_app (a b : List ByteArray) : strs (a ++ b) = strs a ++ strs b := by simp [strs]
set_option maxRecDepth 100000 in
set_option maxHeartbeats 2000000 in
theorem refUnits_any (ps : List Piece) (a : Option Addr) (c : Nat) (w : World) (h : CellsAt w a (flat encPc ps)) (hl : ps.length ≤ 1000000) (hu : (unitsL ps).length ≤ 100000000) :
    Calls Tryd.prog 151 #[.slice a ps.length c] w fun e w' => ∃ v, e = .returned v ∧ w'.ownsRow w.heap.size 9 1 v (unitsL ps).length (strs (unitsL ps)) ∧ w.grownBy w' none := by
  have H := Lib.hid h
  clear h
  go_enter Tryd.func151, Tryd.ntmps151
  go_wp2_with (fail)
  go_loopw [3, 8] (fun v i wr => ∃ k : Nat, k ≤ ps.length ∧ i = .int .i64 k ∧ wr.ownsRow w.heap.size 9 1 v (unitsL (ps.take k)).length (strs (unitsL (ps.take k))) ∧ w.grownBy wr none) (fun _ i _ => ps.length - (intOf i).toNat)
  case atStart => exact ⟨0, Nat.zero_le _, rfl, World.ownsRow_nil _ _ _ _, gr_refl _ _⟩
  case round =>
    obtain ⟨k, hk, rfl, hown, hgr⟩ := hrel
    obtain ⟨wo, rfl⟩ : ∃ wo : World, wo = wr := ⟨_, rfl⟩
    have HO := Lib.hid hown
    have HGR := Lib.hid hgr
    by_cases hlt : k < ps.length
    · obtain ⟨b, off, rfl, d0, d1⟩ := pc_cells (H.out.keep0 hgr) k hlt
      have hT := unitsL_take ps k hlt
      have hM := unitsL_mono ps (k + 1)
      rw [hT, List.length_append, List.length_replicate] at hM
      obtain ⟨K, hK⟩ : ∃ K, K = pcLot ps k := ⟨_, rfl⟩
      obtain ⟨m, hm⟩ : ∃ m, m = pcMany ps k := ⟨_, rfl⟩
      obtain ⟨S, hS⟩ : ∃ S, S = unitsL (ps.take k) := ⟨_, rfl⟩
      rw [← hK, ← hm, ← hS] at hT
      rw [← hm, ← hS] at hM
      rw [← hK] at d0
      rw [← hm] at d1
      rw [← hS] at HO
      have HT := Lib.hid hT
      have hzo := hgr.size
      clear hK hm hS hT hown hgr
      go_wp2_with (fail)
      have hV := heap_alloc_new wo (.cells #[.string K, .int .i64 m] 94)
      have hg2 := gr_alloc (gr_refl wo none) (.cells #[.string K, .int .i64 m] 94)
      obtain ⟨w3, hw3⟩ : ∃ w3, w3 = wo.alloc (.cells #[.string K, .int .i64 m] 94) := ⟨_, rfl⟩
      rw [← hw3] at hV hg2
      rw [← hw3]
      obtain ⟨V, hVe⟩ : ∃ V, V = wo.heap.size := ⟨_, rfl⟩
      rw [← hVe] at hV
      rw [← hVe]
      have HV := Lib.hid hV
      have HO3 := Lib.hid (own_keep0 HO.out hg2)
      have HG3 := Lib.hid (gr_trans HGR.out hg2)
      clear hw3 hVe hV hg2 HO HGR d0 d1 H
      go_wp2_with (fail)
      go_loopw [3, 14] (fun v i wr => ∃ j : Nat, j ≤ m.toNat ∧ i = .int .i64 j ∧ wr.ownsRow w.heap.size 9 1 v (S.length + j) (strs (S ++ List.replicate j K)) ∧ wr.heap[V]? = some (.cells #[.string K, .int .i64 m] 94 (0, 0)) ∧ w.grownBy wr none) (fun _ i _ => m.toNat - (intOf i).toNat)
      case atStart => exact ⟨0, by omega, rfl, by simpa using HO3.out, HV.out, HG3.out⟩
      case round =>
        clear HO3 HV HG3
        obtain ⟨j, hj, rfl, hown, hV, hgr⟩ := hrel
        obtain ⟨wq, rfl⟩ : ∃ wq : World, wq = wr := ⟨_, rfl⟩
        have HO := Lib.hid hown
        have HV := Lib.hid hV
        have HGR := Lib.hid hgr
        obtain ⟨v0, v1⟩ := blk2 hV
        have hVl := lt_of_block hV
        have hzo := hgr.size
        clear hown hV hgr
        by_cases hjl : j < m.toNat
        · have hjm : (j : Int) < m := by omega
          go_wp2_with (at_builtin; refine wpList_app1F eStr rfl _ _ rfl w.heap.size _ (S.length + j) (strs (S ++ List.replicate j K)) rfl wq #[.string K] rfl HO.out _ rfl rfl rfl rfl (by omega) (by omega) ?_; intro v6 w6 ho6 g6 hlt6 hf6)
          have hV6 := (g6.block V hVl (fun e => own_ne HO.out HV.out (by decide) e.symm)).trans HV.out
          have HV6 := Lib.hid hV6
          have HO6 := Lib.hid ho6
          have HG6 := Lib.hid (gr_grown HGR.out g6 (fun q hq => by have := hlt6 q hq; omega))
          clear hV6 ho6 g6 hlt6 hf6
          go_roundw
          case rel =>
            refine ⟨j + 1, by omega, by go_num, ?_, HV6.out, HG6.out⟩
            have e : strs (S ++ List.replicate (j + 1) K) = strs (S ++ List.replicate j K) ++ [.string K] := by
              rw [List.replicate_succ', ← List.append_assoc, strs_app]; rfl
            rw [e]
            exact HO6.out
          case measure => simp [intOf]; omega
        · obtain rfl : j = m.toNat := by omega
          have hjm : ¬ (((m.toNat : Nat) : Int) < m) := by omega
          go_wp2_with (fail)
          go_roundw
          case rel =>
            refine ⟨k + 1, by omega, by go_num, ?_, HGR.out⟩
            rw [HT.out, List.length_append, List.length_replicate]
            exact HO.out
          case measure => simp [intOf]; omega
    · obtain rfl : k = ps.length := by omega
      have hf : Hid (ps.take ps.length = ps) := List.take_length
      clear hown hgr
      go_wp2_with (fail)
      go_ret
      rw [hf.out] at HO
      exact ⟨_, rfl, HO.out, HGR.out⟩
end Go.Proofs.YtdjnomeabadbnaaDoor
