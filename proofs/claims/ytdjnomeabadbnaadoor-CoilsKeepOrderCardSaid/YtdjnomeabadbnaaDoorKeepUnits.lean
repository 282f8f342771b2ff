/- The laws' own counts of pieces: a map, and a list of all units. -/
import Derived.Test.YtdjnomeabadbnaaDoorMapSI
import Derived.Test.YtdjnomeabadbnaaDoorCoilPure
namespace Go.Proofs.YtdjnomeabadbnaaDoor
open Go.RowKit
attribute [local go_sem ↓] Go.wp_at_zero Go.wp_at_succ

/-- How many units there are of each lot that there are units of. -/
def cntN (U : List ByteArray) (s : ByteArray) : Nat := (U.filter (fun x => decide (x = s))).length
def cntU (U : List ByteArray) (s : ByteArray) : Option Int := if 0 < cntN U s then some (cntN U s : Nat) else none
theorem cntN_app (U V : List ByteArray) (t : ByteArray) : cntN (U ++ V) t = cntN U t + cntN V t := by simp [cntN]
theorem cntN_rep (k : ByteArray) (m : Nat) (t : ByteArray) : cntN (List.replicate m k) t = if t = k then m else 0 := by
  unfold cntN
  by_cases e : t = k
  · subst e
    rw [if_pos rfl, List.filter_eq_self.2 (fun x hx => by simp [List.mem_replicate] at hx; simp [hx.2]), List.length_replicate]
  · rw [if_neg e, List.filter_eq_nil_iff.2 (fun x hx => by
      simp only [List.mem_replicate] at hx
      simp only [decide_eq_true_eq]
      intro h
      exact e (h ▸ hx.2))]
    rfl
theorem cntU_get (U : List ByteArray) (s : ByteArray) : (cntU U s).getD 0 = (cntN U s : Nat) := by
  unfold cntU
  split
  · rfl
  · have : cntN U s = 0 := by omega
    rw [this]; rfl
theorem cntU_app (U : List ByteArray) (k : ByteArray) (m : Nat) (hm : 1 ≤ m) (t : ByteArray) : cntU (U ++ List.replicate m k) t = if t = k then some ((cntU U k).getD 0 + m) else cntU U t := by
  rw [cntU_get]
  unfold cntU
  rw [cntN_app, cntN_rep]
  by_cases e : t = k
  · subst e
    rw [if_pos rfl, if_pos rfl, if_pos (by omega)]
    congr 1
  · rw [if_neg e, if_neg e, Nat.add_zero]
theorem cntU_perm {U V : List ByteArray} (h : U.Perm V) : cntU U = cntU V := by
  funext s
  unfold cntU
  have : cntN U s = cntN V s := (h.filter _).length_eq
  rw [this]
theorem cntU_bd (U : List ByteArray) (s : ByteArray) : 0 ≤ (cntU U s).getD 0 ∧ (cntU U s).getD 0 ≤ U.length := by
  rw [cntU_get]
  have := List.length_filter_le (fun x => decide (x = s)) U
  unfold cntN
  omega
set_option maxRecDepth 100000 in
set_option maxHeartbeats 2000000 in
theorem keepUnits_any (ps : List Piece) (a : Option Addr) (c : Nat) (w : World) (h : CellsAt w a (flat encPc ps)) (hl : ps.length ≤ 100000) (hlo : ∀ x ∈ ps, 1 ≤ x.many ∧ x.many ≤ 100000 ∧ x.lot.size ≤ 1000) (hu : (unitsL ps).length ≤ 100000000) :
    Calls Tryd.prog 52 #[.slice a ps.length c] w fun e w' => e = .returned (.map (some w.heap.size)) ∧ MapIs w' w.heap.size ps.length (cntU (unitsL ps)) ∧ w.grownBy w' none := by
  have H := Lib.hid h
  have HLO := Lib.hid hlo
  have hm0 := Lib.hid (MapIs.made w)
  have hg0 := Lib.hid (gr_alloc (gr_refl w none) (.map #[] 0))
  have hmm := @run_makeMap Tryd.prog
  have E0 : Hid ((fun _ => none) = cntU (unitsL (ps.take 0))) := by show _ = _; funext s; rfl
  rw [E0.out] at hm0
  clear h hlo
  go_enter Tryd.func52, Tryd.ntmps52
  go_wp2_with (fail)
  clear hmm
  go_loopw [9] (fun i wr => ∃ k : Nat, k ≤ ps.length ∧ i = .int .i64 k ∧ MapIs wr w.heap.size k (cntU (unitsL (ps.take k))) ∧ w.grownBy wr none) (fun i _ => ps.length - (intOf i).toNat)
  case atStart => exact ⟨0, Nat.zero_le _, rfl, hm0.out, hg0.out⟩
  case round =>
    clear hm0 hg0 E0
    obtain ⟨k, hk, rfl, hmp, hgr⟩ := hrel
    obtain ⟨wo, rfl⟩ : ∃ wo : World, wo = wr := ⟨_, rfl⟩
    by_cases hlt : k < ps.length
    · obtain ⟨b, off, rfl, d0, d1⟩ := pc_cells (H.out.keep0 hgr) k hlt
      have hp := pc_mem (P := fun x => 1 ≤ x.many ∧ x.many ≤ 100000 ∧ x.lot.size ≤ 1000) HLO.out k hlt
      have hT := unitsL_take ps k hlt
      have hM := unitsL_mono ps k
      simp only at hp
      obtain ⟨K, hK⟩ : ∃ K, K = pcLot ps k := ⟨_, rfl⟩
      obtain ⟨m, hm⟩ : ∃ m, m = pcMany ps k := ⟨_, rfl⟩
      obtain ⟨S, hS⟩ : ∃ S, S = unitsL (ps.take k) := ⟨_, rfl⟩
      rw [← hK, ← hm] at hp hT
      rw [← hK] at d0
      rw [← hm] at d1
      rw [← hS] at hT hM hmp
      obtain ⟨hm1, hm2, hKs⟩ := hp
      have hn1 : m.toNat ≥ 1 := by omega
      have NX : Hid ((fun t => if t = K then some ((cntU S K).getD 0 + m) else cntU S t) = cntU (unitsL (ps.take (k + 1)))) := by
        show _ = _
        funext t
        rw [hT, cntU_app S K m.toNat hn1 t]
        congr 3
        omega
      have hbd := cntU_bd S K
      obtain ⟨f, hf⟩ : ∃ f, f = cntU S := ⟨_, rfl⟩
      rw [← hf] at hmp NX hbd
      obtain ⟨g, hg⟩ : ∃ g, g = (f K).getD 0 := ⟨_, rfl⟩
      rw [← hg] at NX hbd
      obtain ⟨hb0, hb1⟩ := hbd
      have g3 := gr_alloc (gr_refl wo none) (.cells #[.string K, .int .i64 m] 94)
      have HM3 := Lib.hid (hmp.keep0 g3)
      have HG := Lib.hid (gr_trans hgr g3)
      have HGV := Lib.hid hg
      clear hK hm hS hT hf hmp hgr g3 hg
      go_wp2_with (first
        | (at_lookup; refine wpList_getSI rfl _ _ rfl w.heap.size k f rfl HM3.out K rfl (by omega) ?_; rw [← HGV.out])
        | (at_mapUpdate; refine wpList_putSI rfl _ _ _ rfl w.heap.size k f rfl HM3.out (by omega) K rfl (by omega) (g + m) rfl (by omega) ?_; intro w6 hm6 g6; rw [NX.out] at hm6; have HM6 := Lib.hid hm6; have HG6 := Lib.hid g6; clear hm6 g6))
      go_roundw
      case rel => exact ⟨k + 1, by omega, by go_num, HM6.out, gr_grown HG.out HG6.out (fun q hq => by cases hq; exact Nat.le_refl _)⟩
      case measure => simp [intOf]; omega
    · obtain rfl : k = ps.length := by omega
      have HM := Lib.hid hmp
      clear hmp
      go_wp2_with (fail)
      go_ret
      exact ⟨rfl, by have := HM.out; rw [List.take_length] at this; exact this, hgr⟩
set_option maxRecDepth 100000 in
set_option maxHeartbeats 2000000 in
theorem keepFlat_any (ps : List Piece) (a : Option Addr) (c : Nat) (w : World) (h : CellsAt w a (flat encPc ps)) (hl : ps.length ≤ 1000000) (hu : (unitsL ps).length ≤ 100000000) :
    Calls Tryd.prog 49 #[.slice a ps.length c] w fun e w' => ∃ v, e = .returned v ∧ w'.ownsRow w.heap.size 9 1 v (unitsL ps).length (strs (unitsL ps)) ∧ w.grownBy w' none := by
  have H := Lib.hid h
  clear h
  go_enter Tryd.func49, Tryd.ntmps49
  go_wp2_with (fail)
  go_loopw [3, 8] (fun v i wr => ∃ k : Nat, k ≤ ps.length ∧ i = .int .i64 k ∧ wr.ownsRow w.heap.size 9 1 v (unitsL (ps.take k)).length (strs (unitsL (ps.take k))) ∧ w.grownBy wr none) (fun _ i _ => ps.length - (intOf i).toNat)
  case atStart => exact ⟨0, Nat.zero_le _, rfl, World.ownsRow_nil _ _ _ _, gr_refl _ _⟩
  case round =>
    obtain ⟨k, hk, rfl, hown, hgr⟩ := hrel
    obtain ⟨wo, rfl⟩ : ∃ wo : World, wo = wr := ⟨_, rfl⟩
    have HO := Lib.hid hown
    have HGR := Lib.hid hgr
    by_cases hlt : k < ps.length
    · obtain ⟨b, off, rfl, d0, d1⟩ := pc_cells (H.out.keep0 hgr) k hlt
      have hT := unitsL_take ps k hlt
      have hM := unitsL_mono ps (k + 1)
      rw [hT, List.length_append, List.length_replicate] at hM
      obtain ⟨K, hK⟩ : ∃ K, K = pcLot ps k := ⟨_, rfl⟩
      obtain ⟨m, hm⟩ : ∃ m, m = pcMany ps k := ⟨_, rfl⟩
      obtain ⟨S, hS⟩ : ∃ S, S = unitsL (ps.take k) := ⟨_, rfl⟩
      rw [← hK, ← hm, ← hS] at hT
      rw [← hm, ← hS] at hM
      rw [← hK] at d0
      rw [← hm] at d1
      rw [← hS] at HO
      have HT := Lib.hid hT
      have hzo := hgr.size
      clear hK hm hS hT hown hgr
      go_wp2_with (fail)
      have hV := heap_alloc_new wo (.cells #[.string K, .int .i64 m] 94)
      have hg2 := gr_alloc (gr_refl wo none) (.cells #[.string K, .int .i64 m] 94)
      obtain ⟨w3, hw3⟩ : ∃ w3, w3 = wo.alloc (.cells #[.string K, .int .i64 m] 94) := ⟨_, rfl⟩
      rw [← hw3] at hV hg2
      rw [← hw3]
      obtain ⟨V, hVe⟩ : ∃ V, V = wo.heap.size := ⟨_, rfl⟩
      rw [← hVe] at hV
      rw [← hVe]
      have HV := Lib.hid hV
      have HO3 := Lib.hid (own_keep0 HO.out hg2)
      have HG3 := Lib.hid (gr_trans HGR.out hg2)
      clear hw3 hVe hV hg2 HO HGR d0 d1 H
      go_wp2_with (fail)
      go_loopw [3, 14] (fun v i wr => ∃ j : Nat, j ≤ m.toNat ∧ i = .int .i64 j ∧ wr.ownsRow w.heap.size 9 1 v (S.length + j) (strs (S ++ List.replicate j K)) ∧ wr.heap[V]? = some (.cells #[.string K, .int .i64 m] 94 (0, 0)) ∧ w.grownBy wr none) (fun _ i _ => m.toNat - (intOf i).toNat)
      case atStart => exact ⟨0, by omega, rfl, by simpa using HO3.out, HV.out, HG3.out⟩
      case round =>
        clear HO3 HV HG3
        obtain ⟨j, hj, rfl, hown, hV, hgr⟩ := hrel
        obtain ⟨wq, rfl⟩ : ∃ wq : World, wq = wr := ⟨_, rfl⟩
        have HO := Lib.hid hown
        have HV := Lib.hid hV
        have HGR := Lib.hid hgr
        obtain ⟨v0, v1⟩ := blk2 hV
        have hVl := lt_of_block hV
        have hzo := hgr.size
        clear hown hV hgr
        by_cases hjl : j < m.toNat
        · have hjm : (j : Int) < m := by omega
          go_wp2_with (at_builtin; refine wpList_app1F eStr rfl _ _ rfl w.heap.size _ (S.length + j) (strs (S ++ List.replicate j K)) rfl wq #[.string K] rfl HO.out _ rfl rfl rfl rfl (by omega) (by omega) ?_; intro v6 w6 ho6 g6 hlt6 hf6)
          have hV6 := (g6.block V hVl (fun e => own_ne HO.out HV.out (by decide) e.symm)).trans HV.out
          have HV6 := Lib.hid hV6
          have HO6 := Lib.hid ho6
          have HG6 := Lib.hid (gr_grown HGR.out g6 (fun q hq => by have := hlt6 q hq; omega))
          clear hV6 ho6 g6 hlt6 hf6
          go_roundw
          case rel =>
            refine ⟨j + 1, by omega, by go_num, ?_, HV6.out, HG6.out⟩
            have e : strs (S ++ List.replicate (j + 1) K) = strs (S ++ List.replicate j K) ++ [.string K] := by
              rw [List.replicate_succ', ← List.append_assoc, strs_app]; rfl
            rw [e]
            exact HO6.out
          case measure => simp [intOf]; omega
        · obtain rfl : j = m.toNat := by omega
          have hjm : ¬ (((m.toNat : Nat) : Int) < m) := by omega
          go_wp2_with (fail)
          go_roundw
          case rel =>
            refine ⟨k + 1, by omega, by go_num, ?_, HGR.out⟩
            rw [HT.out, List.length_append, List.length_replicate]
            exact HO.out
          case measure => simp [intOf]; omega
    · obtain rfl : k = ps.length := by omega
      have hf : Hid (ps.take ps.length = ps) := List.take_length
      clear hown hgr
      go_wp2_with (fail)
      go_ret
      rw [hf.out] at HO
      exact ⟨_, rfl, HO.out, HGR.out⟩
end Go.Proofs.YtdjnomeabadbnaaDoor
