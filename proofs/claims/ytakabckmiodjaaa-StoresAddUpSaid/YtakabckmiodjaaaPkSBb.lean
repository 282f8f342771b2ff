/- The laws' own counts of pieces: a map, and a list of all units. -/
import Derived.Test.YtakabckmiodjaaaPkSAn
import Derived.Test.YtakabckmiodjaaaPkSAq
namespace Go.Proofs.Ytakabckmiodjaaa
open Go.RowKit
attribute [local go_sem ↓] Go.wp_at_zero Go.wp_at_succ

/-- How many units there are of each lot that there are units of. -/
def cntN (U : List ByteArray) (s : ByteArray) : Nat := (U.filter (fun x => decide (x = s))).length
def cntU (U : List ByteArray) (s : ByteArray) : Option Int := if 0 < cntN U s then some (cntN U s : Nat) else none
theorem cntN_app (U V : List ByteArray) (t : ByteArray) : cntN (U ++ V) t = cntN U t + cntN V t := by simp [cntN]
theorem cntN_rep (k : ByteArray) (m : Nat) (t : ByteArray) : cntN (List.replicate m k) t = if t = k then m else 0 := by
  unfold cntN
  by_cases e : t = k
  · subst e
    rw [if_pos rfl, List.filter_eq_self.2 (fun x hx => by simp [List.mem_replicate] at hx; simp [hx.2]), List.length_replicate]
  · rw [if_neg e, List.filter_eq_nil_iff.2 (fun x hx => by
      simp only [List.mem_replicate] at hx
      simp only [decide_eq_true_eq]
      intro h
      exact e (h ▸ hx.2))]
    rfl
theorem cntU_get (U : List ByteArray) (s : ByteArray) : (cntU U s).getD 0 = (cntN U s : Nat) := by
  unfold cntU
  split
  · rfl
  · have : cntN U s = 0 := by omega
    rw [this]; rfl
theorem cntU_app (U : List ByteArray) (k : ByteArray) (m : Nat) (hm : 1 ≤ m) (t : ByteArray) : cntU (U ++ List.replicate m k) t = if t = k then some ((cntU U k).getD 0 + m) else cntU U t := by
  rw [cntU_get]
  unfold cntU
  rw [cntN_app, cntN_rep]
  by_cases e : t = k
  · subst e
    rw [if_pos rfl, if_pos rfl, if_pos (by omega)]
    congr 1
  · rw [if_neg e, if_neg e, Nat.add_zero]
theorem cntU_perm {U V : List ByteArray} (h : U.Perm V) : cntU U = cntU V := by
  funext s
  unfold cntU
  have : cntN U s = cntN V s := (h.filter _).length_eq
  rw [this]
theorem cntU_bd (U : List ByteArray) (s : ByteArray) : 0 ≤ (cntU U s).getD 0 ∧ (cntU U s).getD 0 ≤ U.length := by
  rw [cntU_get]
  have := List.length_filter_le (fun x => decide (x = s)) U
  unfold cntN
  omega
set_option maxRecDepth 100000 in
set_option maxHeartbeats 2000000 in
theorem keepUnits_any (ps : List Piece) (a : Option Addr) (c : Nat) (w : World) (h : CellsAt w a (flat encPc ps)) (hl : ps.length ≤ 100000) (hlo : ∀ x ∈ ps, 1 ≤ x.many ∧ x.many ≤ 100000 ∧ x.lot.size ≤ 1000) (hu : (unitsL ps).length ≤ 100000000) :
    Calls Try.prog 32 #[.slice a ps.length c] w fun e w' => e = .returned (.map (some w.heap.size)) ∧ MapIs w' w.heap.size ps.length (cntU (unitsL ps)) ∧ w.grownBy w' none := by
  have H := Lib.hid h
  have HLO := Lib.hid hlo
  have hm0 := Lib.hid (MapIs.made w)
  have hg0 := Lib.hid (gr_alloc (gr_refl w none) (.map #[] 0))
  have hmm := @run_makeMap Try.prog
  have E0 : Hid ((fun _ => none) = cntU (unitsL (ps.take 0))) := by show _ = _; funext s; rfl
  rw [E0.out] at hm0
  clear h hlo
  go_enter Try.func32, Try.ntmps32
  go_wp2_with (fail)
  clear hmm
  go_loopw [9] (fun i wr => ∃ k : Nat, k ≤ ps.length ∧ i = .int .i64 k ∧ MapIs wr w.heap.size k (cntU (unitsL (ps.take k))) ∧ w.grownBy wr none) (fun i _ => ps.length - (intOf i).toNat)
  case atStart => exact ⟨0, Nat.zero_le _, rfl, hm0.out, hg0.out⟩
  case round =>
    clear hm0 hg0 E0
    obtain ⟨k, hk, rfl, hmp, hgr⟩ := hrel
    obtain ⟨wo, rfl⟩ : ∃ wo : World, wo = wr := ⟨_, rfl⟩
    by_cases hlt : k < ps.length
    · obtain ⟨b, off, rfl, d0, d1⟩ := pc_cells (H.out.keep0 hgr) k hlt
      have hp := pc_mem (P := fun x => 1 ≤ x.many ∧ x.many ≤ 100000 ∧ x.lot.size ≤ 1000) HLO.out k hlt
      have hT := unitsL_take ps k hlt
      have hM := unitsL_mono ps k
      simp only at hp
      obtain ⟨K, hK⟩ : ∃ K, K = pcLot ps k := ⟨_, rfl⟩
      obtain ⟨m, hm⟩ : ∃ m, m = pcMany ps k := ⟨_, rfl⟩
      obtain ⟨S, hS⟩ : ∃ S, S = unitsL (ps.take k) := ⟨_, rfl⟩
      rw [← hK, ← hm] at hp hT
      rw [← hK] at d0
      rw [← hm] at d1
      rw [← hS] at hT hM hmp
      obtain ⟨hm1, hm2, hKs⟩ := hp
      have hn1 : m.toNat ≥ 1 := by omega
      have NX : Hid ((fun t => if t = K then some ((cntU S K).getD 0 + m) else cntU S t) = cntU (unitsL (ps.take (k + 1)))) := by
        show _ = _
        funext t
        rw [hT, cntU_app S K m.toNat hn1 t]
        congr 3
        omega
      have hbd := cntU_bd S K
      obtain ⟨f, hf⟩ : ∃ f, f = cntU S := ⟨_, rfl⟩
      rw [← hf] at hmp NX hbd
      obtain ⟨g, hg⟩ : ∃ g, g = (f K).getD 0 := ⟨_, rfl⟩
      rw [← hg] at NX hbd
      obtain ⟨hb0, hb1⟩ := hbd
      have g3 := gr_alloc (gr_refl wo none) (.cells #[.string K, .int .i64 m] 130)
      have HM3 := Lib.hid (hmp.keep0 g3)
      have HG := Lib.hid (gr_trans hgr g3)
      have HGV := Lib.hid hg
      clear hK hm hS hT hf hmp hgr g3 hg
      go_wp2_with (first
        | (at_lookup; refine wpList_getSI rfl _ _ rfl w.heap.size k f rfl HM3.out K rfl (by omega) ?_; rw [← HGV.out])
        | (at_mapUpdate; refine wpList_putSI rfl _ _ _ rfl w.heap.size k f rfl HM3.out (by omega) K rfl (by omega) (g + m) rfl (by omega) ?_; intro w6 hm6 g6; rw [NX.out] at hm6; have HM6 := Lib.hid hm6; have HG6 := Lib.hid g6; clear hm6 g6))
      go_roundw
      case rel => exact ⟨k + 1, by omega, by go_num, HM6.out, gr_grown HG.out HG6.out (fun q hq => by cases hq; exact Nat.le_refl _)⟩
      case measure => simp [intOf]; omega
    · obtain rfl : k = ps.length := by omega
      have HM := Lib.hid hmp
      clear hmp
      go_wp2_with (fail)
      go_ret
      exact ⟨rfl, by have := HM.out; rw [List.take_length] at this; exact this, hgr⟩
end Go.Proofs.Ytakabckmiodjaaa
