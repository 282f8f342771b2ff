/- shelf.Parse reads what shelf.Print wrote. -/
import Derived.Test.YthikknnadmebgaaGreatDoorPkSBq
import Derived.Test.YthikknnadmebgaaGreatDoorPkSBi
import Derived.Test.YthikknnadmebgaaGreatDoorPkSAe
import Derived.Test.YthikknnadmebgaaGreatDoorPkSAb
import Derived.Test.YthikknnadmebgaaGreatDoorPkSBs
namespace Go.Proofs.YthikknnadmebgaaGreatDoor
open Go.RowKit
attribute [local go_sem ↓] Go.wp_at_zero Go.wp_at_succ

theorem eqDot (k : ByteArray) : (k.toList == [46]) = decide (k = dotB) := by
  have e : ByteArray.toList ⟨#[46]⟩ = [46] := by rw [ByteArray.toList_eq]
  rw [← e]
  exact eq_bytesA k ⟨#[46]⟩
theorem parse1_fn : ∀ (args : Array Value) (w : World), (callFunc 84 args).run Tryz.prog w = .ok (.enter 84 args) w := fun _ _ => by kernel_rfl
set_option maxRecDepth 100000 in
theorem parse1_any (k : ByteArray) (w : World) (hs : k.size ≤ 9223372036854775807) :
    Calls Tryz.prog 84 #[.string k] w fun e w' => e = .returned (.bool (tokOdd k)) ∧ w.grownBy w' none := by
  by_cases hd : k = dotB
  · have h1 : (k.toList == [46]) = true := by rw [eqDot, decide_eq_true hd]
    have HT : Hid (tokOdd k = false) := by show _ = _; unfold tokOdd; rw [decide_eq_false (fun h => h hd)]; rfl
    clear hd
    go_enter Tryz.func84, Tryz.ntmps84
    go_wp2_with (fail)
    go_ret
    exact ⟨congrArg (fun b => Ending.returned (.bool b)) HT.out.symm, gr_refl _ _⟩
  · have h1 : (k.toList == [46]) = false := by rw [eqDot, decide_eq_false hd]
    have HT : Hid (tokOdd k = !keyB k) := by show _ = _; unfold tokOdd; rw [decide_eq_true hd, Bool.true_and]
    clear hd
    go_enter Tryz.func84, Tryz.ntmps84
    go_wp2_with (fail)
    refine (key_any k w hs).mono ?_
    rintro e w2 ⟨rfl, rfl⟩
    go_wp2_with (fail)
    go_ret
    exact ⟨congrArg (fun b => Ending.returned (.bool b)) HT.out.symm, gr_refl _ _⟩
theorem mkT_size (l : List UInt8) : (⟨l.toArray⟩ : ByteArray).size = l.length := by
  show l.toArray.size = _
  rw [List.size_toArray]
theorem mkT_list (l : List UInt8) : (⟨l.toArray⟩ : ByteArray).toList = l := by rw [ByteArray.toList_eq]
theorem cells_ne (l : List ByteArray) (hl : l ≠ []) (h : ∀ k ∈ l, SlotOk k) : 1 ≤ (cellsT l).length := by
  cases l with
  | nil => exact absurd rfl hl
  | cons k r =>
    have := (tok_ok (h k (List.mem_cons_self ..))).2.1
    show 1 ≤ (tokB k ++ _).length
    rw [List.length_append]
    omega
theorem rest_len {C R : Nat} {xs : List ByteArray} : ∀ (d k : Nat), R - k = d → k ≤ R → (restL C R xs k).length ≤ (layText C R xs).length
  | d, 0, _, _ => by rw [rest_zero]; exact Nat.le_refl _
  | d, k + 1, _, hk => by
    have h1 := rest_len (C := C) (R := R) (xs := xs) (R - k) k rfl (by omega)
    rw [rest_next C R xs k (by omega)] at h1
    simp only [List.length_append, List.length_cons] at h1
    omega
def wordsOf (l : List ByteArray) : List ByteArray := l.map fun k => ⟨(tokB k).toArray⟩
theorem words_get (l : List ByteArray) (j : Nat) (h : j < l.length) : (wordsOf l).getD j ⟨#[]⟩ = ⟨(tokB l[j]).toArray⟩ := by
  unfold wordsOf
  rw [getD_eq _ j _ (by simpa using h), List.getElem_map]
theorem words_len (l : List ByteArray) : (wordsOf l).length = l.length := by unfold wordsOf; rw [List.length_map]
set_option maxRecDepth 100000 in
set_option maxHeartbeats 4000000 in
theorem parse_any (R C : Nat) (xs : List ByteArray) (r1 : 1 ≤ R) (r6 : R ≤ 6) (c1 : 1 ≤ C) (c6 : C ≤ 6) (hl : xs.length = R * C) (hs : ∀ k ∈ xs, SlotOk k) (w : World) (E : w.ShapedOpen Tryz.prog) :
    Calls Tryz.prog 37 #[.agg #[.int .i64 R, .int .i64 C], .string ⟨(layText C R xs).toArray⟩] w fun e w' => ∃ v, e = .returned (.tuple #[v, .int .i64 0, .int .i64 0]) ∧ w'.ownsRow w.heap.size 9 1 v xs.length (strs xs) ∧ w.grownBy w' none := by
  have hB := heap_alloc_new w (.cells #[.int .i64 R, .int .i64 C] 54)
  have ga := gr_alloc (gr_refl w none) (.cells #[.int .i64 R, .int .i64 C] 54)
  obtain ⟨w1, hw1⟩ : ∃ w1, w1 = w.alloc (.cells #[.int .i64 R, .int .i64 C] 54) := ⟨_, rfl⟩
  rw [← hw1] at hB ga
  obtain ⟨X, hX⟩ : ∃ X, X = w.heap.size := ⟨_, rfl⟩
  rw [← hX] at hB
  have HBk := Lib.hid hB
  have HW := Lib.hid hw1
  have HX := Lib.hid hX
  have HG := Lib.hid ga
  have HS := Lib.hid hs
  have HE := Lib.hid E
  have hRC : R * C ≤ 36 := Nat.mul_le_mul r6 c6
  have hll := lay_len hl hs (by omega) R (Nat.le_refl _)
  have hxl : xs.length ≤ 36 := by omega
  have HLL : Hid ((layText C R xs).length ≤ 2466) := by show _ ≤ _; omega
  have HL := Lib.hid hl
  have R0 := Lib.hid (rest_zero C R xs)
  obtain ⟨t0, ht0⟩ : ∃ t0, t0 = (⟨(layText C R xs).toArray⟩ : ByteArray) := ⟨_, rfl⟩
  have htl : t0.size ≤ 2466 := by rw [ht0, mkT_size]; exact HLL.out
  rw [← ht0]
  have HT0 := Lib.hid ht0
  clear hB hw1 hX ga hs E hRC hll hl ht0
  go_enter Tryz.func37, Tryz.ntmps37
  go_upto_region 1 with (fail)
  rw [← HW.out, ← HX.out]
  have p0 : w1.cell? ⟨X, 0, none⟩ = some (.int .i64 (R : Int)) := blkC HBk.out 0 rfl
  have p1 : w1.cell? ⟨X, 1, none⟩ = some (.int .i64 (C : Int)) := blkC HBk.out 1 rfl
  go_wp2_with (fail)
  clear p0 p1
  refine (checkRack_any R C w1 r1 r6 c1 c6).mono ?_
  rintro e w2 ⟨rfl, g2⟩
  have HG2 := Lib.hid (gr_trans HG.out g2)
  have hB2 := Lib.hid ((g2.block X (lt_of_block HBk.out) (by simp)).trans HBk.out)
  clear g2
  go_wp2_with (fail)
  go_loopw [1, 8, 9] (fun t f i wr => ∃ k : Nat, k ≤ R ∧ t = .string ⟨(restL C R xs k).toArray⟩ ∧ i = .int .i64 k ∧ wr.ownsRow w2.heap.size 9 1 f (k * C) (strs (xs.take (k * C))) ∧ w2.grownBy wr none) (fun _ _ i _ => R - (intOf i).toNat)
  case atStart => exact ⟨0, Nat.zero_le _, (by rw [HT0.out, R0.out]), rfl, (by rw [Nat.zero_mul]; exact World.ownsRow_nil _ _ _ _), gr_refl _ _⟩
  case round =>
    obtain ⟨k, hk, rfl, rfl, hF, hgr⟩ := hrel
    obtain ⟨wo, rfl⟩ : ∃ wo : World, wo = wr := ⟨_, rfl⟩
    obtain ⟨fa, fc, rfl, _, _, _, _⟩ := own_shape hF
    have hb2 := (hgr.block X (lt_of_block hB2.out) (by simp)).trans hB2.out
    have p0 : wo.cell? ⟨X, 0, none⟩ = some (.int .i64 (R : Int)) := blkC hb2 0 rfl
    have p1 : wo.cell? ⟨X, 1, none⟩ = some (.int .i64 (C : Int)) := blkC hb2 1 rfl
    have HF := Lib.hid hF
    have HGR := Lib.hid hgr
    have HBB := Lib.hid hb2
    clear hF hgr hb2
    by_cases hlt : k < R
    · have hnx := rest_next C R xs k hlt
      have hrl := rest_len (C := C) (R := R) (xs := xs) (R - k) k rfl hk
      have hcl := chunk_len HL.out hlt
      have hsl : ∀ y ∈ chunkL C xs k, SlotOk y := fun y hy => HS.out y (chunk_mem y hy)
      have hcn : chunkL C xs k ≠ [] := fun e => by rw [e] at hcl; simp at hcl; omega
      have hno := cells_no _ hsl
      obtain ⟨hsp, hct⟩ := cells_split _ hcn hsl
      have hc1 := cells_ne _ hcn hsl
      obtain ⟨p, hp⟩ : ∃ p, p = cellsT (chunkL C xs k) := ⟨_, rfl⟩
      obtain ⟨q, hq⟩ : ∃ q, q = restL C R xs (k + 1) := ⟨_, rfl⟩
      rw [← hp, ← hq] at hnx
      rw [← hp] at hno hsp hct hc1
      rw [hnx] at hrl
      simp only [List.length_append, List.length_cons] at hrl
      have hll := HLL.out
      have CUT := Lib.hid (fun (W : World) (g : w2.grownBy W none) => cutC_any 10 p q hno (by omega) W (HE.out.keptBut (kept_of_grown (gr_trans HG2.out g)) (fun _ hx => hx.elim)))
      have SPL := Lib.hid (fun (W : World) (g : w2.grownBy W none) => splitC_any ⟨p.toArray⟩ 32 W (HE.out.keptBut (kept_of_grown (gr_trans HG2.out g)) (fun _ hx => hx.elim)) (by rw [mkT_size]; omega) ((chunkL C xs k).map tokB) hsp (by rw [List.length_map]; exact hct))
      have hps : ((chunkL C xs k).map tokB).map (fun l => Value.string ⟨l.toArray⟩) = strs (wordsOf (chunkL C xs k)) := by
        unfold strs wordsOf
        rw [List.map_map, List.map_map]
        rfl
      rw [List.length_map, hcl, hps] at SPL
      rw [hnx]
      have hne : (⟨(p ++ 10 :: q).toArray⟩ : ByteArray).toList.isEmpty = false := by
        rw [mkT_list]
        cases p <;> rfl
      obtain ⟨t, ht⟩ : ∃ t, t = (⟨(p ++ 10 :: q).toArray⟩ : ByteArray) := ⟨_, rfl⟩
      obtain ⟨tp, htp⟩ : ∃ tp, tp = (⟨p.toArray⟩ : ByteArray) := ⟨_, rfl⟩
      obtain ⟨tq, htq⟩ : ∃ tq, tq = (⟨q.toArray⟩ : ByteArray) := ⟨_, rfl⟩
      rw [← ht, ← htp, ← htq] at CUT
      rw [← htp] at SPL
      rw [← ht] at hne
      rw [← ht]
      have HTQ : Hid (tq = ⟨(restL C R xs (k + 1)).toArray⟩) := by show _ = _; rw [htq, hq]
      have HCL := Lib.hid hcl
      have HSL := Lib.hid hsl
      clear hnx hrl hcl hsl hcn hno hsp hct hc1 hp hq hll hps ht htp htq
      go_wp2_with (fail)
      refine (CUT.out wo HGR.out).mono ?_
      rintro e w3 ⟨rfl, g3⟩
      have HG3 := Lib.hid (gr_trans HGR.out g3)
      have HG3o := Lib.hid g3
      clear g3 CUT p0 p1
      go_wp2_with (fail)
      refine (SPL.out w3 HG3.out).mono ?_
      rintro e w4 ⟨rfl, hw4⟩
      have hV := heap_alloc_new w3 (.cells (strs (wordsOf (chunkL C xs k))).toArray 9)
      have gV := gr_alloc (gr_refl w3 none) (.cells (strs (wordsOf (chunkL C xs k))).toArray 9)
      have cV := CellsAt.new w3 (strs (wordsOf (chunkL C xs k))).toArray 9
      rw [← hw4] at hV gV cV
      have HG4 := Lib.hid (gr_trans HG3.out gV)
      have HG4o := Lib.hid (gr_trans HG3o.out gV)
      have hb4 := (HG4o.out.block X (lt_of_block HBB.out) (by simp)).trans HBB.out
      have p0 : w4.cell? ⟨X, 0, none⟩ = some (.int .i64 (R : Int)) := blkC hb4 0 rfl
      have p1 : w4.cell? ⟨X, 1, none⟩ = some (.int .i64 (C : Int)) := blkC hb4 1 rfl
      have HCV := Lib.hid cV
      clear hw4 gV SPL
      go_wp2_with (fail)
      have CF := containsFunc_Str0 84 tokOdd (wordsOf (chunkL C xs k)) (some ⟨w3.heap.size, 0, none⟩) C w4 (by rw [strs_flat]; exact HCV.out) (by rw [words_len, HCL.out]; omega) parse1_fn (fun y hy W _ => parse1_any y W (by
        obtain ⟨z, hz, rfl⟩ := List.mem_map.1 hy
        have := (tok_ok (HSL.out z hz)).2.2
        rw [mkT_size]
        omega))
      have hany : (wordsOf (chunkL C xs k)).any tokOdd = false := List.any_eq_false.2 (fun y hy => by
        obtain ⟨z, hz, rfl⟩ := List.mem_map.1 hy
        rw [(tok_back (HSL.out z hz)).1]
        simp)
      rw [words_len, HCL.out, hany] at CF
      refine CF.mono ?_
      rintro e w5 ⟨rfl, g5⟩
      have hV5 := (g5.block _ (lt_of_block hV) (by simp)).trans hV
      have HG5 := Lib.hid (gr_trans HG4.out g5)
      have G5o := gr_trans HG4o.out g5
      have hb5 := Lib.hid ((G5o.block X (lt_of_block HBB.out) (by simp)).trans HBB.out)
      have HF5 := Lib.hid (own_keep0 HF.out G5o)
      have hz3 := HG3o.out.size
      have hzz := HGR.out.size
      obtain ⟨V, hVe⟩ : ∃ V, V = w3.heap.size := ⟨_, rfl⟩
      rw [← hVe] at hV5
      rw [← hVe]
      have hVl : ∀ q, (Value.slice fa (k * C) fc).ownBlock = some q → q < V := fun q hq => by
        rcases HF.out.2 with ⟨e, _⟩ | ⟨g, cap, cur, e, _, hgb, _⟩
        · rw [e] at hq; cases hq
        · rw [e] at hq
          have : g = q := by simpa [Value.ownBlock] using hq
          subst this
          have := (Array.getElem?_eq_some_iff.1 hgb).1
          omega
      have HV5 := Lib.hid hV5
      have HVL := Lib.hid hVl
      obtain ⟨P, hP⟩ : ∃ P, P = k * C := ⟨_, rfl⟩
      have hPC : P + C ≤ xs.length := by
        rw [HL.out, hP]
        have h1 : (k + 1) * C ≤ R * C := Nat.mul_le_mul_right C hlt
        rw [Nat.succ_mul] at h1
        exact h1
      have HPn : Hid ((k + 1) * C = P + C) := by show _ = _; rw [Nat.succ_mul, hP]
      have HW2 : Hid (∀ j, j < C → j < (wordsOf (chunkL C xs k)).length ∧ ∃ z, xs[P + j]? = some z ∧ SlotOk z ∧ (wordsOf (chunkL C xs k)).getD j ⟨#[]⟩ = ⟨(tokB z).toArray⟩) := fun j hj => by
        obtain ⟨h1, h2⟩ := chunk_at HL.out hlt j hj
        have hjl : j < (wordsOf (chunkL C xs k)).length := by rw [words_len, HCL.out]; exact hj
        refine ⟨hjl, xs[k * C + j], by rw [hP, List.getElem?_eq_getElem h1], HS.out _ (List.getElem_mem h1), ?_⟩
        rw [words_get _ j (by rw [HCL.out]; exact hj)]
        rw [List.getElem?_eq_getElem (by rw [HCL.out]; exact hj)] at h2
        rw [Option.some.inj h2]
      rw [← hP] at HF5 HVL
      rw [← hP]
      have hzw2 := HG5.out.size
      clear CF hany g5 hV hV5 G5o hVe hVl hP p0 p1 HF HCV hb4 cV hz3 hzz
      go_wp2_with (fail)
      go_loopw [8, 52] (fun f i wr => ∃ j : Nat, j ≤ C ∧ i = .int .i64 j ∧ wr.ownsRow w2.heap.size 9 1 f (P + j) (strs (xs.take (P + j))) ∧ w2.grownBy wr none ∧ wr.heap[V]? = some (.cells (strs (wordsOf (chunkL C xs k))).toArray 9 (0, 0)) ∧ (∀ q, f.ownBlock = some q → q ≠ V)) (fun _ i _ => C - (intOf i).toNat)
      case atStart => exact ⟨0, Nat.zero_le _, rfl, HF5.out, HG5.out, HV5.out, fun q hq => by have := HVL.out q hq; omega⟩
      case round =>
        clear HF5 HV5 HVL
        obtain ⟨j, hj, rfl, hF, hgr, hV, hq⟩ := hrel
        obtain ⟨wi, rfl⟩ : ∃ wi : World, wi = wr := ⟨_, rfl⟩
        have HF := Lib.hid hF
        have HGI := Lib.hid hgr
        have HV := Lib.hid hV
        have HQ := Lib.hid hq
        have hzi := hgr.size
        by_cases hlt2 : j < C
        · obtain ⟨hjl, z, hzx, hzs, hzw⟩ := HW2.out j hlt2
          have d0 : wi.cell? ⟨V, j, none⟩ = some (.string ⟨(tokB z).toArray⟩) := by
            rw [← hzw]
            exact blkC hV j (by rw [List.getElem?_toArray]; exact strs_get _ j hjl)
          obtain ⟨htk0, htk⟩ := tok_back hzs
          have hst : strs (xs.take (P + j + 1)) = strs (xs.take (P + j)) ++ [.string z] := by
            obtain ⟨hi, e⟩ := List.getElem?_eq_some_iff.1 hzx
            rw [List.take_succ_eq_append_getElem hi, e]
            simp [strs]
          have HST := Lib.hid hst
          obtain ⟨y, hy⟩ : ∃ y, y = (⟨(tokB z).toArray⟩ : ByteArray) := ⟨_, rfl⟩
          rw [← hy] at d0 htk
          have hjc : decide ((j : Int) < (C : Int)) = true := decide_eq_true (by omega)
          have hed := eqDot y
          have hlv : V < wi.heap.size := lt_of_block hV
          clear hF hgr hV hq hzw hzx hzs htk0 hst hy
          by_cases hyd : y = dotB
          · rw [if_pos hyd] at htk
            rw [decide_eq_true hyd] at hed
            have HZ := Lib.hid htk
            clear htk hyd
            go_wp2_with (at_builtin; refine wpList_app1F eStr rfl _ _ rfl w2.heap.size _ (P + j) (strs (xs.take (P + j))) rfl wi #[.string ⟨#[]⟩] rfl HF.out _ rfl rfl rfl rfl (by omega) (by omega) ?_; intro v7 w7 o7 g7 hl7 hk7; have O7 := Lib.hid o7; have G7 := Lib.hid g7; have L7 := Lib.hid hl7; have K7 := Lib.hid hk7; clear o7 g7 hl7 hk7)
            go_roundw
            case rel => exact ⟨j + 1, by omega, by go_num, (by rw [← Nat.add_assoc, HST.out, ← HZ.out]; exact O7.out), gr_grown HGI.out G7.out (fun q e => L7.out q e), (G7.out.block V hlv (fun e => HQ.out V e.symm rfl)).trans HV.out, fun q hq2 => (K7.out q hq2).elim (fun h => HQ.out q h) (fun h => by omega)⟩
            case measure => simp [intOf]; omega
          · rw [if_neg hyd] at htk
            rw [decide_eq_false hyd] at hed
            have HZ := Lib.hid htk
            clear htk hyd
            go_wp2_with (at_builtin; refine wpList_app1F eStr rfl _ _ rfl w2.heap.size _ (P + j) (strs (xs.take (P + j))) rfl wi #[.string y] rfl HF.out _ rfl rfl rfl rfl (by omega) (by omega) ?_; intro v7 w7 o7 g7 hl7 hk7; have O7 := Lib.hid o7; have G7 := Lib.hid g7; have L7 := Lib.hid hl7; have K7 := Lib.hid hk7; clear o7 g7 hl7 hk7)
            go_roundw
            case rel => exact ⟨j + 1, by omega, by go_num, (by rw [← Nat.add_assoc, HST.out, ← HZ.out]; exact O7.out), gr_grown HGI.out G7.out (fun q e => L7.out q e), (G7.out.block V hlv (fun e => HQ.out V e.symm rfl)).trans HV.out, fun q hq2 => (K7.out q hq2).elim (fun h => HQ.out q h) (fun h => by omega)⟩
            case measure => simp [intOf]; omega
        · obtain rfl : j = C := by omega
          have hjc : decide ((j : Int) < (j : Int)) = false := decide_eq_false (by omega)
          clear hF hgr hV hq
          go_wp2_with (fail)
          go_roundw
          case rel => exact ⟨k + 1, by omega, by rw [HTQ.out], by go_num, by rw [HPn.out]; exact HF.out, HGI.out⟩
          case measure => simp [intOf]; omega
    · obtain rfl : k = R := by omega
      have hre := rest_end C k xs
      have hne : (⟨(restL C k xs k).toArray⟩ : ByteArray).toList.isEmpty = true := by rw [mkT_list, hre]; rfl
      obtain ⟨t, ht⟩ : ∃ t, t = (⟨(restL C k xs k).toArray⟩ : ByteArray) := ⟨_, rfl⟩
      rw [← ht] at hne
      rw [← ht]
      have HT := Lib.hid (List.take_of_length_le (Nat.le_of_eq HL.out))
      have hzz := HG2.out.size
      clear ht hre
      go_wp2_with (fail)
      go_ret3
      refine ⟨_, rfl, ?_, gr_trans HG2.out HGR.out⟩
      have h := HF.out
      rw [HT.out] at h
      refine own_base (base := w2.heap.size) ?_ hzz
      show wo.ownsRow w2.heap.size 9 1 (.slice fa (k * C) fc) xs.length (strs xs)
      rw [HL.out]
      exact h
end Go.Proofs.YthikknnadmebgaaGreatDoor
