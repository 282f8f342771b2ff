/- How many units of each product are needed: a map; what is wrong with a kit's needs. -/
import Derived.Test.YtdminjijhpemkaaGreatDoorPkSAn
import Derived.Test.YtdminjijhpemkaaGreatDoorPkSAs
import Derived.Test.YtdminjijhpemkaaGreatDoorPkSAc
import Derived.Test.YtdminjijhpemkaaGreatDoorPkSAo
namespace Go.Proofs.YtdminjijhpemkaaGreatDoor
open Go.RowKit
attribute [local go_sem ↓] Go.wp_at_zero Go.wp_at_succ

def needSum (N : List Need) (s : ByteArray) : Int := (N.map (fun x => if x.prod = s then x.many else 0)).sum
def needMap (N : List Need) (s : ByteArray) : Option Int := if N.any (fun x => decide (x.prod = s)) = true then some (needSum N s) else none
theorem needSum_app (a b : List Need) (s : ByteArray) : needSum (a ++ b) s = needSum a s + needSum b s := by simp [needSum]
theorem needSum_bd (N : List Need) (s : ByteArray) (h : ∀ x ∈ N, NeedSm x) : -(N.length : Int) ≤ needSum N s ∧ needSum N s ≤ 100001 * N.length := by
  induction N with
  | nil => simp [needSum]
  | cons x N ih =>
    have h1 := ih (fun y hy => h y (by simp [hy]))
    obtain ⟨-, -, h2, h3⟩ := h x (by simp)
    have e : needSum (x :: N) s = (if x.prod = s then x.many else 0) + needSum N s := by simp [needSum]
    rw [e]
    simp only [List.length_cons]
    split <;> omega
theorem needMap_get (N : List Need) (s : ByteArray) : (needMap N s).getD 0 = needSum N s := by
  unfold needMap
  split
  · rfl
  · rename_i h
    induction N with
    | nil => rfl
    | cons x N ih =>
      simp only [List.any_cons, Bool.or_eq_true, decide_eq_true_eq, not_or] at h
      have e : needSum (x :: N) s = (if x.prod = s then x.many else 0) + needSum N s := by simp [needSum]
      rw [e, if_neg h.1, ← ih h.2]; rfl
theorem needMap_next (N : List Need) (k : Nat) (hk : k < N.length) (t : ByteArray) : needMap (N.take (k + 1)) t = if t = N[k].prod then some ((needMap (N.take k) N[k].prod).getD 0 + N[k].many) else needMap (N.take k) t := by
  have e : N.take (k + 1) = N.take k ++ [N[k]] := by simp
  rw [needMap_get, e]
  unfold needMap
  rw [needSum_app, List.any_append]
  by_cases h : t = N[k].prod
  · subst h
    rw [if_pos rfl]
    simp [needSum]
  · rw [if_neg h]
    have h2 : ¬ N[k].prod = t := fun e => h e.symm
    simp [needSum, h2]
theorem needMap_key {N : List Need} {s : ByteArray} {x : Int} (h : ∀ x ∈ N, NeedSm x) (hx : needMap N s = some x) : s.size ≤ 3 ∧ x = needSum N s ∧ ∃ y ∈ N, y.prod = s := by
  unfold needMap at hx
  split at hx
  · rename_i hy
    obtain ⟨y, hy, e⟩ := List.any_eq_true.1 hy
    have e : y.prod = s := by simpa using e
    injection hx with hx
    exact ⟨by rw [← e]; exact (h y hy).2.1, hx.symm, y, hy, e⟩
  · cases hx
/-! How many units of each product are wanted: the program's map. -/
attribute [local go_sem ↓] Go.wp_at_zero Go.wp_at_succ

set_option maxRecDepth 100000 in
set_option maxHeartbeats 2000000 in
theorem wanted_ok (xs : List Lot) (xa : Option Addr) (xc : Nat) (N : List Need) (day left : Int) (a : Option Addr) (c : Nat) (w : World) (hx : CellsAt w xa (flat encLot xs)) (hxo : LotsOk xs) (h : CellsAt w a (flat encNeed N)) (hsm : NeedsSm N) (hok : NeedsOk N) (hd : 0 ≤ day ∧ day ≤ 4000) (hf : 0 ≤ left ∧ left ≤ 4000) :
    Calls Tryz.prog 40 #[.slice xa xs.length xc, .slice a N.length c, .int .i64 day, .int .i64 left] w fun e w' => ∃ B, e = .returned (.tuple #[.map (some B), .int .i64 0]) ∧ w.heap.size ≤ B ∧ MapIs w' B N.length (needMap N) ∧ w.grownBy w' none := by
  have CL := Lib.hid (checkLots_ok xs xa xc w hx hxo)
  have CN := Lib.hid (fun (W : World) (g : w.grownBy W none) => checkNeeds_ok N a c W (h.keep0 g) hsm hok)
  have H := Lib.hid h
  have HSM := Lib.hid hsm
  have hl := hsm.len
  have d1 : (!(decide (day < 0) || decide (4000 < day))) = true := by simp; omega
  have d2 : (!(decide (left < 0) || decide (4000 < left))) = true := by simp; omega
  have hmm := @run_makeMap Tryz.prog
  have E0 : Hid ((fun _ => none) = needMap (N.take 0)) := by show _ = _; funext s; rfl
  clear h hsm hok hx hxo
  go_enter Tryz.func40, Tryz.ntmps40
  go_wp2_with (fail)
  refine CL.out.mono ?_
  rintro e w1 ⟨rfl, g1⟩
  go_wp2_with (fail)
  refine (CN.out w1 g1).mono ?_
  rintro e w2 ⟨rfl, g2⟩
  have G2 := Lib.hid (gr_trans g1 g2)
  clear g1 g2 CL CN
  go_wp2_with (fail)
  refine (dayL_any day w2).mono ?_
  rintro e w3 ⟨rfl, rfl⟩
  rw [d1]
  go_wp2_with (fail)
  refine (dayL_any left w2).mono ?_
  rintro e w3 ⟨rfl, rfl⟩
  rw [d2]
  have hm0 := MapIs.made w2
  rw [E0.out] at hm0
  have hm0 := Lib.hid hm0
  have hg0 := Lib.hid (gr_alloc G2.out (.map #[] 0))
  obtain ⟨B, hB⟩ : ∃ B, B = w2.heap.size := ⟨_, rfl⟩
  rw [← hB] at hm0
  have HBE := Lib.hid hB
  have HBW : Hid (w.heap.size ≤ B) := by show _ ≤ _; rw [hB]; exact G2.out.size
  clear hB
  go_wp2_with (fail)
  rw [← HBE.out]
  clear hmm d1 d2
  go_loopw [38] (fun i wr => ∃ k : Nat, k ≤ N.length ∧ i = .int .i64 k ∧ MapIs wr B k (needMap (N.take k)) ∧ w.grownBy wr none) (fun i _ => N.length - (intOf i).toNat)
  case atStart => exact ⟨0, Nat.zero_le _, rfl, hm0.out, hg0.out⟩
  case round =>
    clear hm0 hg0 E0
    obtain ⟨k, hk, rfl, hmp, hgr⟩ := hrel
    obtain ⟨wo, rfl⟩ : ∃ wo : World, wo = wr := ⟨_, rfl⟩
    by_cases hlt : k < N.length
    · obtain ⟨b, off, rfl, d0, d1, d2⟩ := need_cells (H.out.keep0 hgr) k hlt
      have hs := HSM.out.all _ (List.getElem_mem hlt)
      have hbd := needSum_bd (N.take k) N[k].prod (fun x hx => HSM.out.all x (List.mem_of_mem_take hx))
      rw [← needMap_get, List.length_take, Nat.min_eq_left hk] at hbd
      have hnx : Hid (∀ t, needMap (N.take (k + 1)) t = if t = N[k].prod then some ((needMap (N.take k) N[k].prod).getD 0 + N[k].many) else needMap (N.take k) t) := needMap_next N k hlt
      obtain ⟨x, hx⟩ : ∃ x, x = N[k] := ⟨_, rfl⟩
      rw [← hx] at d0 d1 d2 hs hbd hnx
      obtain ⟨P, R, M⟩ := x
      obtain ⟨hs1, hs2, hs3, hs4⟩ := hs
      simp only at d0 d1 d2 hs1 hs2 hs3 hs4 hbd hnx
      obtain ⟨f, hf⟩ : ∃ f, f = needMap (N.take k) := ⟨_, rfl⟩
      rw [← hf] at hmp hbd hnx
      obtain ⟨g, hg⟩ : ∃ g, g = (f R).getD 0 := ⟨_, rfl⟩
      rw [← hg] at hbd hnx
      obtain ⟨hb0, hb1⟩ := hbd
      have NX : Hid ((fun t => if t = R then some (g + M) else f t) = needMap (N.take (k + 1))) := by show _ = _; funext t; rw [hnx.out]
      have g3 := gr_alloc (gr_refl wo none) (.cells #[.string P, .string R, .int .i64 M] 32)
      have HM3 := Lib.hid (hmp.keep0 g3)
      have HG := Lib.hid (gr_trans hgr g3)
      have HGV := Lib.hid hg
      clear hx hf hmp hgr g3 hg hnx
      go_wp2_with (first
        | (at_lookup; refine wpList_getSI rfl _ _ rfl B k f rfl HM3.out R rfl (by omega) ?_; rw [← HGV.out])
        | (at_mapUpdate; refine wpList_putSI rfl _ _ _ rfl B k f rfl HM3.out (by omega) R rfl (by omega) (g + M) rfl (by omega) ?_; intro w6 hm6 g6; rw [NX.out] at hm6; have HM6 := Lib.hid hm6; have HG6 := Lib.hid g6; clear hm6 g6))
      go_roundw
      case rel => exact ⟨k + 1, by omega, by go_num, HM6.out, gr_grown HG.out HG6.out (fun q hq => by cases hq; exact HBW.out)⟩
      case measure => simp [intOf]; omega
    · obtain rfl : k = N.length := by omega
      rw [List.take_length] at hmp
      have M4 := Lib.hid hmp
      have G4 := Lib.hid hgr
      clear hmp hgr
      obtain ⟨f, hf⟩ : ∃ f, f = needMap N := ⟨_, rfl⟩
      rw [← hf] at M4
      have HF := Lib.hid hf
      have HKB : Hid (∀ s x, f s = some x → x ≤ 1000000) := fun s x h => by
        rw [hf] at h
        obtain ⟨-, e, -⟩ := needMap_key HSM.out.all h
        have := (needSum_bd N s HSM.out.all).2
        omega
      clear hf
      go_wp2_with (first | (at_range; refine wpList_rangeSI rfl _ rfl B N.length f rfl M4.out ?_; intro w5 left cnt hr hleft g5 hz5))
      go_frame
      have HR5 := Lib.hid hr
      have G5 := Lib.hid (gr_trans G4.out g5)
      obtain ⟨ib, hib⟩ : ∃ b, b = wo.heap.size := ⟨_, rfl⟩
      rw [← hib] at HR5
      rw [← hib]
      have hibl : w.heap.size ≤ ib := by rw [hib]; exact G4.out.size
      clear hr hleft g5 hz5 hib
      go_loopw [16] (fun _ wr => ∃ left cnt, RangeIs wr B ib N.length f left cnt ∧ w.grownBy wr none) (fun _ wr => wr.rangeLeft B ib)
      case atStart => exact ⟨_, _, HR5.out, G5.out⟩
      case round =>
        clear HR5 G5
        obtain ⟨left, cnt, hr, hgr⟩ := hrel
        obtain ⟨wi, rfl⟩ : ∃ wi : World, wi = wr := ⟨_, rfl⟩
        go_wp2_with (first | (at_next; refine wpList_nextSI rfl _ rfl B ib N.length f left cnt rfl hr ?_ ?_))
        · intro _
          have HMM := Lib.hid hr.map
          have HGR := Lib.hid hgr
          clear hr hgr
          go_wp2_with (fail)
          go_ret2
          exact ⟨B, rfl, HBW.out, by rw [← HF.out]; exact HMM.out, HGR.out⟩
        · intro s x w22 cnt' hfs hl2 hr22 hlt g22 hz22 hen
          have HR22 := Lib.hid hr22
          have HG22 := Lib.hid (gr_grown hgr g22 (fun k hk => by cases hk; exact hibl))
          have hx6 := HKB.out s x hfs
          have HLT := Lib.hid hlt
          have HRo := Lib.hid hr
          clear hfs hl2 hlt g22 hz22 hr hgr hr22
          go_wp2_with (fail)
          go_roundw
          case rel => exact ⟨_, _, HR22.out, HG22.out⟩
          case measure => rw [HR22.out.left, HRo.out.left]; exact HLT.out
end Go.Proofs.YtdminjijhpemkaaGreatDoor
