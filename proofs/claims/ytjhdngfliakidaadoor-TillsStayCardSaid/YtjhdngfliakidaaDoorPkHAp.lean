/- Partners with weights, as the stream makes them: few, with short keys and bounded weights. -/
import Derived.Test.YtjhdngfliakidaaDoorPkHAd
import Derived.Test.YtjhdngfliakidaaDoorPkHAb
import Derived.Test.YtjhdngfliakidaaDoorPkHAe
import Derived.Test.YtjhdngfliakidaaDoorPkHAo
import Derived.Test.YtjhdngfliakidaaDoorPkHAh
import Derived.Deep.RegionLaw
import Derived.Deep.DeepCutAuto
import Derived.Deep.DrawnRows
import Derived.Deep.CutBlock
import Derived.Deep.RegionHeld3
import Derived.Test.YtjhdngfliakidaaDoorPkHAa
namespace Go.Proofs.YtjhdngfliakidaaDoor
open Go.RowKit
variable {lw : Nat}

def encNm (x : Nm) : List Value := [.string x.key, .int .i64 x.many]
theorem encNm_len (x : Nm) : (encNm x).length = 2 := rfl
theorem eNm : ElemT Tryd.prog 30 43 (.agg #[.string ⟨#[]⟩, .int .i64 0]) 2 24 := ⟨by kernel_rfl, by kernel_rfl, by decide, by decide, by decide⟩
def NmSm (x : Nm) : Prop := x.key.size ≤ 2 ∧ -1 ≤ x.many ∧ x.many ≤ 1000001
abbrev pkeys : Array Value := #[.string ⟨#[112, 97]⟩, .string ⟨#[112, 98]⟩, .string ⟨#[112, 99]⟩, .string ⟨#[112, 100]⟩]
/-- What stands while the partners are made. -/
structure PartW (wr w : World) (p lw : Nat) (l : List Int) (q g : Nat) (cur : Array Value) (v : Value) (N : List Nm) : Prop where
  own : wr.ownsRow (w.heap.size + 1) 43 2 v N.length (flat encNm N)
  blk : wr.heap[w.heap.size]? = some (.cells pkeys 9 (0, 0))
  ord : wr.heap[g]? = some (.cells cur 3 (0, 0))
  str : StreamAt wr p lw l q
  all : ∀ x ∈ N, NmSm x
  gr : w.grownBy wr (some p)
  pB : p < w.heap.size
  gB : w.heap.size < g
theorem PartW.keep0 {wr w1 w : World} {p lw : Nat} {l : List Int} {q g : Nat} {cur : Array Value} {v : Value} {N : List Nm} (h : PartW wr w p lw l q g cur v N) (gg : wr.grownBy w1 none) : PartW w1 w p lw l q g cur v N :=
  ⟨own_keep0 h.own gg, (gg.block _ (lt_of_block h.blk) (by simp)).trans h.blk, (gg.block _ (lt_of_block h.ord) (by simp)).trans h.ord, h.str.keep0 gg, h.all, gr_trans h.gr (gr_weak gg _), h.pB, h.gB⟩
theorem PartW.draw {wr w1 w : World} {p lw : Nat} {l : List Int} {q q2 g : Nat} {cur : Array Value} {v : Value} {N : List Nm} (h : PartW wr w p lw l q g cur v N) (gg : wr.grownBy w1 (some p)) (hs : StreamAt w1 p lw l q2) : PartW w1 w p lw l q2 g cur v N :=
  ⟨own_keepS h.own gg (by have := h.pB; omega), (gg.block _ (lt_of_block h.blk) (fun e => by have := h.pB; cases e; omega)).trans h.blk, (gg.block _ (lt_of_block h.ord) (fun e => by have := h.pB; have := h.gB; cases e; omega)).trans h.ord, hs, h.all, gr_trans h.gr gg, h.pB, h.gB⟩
theorem PartW.app {wr w1 w : World} {p lw : Nat} {l : List Int} {q g : Nat} {cur : Array Value} {v v1 : Value} {N : List Nm} {x : Nm} (h : PartW wr w p lw l q g cur v N) (hx : NmSm x) (o : w1.ownsRow (w.heap.size + 1) 43 2 v1 (N.length + 1) (flat encNm N ++ encNm x)) (gg : wr.grownBy w1 v.ownBlock) (hl : ∀ b, v.ownBlock = some b → w.heap.size + 1 ≤ b) : PartW w1 w p lw l q g cur v1 (N ++ [x]) := by
  refine ⟨?_, (gg.block _ (lt_of_block h.blk) (fun e => own_ne h.own h.blk (by decide) e.symm)).trans h.blk, (gg.block _ (lt_of_block h.ord) (fun e => own_ne h.own h.ord (by decide) e.symm)).trans h.ord, h.str.keep gg (fun b e => by have := hl b e; have := h.pB; omega), fun y hy => ?_, gr_grown h.gr gg (fun b e => by have := hl b e; omega), h.pB, h.gB⟩
  · rw [List.length_append, flat_append, flat_one]; exact o
  · rcases List.mem_append.1 hy with hy | hy
    · exact h.all y hy
    · have : y = x := by simpa using hy
      rw [this]; exact hx
def PartPost (l : List Int) (lw k p : Nat) (w : World) (e : Ending) (w' : World) : Prop :=
  ∃ v N, e = .returned v ∧ w'.ownsRow w.heap.size 43 2 v N.length (flat encNm N) ∧ N.length ≤ 5 ∧ (∀ x ∈ N, NmSm x) ∧ (∃ q, q ≤ k + 100 ∧ StreamAt w' p lw l q) ∧ w.grownBy w' (some p)
theorem ord_cells {L : List Int} {cur : Array Value} (ht : cur.toList.take (4 * 1) = ints L) (hL : IsOrder 4 L) : ∀ i, i < 4 → ∃ x : Nat, x < 4 ∧ cur[i]? = some (.int .i64 x) := by
  intro i hi
  have hlen := hL.len
  have e1 : (cur.toList.take (4 * 1))[i]? = (ints L)[i]? := by rw [ht]
  rw [List.getElem?_take_of_lt (by omega)] at e1
  have hm := (hL.mem L[i]).1 (List.getElem_mem _)
  refine ⟨L[i].toNat, by omega, ?_⟩
  rw [← Array.getElem?_toList, e1]
  simp only [ints, List.getElem?_map, List.getElem?_eq_getElem (show i < L.length by omega), Option.map_some]
  rw [Int.toNat_of_nonneg hm.1]
set_option maxRecDepth 100000 in
set_option maxHeartbeats 4000000 in
theorem partners_any (l : List Int) (k : Nat) (p : Nat) (w : World) (hs : StreamAt w p lw l k) (hk : k < 800000000) :
    Calls Tryd.prog 7 #[.pointer (some ⟨p, 0, none⟩)] w (PartPost l lw k p w) := by
  have hlt := hs.lt
  have hB := heap_alloc_new w (.cells pkeys 9)
  have ga := gr_alloc (gr_refl w none) (.cells pkeys 9)
  have S1 := Lib.hid (hs.keep0 ga)
  have HB := Lib.hid hB
  have GA := Lib.hid ga
  clear hB ga hs
  go_enter Tryd.func7, Tryd.ntmps7
  go_wp2_with (fail)
  refine (order_any l k 4 p _ S1.out (by omega) (by decide)).mono ?_
  rintro e w1 ⟨ov, L, rfl, ho, hL, hs2, hg2⟩
  obtain ⟨g, cap, cur, rfl, hgb, hgo, hcap⟩ : ∃ g cap cur, ov = .slice (some ⟨g, 0, none⟩) 4 cap ∧ w.heap.size < g ∧ w1.heap[g]? = some (.cells cur 3 (0, 0)) ∧ cur.toList.take (4 * 1) = ints L := by
    rcases ho.2 with ⟨_, h0⟩ | ⟨g, cap, cur, h1, h2, h3, _, _, _, h4⟩
    · omega
    · simp at h2
      exact ⟨g, cap, cur, h1, by omega, h3, h4⟩
  have OC := Lib.hid (ord_cells hcap hL)
  have K0 : Hid (PartW w1 w p lw l (k + 3) g cur (.slice none 0 0) []) :=
    ⟨World.ownsRow_nil _ _ _ _, (hg2.block _ (lt_of_block HB.out) (fun e => by cases e; omega)).trans HB.out, hgo, hs2, (fun x hx => by cases hx), gr_trans (gr_weak GA.out _) hg2, hlt, hgb⟩
  clear hcap hL ho hs2 hg2 hgo HB GA S1
  go_wp2_with (fail)
  go_loopw [3, 11] (fun o i wr => ∃ (j q : Nat) (v : Value) (N : List Nm), j ≤ 4 ∧ i = .int .i64 j ∧ v = o ∧ N.length ≤ j ∧ q ≤ k + 3 + 2 * j ∧ PartW wr w p lw l q g cur v N) (fun _ i _ => 4 - (intOf i).toNat)
  case atStart => exact ⟨0, k + 3, _, [], by omega, rfl, rfl, Nat.le_refl _, Nat.le_refl _, K0.out⟩
  case round =>
    clear K0
    obtain ⟨j, q, v, N, hj, rfl, rfl, hN, hq, hW⟩ := hrel
    obtain ⟨wo, rfl⟩ : ∃ wo : World, wo = wr := ⟨_, rfl⟩
    by_cases hjl : j < 4
    · obtain ⟨x, hx, hcx⟩ := OC.out j hjl
      have d0 : wo.cell? ⟨g, j, none⟩ = some (.int .i64 (x : Int)) := blkC hW.ord j hcx
      have hjd : decide ((j : Int) < 4) = true := by simp; omega
      have HW := Lib.hid hW
      clear hW hcx
      go_wp2_with (fail)
      refine (flip_any l q 3 p wo HW.out.str (by omega) (by omega)).mono ?_
      rintro e w3 ⟨rfl, hs3, hg3⟩
      have HW3 := Lib.hid (HW.out.draw hg3 hs3)
      obtain ⟨b, hb⟩ : ∃ b, b = flipM l q 3 := ⟨_, rfl⟩
      rw [← hb]
      clear hb hs3 hg3 HW d0
      cases b with
      | true =>
        go_wp2_with (fail)
        go_roundw
        case rel => exact ⟨j + 1, q + 1, _, N, by omega, by go_num, rfl, by omega, by omega, HW3.out⟩
        case measure => simp [intOf]; omega
      | false =>
        obtain ⟨s, hs, hkx⟩ : ∃ s : ByteArray, s.size ≤ 2 ∧ pkeys[x]? = some (.string s) := by
          have : x = 0 ∨ x = 1 ∨ x = 2 ∨ x = 3 := by omega
          rcases this with rfl | rfl | rfl | rfl
          · exact ⟨_, by decide, rfl⟩
          · exact ⟨_, by decide, rfl⟩
          · exact ⟨_, by decide, rfl⟩
          · exact ⟨_, by decide, rfl⟩
        have HKX := Lib.hid hkx
        have c3 : w3.cell? ⟨w.heap.size, x, none⟩ = some (.string s) := blkC HW3.out.blk x hkx
        have hxd : decide ((x : Int) < 4) = true := by simp; omega
        have hx4 : (x : Int) < 4 := by omega
        have hpk := pickM_mem l (q + 1) [0, 1, 1, 2, 5] (by decide)
        simp only [List.mem_cons, List.not_mem_nil, or_false] at hpk
        obtain ⟨y, hy⟩ : ∃ y, y = pickM l (q + 1) [0, 1, 1, 2, 5] := ⟨_, rfl⟩
        rw [← hy] at hpk
        have HSM : Hid (NmSm ⟨s, y⟩) := ⟨hs, by simp only; omega, by simp only; omega⟩
        have hp3 := HW3.out.str.lt
        have hz3 : w.heap.size < w3.heap.size := lt_of_block HW3.out.blk
        have PK : Hid (∀ (wx : World) (g : Nat), StreamAt wx p lw l (q + 1) → g ≠ p → wx.cell? ⟨g, 0, none⟩ = some (.int .i64 0) → wx.cell? ⟨g, 1, none⟩ = some (.int .i64 1) → wx.cell? ⟨g, 2, none⟩ = some (.int .i64 1) → wx.cell? ⟨g, 3, none⟩ = some (.int .i64 2) → wx.cell? ⟨g, 4, none⟩ = some (.int .i64 5) → Calls Tryd.prog 37 #[.pointer (some ⟨p, 0, none⟩), .slice (some ⟨g, 0, none⟩) 5 5] wx fun e w' => e = .returned (.int .i64 y) ∧ StreamAt w' p lw l (q + 1 + 1) ∧ wx.grownBy w' (some p)) := by
          intro wx g h1 h2 h3 h4 h5 h6 h7
          rw [hy]
          exact pick_in l (q + 1) [0, 1, 1, 2, 5] p g wx h1 (by omega) (by decide) (by decide) h2 (fun i hi => by rcases (show i = 0 ∨ i = 1 ∨ i = 2 ∨ i = 3 ∨ i = 4 by simp at hi; omega) with rfl | rfl | rfl | rfl | rfl; (· exact h3); (· exact h4); (· exact h5); (· exact h6); exact h7)
        clear hkx hy hpk hs
        go_wp2_with (fail)
        go_region_law (first
          | (go_simp; go_at_call 37; (with_reducible refine (PK.out _ _ ?_ ?_ ?_ ?_ ?_ ?_ ?_).mono ?_); (· exact HW3.out.str.keep0 (by (repeat (first | exact gr_refl _ _ | apply gr_drew | (refine gr_alloc ?_ _))))); (· first | omega | (simp; omega)); (· go_simp); (· go_simp); (· go_simp); (· go_simp); (· go_simp); rintro e w9 ⟨rfl, hs9, hg9⟩; have HW9 := Lib.hid ((HW3.out.keep0 (show w3.grownBy _ none by (repeat (first | exact gr_refl _ _ | apply gr_drew | (refine gr_alloc ?_ _))))).draw hg9 hs9); have c9 : w9.cell? ⟨w.heap.size, x, none⟩ = some (.string s) := blkC HW9.out.blk x HKX.out; have hz9 : w.heap.size < w9.heap.size := lt_of_block HW9.out.blk)
          | (revert c9; intro c9; refine step_app1 eNm rfl _ _ rfl (w.heap.size + 1) _ N.length _ rfl w9 #[.string s, .int .i64 y] rfl HW9.out.own _ rfl rfl rfl rfl ?_ ?_ ?_; (· omega); (· omega); intro v11 w11 hown11 hg11 hlt11 hk11; have HW11 := Lib.hid (HW9.out.app (x := ⟨s, y⟩) HSM.out hown11 hg11 hlt11))
          | fail)
        all_goals (go_wp2_with (fail))
        all_goals (try go_simp)
        all_goals
          refine ⟨⟨j + 1, by omega, by omega, q + 1 + 1, N ++ [(⟨s, y⟩ : Nm)], by rw [List.length_append]; simp; omega, by omega, HW11.out⟩, by simp [intOf]; omega⟩
    · have HW := Lib.hid hW
      clear hW
      have hjd : decide ((j : Int) < 4) = false := by simp; omega
      go_wp2_with (fail)
      refine (flip_any l q 15 p wo HW.out.str (by omega) (by omega)).mono ?_
      rintro e w3 ⟨rfl, hs3, hg3⟩
      have HW3 := Lib.hid (HW.out.draw hg3 hs3)
      obtain ⟨b, hb⟩ : ∃ b, b = flipM l q 15 := ⟨_, rfl⟩
      rw [← hb]
      clear hb hs3 hg3 HW
      cases b with
      | false =>
        obtain ⟨va, vc, rfl, -, -, -, -⟩ := own_shape HW3.out.own
        go_wp2_with (fail)
        go_ret
        exact ⟨_, N, rfl, own_base HW3.out.own (by omega), by omega, HW3.out.all, ⟨_, by omega, HW3.out.str⟩, HW3.out.gr⟩
      | true =>
        go_wp2_with (fail)
        refine (one_any l (q + 1) [⟨#[]⟩, ⟨#[112, 97]⟩, ⟨#[122, 122]⟩] p w3 HW3.out.str (by omega) (by decide) (by decide)).mono ?_
        rintro e w4 ⟨rfl, hs4, hg4⟩
        have h1 := oneS_mem l (q + 1) [⟨#[]⟩, ⟨#[112, 97]⟩, ⟨#[122, 122]⟩] (by decide)
        have HW4 := Lib.hid (HW3.out.draw hg4 hs4)
        obtain ⟨s, hs⟩ : ∃ y, y = oneS l (q + 1) [⟨#[]⟩, ⟨#[112, 97]⟩, ⟨#[122, 122]⟩] := ⟨_, rfl⟩
        rw [← hs] at h1
        rw [← hs]
        have hs1 : s.size ≤ 2 := by
          simp only [List.mem_cons, List.not_mem_nil, or_false] at h1
          rcases h1 with rfl | rfl | rfl <;> decide
        clear hs hs4 hg4 h1 HW3
        go_wp2_with (fail)
        refine (pick_any l (q + 1 + 1) [-1, 1, 1000001] p w4 HW4.out.str (by omega) (by decide) (by decide)).mono ?_
        rintro e w6 ⟨rfl, hs6, hg6⟩
        have hpk := pickM_mem l (q + 1 + 1) [-1, 1, 1000001] (by decide)
        simp only [List.mem_cons, List.not_mem_nil, or_false] at hpk
        obtain ⟨y, hy⟩ : ∃ y, y = pickM l (q + 1 + 1) [-1, 1, 1000001] := ⟨_, rfl⟩
        rw [← hy] at hpk
        rw [← hy]
        have HW6 := Lib.hid (HW4.out.draw hg6 hs6)
        have HSM : Hid (NmSm ⟨s, y⟩) := ⟨hs1, by simp only; omega, by simp only; omega⟩
        have hz6 : w.heap.size < w6.heap.size := lt_of_block HW6.out.blk
        clear hy hs6 hg6 HW4 hpk
        go_wp2_with (at_builtin; refine wpList_app1F eNm rfl _ _ rfl (w.heap.size + 1) _ N.length (flat encNm N) rfl w6 #[.string s, .int .i64 y] rfl HW6.out.own _ rfl rfl rfl rfl (by omega) (by omega) ?_; intro v7 w7 o7 g7 hl7 _; have HW7 := Lib.hid (HW6.out.app (x := ⟨s, y⟩) HSM.out o7 g7 hl7); clear o7 g7 hl7)
        go_wp2_with (fail)
        go_ret
        exact ⟨_, N ++ [(⟨s, y⟩ : Nm)], rfl, own_base HW7.out.own (by omega), by rw [List.length_append]; simp; omega, HW7.out.all, ⟨_, by omega, HW7.out.str⟩, HW7.out.gr⟩
end Go.Proofs.YtjhdngfliakidaaDoor

/-! Package slices at elements coilrack/api.Named: with a function value. Written by mkfind.py. -/
namespace Go.Proofs.YtjhdngfliakidaaDoor
open Go.RowKit

set_option maxRecDepth 100000 in
set_option maxHeartbeats 1000000 in
theorem indexFunc_Nm (F : FuncId) (q0 : Nat) (P : Nm → Bool) (xs : List (Nm)) (a : Option Addr) (c : Nat) (w : World) (hc : CellsAt w a (flat encNm xs)) (hl : xs.length ≤ 137438953472)
    (hE : ∀ (args : Array Value) (w : World), (callFunc F args).run Tryd.prog w = .ok (.enter F args) w)
    (hF : ∀ x ∈ xs, ∀ w1, w.grownBy w1 none → Calls Tryd.prog F #[.agg #[.string x.key, .int .i64 x.many], .pointer (some ⟨q0, 0, none⟩)] w1 fun e w2 => e = .returned (.bool (P x)) ∧ w1.grownBy w2 none) :
    Calls Tryd.prog 52 #[.slice a xs.length c, Value.func (.func F) #[] #[.pointer (some ⟨q0, 0, none⟩)]] w fun e w' => e = .returned (.int .i64 (findA P xs)) ∧ w.grownBy w' none := by
  have HF := Lib.hid hF; clear hF
  go_enter Tryd.func52, Tryd.ntmps52
  go_wp2_with (fail)
  go_loopw [8] (fun i wr => ∃ k : Nat, k ≤ xs.length ∧ i = .int .i64 k ∧ (∀ j (hj : j < xs.length), j < k → P xs[j] = false) ∧ w.grownBy wr none) (fun i _ => xs.length - (intOf i).toNat)
  case atStart => exact ⟨0, Nat.zero_le _, rfl, fun j _ hj => absurd hj (Nat.not_lt_zero _), gr_refl _ _⟩
  case round =>
    obtain ⟨k, hk, rfl, hno, hgr⟩ := hrel
    obtain ⟨wo, rfl⟩ : ∃ wo : World, wo = wr := ⟨_, rfl⟩
    have HNO := Lib.hid hno; clear hno
    by_cases hlt : k < xs.length
    · obtain ⟨b, off, rfl, hcs⟩ := flat_cells (enc := encNm) (m := 2) (fun _ => rfl) (by decide) (hc.keep0 hgr) (by omega)
      have hmem : xs[k] ∈ xs := List.getElem_mem hlt
      obtain ⟨x, hx⟩ : ∃ x, x = xs[k] := ⟨_, rfl⟩
      have HX := Lib.hid hx
      have d0 : wo.cell? ⟨b, off + k * 2, none⟩ = some (.string x.key) := by have := hcs k hlt 0 _ rfl; simpa [← HX.out] using this
      have d1 : wo.cell? ⟨b, off + k * 2 + 1, none⟩ = some (.int .i64 x.many) := by have := hcs k hlt 1 _ rfl; simpa [← HX.out] using this
      rw [← hx] at hmem
      clear hx
      have HM := Lib.hid hmem; clear hmem hcs
      go_wp2_with (fail)
      refine (HF.out x HM.out wo hgr).mono ?_
      rintro e w1 ⟨rfl, hg1⟩
      cases hp : P x with
      | true =>
        have HP := Lib.hid hp; clear hp
        go_wp2_with (fail)
        go_ret
        refine ⟨ret_int (findA_at hlt (by rw [← HX.out]; exact HP.out) (fun j hj => HNO.out j (by omega) hj)).symm, gr_trans hgr hg1⟩
      | false =>
        have HP := Lib.hid hp; clear hp
        go_wp2_with (fail)
        go_roundw
        case rel =>
          refine ⟨k + 1, by omega, by go_num, fun j hjl hj => ?_, gr_trans hgr hg1⟩
          by_cases hjk : j = k
          · subst hjk; rw [← HX.out]; exact HP.out
          · exact HNO.out j hjl (by omega)
        case measure => simp [intOf]; omega
    · have hkl : k = xs.length := by omega
      have HK := Lib.hid hkl; clear hkl
      go_wp2_with (fail)
      go_ret
      exact ⟨ret_int (findA_none (fun j hj => HNO.out j hj (by rw [HK.out]; exact hj))).symm, hgr⟩

theorem containsFunc_Nm (F : FuncId) (q0 : Nat) (P : Nm → Bool) (xs : List (Nm)) (a : Option Addr) (c : Nat) (w : World) (hc : CellsAt w a (flat encNm xs)) (hl : xs.length ≤ 137438953472)
    (hE : ∀ (args : Array Value) (w : World), (callFunc F args).run Tryd.prog w = .ok (.enter F args) w)
    (hF : ∀ x ∈ xs, ∀ w1, w.grownBy w1 none → Calls Tryd.prog F #[.agg #[.string x.key, .int .i64 x.many], .pointer (some ⟨q0, 0, none⟩)] w1 fun e w2 => e = .returned (.bool (P x)) ∧ w1.grownBy w2 none) :
    Calls Tryd.prog 16 #[.slice a xs.length c, Value.func (.func F) #[] #[.pointer (some ⟨q0, 0, none⟩)]] w fun e w' => e = .returned (.bool (xs.any P)) ∧ w.grownBy w' none := by
  have HA := Lib.hid (any_findA P xs)
  go_enter Tryd.func16, Tryd.ntmps16
  go_wp2_with (fail)
  refine (indexFunc_Nm F q0 P xs a c _ hc hl hE hF).mono ?_
  rintro e w1 ⟨rfl, hg1⟩
  go_wp2_with (fail)
  go_ret
  exact ⟨ret_bool (by rw [HA.out]), hg1⟩
end Go.Proofs.YtjhdngfliakidaaDoor

/-! Package slices at elements coilrack/api.Named: sorting of few. Written by mksortn.py. -/
namespace Go.Proofs.YtjhdngfliakidaaDoor
open Go.RowKit

theorem own_of_heapNm {w w1 : World} {base e size n : Nat} {v : Value} {xs : List Value} (h : w.ownsRow base e size v n xs) (e1 : w1.heap = w.heap) : w1.ownsRow base e size v n xs := by
  rcases h.2 with h2 | ⟨g, cap, cur, hv, hb, hg, r⟩
  · exact ⟨h.1, .inl h2⟩
  · exact ⟨h.1, .inr ⟨g, cap, cur, hv, hb, by rw [e1]; exact hg, r⟩⟩
theorem flat_rowNm (l : List Nm) (i : Nat) (h : i < l.length) (y : Nm) : (((flat encNm l).set (i * 2) (.string (y.key))).set (i * 2 + 1) (.int .i64 (y.many))) = flat encNm (l.set i y) := by
  have e0 := flat_set (enc := encNm) (m := 2) (fun _ => rfl) l i h 0 (by decide) (.string (y.key)) (⟨y.key, l[i].many⟩ : Nm) rfl
  have g1 : (l.set i (⟨y.key, l[i].many⟩ : Nm))[i]'(by simp; omega) = (⟨y.key, l[i].many⟩ : Nm) := by rw [List.getElem_set_self]
  have e1 := flat_set (enc := encNm) (m := 2) (fun _ => rfl) (l.set i (⟨y.key, l[i].many⟩ : Nm)) i (by simp; omega) 1 (by decide) (.int .i64 (y.many)) (⟨y.key, y.many⟩ : Nm) (by rw [g1]; rfl)
  rw [List.set_set] at e1
  rw [show i * 2 + 0 = i * 2 from rfl] at e0
  rw [e0, e1]
/-- A comparison of elements of a list, in worlds that differ from w at one block at most. -/
def CmpNm (F : FuncId) (cm : Nm → Nm → Int) (L : List Nm) (r : Option Nat) (w : World) : Prop :=
  ∀ (x y : Nm) (w1 : World), x ∈ L → y ∈ L → w.grownBy w1 r → Calls Tryd.prog F #[.agg #[.string (x.key), .int .i64 (x.many)], .agg #[.string (y.key), .int .i64 (y.many)]] w1 fun e w2 => e = .returned (.int .i64 (cm x y)) ∧ w1.grownBy w2 none
def SortNmPost (cm : Nm → Nm → Int) (L : List Nm) (v : Value) (n base : Nat) (w : World) (e : Ending) (w' : World) : Prop := ∃ O, e = .returned (.tuple #[]) ∧ w'.ownsRow base 43 2 v n (flat encNm O) ∧ O.Perm L ∧ Srt cm nmD O n ∧ w.grownBy w' v.ownBlock
set_option maxRecDepth 100000 in
set_option maxHeartbeats 2000000 in
theorem insertionNm_any (F : FuncId) (n : Nat) (cm : Nm → Nm → Int) (v : Value) (base : Nat) (L : List Nm) (w : World) (hown : w.ownsRow base 43 2 v n (flat encNm L)) (hL : L.length = n) (hn : n ≤ 1000)
    (hE : ∀ (args : Array Value) (w : World), (callFunc F args).run Tryd.prog w = .ok (.enter F args) w) (hc : CmpOk cm) (hF : CmpNm F cm L v.ownBlock w) :
    Calls Tryd.prog 126 #[v, .int .i64 0, .int .i64 n, .func (.func F) #[] #[]] w (SortNmPost cm L v n base w) := by
  have HF := Lib.hid hF
  have HC := Lib.hid hc
  have HL := Lib.hid hL
  obtain ⟨va, vc, rfl, _, _, _, _⟩ := own_shape hown
  clear hF hc hL
  go_enter Tryd.func126, Tryd.ntmps126
  go_wp2_with (fail)
  go_loopw [8] (fun i wr => ∃ (k : Nat) (O' : List Nm), 1 ≤ k ∧ (k ≤ n ∨ n = 0) ∧ i = .int .i64 k ∧ wr.ownsRow base 43 2 (.slice va n vc) n (flat encNm O') ∧ O'.Perm L ∧ Srt cm nmD O' k ∧ w.grownBy wr (Value.slice va n vc).ownBlock) (fun i _ => n - (intOf i).toNat)
  case atStart => exact ⟨1, L, by omega, by omega, rfl, hown, List.Perm.refl _, srt_one, gr_refl _ _⟩
  case round =>
    obtain ⟨k, O', hk, hkn1, rfl, hown', hO', hs, hgr⟩ := hrel
    obtain ⟨wo, rfl⟩ : ∃ wo : World, wo = wr := ⟨_, rfl⟩
    have HO' := Lib.hid hO'
    have HS := Lib.hid hs
    clear hO' hs
    by_cases hkn : k < n
    · obtain ⟨g, gc, hge, hgb, _, _, _⟩ := own_some hown' (by omega)
      cases hge
      go_wp2_with (fail)
      go_loopw [9] (fun i wr => ∃ (j : Nat) (O2 : List Nm), j ≤ k ∧ i = .int .i64 j ∧ wr.ownsRow base 43 2 (.slice (some ⟨g, 0, none⟩) n vc) n (flat encNm O2) ∧ O2.Perm L ∧ SrtBut cm nmD O2 k j ∧ w.grownBy wr (some g)) (fun i _ => (intOf i).toNat)
      case atStart => exact ⟨k, O', by omega, rfl, hown', HO'.out, srt_start HS.out, hgr⟩
      case round =>
        clear hgr
        obtain ⟨j, O2, hj, rfl, hown2, hO2, hb2, hgr2⟩ := hrel
        obtain ⟨wi, rfl⟩ : ∃ wi : World, wi = wr := ⟨_, rfl⟩
        have hlen := hO2.length_eq.trans HL.out
        by_cases hj0 : 0 < j
        · have hd0 : decide (0 < j) = true := decide_eq_true hj0
          obtain ⟨i, hi⟩ : ∃ i, i = j - 1 := ⟨_, rfl⟩
          have hij : i + 1 = j := by omega
          subst hij
          have hjl : i + 1 < O2.length := by omega
          have hil : i < O2.length := by omega
          have a0 := own_cellE (enc := encNm) (m := 2) (fun _ => rfl) hown2 (i + 1) hjl 0 (by decide) _ rfl hlen
          have a1 := own_cellE (enc := encNm) (m := 2) (fun _ => rfl) hown2 (i + 1) hjl 1 (by decide) _ rfl hlen
          have b0 := own_cellE (enc := encNm) (m := 2) (fun _ => rfl) hown2 (i) hil 0 (by decide) _ rfl hlen
          have b1 := own_cellE (enc := encNm) (m := 2) (fun _ => rfl) hown2 (i) hil 1 (by decide) _ rfl hlen
          have hmx : O2[i + 1] ∈ L := hO2.mem_iff.1 (List.getElem_mem _)
          have hmy : O2[i] ∈ L := hO2.mem_iff.1 (List.getElem_mem _)
          have ex : O2.getD (i + 1) nmD = O2[i + 1] := getD_eq O2 _ _ hjl
          have ey : O2.getD i nmD = O2[i] := getD_eq O2 _ _ hil
          have SW : Hid (cm O2[i + 1] O2[i] < 0 → SrtBut cm nmD (swapAt nmD O2 i) k i) := fun h => srt_swap HC.out hjl (by omega) hb2 (by rw [ex, ey]; exact h)
          have ST : Hid (¬ cm O2[i + 1] O2[i] < 0 → Srt cm nmD O2 (k + 1)) := fun h => srt_stop HC.out hb2 (by rw [ex, ey]; exact h)
          have PM : Hid ((swapAt nmD O2 i).Perm L) := (swapAt_perm i hjl).trans hO2
          have WR : Hid (∀ W : World, W.ownsRow base 43 2 (.slice (some ⟨g, 0, none⟩) n vc) n (flat encNm O2) → w.grownBy W (some g) → (((((W.setCell ⟨g, (i + 1) * 2, none⟩ (.string (O2[i].key))).setCell ⟨g, (i + 1) * 2 + 1, none⟩ (.int .i64 (O2[i].many))).setCell ⟨g, i * 2, none⟩ (.string (O2[i + 1].key))).setCell ⟨g, i * 2 + 1, none⟩ (.int .i64 (O2[i + 1].many)))).ownsRow base 43 2 (.slice (some ⟨g, 0, none⟩) n vc) n (flat encNm (swapAt nmD O2 i)) ∧ w.grownBy (((((W.setCell ⟨g, (i + 1) * 2, none⟩ (.string (O2[i].key))).setCell ⟨g, (i + 1) * 2 + 1, none⟩ (.int .i64 (O2[i].many))).setCell ⟨g, i * 2, none⟩ (.string (O2[i + 1].key))).setCell ⟨g, i * 2 + 1, none⟩ (.int .i64 (O2[i + 1].many)))) (some g)) := fun W hW gW => by
            refine ⟨?_, (gr_set (gr_set (gr_set (gr_set gW rfl _) rfl _) rfl _) rfl _)⟩
            have h5 := ((((hW.stored ((i + 1) * 2) (.string (O2[i].key))).1.stored ((i + 1) * 2 + 1) (.int .i64 (O2[i].many))).1.stored (i * 2) (.string (O2[i + 1].key))).1.stored (i * 2 + 1) (.int .i64 (O2[i + 1].many))).1
            rw [flat_rowNm O2 (i + 1) hjl O2[i], flat_rowNm (O2.set (i + 1) O2[i]) i (by simp; omega) O2[i + 1]] at h5
            unfold swapAt
            rw [ex, ey]
            exact h5
          have CC : Hid (∀ W, wi.grownBy W none → Calls Tryd.prog F #[.agg #[.string (O2[i + 1].key), .int .i64 (O2[i + 1].many)], .agg #[.string (O2[i].key), .int .i64 (O2[i].many)]] W fun e w2 => e = .returned (.int .i64 (cm O2[i + 1] O2[i])) ∧ W.grownBy w2 none) := fun W hW => HF.out _ _ W hmx hmy (gr_trans hgr2 (gr_weak hW _))
          obtain ⟨x, hx⟩ : ∃ x, x = O2[i + 1] := ⟨_, rfl⟩
          obtain ⟨y, hy⟩ : ∃ y, y = O2[i] := ⟨_, rfl⟩
          rw [← hx, ← hy] at SW ST CC WR
          rw [← hx] at a0 a1
          rw [← hy] at b0 b1
          obtain ⟨x0, x1⟩ := x
          obtain ⟨y0, y1⟩ := y
          simp only at CC WR
          obtain ⟨c, hcv⟩ : ∃ c, c = cm ⟨x0, x1⟩ ⟨y0, y1⟩ := ⟨_, rfl⟩
          rw [← hcv] at SW ST CC
          obtain ⟨a0, fa0, -⟩ := a0
          obtain ⟨a1, fa1, -⟩ := a1
          obtain ⟨b0, fb0, -⟩ := b0
          obtain ⟨b1, fb1, -⟩ := b1
          have a0 : wi.cell? ⟨g, (i + 1) * 2, none⟩ = some (.string (x0)) := a0
          have a1 : wi.cell? ⟨g, (i + 1) * 2 + 1, none⟩ = some (.int .i64 (x1)) := a1
          have b0 : wi.cell? ⟨g, i * 2, none⟩ = some (.string (y0)) := b0
          have b1 : wi.cell? ⟨g, i * 2 + 1, none⟩ = some (.int .i64 (y1)) := b1
          have ga0 := grew_cell a0
          have ga1 := grew_cell a1
          have gb0 := grew_cell b0
          have gb1 := grew_cell b1
          have FA0 := Lib.hid fa0
          have FA1 := Lib.hid fa1
          have FB0 := Lib.hid fb0
          have FB1 := Lib.hid fb1
          have HOW := Lib.hid hown2
          have HGR2 := Lib.hid hgr2
          have hgl := lt_of_cell a0
          have HPM2 := Lib.hid hO2
          have hi1 : ((i : Int) + 1 - 1) = i := by omega
          have hwi : IntKind.i64.wrap (((i : Int) + 1) - 1) = i := by rw [hi1]; exact IntWalk.i64_in _ (by omega)
          have hq0 : (0 : Int) ≤ (i : Int) := by omega
          have hq1 : (i : Int) < (n : Int) := by omega
          have hq2 : (0 : Int) ≤ (i : Int) + 1 := by omega
          have hq3 : (i : Int) + 1 < (n : Int) := by omega
          have hq4 : ((i : Int) + 1).toNat = i + 1 := by omega
          have hq5 : decide ((0 : Int) < (i : Int) + 1) = true := decide_eq_true (by omega)
          clear hown2 hgr2 hO2 hb2 hmx hmy ex ey hx hy hcv fa0 fa1 fb0 fb1 hlen hi hown' hi1
          by_cases hc0 : c < 0
          · have hdc : decide (c < 0) = true := decide_eq_true hc0
            go_wp2_with (fail)
            refine wp_region_grew (by kernel_rfl) (by kernel_rfl) ?_
            repeat (go_big_quiet_step (first | (exact Calls.grew_of (fun W h => CC.out W h))))
            refine wpQuiet_nil ?_
            rintro wq ⟨nn, rfl⟩
            have gq := nn.gr
            have A0 := ga0 nn
            have A1 := ga1 nn
            have B0 := gb0 nn
            have B1 := gb1 nn
            have Fa0 := (gr_free gq hgl (o := (i + 1) * 2)).trans FA0.out
            have Fa1 := (gr_free gq hgl (o := (i + 1) * 2 + 1)).trans FA1.out
            have Fb0 := (gr_free gq hgl (o := i * 2)).trans FB0.out
            have Fb1 := (gr_free gq hgl (o := i * 2 + 1)).trans FB1.out
            have HOQ := Lib.hid (own_keep0 HOW.out gq)
            have HGQ := Lib.hid (gr_trans HGR2.out (gr_weak gq _))
            obtain ⟨wn, hwn⟩ : ∃ wn, wn = nn.w := ⟨_, rfl⟩
            rw [← hwn] at A0 A1 B0 B1 Fa0 Fa1 Fb0 Fb1 HOQ HGQ
            rw [← hwn]
            clear gq hwn ga0 ga1 gb0 gb1 a0 a1 b0 b1 hwi hq2 hq3 hq4 hq5 FA0 FA1 FB0 FB1
            go_wp2_with (fail)
            go_region
            all_goals (go_wp2_with (fail))
            all_goals go_roundw
            all_goals first | (simp [intOf]; done) | skip
            all_goals
              refine ⟨i, swapAt nmD O2 i, by omega, by go_num, ?_, PM.out, SW.out hc0, ?_⟩
            all_goals first
              | (with_reducible refine (WR.out _ ?_ ?_).1; (· exact own_keep0 HOQ.out (gr_drew (gr_refl _ _))); exact gr_drew HGQ.out)
              | (with_reducible refine (WR.out _ ?_ ?_).2; (· exact own_keep0 HOQ.out (gr_drew (gr_refl _ _))); exact gr_drew HGQ.out)
              | (with_reducible refine own_keep0 (WR.out _ ?_ ?_).1 (gr_drew (gr_refl _ _)); (· exact HOQ.out); exact HGQ.out)
              | (with_reducible refine gr_drew (WR.out _ ?_ ?_).2; (· exact HOQ.out); exact HGQ.out)
              | fail
          · have hdc : decide (c < 0) = false := decide_eq_false hc0
            go_wp2_with (fail)
            refine wp_region_grew (by kernel_rfl) (by kernel_rfl) ?_
            repeat (go_big_quiet_step (first | (exact Calls.grew_of (fun W h => CC.out W h))))
            refine wpQuiet_nil ?_
            rintro wq ⟨nn, rfl⟩
            have HGQ := Lib.hid (gr_trans HGR2.out (gr_weak nn.gr _))
            have HW := Lib.hid (own_keep0 HOW.out nn.gr)
            clear ga0 ga1 gb0 gb1 a0 a1 b0 b1
            go_wp2_with (fail)
            go_roundw
            case rel => exact ⟨k + 1, O2, by omega, by omega, by go_num, HW.out, HPM2.out, ST.out hc0, HGQ.out⟩
            case measure => simp [intOf]; omega
        · have hd0 : decide (0 < j) = false := decide_eq_false hj0
          obtain rfl : j = 0 := by omega
          have HOWN2 := Lib.hid hown2
          have HGR2 := Lib.hid hgr2
          have HPM2 := Lib.hid hO2
          have HZ := Lib.hid (srt_zero hb2)
          have hq5 : decide ((0 : Int) < 0) = false := by decide
          clear hown2 hgr2 hO2 hb2 hlen
          go_wp2_with (fail)
          go_quiet (fail)
          go_wp2_with (fail)
          go_roundw
          case rel => exact ⟨k + 1, O2, by omega, by omega, by go_num, own_keep0 HOWN2.out (gr_drewN (gr_refl _ _) _), HPM2.out, HZ.out, gr_drewN HGR2.out _⟩
          case measure => simp [intOf]; omega
    · have HW := Lib.hid hown'
      clear hown'
      go_wp2_with (fail)
      go_end0
      have hS : Srt cm nmD O' n := fun p q h1 h2 => HS.out p q h1 (by omega)
      exact ⟨O', rfl, HW.out, HO'.out, hS, hgr⟩
set_option maxRecDepth 100000 in
theorem pdqNm_few (F : FuncId) (n : Nat) (cm : Nm → Nm → Int) (v : Value) (base : Nat) (L : List Nm) (w : World) (hown : w.ownsRow base 43 2 v n (flat encNm L)) (hL : L.length = n) (hn : n ≤ 12) (lim : Int)
    (hE : ∀ (args : Array Value) (w : World), (callFunc F args).run Tryd.prog w = .ok (.enter F args) w) (hc : CmpOk cm) (hF : CmpNm F cm L v.ownBlock w) :
    Calls Tryd.prog 87 #[v, .int .i64 0, .int .i64 n, .int .i64 lim, .func (.func F) #[] #[]] w (SortNmPost cm L v n base w) := by
  have IS := Lib.hid (insertionNm_any F n cm v base L w hown hL (by omega) hE hc hF)
  obtain ⟨va, vc, rfl, _, _, _, _⟩ := own_shape hown
  clear hF hE hown hL hc
  have d12 : decide ((n : Int) ≤ 12) = true := decide_eq_true (by omega)
  go_enter Tryd.func87, Tryd.ntmps87
  go_wp2_with (fail)
  go_loopw [1, 2, 3, 10, 11] (fun b c d g h wr => b = .int .i64 0 ∧ c = .int .i64 n ∧ d = .int .i64 lim ∧ g = .bool true ∧ h = .bool true ∧ wr = w) (fun _ _ _ _ _ _ => 0)
  case atStart => exact ⟨rfl, rfl, rfl, rfl, rfl, rfl⟩
  case round =>
    obtain ⟨rfl, rfl, rfl, rfl, rfl, rfl⟩ := hrel
    go_wp2_with (fail)
    refine IS.out.mono ?_
    rintro e w2 ⟨O2, rfl, h1, h2, h3, h4⟩
    have H1 := Lib.hid h1
    have H2 := Lib.hid h2
    have H3 := Lib.hid h3
    clear h1 h2 h3
    go_wp2_with (fail)
    go_end0
    exact ⟨O2, rfl, H1.out, H2.out, H3.out, h4⟩
theorem sortFNm_few (F : FuncId) (n : Nat) (cm : Nm → Nm → Int) (v : Value) (base : Nat) (L : List Nm) (w : World) (hown : w.ownsRow base 43 2 v n (flat encNm L)) (hL : L.length = n) (hn : n ≤ 12)
    (hE : ∀ (args : Array Value) (w : World), (callFunc F args).run Tryd.prog w = .ok (.enter F args) w) (hc : CmpOk cm) (hF : CmpNm F cm L v.ownBlock w) :
    Calls Tryd.prog 49 #[v, .func (.func F) #[] #[]] w (SortNmPost cm L v n base w) := by
  have IS := Lib.hid (fun lim => pdqNm_few F n cm v base L w hown hL hn lim hE hc hF)
  have LN := Lib.hid (len_few n hn)
  obtain ⟨va, vc, rfl, _, _, _, _⟩ := own_shape hown
  clear hF hE hown hL hc
  go_enter Tryd.func49, Tryd.ntmps49
  go_wp2_with (fail)
  refine (LN.out _).mono ?_
  rintro e w1 ⟨r, rfl, rfl⟩
  go_wp2_with (fail)
  refine (IS.out r).mono ?_
  rintro e w2 ⟨O2, rfl, h1, h2, h3, h4⟩
  have H1 := Lib.hid h1
  have H2 := Lib.hid h2
  have H3 := Lib.hid h3
  clear h1 h2 h3
  go_wp2_with (fail)
  go_end0
  exact ⟨O2, rfl, H1.out, H2.out, H3.out, h4⟩
end Go.Proofs.YtjhdngfliakidaaDoor

/-! Partners with weights, as the stream makes them: as a function of the stream. -/
namespace Go.Proofs.YtjhdngfliakidaaDoor
open Go.RowKit
variable {lw : Nat}

def pkeyL : List ByteArray := [⟨#[112, 97]⟩, ⟨#[112, 98]⟩, ⟨#[112, 99]⟩, ⟨#[112, 100]⟩]
def pkeyS (x : Int) : ByteArray := pkeyL.getD x.toNat ⟨#[]⟩
theorem pkeyS_at (x : Nat) (h : x < 4) : (pkeyS x).size ≤ 2 ∧ pkeys[x]? = some (.string (pkeyS x)) := by
  have : x = 0 ∨ x = 1 ∨ x = 2 ∨ x = 3 := by omega
  rcases this with rfl | rfl | rfl | rfl
  · exact ⟨by decide, rfl⟩
  · exact ⟨by decide, rfl⟩
  · exact ⟨by decide, rfl⟩
  · exact ⟨by decide, rfl⟩
def partStep (l : List Int) (s : List Nm × Nat) (x : Int) : List Nm × Nat :=
  if flipM l s.2 3 then (s.1, s.2 + 1) else (s.1 ++ [⟨pkeyS x, pickM l (s.2 + 1) [0, 1, 1, 2, 5]⟩], s.2 + 2)
def partT (l : List Int) (k j : Nat) : List Nm × Nat := ((ordM l k 4).take j).foldl (partStep l) ([], k + 3)
def partL (l : List Int) (k : Nat) : List Nm :=
  if flipM l (partT l k 4).2 15 then (partT l k 4).1 ++ [⟨oneS l ((partT l k 4).2 + 1) [⟨#[]⟩, ⟨#[112, 97]⟩, ⟨#[122, 122]⟩], pickM l ((partT l k 4).2 + 2) [-1, 1, 1000001]⟩] else (partT l k 4).1
theorem partT_next (l : List Int) (k j : Nat) (h : j < (ordM l k 4).length) : partT l k (j + 1) = partStep l (partT l k j) (ordM l k 4)[j] := by
  have e : (ordM l k 4).take (j + 1) = (ordM l k 4).take j ++ [(ordM l k 4)[j]] := by simp
  unfold partT
  rw [e, List.foldl_append]
  rfl
theorem partT_le (l : List Int) (k : Nat) : ∀ j, j ≤ (ordM l k 4).length → (partT l k j).1.length ≤ j ∧ (partT l k j).2 ≤ k + 3 + 2 * j := by
  intro j
  induction j with
  | zero => intro _; exact ⟨Nat.le_refl _, Nat.le_refl _⟩
  | succ j ih =>
    intro h
    obtain ⟨h1, h2⟩ := ih (by omega)
    rw [partT_next l k j (by omega)]
    unfold partStep
    split
    · exact ⟨by simp only; omega, by simp only; omega⟩
    · exact ⟨by simp; omega, by simp only; omega⟩
theorem partL_eq (l : List Int) (k j : Nat) (h : j = 4) : partL l k = if flipM l (partT l k j).2 15 then (partT l k j).1 ++ [⟨oneS l ((partT l k j).2 + 1) [⟨#[]⟩, ⟨#[112, 97]⟩, ⟨#[122, 122]⟩], pickM l ((partT l k j).2 + 1 + 1) [-1, 1, 1000001]⟩] else (partT l k j).1 := by
  rw [h]; rfl
def PartPostG (l : List Int) (lw k p : Nat) (w : World) (e : Ending) (w' : World) : Prop :=
  ∃ v, e = .returned v ∧ w'.ownsRow w.heap.size 43 2 v (partL l k).length (flat encNm (partL l k)) ∧ (partL l k).length ≤ 5 ∧ (∀ x ∈ partL l k, NmSm x) ∧ (∃ q, q ≤ k + 100 ∧ StreamAt w' p lw l q) ∧ w.grownBy w' (some p)
set_option maxRecDepth 100000 in
set_option maxHeartbeats 4000000 in
theorem partnersG_any (l : List Int) (k : Nat) (p : Nat) (w : World) (hs : StreamAt w p lw l k) (hk : k < 800000000) :
    Calls Tryd.prog 7 #[.pointer (some ⟨p, 0, none⟩)] w (PartPostG l lw k p w) := by
  have hlt := hs.lt
  have hB := heap_alloc_new w (.cells pkeys 9)
  have ga := gr_alloc (gr_refl w none) (.cells pkeys 9)
  have S1 := Lib.hid (hs.keep0 ga)
  have HB := Lib.hid hB
  have GA := Lib.hid ga
  clear hB ga hs
  go_enter Tryd.func7, Tryd.ntmps7
  go_wp2_with (fail)
  refine (orderF_any l k 4 p _ S1.out (by omega) (by decide)).mono ?_
  rintro e w1 ⟨ov, rfl, ho, hL, hs2, hg2⟩
  have LL : (ordM l k 4).length = 4 := hL.len
  have PN := partT_next l k
  have PB := partT_le l k
  have OM : ∀ j (hj : j < (ordM l k 4).length), 0 ≤ (ordM l k 4)[j] ∧ (ordM l k 4)[j] < 4 := fun j hj => (hL.mem _).1 (List.getElem_mem _)
  have PL0 := partL_eq l k
  have P0 : partT l k 0 = ([], k + 3) := rfl
  obtain ⟨T, hT⟩ : ∃ T, T = partT l k := ⟨_, rfl⟩
  rw [← hT] at PN PB P0 PL0
  obtain ⟨L, hLe⟩ : ∃ L, L = ordM l k 4 := ⟨_, rfl⟩
  rw [← hLe] at PN PB OM LL ho hL
  obtain ⟨g, cap, cur, rfl, hgb, hgo, hcap⟩ : ∃ g cap cur, ov = .slice (some ⟨g, 0, none⟩) 4 cap ∧ w.heap.size < g ∧ w1.heap[g]? = some (.cells cur 3 (0, 0)) ∧ cur.toList.take (4 * 1) = ints L := by
    rcases ho.2 with ⟨_, h0⟩ | ⟨g, cap, cur, h1, h2, h3, _, _, _, h4⟩
    · omega
    · simp at h2
      exact ⟨g, cap, cur, h1, by omega, h3, h4⟩
  have OC : Hid (∀ i, i < 4 → ∃ hi : i < L.length, ∃ x : Nat, x < 4 ∧ L[i] = (x : Int) ∧ cur[i]? = some (.int .i64 x)) := fun i hi => by
    have hi2 : i < L.length := by omega
    obtain ⟨o1, o2⟩ := OM i hi2
    have e1 : (cur.toList.take (4 * 1))[i]? = (ints L)[i]? := by rw [hcap]
    rw [List.getElem?_take_of_lt (by omega)] at e1
    refine ⟨hi2, L[i].toNat, by omega, by omega, ?_⟩
    rw [← Array.getElem?_toList, e1]
    simp only [ints, List.getElem?_map, List.getElem?_eq_getElem hi2, Option.map_some]
    rw [Int.toNat_of_nonneg o1]
  have PN := Lib.hid PN
  have PB := Lib.hid PB
  have PL0 := Lib.hid PL0
  have LL := Lib.hid LL
  clear OM hT hLe
  have K0 : Hid (PartW w1 w p lw l (T 0).2 g cur (.slice none 0 0) (T 0).1) :=
    by
    rw [P0]
    exact ⟨World.ownsRow_nil _ _ _ _, (hg2.block _ (lt_of_block HB.out) (fun e => by cases e; omega)).trans HB.out, hgo, hs2, (fun x hx => by cases hx), gr_trans (gr_weak GA.out _) hg2, hlt, hgb⟩
  clear P0 hcap hL ho hs2 hg2 hgo HB GA S1
  go_wp2_with (fail)
  go_loopw [3, 11] (fun o i wr => ∃ (j : Nat) (v : Value), j ≤ 4 ∧ i = .int .i64 j ∧ v = o ∧ PartW wr w p lw l (T j).2 g cur v (T j).1) (fun _ i _ => 4 - (intOf i).toNat)
  case atStart => exact ⟨0, _, by omega, rfl, rfl, K0.out⟩
  case round =>
    clear K0
    obtain ⟨j, v, hj, rfl, rfl, hW⟩ := hrel
    obtain ⟨wo, rfl⟩ : ∃ wo : World, wo = wr := ⟨_, rfl⟩
    by_cases hjl : j < 4
    · obtain ⟨hjL, x, hx, hLx, hcx⟩ := OC.out j hjl
      have NX := PN.out j hjL
      rw [hLx] at NX
      unfold partStep at NX
      obtain ⟨hN, hq⟩ := PB.out j (by omega)
      obtain ⟨N, hNe⟩ : ∃ N, N = (T j).1 := ⟨_, rfl⟩
      obtain ⟨q, hqe⟩ : ∃ q, q = (T j).2 := ⟨_, rfl⟩
      rw [← hNe, ← hqe] at NX
      rw [← hNe] at hN hW
      rw [← hqe] at hq hW
      clear hNe hqe hLx hjL
      have d0 : wo.cell? ⟨g, j, none⟩ = some (.int .i64 (x : Int)) := blkC hW.ord j hcx
      have hjd : decide ((j : Int) < 4) = true := by simp; omega
      have HW := Lib.hid hW
      clear hW hcx
      go_wp2_with (fail)
      refine (flip_any l q 3 p wo HW.out.str (by omega) (by omega)).mono ?_
      rintro e w3 ⟨rfl, hs3, hg3⟩
      have HW3 := Lib.hid (HW.out.draw hg3 hs3)
      obtain ⟨b, hb⟩ : ∃ b, b = flipM l q 3 := ⟨_, rfl⟩
      rw [← hb] at NX
      rw [← hb]
      clear hb hs3 hg3 HW d0
      cases b with
      | true =>
        have NX := Lib.hid NX
        go_wp2_with (fail)
        go_roundw
        case rel => exact ⟨j + 1, _, by omega, by go_num, rfl, by rw [NX.out, if_pos trivial]; exact HW3.out⟩
        case measure => simp [intOf]; omega
      | false =>
        obtain ⟨hs, hkx⟩ := pkeyS_at x hx
        obtain ⟨s, hse⟩ : ∃ s, s = pkeyS x := ⟨_, rfl⟩
        rw [← hse] at hs hkx NX
        clear hse
        have HKX := Lib.hid hkx
        have c3 : w3.cell? ⟨w.heap.size, x, none⟩ = some (.string s) := blkC HW3.out.blk x hkx
        have hxd : decide ((x : Int) < 4) = true := by simp; omega
        have hx4 : (x : Int) < 4 := by omega
        have hpk := pickM_mem l (q + 1) [0, 1, 1, 2, 5] (by decide)
        simp only [List.mem_cons, List.not_mem_nil, or_false] at hpk
        obtain ⟨y, hy⟩ : ∃ y, y = pickM l (q + 1) [0, 1, 1, 2, 5] := ⟨_, rfl⟩
        rw [← hy] at hpk NX
        rw [if_neg (by decide)] at NX
        have NX := Lib.hid NX
        have HSM : Hid (NmSm ⟨s, y⟩) := ⟨hs, by simp only; omega, by simp only; omega⟩
        have hp3 := HW3.out.str.lt
        have hz3 : w.heap.size < w3.heap.size := lt_of_block HW3.out.blk
        have PK : Hid (∀ (wx : World) (g : Nat), StreamAt wx p lw l (q + 1) → g ≠ p → wx.cell? ⟨g, 0, none⟩ = some (.int .i64 0) → wx.cell? ⟨g, 1, none⟩ = some (.int .i64 1) → wx.cell? ⟨g, 2, none⟩ = some (.int .i64 1) → wx.cell? ⟨g, 3, none⟩ = some (.int .i64 2) → wx.cell? ⟨g, 4, none⟩ = some (.int .i64 5) → Calls Tryd.prog 37 #[.pointer (some ⟨p, 0, none⟩), .slice (some ⟨g, 0, none⟩) 5 5] wx fun e w' => e = .returned (.int .i64 y) ∧ StreamAt w' p lw l (q + 1 + 1) ∧ wx.grownBy w' (some p)) := by
          intro wx g h1 h2 h3 h4 h5 h6 h7
          rw [hy]
          exact pick_in l (q + 1) [0, 1, 1, 2, 5] p g wx h1 (by omega) (by decide) (by decide) h2 (fun i hi => by rcases (show i = 0 ∨ i = 1 ∨ i = 2 ∨ i = 3 ∨ i = 4 by simp at hi; omega) with rfl | rfl | rfl | rfl | rfl; (· exact h3); (· exact h4); (· exact h5); (· exact h6); exact h7)
        clear hkx hy hpk hs
        go_wp2_with (fail)
        go_region_law (first
          | (go_simp; go_at_call 37; (with_reducible refine (PK.out _ _ ?_ ?_ ?_ ?_ ?_ ?_ ?_).mono ?_); (· exact HW3.out.str.keep0 (by (repeat (first | exact gr_refl _ _ | apply gr_drew | (refine gr_alloc ?_ _))))); (· first | omega | (simp; omega)); (· go_simp); (· go_simp); (· go_simp); (· go_simp); (· go_simp); rintro e w9 ⟨rfl, hs9, hg9⟩; have HW9 := Lib.hid ((HW3.out.keep0 (show w3.grownBy _ none by (repeat (first | exact gr_refl _ _ | apply gr_drew | (refine gr_alloc ?_ _))))).draw hg9 hs9); have c9 : w9.cell? ⟨w.heap.size, x, none⟩ = some (.string s) := blkC HW9.out.blk x HKX.out; have hz9 : w.heap.size < w9.heap.size := lt_of_block HW9.out.blk)
          | (revert c9; intro c9; refine step_app1 eNm rfl _ _ rfl (w.heap.size + 1) _ N.length _ rfl w9 #[.string s, .int .i64 y] rfl HW9.out.own _ rfl rfl rfl rfl ?_ ?_ ?_; (· omega); (· omega); intro v11 w11 hown11 hg11 hlt11 hk11; have HW11 := Lib.hid (HW9.out.app (x := ⟨s, y⟩) HSM.out hown11 hg11 hlt11))
          | fail)
        all_goals (go_wp2_with (fail))
        all_goals (try go_simp)
        all_goals
          refine ⟨⟨j + 1, by omega, by omega, by rw [NX.out]; exact HW11.out⟩, by simp [intOf]; omega⟩
    · obtain ⟨hN, hq⟩ := PB.out j (by have := LL.out; omega)
      have PL := PL0.out j (by omega)
      obtain ⟨N, hNe⟩ : ∃ N, N = (T j).1 := ⟨_, rfl⟩
      obtain ⟨q, hqe⟩ : ∃ q, q = (T j).2 := ⟨_, rfl⟩
      rw [← hNe, ← hqe] at PL
      rw [← hNe] at hN hW
      rw [← hqe] at hq hW
      clear hNe hqe PL0 PN PB
      have HW := Lib.hid hW
      clear hW
      have hjd : decide ((j : Int) < 4) = false := by simp; omega
      go_wp2_with (fail)
      refine (flip_any l q 15 p wo HW.out.str (by omega) (by omega)).mono ?_
      rintro e w3 ⟨rfl, hs3, hg3⟩
      have HW3 := Lib.hid (HW.out.draw hg3 hs3)
      obtain ⟨b, hb⟩ : ∃ b, b = flipM l q 15 := ⟨_, rfl⟩
      rw [← hb] at PL
      rw [← hb]
      clear hb hs3 hg3 HW
      cases b with
      | false =>
        rw [if_neg (by decide)] at PL
        obtain ⟨va, vc, rfl, -, -, -, -⟩ := own_shape HW3.out.own
        have PL := Lib.hid PL
        go_wp2_with (fail)
        go_ret
        unfold PartPostG
        rw [PL.out]
        exact ⟨_, rfl, own_base HW3.out.own (by omega), by omega, HW3.out.all, ⟨_, by omega, HW3.out.str⟩, HW3.out.gr⟩
      | true =>
        go_wp2_with (fail)
        refine (one_any l (q + 1) [⟨#[]⟩, ⟨#[112, 97]⟩, ⟨#[122, 122]⟩] p w3 HW3.out.str (by omega) (by decide) (by decide)).mono ?_
        rintro e w4 ⟨rfl, hs4, hg4⟩
        have h1 := oneS_mem l (q + 1) [⟨#[]⟩, ⟨#[112, 97]⟩, ⟨#[122, 122]⟩] (by decide)
        have HW4 := Lib.hid (HW3.out.draw hg4 hs4)
        rw [if_pos trivial] at PL
        obtain ⟨s, hs⟩ : ∃ y, y = oneS l (q + 1) [⟨#[]⟩, ⟨#[112, 97]⟩, ⟨#[122, 122]⟩] := ⟨_, rfl⟩
        rw [← hs] at h1 PL
        rw [← hs]
        have hs1 : s.size ≤ 2 := by
          simp only [List.mem_cons, List.not_mem_nil, or_false] at h1
          rcases h1 with rfl | rfl | rfl <;> decide
        clear hs hs4 hg4 h1 HW3
        go_wp2_with (fail)
        refine (pick_any l (q + 1 + 1) [-1, 1, 1000001] p w4 HW4.out.str (by omega) (by decide) (by decide)).mono ?_
        rintro e w6 ⟨rfl, hs6, hg6⟩
        have hpk := pickM_mem l (q + 1 + 1) [-1, 1, 1000001] (by decide)
        simp only [List.mem_cons, List.not_mem_nil, or_false] at hpk
        obtain ⟨y, hy⟩ : ∃ y, y = pickM l (q + 1 + 1) [-1, 1, 1000001] := ⟨_, rfl⟩
        rw [← hy] at hpk PL
        have PL := Lib.hid PL
        rw [← hy]
        have HW6 := Lib.hid (HW4.out.draw hg6 hs6)
        have HSM : Hid (NmSm ⟨s, y⟩) := ⟨hs1, by simp only; omega, by simp only; omega⟩
        have hz6 : w.heap.size < w6.heap.size := lt_of_block HW6.out.blk
        clear hy hs6 hg6 HW4 hpk
        go_wp2_with (at_builtin; refine wpList_app1F eNm rfl _ _ rfl (w.heap.size + 1) _ N.length (flat encNm N) rfl w6 #[.string s, .int .i64 y] rfl HW6.out.own _ rfl rfl rfl rfl (by omega) (by omega) ?_; intro v7 w7 o7 g7 hl7 _; have HW7 := Lib.hid (HW6.out.app (x := ⟨s, y⟩) HSM.out o7 g7 hl7); clear o7 g7 hl7)
        go_wp2_with (fail)
        go_ret
        unfold PartPostG
        rw [PL.out]
        exact ⟨_, rfl, own_base HW7.out.own (by omega), by rw [List.length_append]; simp; omega, HW7.out.all, ⟨_, by omega, HW7.out.str⟩, HW7.out.gr⟩
end Go.Proofs.YtjhdngfliakidaaDoor

/-! The two functions that till.Shares hands on: equal keys, and the order of keys. -/
namespace Go.Proofs.YtjhdngfliakidaaDoor
open Go.RowKit
attribute [local go_sem ↓] Go.wp_at_zero Go.wp_at_succ

theorem nm_cells {w : World} {a : Option Addr} {p : List Nm} (h : CellsAt w a (flat encNm p)) (k : Nat) (hk : k < p.length) : ∃ b off, a = some ⟨b, off, none⟩ ∧ w.cell? ⟨b, off + k * 2, none⟩ = some (.string p[k].key) ∧ w.cell? ⟨b, off + k * 2 + 1, none⟩ = some (.int .i64 p[k].many) := by
  obtain ⟨b, off, rfl, hcs⟩ := flat_cells (enc := encNm) (m := 2) (fun _ => rfl) (by decide) h (by omega)
  exact ⟨b, off, rfl, by have := hcs k hk 0 _ rfl; simpa using this, by have := hcs k hk 1 _ rfl; simpa using this⟩
theorem sharesEq_fn : ∀ (args : Array Value) (w : World), (callFunc 44 args).run Tryd.prog w = .ok (.enter 44 args) w := fun _ _ => by kernel_rfl
theorem sharesEq_any (x : Nm) (k : ByteArray) (q0 : Nat) (w : World) (h : w.cell? ⟨q0, 0, none⟩ = some (.string k)) :
    Calls Tryd.prog 44 #[.agg #[.string x.key, .int .i64 x.many], .pointer (some ⟨q0, 0, none⟩)] w fun e w' => e = .returned (.bool (x.key.toList == k.toList)) ∧ w.grownBy w' none := by
  have hg := gr_alloc (gr_refl w none) (.cells #[.string x.key, .int .i64 x.many] 43)
  have h2 := (gr_cell hg (lt_of_cell h)).trans h
  obtain ⟨s, hs⟩ : ∃ s, s = x.key := ⟨_, rfl⟩
  obtain ⟨m, hm⟩ : ∃ m, m = x.many := ⟨_, rfl⟩
  rw [← hs, ← hm] at hg h2
  rw [← hs, ← hm]
  clear hs hm
  go_enter Tryd.func44, Tryd.ntmps44
  go_wp2_with (fail)
  go_ret
  exact ⟨rfl, hg⟩
theorem sharesCmp_fn : ∀ (args : Array Value) (w : World), (callFunc 46 args).run Tryd.prog w = .ok (.enter 46 args) w := fun _ _ => by kernel_rfl
set_option maxRecDepth 100000 in
set_option maxHeartbeats 1000000 in
theorem sharesCmp_any (p : List Nm) (i j : Nat) (hi : i < p.length) (hj : j < p.length) (a : Option Addr) (c q : Nat) (w : World) (hq : w.cell? ⟨q, 0, none⟩ = some (.slice a p.length c)) (h : CellsAt w a (flat encNm p)) :
    Calls Tryd.prog 46 #[.int .i64 i, .int .i64 j, .pointer (some ⟨q, 0, none⟩)] w fun e w' => e = .returned (.int .i64 (nmCm p i j)) ∧ w.grownBy w' none := by
  obtain ⟨b, off, rfl, d2, -⟩ := nm_cells h i hi
  obtain ⟨_, _, e, e2, -⟩ := nm_cells h j hj
  cases e
  have hE : nmCm p i j = cmpB p[i].key p[j].key := by unfold nmCm; rw [Int.toNat_natCast, Int.toNat_natCast, nmN_get hi, nmN_get hj]
  rw [hE]
  obtain ⟨u, hu⟩ : ∃ u, u = p[i].key := ⟨_, rfl⟩
  obtain ⟨v, hv⟩ : ∃ v, v = p[j].key := ⟨_, rfl⟩
  rw [← hu] at d2
  rw [← hv] at e2
  rw [← hu, ← hv]
  clear hu hv hE h
  go_enter Tryd.func46, Tryd.ntmps46
  have gq := grew_cell hq
  have gd := grew_cell d2
  have ge := grew_cell e2
  have h1 : (i : Int) < (p.length : Int) := by omega
  have h2 : (j : Int) < (p.length : Int) := by omega
  have h3 : (0 : Int) ≤ (i : Int) := by omega
  have h4 : (0 : Int) ≤ (j : Int) := by omega
  clear hq d2 e2
  go_wp2_with (fail)
  refine wp_region_grew (by kernel_rfl) (by kernel_rfl) ?_
  repeat (go_big_quiet_step (first
    | (go_at_call 47; exact Calls.grew_of (fun W g => (compare_any _ _ W).mono fun _ _ h => ⟨h.1, by rw [← h.2]; exact gr_refl _ _⟩))))
  refine wpQuiet_nil ?_
  rintro wq ⟨nn, rfl⟩
  have g := nn.gr
  go_wp2_with (fail)
  go_ret
  exact ⟨rfl, g⟩
end Go.Proofs.YtjhdngfliakidaaDoor

/-! till.Shares: what each partner gets, whoever comes first; or what cannot be divided. -/
namespace Go.Proofs.YtjhdngfliakidaaDoor
open Go.RowKit
attribute [local go_sem ↓] Go.wp_at_zero Go.wp_at_succ

theorem flat_takeN {α : Type} {enc : α → List Value} {w : World} {a : Option Addr} {l : List α} (h : CellsAt w a (flat enc l)) (k : Nat) : CellsAt w a (flat enc (l.take k)) := by
  intro j x hx
  refine h j x ?_
  have : flat enc l = flat enc (l.take k) ++ flat enc (l.drop k) := by rw [← flat_append, List.take_append_drop]
  rw [this, List.getElem?_append_left (List.getElem?_eq_some_iff.1 hx).1]
  exact hx
def SharesPost (tot : Int) (p : List Nm) (w : World) (e : Ending) (w' : World) : Prop :=
  w.grownBy w' none ∧ ((¬ FitN p ∧ ∃ r : Int, r ≠ 0 ∧ e = .returned (.tuple #[.slice none 0 0, .int .i64 r])) ∨ (FitN p ∧ ∃ v P, e = .returned (.tuple #[v, .int .i64 0]) ∧ w'.ownsRow w.heap.size 3 1 v p.length (ints P) ∧ SharesOf tot p P))
set_option maxRecDepth 100000 in
set_option maxHeartbeats 4000000 in
theorem shares_any (tot : Int) (p : List Nm) (a : Option Addr) (c : Nat) (w : World) (hc : CellsAt w a (flat encNm p)) (hn : p.length ≤ 12) (hcap : p.length ≤ c) (hks : ∀ x ∈ p, x.key.size ≤ 1000) (ht0 : 0 ≤ tot) (ht1 : tot ≤ 1000000000) :
    Calls Tryd.prog 11 #[.int .i64 tot, .slice a p.length c] w (SharesPost tot p w) := by
  have hA := heap_alloc_new w (.cells #[.slice a p.length c] 30)
  have hg := gr_alloc (gr_refl w none) (.cells #[.slice a p.length c] 30)
  obtain ⟨w1, hw1⟩ : ∃ w1, w1 = w.alloc (.cells #[.slice a p.length c] 30) := ⟨_, rfl⟩
  rw [← hw1] at hA hg
  have hz1 : w.heap.size < w1.heap.size := lt_of_block hA
  obtain ⟨B, hBe⟩ : ∃ B, B = w.heap.size := ⟨_, rfl⟩
  rw [← hBe] at hA hz1
  have HC1 := Lib.hid (hc.keep0 hg)
  have HA := Lib.hid hA
  have HG1 := Lib.hid hg
  have HW1 := Lib.hid hw1
  have HBE := Lib.hid hBe
  have HKS := Lib.hid hks
  have l0 := blkC HA.out 0 rfl
  have d50 : decide ((50 : Int) < (p.length : Int)) = false := decide_eq_false (by omega)
  clear hc hA hg hw1 hBe hks
  go_enter Tryd.func11, Tryd.ntmps11
  go_upto_region 1 with (fail)
  rw [← HW1.out, ← HBE.out]
  go_wp2_with (at_make; refine wpList_mk _ eInt rfl _ _ rfl w1.heap.size _ p.length rfl rfl rfl ?_ ?_ ?_; (· omega); (· omega); intro w2 o2 g2; have hz2 := g2.size; have l0 := (gr_cell g2 (lt_of_cell l0)).trans l0)
  obtain ⟨G1, hG1⟩ : ∃ G, G = w1.heap.size := ⟨_, rfl⟩
  rw [← hG1] at o2
  rw [← hG1]
  have hzG : w1.heap.size ≤ G1 := by rw [hG1]; exact Nat.le_refl _
  have hBG : B < G1 := by omega
  have HG2 := Lib.hid g2
  have HO2 := Lib.hid o2
  clear hG1 g2 o2 hz2 l0
  go_loopw [25] (fun i wr => ∃ k : Nat, k ≤ p.length ∧ i = .int .i64 k ∧ GoodTo p k ∧ wr.ownsRow G1 3 1 (.slice (some ⟨G1, 0, none⟩) p.length p.length) p.length (ints (placesL k ++ List.replicate (p.length - k) 0)) ∧ w1.grownBy wr none) (fun i _ => p.length - (intOf i).toNat)
  case atStart => exact ⟨0, Nat.zero_le _, rfl, GoodTo.zero p, by simpa [placesL] using HO2.out, HG2.out⟩
  case round =>
    clear HG2 HO2
    obtain ⟨k, hk, rfl, hG, hO, hgr⟩ := hrel
    obtain ⟨wo, rfl⟩ : ∃ wo : World, wo = wr := ⟨_, rfl⟩
    have hl0 := (gr_cell hgr (lt_of_block HA.out)).trans (blkC HA.out 0 rfl)
    by_cases hlt : k < p.length
    · have hcp := HC1.out.keep0 hgr
      have hct := flat_takeN hcp k
      have htl : (p.take k).length = k := by simp; omega
      obtain ⟨b, off, rfl, d0, d1⟩ := nm_cells hcp k hlt
      have hkb := HKS.out p[k] (List.getElem_mem hlt)
      have FK : Hid (keyB p[k].key = false → ¬ FitN p) := fun h1 hf => by rw [fit_keys hf hlt] at h1; cases h1
      have FA : Hid ((p.take k).any (fun q => q.key.toList == p[k].key.toList) = true → ¬ FitN p) := fun h1 hf => by rw [fit_apart hf hlt] at h1; cases h1
      have GN : Hid (keyB p[k].key = true → (p.take k).any (fun q => q.key.toList == p[k].key.toList) = false → GoodTo p (k + 1)) := fun h1 h2 => hG.next hlt h1 h2
      have CF : Hid (∀ W, wo.grownBy W none → ∀ g, W.cell? ⟨g, 0, none⟩ = some (.string p[k].key) → Calls Tryd.prog 16 #[.slice (some ⟨b, off, none⟩) k c, .func (.func 44) #[] #[.pointer (some ⟨g, 0, none⟩)]] W fun e w' => e = .returned (.bool ((p.take k).any (fun q => q.key.toList == p[k].key.toList))) ∧ W.grownBy w' none) := by
        intro W gW g hcell
        have h := containsFunc_Nm 44 g (fun q => q.key.toList == p[k].key.toList) (p.take k) (some ⟨b, off, none⟩) c W (hct.keep0 gW) (by omega) sharesEq_fn (fun x _ w1 g1 => sharesEq_any x p[k].key g w1 ((gr_cell g1 (lt_of_cell hcell)).trans hcell))
        rw [htl] at h
        exact h
      obtain ⟨x, hx⟩ : ∃ x, x = p[k] := ⟨_, rfl⟩
      rw [← hx] at d0 d1 hkb FK FA GN CF
      obtain ⟨s, m⟩ := x
      simp only at d0 d1 hkb FK FA GN CF
      obtain ⟨an, han⟩ : ∃ an, an = (p.take k).any (fun q => q.key.toList == s.toList) := ⟨_, rfl⟩
      rw [← han] at FA GN CF
      have HO := Lib.hid hO
      have HGR := Lib.hid hgr
      clear hx han hcp hct htl hO hG hgr
      cases hkk : keyB s with
      | false =>
        have HNF := Lib.hid (FK.out hkk)
        clear CF FK FA GN
        go_wp2_with (fail)
        refine (key_any s _ (by omega)).mono ?_
        rintro e w4 ⟨rfl, rfl⟩
        rw [hkk]
        go_wp2_with (fail)
        go_ret2
        exact ⟨gr_trans HG1.out (gr_alloc HGR.out _), .inl ⟨HNF.out, 5, by decide, rfl⟩⟩
      | true =>
        have hg4 := gr_alloc (gr_refl wo none) (.cells #[.string s, .int .i64 m] 43)
        have hl4 := (gr_cell hg4 (lt_of_cell hl0)).trans hl0
        have hq4 : (wo.alloc (.cells #[.string s, .int .i64 m] 43)).cell? ⟨wo.heap.size, 0, none⟩ = some (.string s) := made_cell (gr_refl _ _) 0 rfl
        go_wp2_with (fail)
        obtain ⟨w4, hw4⟩ : ∃ w4, w4 = wo.alloc (.cells #[.string s, .int .i64 m] 43) := ⟨_, rfl⟩
        rw [← hw4] at hg4 hl4 hq4
        rw [← hw4]
        obtain ⟨qb, hqb⟩ : ∃ q, q = wo.heap.size := ⟨_, rfl⟩
        rw [← hqb] at hq4
        rw [← hqb]
        clear hw4 hqb hl0
        refine (key_any s _ (by omega)).mono ?_
        rintro e w9 ⟨rfl, rfl⟩
        rw [hkk]
        go_wp2_with (fail)
        refine (CF.out _ hg4 _ hq4).mono ?_
        rintro e w5 ⟨rfl, hg5⟩
        have hg5' := gr_trans hg4 hg5
        cases an with
        | true =>
          have HNF := Lib.hid (FA.out rfl)
          clear CF FK FA GN
          go_wp2_with (fail)
          go_ret2
          exact ⟨gr_trans HG1.out (gr_trans HGR.out hg5'), .inl ⟨HNF.out, 6, by decide, rfl⟩⟩
        | false =>
          have HGN := Lib.hid (GN.out hkk rfl)
          have o5 := own_keep0 HO.out hg5'
          obtain ⟨e1, f1, o6⟩ := own_int o5 k hlt
          have HO6 := Lib.hid (o6 (k : Int))
          rw [fill_next (placesL k) p.length k (k : Int) (places_len k) hlt, ← places_next] at HO6
          have HG5 := Lib.hid hg5'
          clear CF FK FA GN o5 o6 hg5 hg5' HO
          go_wp2_with (fail)
          go_roundw
          case rel => exact ⟨k + 1, by omega, by go_num, HGN.out, HO6.out, gr_new (gr_trans HGR.out HG5.out) hzG _⟩
          case measure => simp [intOf]; omega
    · obtain rfl : k = p.length := by omega
      rw [Nat.sub_self, List.replicate_zero, List.append_nil] at hO
      have SF := sortFC1_few 46 B p.length (nmCm p) (.slice (some ⟨G1, 0, none⟩) p.length p.length) G1 (placesL p.length) wo hO (places_len _) hn sharesCmp_fn (nmCm_ok p) (fun x y W hx hy gW => by
        obtain ⟨i, hi, rfl⟩ := places_mem hx
        obtain ⟨j, hj, rfl⟩ := places_mem hy
        have gW1 : w1.grownBy W none := gr_grown hgr gW (fun k hk => by cases hk; exact hzG)
        exact sharesCmp_any p i j hi hj a c B W ((gr_cell gW1 (lt_of_block HA.out)).trans (blkC HA.out 0 rfl)) (HC1.out.keep0 gW1))
      have SF := Lib.hid SF
      have HGD := Lib.hid hG
      have HGR := Lib.hid hgr
      clear hO hG hgr
      go_wp2_with (fail)
      refine SF.out.mono ?_
      rintro e w5 ⟨O, rfl, o5, hperm, hsrt, -, g5⟩
      have HSRT := Lib.hid hsrt
      have HPERM := Lib.hid hperm
      have g5 : wo.grownBy w5 (some G1) := g5
      have HG5 : Hid (w1.grownBy w5 none) := gr_grown HGR.out g5 (fun k hk => by cases hk; exact hzG)
      have HO5 := Lib.hid o5
      have hOl : O.length = p.length := by rw [hperm.length_eq, places_len]
      have HOl := Lib.hid hOl
      have HOM := Lib.hid (order_at hperm)
      have HND := Lib.hid (hperm.nodup_iff.2 (places_nodup p.length))
      have hG15 : G1 < w5.heap.size := (o5.lt G1 rfl).2
      have hlw : ((sortedN p O).map Nm.many).length = p.length := by simp [sortedN, hOl]
      have HLW := Lib.hid hlw
      have h5z : w1.heap.size ≤ w5.heap.size := HG5.out.size
      clear g5 o5 hperm SF hOl hsrt HGR hl0 hlw
      go_wp2_with (fail)
      obtain ⟨ws, hws⟩ : ∃ ws, ws = (sortedN p O).map Nm.many := ⟨_, rfl⟩
      have HWSE := Lib.hid hws
      rw [← hws] at HLW
      clear hws
      go_loopw [9, 51] (fun v i wr => ∃ k : Nat, k ≤ p.length ∧ i = .int .i64 k ∧ wr.ownsRow w5.heap.size 3 1 v k (ints (ws.take k)) ∧ w5.grownBy wr none) (fun _ i _ => p.length - (intOf i).toNat)
      case atStart => exact ⟨0, Nat.zero_le _, rfl, by rw [List.take_zero]; exact World.ownsRow_nil _ _ _ _, gr_refl _ _⟩
      case round =>
        rename_i v _ _
        obtain ⟨k, hk, rfl, hV, hgr⟩ := hrel
        obtain ⟨wi, rfl⟩ : ∃ wi : World, wi = wr := ⟨_, rfl⟩
        by_cases hlt : k < p.length
        · have htO : k < O.length := by rw [HOl.out]; exact hlt
          obtain ⟨t, ht, hOt⟩ := HOM.out k htO
          have d0 := (own_int (own_keep0 HO5.out hgr) k hlt).1
          rw [getD_eq O k 0 htO, hOt] at d0
          have g1i := gr_trans HG5.out hgr
          have hl0 := (gr_cell g1i (lt_of_block HA.out)).trans (blkC HA.out 0 rfl)
          obtain ⟨b, off, rfl, -, d1⟩ := nm_cells (HC1.out.keep0 g1i) t ht
          have htp : (t : Int) < (p.length : Int) := by omega
          have ht0' : (0 : Int) ≤ (t : Int) := by omega
          have NX : Hid (ws.take (k + 1) = ws.take k ++ [p[t].many]) := by
            show _ = _
            rw [take_snoc ws k (by rw [HLW.out]; exact hlt)]
            congr 2
            have e := HWSE.out
            subst e
            simp only [sortedN, List.getElem_map, hOt, Int.toNat_natCast, nmN_get ht]
          obtain ⟨m, hm⟩ : ∃ m, m = p[t].many := ⟨_, rfl⟩
          rw [← hm] at d1 NX
          have hsz := hgr.size
          have HV := Lib.hid hV
          have HGR := Lib.hid hgr
          clear hV hgr hOt g1i hm
          go_wp2_with (at_builtin; refine wpList_app1F eInt rfl _ _ rfl w5.heap.size _ k _ rfl wi #[.int .i64 m] rfl HV.out _ rfl rfl rfl rfl ?_ ?_ ?_; (· omega); (· omega); intro v6 w6 hown6 hg6 hlt6 hfr6)
          have ho6 : w6.ownsRow w5.heap.size 3 1 v6 (k + 1) (ints (ws.take (k + 1))) := by rw [NX.out]; simpa [ints] using hown6
          have HO6 := Lib.hid ho6
          have HG6 : Hid (w5.grownBy w6 none) := gr_grown HGR.out hg6 (fun q hq => hlt6 q hq)
          clear hown6 hg6 hlt6 hfr6 ho6
          go_wp2_with (fail)
          go_roundw
          case rel => exact ⟨k + 1, by omega, by go_num, HO6.out, HG6.out⟩
          case measure => simp [intOf]; omega
        · obtain rfl : k = p.length := by omega
          rw [← HLW.out, List.take_length] at hV
          obtain ⟨va, vc, rfl, -, -, hcw, -⟩ := own_shape hV
          have g1i := gr_trans HG5.out hgr
          by_cases hfw : FitW ws
          · have SH := meterShare_ok tot ws va vc wi hcw (by rw [HLW.out]; omega) ht0 ht1 hfw.sum hfw.each
            rw [HLW.out] at SH
            have SH := Lib.hid SH
            have HFIT : Hid (FitN p) := by have e := HWSE.out; subst e; exact HGD.out.fit HPERM.out hfw
            have HGR := Lib.hid hgr
            have HG1I := Lib.hid g1i
            have hlw := HLW.out
            have HCW := Lib.hid hcw
            clear hV hcw hgr g1i
            go_wp2_with (fail)
            rw [hlw]
            refine SH.out.mono ?_
            rintro e w7 ⟨v7, Q, rfl, o7, hQ, g7⟩
            have HQ := Lib.hid hQ
            have hQl : Q.length = p.length := by rw [hQ.len, hlw]
            have HQl := Lib.hid hQl
            have HO7 := Lib.hid o7
            have HG7 := Lib.hid (gr_trans HG1I.out g7)
            have HGO := Lib.hid (gr_trans HGR.out g7)
            have hl0 := (gr_cell HG7.out (lt_of_block HA.out)).trans (blkC HA.out 0 rfl)
            obtain ⟨v7a, v7c, rfl, -, -, -, -⟩ := own_shape o7
            have h7z : w1.heap.size ≤ w7.heap.size := HG7.out.size
            clear SH hQ o7 g7 hQl HG1I HGR
            go_wp2_with (at_make; refine wpList_mk _ eInt rfl _ _ rfl w7.heap.size _ p.length rfl rfl rfl ?_ ?_ ?_; (· omega); (· omega); intro w8 o8 g8)
            obtain ⟨G2, hG2⟩ : ∃ G, G = w7.heap.size := ⟨_, rfl⟩
            rw [← hG2] at o8
            rw [← hG2]
            have hzG2 : w7.heap.size ≤ G2 := by rw [hG2]; exact Nat.le_refl _
            have HG8 := Lib.hid g8
            have HO8 := Lib.hid o8
            clear hG2 g8 o8
            go_loopw [78] (fun i wr => ∃ (k : Nat) (L : List Int), k ≤ p.length ∧ i = .int .i64 k ∧ LaidAt O Q p.length k L ∧ wr.ownsRow G2 3 1 (.slice (some ⟨G2, 0, none⟩) p.length p.length) p.length (ints L) ∧ w7.grownBy wr none) (fun i _ => p.length - (intOf i).toNat)
            case atStart => exact ⟨0, _, Nat.zero_le _, rfl, LaidAt.start O Q p.length, HO8.out, HG8.out⟩
            case round =>
              clear HG8 HO8
              obtain ⟨k, L, hk, rfl, hL, hOut, hgr⟩ := hrel
              obtain ⟨wj, rfl⟩ : ∃ wj : World, wj = wr := ⟨_, rfl⟩
              by_cases hlt : k < p.length
              · have htO : k < O.length := by rw [HOl.out]; exact hlt
                obtain ⟨t, ht, hOt⟩ := HOM.out k htO
                have g5j := gr_trans HGO.out hgr
                have d0 := (own_int (own_keep0 HO5.out g5j) k hlt).1
                rw [getD_eq O k 0 htO, hOt] at d0
                have o7j := own_keep0 HO7.out hgr
                obtain ⟨g7, gc, hge, -, -, -, -⟩ := own_some o7j (by omega)
                cases hge
                have d1 := (own_int o7j k hlt).1
                obtain ⟨e1, f1, o9⟩ := own_int hOut t ht
                have HLN := Lib.hid (hL.next HND.out HOM.out htO (by rw [HQl.out, HOl.out]) hOt ht)
                obtain ⟨q, hq⟩ : ∃ q, q = Q.getD k 0 := ⟨_, rfl⟩
                rw [← hq] at d1 HLN
                have HO9 := Lib.hid (o9 q)
                have htp : (t : Int) < (p.length : Int) := by omega
                have ht0' : (0 : Int) ≤ (t : Int) := by omega
                have HGJ := Lib.hid hgr
                clear o9 hOut hL hgr hOt g5j o7j hq
                go_wp2_with (fail)
                go_roundw
                case rel => exact ⟨k + 1, _, by omega, by go_num, HLN.out, HO9.out, gr_new HGJ.out hzG2 _⟩
                case measure => simp [intOf]; omega
              · obtain rfl : k = p.length := by omega
                have HL := Lib.hid hL
                have HOUT := Lib.hid hOut
                have HGJ := Lib.hid hgr
                clear hL hOut hgr
                go_wp2_with (fail)
                go_ret2
                refine ⟨gr_trans HG1.out (gr_trans HG7.out HGJ.out), .inr ⟨HFIT.out, _, L, rfl, own_base HOUT.out (by have := HG1.out.size; omega), ?_⟩⟩
                have e := HWSE.out
                subst e
                exact shares_end HPERM.out HSRT.out HFIT.out.apart HQ.out HL.out
          · have SH := meterShare_no tot ws va vc wi hcw (by rw [HLW.out]; omega) ht0 ht1 hfw
            rw [HLW.out] at SH
            have SH := Lib.hid SH
            have HNF : Hid (¬ FitN p) := by have e := HWSE.out; subst e; exact fun hf => hfw (hf.sorted HPERM.out)
            have HG1I := Lib.hid g1i
            have hlw := HLW.out
            clear hV hcw hgr g1i
            go_wp2_with (fail)
            rw [hlw]
            refine SH.out.mono ?_
            rintro e w7 ⟨r, rfl, hr0, rfl⟩
            have hrb : (r == 0) = false := beq_eq_false_iff_ne.2 hr0
            go_wp2_with (fail)
            go_ret2
            exact ⟨gr_trans HG1.out HG1I.out, .inl ⟨HNF.out, r, hr0, rfl⟩⟩
end Go.Proofs.YtjhdngfliakidaaDoor
