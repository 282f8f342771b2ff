/- Partners with weights, as the stream makes them: few, with short keys and bounded weights. -/
import Derived.Test.YthikknnadmebgaaGreatDoorPkSAd
import Derived.Test.YthikknnadmebgaaGreatDoorPkSAb
import Derived.Test.YthikknnadmebgaaGreatDoorPkSAe
import Derived.Test.YthikknnadmebgaaGreatDoorPkSAo
import Derived.Test.YthikknnadmebgaaGreatDoorPkSAh
import Derived.Deep.RegionLaw
import Derived.Deep.DeepCutAuto
import Derived.Deep.DrawnRows
import Derived.Deep.CutBlock
import Derived.Deep.RegionHeld3
import Derived.Test.YthikknnadmebgaaGreatDoorPkSAa
namespace Go.Proofs.YthikknnadmebgaaGreatDoor
open Go.RowKit
variable {lw : Nat}

def encNm (x : Nm) : List Value := [.string x.key, .int .i64 x.many]
theorem encNm_len (x : Nm) : (encNm x).length = 2 := rfl
theorem eNm : ElemT Tryz.prog 37 42 (.agg #[.string ⟨#[]⟩, .int .i64 0]) 2 24 := ⟨by kernel_rfl, by kernel_rfl, by decide, by decide, by decide⟩
def NmSm (x : Nm) : Prop := x.key.size ≤ 2 ∧ -1 ≤ x.many ∧ x.many ≤ 1000001
abbrev pkeys : Array Value := #[.string ⟨#[112, 97]⟩, .string ⟨#[112, 98]⟩, .string ⟨#[112, 99]⟩, .string ⟨#[112, 100]⟩]
/-- What stands while the partners are made. -/
structure PartW (wr w : World) (p lw : Nat) (l : List Int) (q g : Nat) (cur : Array Value) (v : Value) (N : List Nm) : Prop where
  own : wr.ownsRow (w.heap.size + 1) 42 2 v N.length (flat encNm N)
  blk : wr.heap[w.heap.size]? = some (.cells pkeys 9 (0, 0))
  ord : wr.heap[g]? = some (.cells cur 3 (0, 0))
  str : StreamAt wr p lw l q
  all : ∀ x ∈ N, NmSm x
  gr : w.grownBy wr (some p)
  pB : p < w.heap.size
  gB : w.heap.size < g
theorem PartW.keep0 {wr w1 w : World} {p lw : Nat} {l : List Int} {q g : Nat} {cur : Array Value} {v : Value} {N : List Nm} (h : PartW wr w p lw l q g cur v N) (gg : wr.grownBy w1 none) : PartW w1 w p lw l q g cur v N :=
  ⟨own_keep0 h.own gg, (gg.block _ (lt_of_block h.blk) (by simp)).trans h.blk, (gg.block _ (lt_of_block h.ord) (by simp)).trans h.ord, h.str.keep0 gg, h.all, gr_trans h.gr (gr_weak gg _), h.pB, h.gB⟩
theorem PartW.draw {wr w1 w : World} {p lw : Nat} {l : List Int} {q q2 g : Nat} {cur : Array Value} {v : Value} {N : List Nm} (h : PartW wr w p lw l q g cur v N) (gg : wr.grownBy w1 (some p)) (hs : StreamAt w1 p lw l q2) : PartW w1 w p lw l q2 g cur v N :=
  ⟨own_keepS h.own gg (by have := h.pB; omega), (gg.block _ (lt_of_block h.blk) (fun e => by have := h.pB; cases e; omega)).trans h.blk, (gg.block _ (lt_of_block h.ord) (fun e => by have := h.pB; have := h.gB; cases e; omega)).trans h.ord, hs, h.all, gr_trans h.gr gg, h.pB, h.gB⟩
theorem PartW.app {wr w1 w : World} {p lw : Nat} {l : List Int} {q g : Nat} {cur : Array Value} {v v1 : Value} {N : List Nm} {x : Nm} (h : PartW wr w p lw l q g cur v N) (hx : NmSm x) (o : w1.ownsRow (w.heap.size + 1) 42 2 v1 (N.length + 1) (flat encNm N ++ encNm x)) (gg : wr.grownBy w1 v.ownBlock) (hl : ∀ b, v.ownBlock = some b → w.heap.size + 1 ≤ b) : PartW w1 w p lw l q g cur v1 (N ++ [x]) := by
  refine ⟨?_, (gg.block _ (lt_of_block h.blk) (fun e => own_ne h.own h.blk (by decide) e.symm)).trans h.blk, (gg.block _ (lt_of_block h.ord) (fun e => own_ne h.own h.ord (by decide) e.symm)).trans h.ord, h.str.keep gg (fun b e => by have := hl b e; have := h.pB; omega), fun y hy => ?_, gr_grown h.gr gg (fun b e => by have := hl b e; omega), h.pB, h.gB⟩
  · rw [List.length_append, flat_append, flat_one]; exact o
  · rcases List.mem_append.1 hy with hy | hy
    · exact h.all y hy
    · have : y = x := by simpa using hy
      rw [this]; exact hx
def PartPost (l : List Int) (lw k p : Nat) (w : World) (e : Ending) (w' : World) : Prop :=
  ∃ v N, e = .returned v ∧ w'.ownsRow w.heap.size 42 2 v N.length (flat encNm N) ∧ N.length ≤ 5 ∧ (∀ x ∈ N, NmSm x) ∧ (∃ q, q ≤ k + 100 ∧ StreamAt w' p lw l q) ∧ w.grownBy w' (some p)
theorem ord_cells {L : List Int} {cur : Array Value} (ht : cur.toList.take (4 * 1) = ints L) (hL : IsOrder 4 L) : ∀ i, i < 4 → ∃ x : Nat, x < 4 ∧ cur[i]? = some (.int .i64 x) := by
  intro i hi
  have hlen := hL.len
  have e1 : (cur.toList.take (4 * 1))[i]? = (ints L)[i]? := by rw [ht]
  rw [List.getElem?_take_of_lt (by omega)] at e1
  have hm := (hL.mem L[i]).1 (List.getElem_mem _)
  refine ⟨L[i].toNat, by omega, ?_⟩
  rw [← Array.getElem?_toList, e1]
  simp only [ints, List.getElem?_map, List.getElem?_eq_getElem (show i < L.length by omega), Option.map_some]
  rw [Int.toNat_of_nonneg hm.1]
end Go.Proofs.YthikknnadmebgaaGreatDoor

/-! Package slices at elements coilrack/api.Named: with a function value. Written by mkfind.py. -/
namespace Go.Proofs.YthikknnadmebgaaGreatDoor
open Go.RowKit

set_option maxRecDepth 100000 in
set_option maxHeartbeats 1000000 in
theorem indexFunc_Nm (F : FuncId) (q0 : Nat) (P : Nm → Bool) (xs : List (Nm)) (a : Option Addr) (c : Nat) (w : World) (hc : CellsAt w a (flat encNm xs)) (hl : xs.length ≤ 137438953472)
    (hE : ∀ (args : Array Value) (w : World), (callFunc F args).run Tryz.prog w = .ok (.enter F args) w)
    (hF : ∀ x ∈ xs, ∀ w1, w.grownBy w1 none → Calls Tryz.prog F #[.agg #[.string x.key, .int .i64 x.many], .pointer (some ⟨q0, 0, none⟩)] w1 fun e w2 => e = .returned (.bool (P x)) ∧ w1.grownBy w2 none) :
    Calls Tryz.prog 50 #[.slice a xs.length c, Value.func (.func F) #[] #[.pointer (some ⟨q0, 0, none⟩)]] w fun e w' => e = .returned (.int .i64 (findA P xs)) ∧ w.grownBy w' none := by
  have HF := Lib.hid hF; clear hF
  go_enter Tryz.func50, Tryz.ntmps50
  go_wp2_with (fail)
  go_loopw [8] (fun i wr => ∃ k : Nat, k ≤ xs.length ∧ i = .int .i64 k ∧ (∀ j (hj : j < xs.length), j < k → P xs[j] = false) ∧ w.grownBy wr none) (fun i _ => xs.length - (intOf i).toNat)
  case atStart => exact ⟨0, Nat.zero_le _, rfl, fun j _ hj => absurd hj (Nat.not_lt_zero _), gr_refl _ _⟩
  case round =>
    obtain ⟨k, hk, rfl, hno, hgr⟩ := hrel
    obtain ⟨wo, rfl⟩ : ∃ wo : World, wo = wr := ⟨_, rfl⟩
    have HNO := Lib.hid hno; clear hno
    by_cases hlt : k < xs.length
    · obtain ⟨b, off, rfl, hcs⟩ := flat_cells (enc := encNm) (m := 2) (fun _ => rfl) (by decide) (hc.keep0 hgr) (by omega)
      have hmem : xs[k] ∈ xs := List.getElem_mem hlt
      obtain ⟨x, hx⟩ : ∃ x, x = xs[k] := ⟨_, rfl⟩
      have HX := Lib.hid hx
      have d0 : wo.cell? ⟨b, off + k * 2, none⟩ = some (.string x.key) := by have := hcs k hlt 0 _ rfl; simpa [← HX.out] using this
      have d1 : wo.cell? ⟨b, off + k * 2 + 1, none⟩ = some (.int .i64 x.many) := by have := hcs k hlt 1 _ rfl; simpa [← HX.out] using this
      rw [← hx] at hmem
      clear hx
      have HM := Lib.hid hmem; clear hmem hcs
      go_wp2_with (fail)
      refine (HF.out x HM.out wo hgr).mono ?_
      rintro e w1 ⟨rfl, hg1⟩
      cases hp : P x with
      | true =>
        have HP := Lib.hid hp; clear hp
        go_wp2_with (fail)
        go_ret
        refine ⟨ret_int (findA_at hlt (by rw [← HX.out]; exact HP.out) (fun j hj => HNO.out j (by omega) hj)).symm, gr_trans hgr hg1⟩
      | false =>
        have HP := Lib.hid hp; clear hp
        go_wp2_with (fail)
        go_roundw
        case rel =>
          refine ⟨k + 1, by omega, by go_num, fun j hjl hj => ?_, gr_trans hgr hg1⟩
          by_cases hjk : j = k
          · subst hjk; rw [← HX.out]; exact HP.out
          · exact HNO.out j hjl (by omega)
        case measure => simp [intOf]; omega
    · have hkl : k = xs.length := by omega
      have HK := Lib.hid hkl; clear hkl
      go_wp2_with (fail)
      go_ret
      exact ⟨ret_int (findA_none (fun j hj => HNO.out j hj (by rw [HK.out]; exact hj))).symm, hgr⟩

theorem containsFunc_Nm (F : FuncId) (q0 : Nat) (P : Nm → Bool) (xs : List (Nm)) (a : Option Addr) (c : Nat) (w : World) (hc : CellsAt w a (flat encNm xs)) (hl : xs.length ≤ 137438953472)
    (hE : ∀ (args : Array Value) (w : World), (callFunc F args).run Tryz.prog w = .ok (.enter F args) w)
    (hF : ∀ x ∈ xs, ∀ w1, w.grownBy w1 none → Calls Tryz.prog F #[.agg #[.string x.key, .int .i64 x.many], .pointer (some ⟨q0, 0, none⟩)] w1 fun e w2 => e = .returned (.bool (P x)) ∧ w1.grownBy w2 none) :
    Calls Tryz.prog 14 #[.slice a xs.length c, Value.func (.func F) #[] #[.pointer (some ⟨q0, 0, none⟩)]] w fun e w' => e = .returned (.bool (xs.any P)) ∧ w.grownBy w' none := by
  have HA := Lib.hid (any_findA P xs)
  go_enter Tryz.func14, Tryz.ntmps14
  go_wp2_with (fail)
  refine (indexFunc_Nm F q0 P xs a c _ hc hl hE hF).mono ?_
  rintro e w1 ⟨rfl, hg1⟩
  go_wp2_with (fail)
  go_ret
  exact ⟨ret_bool (by rw [HA.out]), hg1⟩
end Go.Proofs.YthikknnadmebgaaGreatDoor

/-! Package slices at elements coilrack/api.Named: sorting of few. Written by mksortn.py. -/
namespace Go.Proofs.YthikknnadmebgaaGreatDoor
open Go.RowKit

theorem own_of_heapNm {w w1 : World} {base e size n : Nat} {v : Value} {xs : List Value} (h : w.ownsRow base e size v n xs) (e1 : w1.heap = w.heap) : w1.ownsRow base e size v n xs := by
  rcases h.2 with h2 | ⟨g, cap, cur, hv, hb, hg, r⟩
  · exact ⟨h.1, .inl h2⟩
  · exact ⟨h.1, .inr ⟨g, cap, cur, hv, hb, by rw [e1]; exact hg, r⟩⟩
theorem flat_rowNm (l : List Nm) (i : Nat) (h : i < l.length) (y : Nm) : (((flat encNm l).set (i * 2) (.string (y.key))).set (i * 2 + 1) (.int .i64 (y.many))) = flat encNm (l.set i y) := by
  have e0 := flat_set (enc := encNm) (m := 2) (fun _ => rfl) l i h 0 (by decide) (.string (y.key)) (⟨y.key, l[i].many⟩ : Nm) rfl
  have g1 : (l.set i (⟨y.key, l[i].many⟩ : Nm))[i]'(by simp; omega) = (⟨y.key, l[i].many⟩ : Nm) := by rw [List.getElem_set_self]
  have e1 := flat_set (enc := encNm) (m := 2) (fun _ => rfl) (l.set i (⟨y.key, l[i].many⟩ : Nm)) i (by simp; omega) 1 (by decide) (.int .i64 (y.many)) (⟨y.key, y.many⟩ : Nm) (by rw [g1]; rfl)
  rw [List.set_set] at e1
  rw [show i * 2 + 0 = i * 2 from rfl] at e0
  rw [e0, e1]
/-- A comparison of elements of a list, in worlds that differ from w at one block at most. -/
def CmpNm (F : FuncId) (cm : Nm → Nm → Int) (L : List Nm) (r : Option Nat) (w : World) : Prop :=
  ∀ (x y : Nm) (w1 : World), x ∈ L → y ∈ L → w.grownBy w1 r → Calls Tryz.prog F #[.agg #[.string (x.key), .int .i64 (x.many)], .agg #[.string (y.key), .int .i64 (y.many)]] w1 fun e w2 => e = .returned (.int .i64 (cm x y)) ∧ w1.grownBy w2 none
def SortNmPost (cm : Nm → Nm → Int) (L : List Nm) (v : Value) (n base : Nat) (w : World) (e : Ending) (w' : World) : Prop := ∃ O, e = .returned (.tuple #[]) ∧ w'.ownsRow base 42 2 v n (flat encNm O) ∧ O.Perm L ∧ Srt cm nmD O n ∧ w.grownBy w' v.ownBlock
set_option maxRecDepth 100000 in
set_option maxHeartbeats 2000000 in
theorem insertionNm_any (F : FuncId) (n : Nat) (cm : Nm → Nm → Int) (v : Value) (base : Nat) (L : List Nm) (w : World) (hown : w.ownsRow base 42 2 v n (flat encNm L)) (hL : L.length = n) (hn : n ≤ 1000)
    (hE : ∀ (args : Array Value) (w : World), (callFunc F args).run Tryz.prog w = .ok (.enter F args) w) (hc : CmpOk cm) (hF : CmpNm F cm L v.ownBlock w) :
    Calls Tryz.prog 125 #[v, .int .i64 0, .int .i64 n, .func (.func F) #[] #[]] w (SortNmPost cm L v n base w) := by
  have HF := Lib.hid hF
  have HC := Lib.hid hc
  have HL := Lib.hid hL
  obtain ⟨va, vc, rfl, _, _, _, _⟩ := own_shape hown
  clear hF hc hL
  go_enter Tryz.func125, Tryz.ntmps125
  go_wp2_with (fail)
  go_loopw [8] (fun i wr => ∃ (k : Nat) (O' : List Nm), 1 ≤ k ∧ (k ≤ n ∨ n = 0) ∧ i = .int .i64 k ∧ wr.ownsRow base 42 2 (.slice va n vc) n (flat encNm O') ∧ O'.Perm L ∧ Srt cm nmD O' k ∧ w.grownBy wr (Value.slice va n vc).ownBlock) (fun i _ => n - (intOf i).toNat)
  case atStart => exact ⟨1, L, by omega, by omega, rfl, hown, List.Perm.refl _, srt_one, gr_refl _ _⟩
  case round =>
    obtain ⟨k, O', hk, hkn1, rfl, hown', hO', hs, hgr⟩ := hrel
    obtain ⟨wo, rfl⟩ : ∃ wo : World, wo = wr := ⟨_, rfl⟩
    have HO' := Lib.hid hO'
    have HS := Lib.hid hs
    clear hO' hs
    by_cases hkn : k < n
    · obtain ⟨g, gc, hge, hgb, _, _, _⟩ := own_some hown' (by omega)
      cases hge
      go_wp2_with (fail)
      go_loopw [9] (fun i wr => ∃ (j : Nat) (O2 : List Nm), j ≤ k ∧ i = .int .i64 j ∧ wr.ownsRow base 42 2 (.slice (some ⟨g, 0, none⟩) n vc) n (flat encNm O2) ∧ O2.Perm L ∧ SrtBut cm nmD O2 k j ∧ w.grownBy wr (some g)) (fun i _ => (intOf i).toNat)
      case atStart => exact ⟨k, O', by omega, rfl, hown', HO'.out, srt_start HS.out, hgr⟩
      case round =>
        clear hgr
        obtain ⟨j, O2, hj, rfl, hown2, hO2, hb2, hgr2⟩ := hrel
        obtain ⟨wi, rfl⟩ : ∃ wi : World, wi = wr := ⟨_, rfl⟩
        have hlen := hO2.length_eq.trans HL.out
        by_cases hj0 : 0 < j
        · have hd0 : decide (0 < j) = true := decide_eq_true hj0
          obtain ⟨i, hi⟩ : ∃ i, i = j - 1 := ⟨_, rfl⟩
          have hij : i + 1 = j := by omega
          subst hij
          have hjl : i + 1 < O2.length := by omega
          have hil : i < O2.length := by omega
          have a0 := own_cellE (enc := encNm) (m := 2) (fun _ => rfl) hown2 (i + 1) hjl 0 (by decide) _ rfl hlen
          have a1 := own_cellE (enc := encNm) (m := 2) (fun _ => rfl) hown2 (i + 1) hjl 1 (by decide) _ rfl hlen
          have b0 := own_cellE (enc := encNm) (m := 2) (fun _ => rfl) hown2 (i) hil 0 (by decide) _ rfl hlen
          have b1 := own_cellE (enc := encNm) (m := 2) (fun _ => rfl) hown2 (i) hil 1 (by decide) _ rfl hlen
          have hmx : O2[i + 1] ∈ L := hO2.mem_iff.1 (List.getElem_mem _)
          have hmy : O2[i] ∈ L := hO2.mem_iff.1 (List.getElem_mem _)
          have ex : O2.getD (i + 1) nmD = O2[i + 1] := getD_eq O2 _ _ hjl
          have ey : O2.getD i nmD = O2[i] := getD_eq O2 _ _ hil
          have SW : Hid (cm O2[i + 1] O2[i] < 0 → SrtBut cm nmD (swapAt nmD O2 i) k i) := fun h => srt_swap HC.out hjl (by omega) hb2 (by rw [ex, ey]; exact h)
          have ST : Hid (¬ cm O2[i + 1] O2[i] < 0 → Srt cm nmD O2 (k + 1)) := fun h => srt_stop HC.out hb2 (by rw [ex, ey]; exact h)
          have PM : Hid ((swapAt nmD O2 i).Perm L) := (swapAt_perm i hjl).trans hO2
          have WR : Hid (∀ W : World, W.ownsRow base 42 2 (.slice (some ⟨g, 0, none⟩) n vc) n (flat encNm O2) → w.grownBy W (some g) → (((((W.setCell ⟨g, (i + 1) * 2, none⟩ (.string (O2[i].key))).setCell ⟨g, (i + 1) * 2 + 1, none⟩ (.int .i64 (O2[i].many))).setCell ⟨g, i * 2, none⟩ (.string (O2[i + 1].key))).setCell ⟨g, i * 2 + 1, none⟩ (.int .i64 (O2[i + 1].many)))).ownsRow base 42 2 (.slice (some ⟨g, 0, none⟩) n vc) n (flat encNm (swapAt nmD O2 i)) ∧ w.grownBy (((((W.setCell ⟨g, (i + 1) * 2, none⟩ (.string (O2[i].key))).setCell ⟨g, (i + 1) * 2 + 1, none⟩ (.int .i64 (O2[i].many))).setCell ⟨g, i * 2, none⟩ (.string (O2[i + 1].key))).setCell ⟨g, i * 2 + 1, none⟩ (.int .i64 (O2[i + 1].many)))) (some g)) := fun W hW gW => by
            refine ⟨?_, (gr_set (gr_set (gr_set (gr_set gW rfl _) rfl _) rfl _) rfl _)⟩
            have h5 := ((((hW.stored ((i + 1) * 2) (.string (O2[i].key))).1.stored ((i + 1) * 2 + 1) (.int .i64 (O2[i].many))).1.stored (i * 2) (.string (O2[i + 1].key))).1.stored (i * 2 + 1) (.int .i64 (O2[i + 1].many))).1
            rw [flat_rowNm O2 (i + 1) hjl O2[i], flat_rowNm (O2.set (i + 1) O2[i]) i (by simp; omega) O2[i + 1]] at h5
            unfold swapAt
            rw [ex, ey]
            exact h5
          have CC : Hid (∀ W, wi.grownBy W none → Calls Tryz.prog F #[.agg #[.string (O2[i + 1].key), .int .i64 (O2[i + 1].many)], .agg #[.string (O2[i].key), .int .i64 (O2[i].many)]] W fun e w2 => e = .returned (.int .i64 (cm O2[i + 1] O2[i])) ∧ W.grownBy w2 none) := fun W hW => HF.out _ _ W hmx hmy (gr_trans hgr2 (gr_weak hW _))
          obtain ⟨x, hx⟩ : ∃ x, x = O2[i + 1] := ⟨_, rfl⟩
          obtain ⟨y, hy⟩ : ∃ y, y = O2[i] := ⟨_, rfl⟩
          rw [← hx, ← hy] at SW ST CC WR
          rw [← hx] at a0 a1
          rw [← hy] at b0 b1
          obtain ⟨x0, x1⟩ := x
          obtain ⟨y0, y1⟩ := y
          simp only at CC WR
          obtain ⟨c, hcv⟩ : ∃ c, c = cm ⟨x0, x1⟩ ⟨y0, y1⟩ := ⟨_, rfl⟩
          rw [← hcv] at SW ST CC
          obtain ⟨a0, fa0, -⟩ := a0
          obtain ⟨a1, fa1, -⟩ := a1
          obtain ⟨b0, fb0, -⟩ := b0
          obtain ⟨b1, fb1, -⟩ := b1
          have a0 : wi.cell? ⟨g, (i + 1) * 2, none⟩ = some (.string (x0)) := a0
          have a1 : wi.cell? ⟨g, (i + 1) * 2 + 1, none⟩ = some (.int .i64 (x1)) := a1
          have b0 : wi.cell? ⟨g, i * 2, none⟩ = some (.string (y0)) := b0
          have b1 : wi.cell? ⟨g, i * 2 + 1, none⟩ = some (.int .i64 (y1)) := b1
          have ga0 := grew_cell a0
          have ga1 := grew_cell a1
          have gb0 := grew_cell b0
          have gb1 := grew_cell b1
          have FA0 := Lib.hid fa0
          have FA1 := Lib.hid fa1
          have FB0 := Lib.hid fb0
          have FB1 := Lib.hid fb1
          have HOW := Lib.hid hown2
          have HGR2 := Lib.hid hgr2
          have hgl := lt_of_cell a0
          have HPM2 := Lib.hid hO2
          have hi1 : ((i : Int) + 1 - 1) = i := by omega
          have hwi : IntKind.i64.wrap (((i : Int) + 1) - 1) = i := by rw [hi1]; exact IntWalk.i64_in _ (by omega)
          have hq0 : (0 : Int) ≤ (i : Int) := by omega
          have hq1 : (i : Int) < (n : Int) := by omega
          have hq2 : (0 : Int) ≤ (i : Int) + 1 := by omega
          have hq3 : (i : Int) + 1 < (n : Int) := by omega
          have hq4 : ((i : Int) + 1).toNat = i + 1 := by omega
          have hq5 : decide ((0 : Int) < (i : Int) + 1) = true := decide_eq_true (by omega)
          clear hown2 hgr2 hO2 hb2 hmx hmy ex ey hx hy hcv fa0 fa1 fb0 fb1 hlen hi hown' hi1
          by_cases hc0 : c < 0
          · have hdc : decide (c < 0) = true := decide_eq_true hc0
            go_wp2_with (fail)
            refine wp_region_grew (by kernel_rfl) (by kernel_rfl) ?_
            repeat (go_big_quiet_step (first | (exact Calls.grew_of (fun W h => CC.out W h))))
            refine wpQuiet_nil ?_
            rintro wq ⟨nn, rfl⟩
            have gq := nn.gr
            have A0 := ga0 nn
            have A1 := ga1 nn
            have B0 := gb0 nn
            have B1 := gb1 nn
            have Fa0 := (gr_free gq hgl (o := (i + 1) * 2)).trans FA0.out
            have Fa1 := (gr_free gq hgl (o := (i + 1) * 2 + 1)).trans FA1.out
            have Fb0 := (gr_free gq hgl (o := i * 2)).trans FB0.out
            have Fb1 := (gr_free gq hgl (o := i * 2 + 1)).trans FB1.out
            have HOQ := Lib.hid (own_keep0 HOW.out gq)
            have HGQ := Lib.hid (gr_trans HGR2.out (gr_weak gq _))
            obtain ⟨wn, hwn⟩ : ∃ wn, wn = nn.w := ⟨_, rfl⟩
            rw [← hwn] at A0 A1 B0 B1 Fa0 Fa1 Fb0 Fb1 HOQ HGQ
            rw [← hwn]
            clear gq hwn ga0 ga1 gb0 gb1 a0 a1 b0 b1 hwi hq2 hq3 hq4 hq5 FA0 FA1 FB0 FB1
            go_wp2_with (fail)
            go_region
            all_goals (go_wp2_with (fail))
            all_goals go_roundw
            all_goals first | (simp [intOf]; done) | skip
            all_goals
              refine ⟨i, swapAt nmD O2 i, by omega, by go_num, ?_, PM.out, SW.out hc0, ?_⟩
            all_goals first
              | (with_reducible refine (WR.out _ ?_ ?_).1; (· exact own_keep0 HOQ.out (gr_drew (gr_refl _ _))); exact gr_drew HGQ.out)
              | (with_reducible refine (WR.out _ ?_ ?_).2; (· exact own_keep0 HOQ.out (gr_drew (gr_refl _ _))); exact gr_drew HGQ.out)
              | (with_reducible refine own_keep0 (WR.out _ ?_ ?_).1 (gr_drew (gr_refl _ _)); (· exact HOQ.out); exact HGQ.out)
              | (with_reducible refine gr_drew (WR.out _ ?_ ?_).2; (· exact HOQ.out); exact HGQ.out)
              | fail
          · have hdc : decide (c < 0) = false := decide_eq_false hc0
            go_wp2_with (fail)
            refine wp_region_grew (by kernel_rfl) (by kernel_rfl) ?_
            repeat (go_big_quiet_step (first | (exact Calls.grew_of (fun W h => CC.out W h))))
            refine wpQuiet_nil ?_
            rintro wq ⟨nn, rfl⟩
            have HGQ := Lib.hid (gr_trans HGR2.out (gr_weak nn.gr _))
            have HW := Lib.hid (own_keep0 HOW.out nn.gr)
            clear ga0 ga1 gb0 gb1 a0 a1 b0 b1
            go_wp2_with (fail)
            go_roundw
            case rel => exact ⟨k + 1, O2, by omega, by omega, by go_num, HW.out, HPM2.out, ST.out hc0, HGQ.out⟩
            case measure => simp [intOf]; omega
        · have hd0 : decide (0 < j) = false := decide_eq_false hj0
          obtain rfl : j = 0 := by omega
          have HOWN2 := Lib.hid hown2
          have HGR2 := Lib.hid hgr2
          have HPM2 := Lib.hid hO2
          have HZ := Lib.hid (srt_zero hb2)
          have hq5 : decide ((0 : Int) < 0) = false := by decide
          clear hown2 hgr2 hO2 hb2 hlen
          go_wp2_with (fail)
          go_quiet (fail)
          go_wp2_with (fail)
          go_roundw
          case rel => exact ⟨k + 1, O2, by omega, by omega, by go_num, own_keep0 HOWN2.out (gr_drewN (gr_refl _ _) _), HPM2.out, HZ.out, gr_drewN HGR2.out _⟩
          case measure => simp [intOf]; omega
    · have HW := Lib.hid hown'
      clear hown'
      go_wp2_with (fail)
      go_end0
      have hS : Srt cm nmD O' n := fun p q h1 h2 => HS.out p q h1 (by omega)
      exact ⟨O', rfl, HW.out, HO'.out, hS, hgr⟩
set_option maxRecDepth 100000 in
theorem pdqNm_few (F : FuncId) (n : Nat) (cm : Nm → Nm → Int) (v : Value) (base : Nat) (L : List Nm) (w : World) (hown : w.ownsRow base 42 2 v n (flat encNm L)) (hL : L.length = n) (hn : n ≤ 12) (lim : Int)
    (hE : ∀ (args : Array Value) (w : World), (callFunc F args).run Tryz.prog w = .ok (.enter F args) w) (hc : CmpOk cm) (hF : CmpNm F cm L v.ownBlock w) :
    Calls Tryz.prog 90 #[v, .int .i64 0, .int .i64 n, .int .i64 lim, .func (.func F) #[] #[]] w (SortNmPost cm L v n base w) := by
  have IS := Lib.hid (insertionNm_any F n cm v base L w hown hL (by omega) hE hc hF)
  obtain ⟨va, vc, rfl, _, _, _, _⟩ := own_shape hown
  clear hF hE hown hL hc
  have d12 : decide ((n : Int) ≤ 12) = true := decide_eq_true (by omega)
  go_enter Tryz.func90, Tryz.ntmps90
  go_wp2_with (fail)
  go_loopw [1, 2, 3, 10, 11] (fun b c d g h wr => b = .int .i64 0 ∧ c = .int .i64 n ∧ d = .int .i64 lim ∧ g = .bool true ∧ h = .bool true ∧ wr = w) (fun _ _ _ _ _ _ => 0)
  case atStart => exact ⟨rfl, rfl, rfl, rfl, rfl, rfl⟩
  case round =>
    obtain ⟨rfl, rfl, rfl, rfl, rfl, rfl⟩ := hrel
    go_wp2_with (fail)
    refine IS.out.mono ?_
    rintro e w2 ⟨O2, rfl, h1, h2, h3, h4⟩
    have H1 := Lib.hid h1
    have H2 := Lib.hid h2
    have H3 := Lib.hid h3
    clear h1 h2 h3
    go_wp2_with (fail)
    go_end0
    exact ⟨O2, rfl, H1.out, H2.out, H3.out, h4⟩
theorem sortFNm_few (F : FuncId) (n : Nat) (cm : Nm → Nm → Int) (v : Value) (base : Nat) (L : List Nm) (w : World) (hown : w.ownsRow base 42 2 v n (flat encNm L)) (hL : L.length = n) (hn : n ≤ 12)
    (hE : ∀ (args : Array Value) (w : World), (callFunc F args).run Tryz.prog w = .ok (.enter F args) w) (hc : CmpOk cm) (hF : CmpNm F cm L v.ownBlock w) :
    Calls Tryz.prog 45 #[v, .func (.func F) #[] #[]] w (SortNmPost cm L v n base w) := by
  have IS := Lib.hid (fun lim => pdqNm_few F n cm v base L w hown hL hn lim hE hc hF)
  have LN := Lib.hid (len_few n hn)
  obtain ⟨va, vc, rfl, _, _, _, _⟩ := own_shape hown
  clear hF hE hown hL hc
  go_enter Tryz.func45, Tryz.ntmps45
  go_wp2_with (fail)
  refine (LN.out _).mono ?_
  rintro e w1 ⟨r, rfl, rfl⟩
  go_wp2_with (fail)
  refine (IS.out r).mono ?_
  rintro e w2 ⟨O2, rfl, h1, h2, h3, h4⟩
  have H1 := Lib.hid h1
  have H2 := Lib.hid h2
  have H3 := Lib.hid h3
  clear h1 h2 h3
  go_wp2_with (fail)
  go_end0
  exact ⟨O2, rfl, H1.out, H2.out, H3.out, h4⟩
end Go.Proofs.YthikknnadmebgaaGreatDoor
