/- slices.Grow of nil and slices.Concat of two slices of ints. -/
import Derived.Test.YtakabckmiodjaaaDoorPkDAd
import Derived.Test.YtakabckmiodjaaaDoorPkDAc
import Derived.Lib.AppendZeros
namespace Go.Proofs.YtakabckmiodjaaaDoor
open Go.RowKit

set_option maxRecDepth 100000 in
theorem grow_nil (n : Nat) (w : World) (hn : n ≤ 1000000) :
    Calls Tryd.prog 93 #[.slice none 0 0, .int .i64 n] w fun e w' => ∃ v, e = .returned v ∧ w'.ownsRow w.heap.size 3 1 v 0 [] ∧ w.grownBy w' none := by
  by_cases h0 : n = 0
  · subst h0
    go_enter Tryd.func93, Tryd.ntmps93
    go_wp2_with (fail)
    go_ret
    exact ⟨_, rfl, World.ownsRow_nil _ _ _ _, gr_refl _ _⟩
  · obtain ⟨i, hi, hz, hz1, hz2⟩ := info_parts eInt.info
    have htn : Tryd.prog.underlying 3 = some (.int .i64) := by kernel_rfl
    have hpos : 0 < n := by omega
    have hposI : (0 : Int) < (n : Int) := by omega
    obtain ⟨cp, hcp⟩ : ∃ cp, cp = grownCap w n 0 3 := ⟨_, rfl⟩
    obtain ⟨cur, hcur⟩ : ∃ cur, cur = Builtin.zeroCells (Value.int .i64 0).cells n ++ Builtin.zeroCells (Value.int .i64 0).cells (grownCap w n 0 3 - n) := ⟨_, rfl⟩
    have hr : (Builtin.append_ #[22, 3] 22 #[.slice none 0 0, .int .i64 n]).run Tryd.prog w = .ok (.slice (some ⟨w.heap.size, 0, none⟩) n cp) (w.drew.alloc (.cells cur 3)) := by
      rw [hcp, hcur]
      refine Lib.run_append_nil_zeros w 22 3 22 3 i (.int .i64 0) .i64 .i64 eInt.und htn hi hz n hpos ?_ ?_ ?_
      · omega
      · omega
      · rw [hz2]; omega
    have h1 := grownCap_ge w n 0 3
    have h2 := grownCap_le_maxLen w n 0 3 (by unfold maxLen; omega)
    rw [← hcp] at h1 h2
    have hs : cur.size = cp * 1 := by
      rw [hcur, Array.size_append, size_zeroCells, size_zeroCells, ← hcp]
      show n * 1 + (cp - n) * 1 = cp * 1
      omega
    have HR := Lib.hid hr
    have HS := Lib.hid hs
    have H2 := Lib.hid h2
    clear hr hs h2 hcp hcur hi hz hz1 hz2 htn
    go_enter Tryd.func93, Tryd.ntmps93
    go_wp2_with (at_builtin; refine Lib.wpList_append_run _ rfl _ _ _ _ rfl _ _ rfl rfl _ _ HR.out ?_)
    go_ret
    refine ⟨_, rfl, ⟨rfl, .inr ⟨w.heap.size, cp, cur, rfl, Nat.le_refl _, heap_alloc_new w.drew _, Nat.zero_le _, H2.out, HS.out, by simp⟩⟩, ?_⟩
    exact gr_alloc (gr_drew (gr_refl w none)) _

set_option maxRecDepth 100000 in
set_option maxHeartbeats 1000000 in
theorem concat_two (X Y : List Int) (b c : Nat) (a1 a2 : Option Addr) (c1 c2 : Nat) (w : World) (d0 : w.cell? ⟨b, 0, none⟩ = some (.slice a1 X.length c1)) (d1 : w.cell? ⟨b, 1, none⟩ = some (.slice a2 Y.length c2))
    (hX : CellsAt w a1 (ints X)) (hY : CellsAt w a2 (ints Y)) (hn1 : a1 = none → c1 = 0) (hn2 : a2 = none → c2 = 0) (hl1 : X.length ≤ 100000) (hl2 : Y.length ≤ 100000) :
    Calls Tryd.prog 70 #[.slice (some ⟨b, 0, none⟩) 2 c] w fun e w' => ∃ v, e = .returned v ∧ w'.ownsRow w.heap.size 3 1 v (X ++ Y).length (ints (X ++ Y)) ∧ w.grownBy w' none := by
  go_enter Tryd.func70, Tryd.ntmps70
  go_wp2_with (fail)
  go_loopw [3, 11] (fun sz i wr => wr = w ∧ ((i = .int .i64 0 ∧ sz = .int .i64 0) ∨ (i = .int .i64 1 ∧ sz = .int .i64 X.length) ∨ (i = .int .i64 2 ∧ sz = .int .i64 (X.length + Y.length : Nat)))) (fun _ i _ => 2 - (intOf i).toNat)
  case atStart => exact ⟨rfl, .inl ⟨rfl, rfl⟩⟩
  case round =>
    obtain ⟨hwe, hcase⟩ := hrel
    subst hwe
    obtain ⟨wo, rfl⟩ : ∃ wo : World, wo = wr := ⟨_, rfl⟩
    rcases hcase with ⟨rfl, rfl⟩ | ⟨rfl, rfl⟩ | ⟨rfl, rfl⟩
    · go_wp2_with (fail)
      go_roundw
      case rel => exact ⟨trivial, .inr (.inl ⟨by go_num, by go_num⟩)⟩
      case measure => simp [intOf]
    · go_wp2_with (fail)
      go_roundw
      case rel => exact ⟨trivial, .inr (.inr ⟨by go_num, by go_num⟩)⟩
      case measure => simp [intOf]
    · go_wp2_with (fail)
      refine (grow_nil (X.length + Y.length) wo (by omega)).mono ?_
      rintro e w1 ⟨v1, rfl, hown1, hg1⟩
      go_wp2_with (fail)
      have hb := lt_of_cell d0
      go_loopw [6, 27] (fun v i wr => wo.grownBy wr none ∧ ((i = .int .i64 0 ∧ wr.ownsRow wo.heap.size 3 1 v 0 []) ∨ (i = .int .i64 1 ∧ wr.ownsRow wo.heap.size 3 1 v X.length (ints X)) ∨ (i = .int .i64 2 ∧ wr.ownsRow wo.heap.size 3 1 v (X.length + Y.length) (ints X ++ ints Y)))) (fun _ i _ => 2 - (intOf i).toNat)
      case atStart => exact ⟨hg1, .inl ⟨rfl, hown1⟩⟩
      case round =>
        obtain ⟨hgr, hcase⟩ := hrel
        obtain ⟨wi, rfl⟩ : ∃ wi : World, wi = wr := ⟨_, rfl⟩
        have e0 := (gr_cell hgr hb (o := 0)).trans d0
        have e1 := (gr_cell hgr hb (o := 1)).trans d1
        have hX2 := hX.keep0 hgr
        have hY2 := hY.keep0 hgr
        have hsz := hgr.size
        rcases hcase with ⟨rfl, hown⟩ | ⟨rfl, hown⟩ | ⟨rfl, hown⟩
        · go_wp2_with (at_builtin; refine wpList_app eInt rfl _ _ rfl wo.heap.size _ _ _ rfl hown _ X.length c1 (ints X) rfl ?_ hX2 hn1 (ints_one X) ?_ hsz ?_; (· simp [ints]); (· omega); intro v6 w6 hown6 hg6)
          go_wp2_with (fail)
          go_roundw
          case rel => exact ⟨gr_grown hgr hg6 (fun r hr => (hown.lt r hr).1), .inr (.inl ⟨by go_num, by simpa using hown6⟩)⟩
          case measure => simp [intOf]
        · go_wp2_with (at_builtin; refine wpList_app eInt rfl _ _ rfl wo.heap.size _ _ _ rfl hown _ Y.length c2 (ints Y) rfl ?_ hY2 hn2 (ints_one Y) ?_ hsz ?_; (· simp [ints]); (· omega); intro v6 w6 hown6 hg6)
          go_wp2_with (fail)
          go_roundw
          case rel => exact ⟨gr_grown hgr hg6 (fun r hr => (hown.lt r hr).1), .inr (.inr ⟨by go_num, hown6⟩)⟩
          case measure => simp [intOf]
        · go_wp2_with (fail)
          go_ret
          refine ⟨_, rfl, ?_, hgr⟩
          rw [List.length_append, show ints (X ++ Y) = ints X ++ ints Y from by simp [ints]]
          exact hown
end Go.Proofs.YtakabckmiodjaaaDoor

/-! slices.Concat of rows of ints. -/
namespace Go.Proofs.YtakabckmiodjaaaDoor
open Go.RowKit

theorem flat_take_next (T : List (List Int)) (k : Nat) (h : k < T.length) : (T.take (k + 1)).flatten = (T.take k).flatten ++ T.getD k [] := by
  rw [List.getD_eq_getElem?_getD, List.getElem?_eq_getElem h, List.take_succ_eq_append_getElem h, List.flatten_append]
  simp only [List.flatten_cons, List.flatten_nil, List.append_nil, Option.getD_some]
theorem flat_take_le (T : List (List Int)) (k : Nat) : (T.take k).flatten.length ≤ T.flatten.length := by
  have h : T.flatten = (T.take k).flatten ++ (T.drop k).flatten := by rw [← List.flatten_append, List.take_append_drop]
  rw [h, List.length_append]; omega

set_option maxRecDepth 100000 in
set_option maxHeartbeats 1000000 in
theorem concat_rows (T : List (List Int)) (b o c : Nat) (w : World) (hT : ∀ i, i < T.length → ∃ ra rc, w.cell? ⟨b, o + i, none⟩ = some (.slice ra (T.getD i []).length rc) ∧ CellsAt w ra (ints (T.getD i [])) ∧ (ra = none → rc = 0)) (hl : T.flatten.length ≤ 100000) (hTl : T.length ≤ 100000) :
    Calls Tryd.prog 70 #[.slice (some ⟨b, o, none⟩) T.length c] w fun e w' => ∃ v, e = .returned v ∧ w'.ownsRow w.heap.size 3 1 v T.flatten.length (ints T.flatten) ∧ w.grownBy w' none := by
  have HT := Lib.hid hT
  clear hT
  go_enter Tryd.func70, Tryd.ntmps70
  go_wp2_with (fail)
  go_loop [3, 11] (fun sz i => ∃ k : Nat, k ≤ T.length ∧ i = .int .i64 k ∧ ∃ s : Nat, s = (T.take k).flatten.length ∧ sz = .int .i64 s) (fun _ i => T.length - (intOf i).toNat)
  case atStart => exact ⟨0, Nat.zero_le _, rfl, 0, by simp, rfl⟩
  case round =>
    obtain ⟨k, hk, rfl, s, hs, rfl⟩ := hrel
    have hle := flat_take_le T k
    by_cases hlt : k < T.length
    · obtain ⟨ra, rc, hc, _, _⟩ := HT.out k hlt
      have hnx := congrArg List.length (flat_take_next T k hlt)
      rw [List.length_append] at hnx
      have hle2 := flat_take_le T (k + 1)
      obtain ⟨m, hm⟩ : ∃ m, m = (T.getD k []).length := ⟨_, rfl⟩
      rw [← hs] at hnx hle
      rw [← hm] at hnx hc
      have hsm : s + m ≤ 100000 := by omega
      have HNX := Lib.hid hnx
      clear hnx hs hm hle2
      go_wp2_with (fail)
      go_round
      case rel => exact ⟨k + 1, by omega, by go_num, s + m, HNX.out.symm, by go_num⟩
      case measure => simp [intOf]; omega
    · have hkl : k = T.length := by omega
      have hfl : (T.take k).flatten.length = T.flatten.length := by rw [hkl, List.take_length]
      have hs2 : s = T.flatten.length := by rw [hs, hfl]
      have hs3 : s ≤ 100000 := by omega
      have HS2 := Lib.hid hs2
      clear hkl hfl hle hs hs2
      go_wp2_with (fail)
      refine (grow_nil s w (by omega)).mono ?_
      rintro e w1 ⟨v1, rfl, hown1, hg1⟩
      go_wp2_with (fail)
      go_loopw [6, 27] (fun v i wr => ∃ j : Nat, j ≤ T.length ∧ i = .int .i64 j ∧ wr.ownsRow w.heap.size 3 1 v (T.take j).flatten.length (ints (T.take j).flatten) ∧ w.grownBy wr none) (fun _ i _ => T.length - (intOf i).toNat)
      case atStart => exact ⟨0, Nat.zero_le _, rfl, by simpa [ints] using hown1, hg1⟩
      case round =>
        obtain ⟨j, hj, rfl, hown, hgr⟩ := hrel
        obtain ⟨wi, rfl⟩ : ∃ wi : World, wi = wr := ⟨_, rfl⟩
        have hsz := hgr.size
        by_cases hlt2 : j < T.length
        · obtain ⟨ra, rc, hc, hra, hnil⟩ := HT.out j hlt2
          have hc2 := (gr_cell hgr (lt_of_cell hc)).trans hc
          have hra2 := hra.keep0 hgr
          have hnx := flat_take_next T j hlt2
          have hle3 := flat_take_le T j
          have hle2 := flat_take_le T (j + 1)
          have hnl := congrArg List.length hnx
          rw [List.length_append] at hnl
          obtain ⟨X, hX⟩ : ∃ X, X = (T.take j).flatten := ⟨_, rfl⟩
          obtain ⟨R, hR⟩ : ∃ R, R = T.getD j [] := ⟨_, rfl⟩
          rw [← hX] at hown hle3 hnl hnx
          rw [← hR] at hc2 hra2 hnx hnl
          have hb1 : X.length + R.length ≤ 100000 := by omega
          have HNX := Lib.hid hnx
          clear hnx hX hR hc hra hnl hle2
          go_wp2_with (at_builtin; refine wpList_app eInt rfl _ _ rfl w.heap.size _ _ _ rfl hown _ R.length rc (ints R) rfl ?_ hra2 hnil (ints_one R) ?_ hsz ?_; (· simp [ints]); (· omega); intro v6 w6 hown6 hg6)
          go_wp2_with (fail)
          go_roundw
          case rel => exact ⟨j + 1, by omega, by go_num, by rw [HNX.out, List.length_append, show ints (X ++ R) = ints X ++ ints R from by simp [ints]]; exact hown6, gr_grown hgr hg6 (fun r hr => (hown.lt r hr).1)⟩
          case measure => simp [intOf]; omega
        · have hjl : j = T.length := by omega
          rw [hjl, List.take_length] at hown
          clear hjl
          go_wp2_with (fail)
          go_ret
          exact ⟨_, rfl, hown, hgr⟩
end Go.Proofs.YtakabckmiodjaaaDoor
