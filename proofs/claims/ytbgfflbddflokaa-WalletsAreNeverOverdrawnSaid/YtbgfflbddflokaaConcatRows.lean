/- slices.Concat of rows of ints. -/
import Derived.Test.YtbgfflbddflokaaConcat
namespace Go.Proofs.Ytbgfflbddflokaa
open Go.RowKit

theorem flat_take_next (T : List (List Int)) (k : Nat) (h : k < T.length) : (T.take (k + 1)).flatten = (T.take k).flatten ++ T.getD k [] := by
  rw [List.getD_eq_getElem?_getD, List.getElem?_eq_getElem h, List.take_succ_eq_append_getElem h, List.flatten_append]
  simp only [List.flatten_cons, List.flatten_nil, List.append_nil, Option.getD_some]
theorem flat_take_le (T : List (List Int)) (k : Nat) : (T.take k).flatten.length ≤ T.flatten.length := by
  have h : T.flatten = (T.take k).flatten ++ (T.drop k).flatten := by rw [← List.flatten_append, List.take_append_drop]
  rw [h, List.length_append]; omega

set_option maxRecDepth 100000 in
set_option maxHeartbeats 1000000 in
theorem concat_rows (T : List (List Int)) (b o c : Nat) (w : World) (hT : ∀ i, i < T.length → ∃ ra rc, w.cell? ⟨b, o + i, none⟩ = some (.slice ra (T.getD i []).length rc) ∧ CellsAt w ra (ints (T.getD i [])) ∧ (ra = none → rc = 0)) (hl : T.flatten.length ≤ 100000) (hTl : T.length ≤ 100000) :
    Calls Try.prog 118 #[.slice (some ⟨b, o, none⟩) T.length c] w fun e w' => ∃ v, e = .returned v ∧ w'.ownsRow w.heap.size 3 1 v T.flatten.length (ints T.flatten) ∧ w.grownBy w' none := by
  have HT := Lib.hid hT
  clear hT
  go_enter Try.func118, Try.ntmps118
  go_wp2_with (fail)
  go_loop [3, 11] (fun sz i => ∃ k : Nat, k ≤ T.length ∧ i = .int .i64 k ∧ ∃ s : Nat, s = (T.take k).flatten.length ∧ sz = .int .i64 s) (fun _ i => T.length - (intOf i).toNat)
  case atStart => exact ⟨0, Nat.zero_le _, rfl, 0, by simp, rfl⟩
  case round =>
    obtain ⟨k, hk, rfl, s, hs, rfl⟩ := hrel
    have hle := flat_take_le T k
    by_cases hlt : k < T.length
    · obtain ⟨ra, rc, hc, _, _⟩ := HT.out k hlt
      have hnx := congrArg List.length (flat_take_next T k hlt)
      rw [List.length_append] at hnx
      have hle2 := flat_take_le T (k + 1)
      obtain ⟨m, hm⟩ : ∃ m, m = (T.getD k []).length := ⟨_, rfl⟩
      rw [← hs] at hnx hle
      rw [← hm] at hnx hc
      have hsm : s + m ≤ 100000 := by omega
      have HNX := Lib.hid hnx
      clear hnx hs hm hle2
      go_wp2_with (fail)
      go_round
      case rel => exact ⟨k + 1, by omega, by go_num, s + m, HNX.out.symm, by go_num⟩
      case measure => simp [intOf]; omega
    · have hkl : k = T.length := by omega
      have hfl : (T.take k).flatten.length = T.flatten.length := by rw [hkl, List.take_length]
      have hs2 : s = T.flatten.length := by rw [hs, hfl]
      have hs3 : s ≤ 100000 := by omega
      have HS2 := Lib.hid hs2
      clear hkl hfl hle hs hs2
      go_wp2_with (fail)
      refine (grow_nil s w (by omega)).mono ?_
      rintro e w1 ⟨v1, rfl, hown1, hg1⟩
      go_wp2_with (fail)
      go_loopw [6, 27] (fun v i wr => ∃ j : Nat, j ≤ T.length ∧ i = .int .i64 j ∧ wr.ownsRow w.heap.size 3 1 v (T.take j).flatten.length (ints (T.take j).flatten) ∧ w.grownBy wr none) (fun _ i _ => T.length - (intOf i).toNat)
      case atStart => exact ⟨0, Nat.zero_le _, rfl, by simpa [ints] using hown1, hg1⟩
      case round =>
        obtain ⟨j, hj, rfl, hown, hgr⟩ := hrel
        obtain ⟨wi, rfl⟩ : ∃ wi : World, wi = wr := ⟨_, rfl⟩
        have hsz := hgr.size
        by_cases hlt2 : j < T.length
        · obtain ⟨ra, rc, hc, hra, hnil⟩ := HT.out j hlt2
          have hc2 := (gr_cell hgr (lt_of_cell hc)).trans hc
          have hra2 := hra.keep0 hgr
          have hnx := flat_take_next T j hlt2
          have hle3 := flat_take_le T j
          have hle2 := flat_take_le T (j + 1)
          have hnl := congrArg List.length hnx
          rw [List.length_append] at hnl
          obtain ⟨X, hX⟩ : ∃ X, X = (T.take j).flatten := ⟨_, rfl⟩
          obtain ⟨R, hR⟩ : ∃ R, R = T.getD j [] := ⟨_, rfl⟩
          rw [← hX] at hown hle3 hnl hnx
          rw [← hR] at hc2 hra2 hnx hnl
          have hb1 : X.length + R.length ≤ 100000 := by omega
          have HNX := Lib.hid hnx
          clear hnx hX hR hc hra hnl hle2
          go_wp2_with (at_builtin; refine wpList_app eInt rfl _ _ rfl w.heap.size _ _ _ rfl hown _ R.length rc (ints R) rfl ?_ hra2 hnil (ints_one R) ?_ hsz ?_; (· simp [ints]); (· omega); intro v6 w6 hown6 hg6)
          go_wp2_with (fail)
          go_roundw
          case rel => exact ⟨j + 1, by omega, by go_num, by rw [HNX.out, List.length_append, show ints (X ++ R) = ints X ++ ints R from by simp [ints]]; exact hown6, gr_grown hgr hg6 (fun r hr => (hown.lt r hr).1)⟩
          case measure => simp [intOf]; omega
        · have hjl : j = T.length := by omega
          rw [hjl, List.take_length] at hown
          clear hjl
          go_wp2_with (fail)
          go_ret
          exact ⟨_, rfl, hown, hgr⟩
end Go.Proofs.Ytbgfflbddflokaa
