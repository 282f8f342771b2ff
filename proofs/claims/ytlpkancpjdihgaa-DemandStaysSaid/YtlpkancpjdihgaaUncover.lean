/- Package demand on days: what was probably wanted. -/
import Derived.Test.YtlpkancpjdihgaaRates
import Derived.Test.YtlpkancpjdihgaaKitB
import Derived.Test.YtlpkancpjdihgaaMakeInts
namespace Go.Proofs.Ytlpkancpjdihgaa
open Go.RowKit


def wantOf (t : Int) (n : Nat) (s : Sale) : Int := if s.out = true ∧ 0 < n then (if s.sold < (t + n - 1) / n then (t + n - 1) / n else s.sold) else s.sold
def wants (l : List Sale) : List Int := l.map (wantOf (tot allP l) (cnt allP l))
theorem wantOf_ge (t : Int) (n : Nat) (s : Sale) : s.sold ≤ wantOf t n s ∧ (s.out = false → wantOf t n s = s.sold) := by
  unfold wantOf
  split
  · rename_i h
    exact ⟨by split <;> omega, fun e => by rw [e] at h; cases h.1⟩
  · exact ⟨Int.le_refl _, fun _ => rfl⟩

set_option maxRecDepth 100000 in
set_option maxHeartbeats 2000000 in
theorem uncover_any (l : List Sale) (a : Option Addr) (c : Nat) (w : World) (hc : CellsAt w a (sales l)) (ho : OkDays l) :
    Calls Try.prog 19 #[.slice a l.length c] w fun e w' => ∃ v, e = .returned (.tuple #[v, .int .i64 0]) ∧ w'.ownsRow w.heap.size 3 1 v l.length (ints (wants l)) ∧ w.grownBy w' none := by
  have hl := ho.len
  have hcl := cnt_le allP l
  have htb := tot_bound allP l ho l.length (Nat.le_refl _)
  rw [List.take_length] at htb
  obtain ⟨t, ht⟩ : ∃ t, t = tot allP l := ⟨_, rfl⟩
  obtain ⟨n, hn⟩ : ∃ n, n = cnt allP l := ⟨_, rfl⟩
  rw [← ht] at htb
  rw [← hn] at hcl
  obtain ⟨ht0, ht1⟩ := htb
  obtain ⟨W, hW⟩ : ∃ W, W = wants l := ⟨_, rfl⟩
  have hWl : W.length = l.length := by rw [hW]; simp [wants]
  have hWk : ∀ k, k < l.length → W.getD k 0 = wantOf t n (sAt l k) := by
    intro k hk
    rw [hW, ht, hn, wants, sAt, List.getD_eq_getElem?_getD, List.getD_eq_getElem?_getD, List.getElem?_map, List.getElem?_eq_getElem hk]
    rfl
  rw [← hW]
  have HWL := Lib.hid hWl; clear hWl hW
  have HWK := Lib.hid hWk; clear hWk
  have HT := Lib.hid ht; clear ht
  have HN := Lib.hid hn; clear hn
  go_enter Try.func19, Try.ntmps19
  go_wp2_with (fail)
  refine (checkDays_any l a c _ hc (by omega)).mono ?_
  rintro e w1 ⟨r, rfl, hr, hg1⟩
  have hr0 := hr.2 ho
  subst hr0; clear hr
  go_wp2_with (fail)
  refine (sumAll_any l a c _ (hc.keep0 hg1) ho).mono ?_
  rintro e w2 ⟨rfl, hg2⟩
  rw [← HT.out, ← HN.out]
  have hg := gr_trans hg1 hg2
  clear hg1 hg2
  go_wp2_with (fail)
  go_loopw [7, 23] (fun v i wr => ∃ k : Nat, k ≤ l.length ∧ i = .int .i64 k ∧ wr.ownsRow w.heap.size 3 1 v k (ints (W.take k)) ∧ w.grownBy wr none) (fun _ i _ => l.length - (intOf i).toNat)
  case atStart => exact ⟨0, Nat.zero_le _, rfl, World.ownsRow_nil _ _ _ _, hg⟩
  case round =>
    obtain ⟨k, hk, rfl, hown, hgr⟩ := hrel
    obtain ⟨wo, rfl⟩ : ∃ wo : World, wo = wr := ⟨_, rfl⟩
    by_cases hlt : k < l.length
    · obtain ⟨b, off, rfl, hcs⟩ := sales_cells (hc.keep0 hgr) k hlt
      obtain ⟨c0, c1, c2⟩ := hcs k hlt
      have hbl := lt_of_cell c0
      have ok := ho.ok k hlt
      have ok0 := ok.s0
      have ok1 := ok.s1
      obtain ⟨x, hx⟩ : ∃ x, x = sAt l k := ⟨_, rfl⟩
      rw [← hx] at c0 c1 c2 ok0 ok1
      have HX := Lib.hid hx; clear hx hcs ok
      cases hxo : x.out with
      | true =>
        rw [hxo] at c2
        by_cases hn0 : 0 < n
        · have hq0 : 0 ≤ (t + n - 1) / n := Int.ediv_nonneg (by omega) (by omega)
          have hq1 : (t + n - 1) / n ≤ t + n - 1 := Int.ediv_le_self _ (by omega)
          by_cases hsq : x.sold < (t + n - 1) / n
          · have HNEXT : Hid (ints (W.take k) ++ [.int .i64 ((t + n - 1) / n)] = ints (W.take (k + 1))) := ints_take_next W k _ (by rw [HWL.out]; exact hlt) (by rw [HWK.out k hlt, ← HX.out, wantOf, if_pos ⟨hxo, hn0⟩, if_pos hsq])
            have HO := Lib.hid hxo; clear hxo
            go_wp2_with (at_builtin; refine wpList_app1 eInt rfl _ _ rfl w.heap.size _ _ _ rfl _ _ rfl (hown.alloc _) _ rfl (by simp) rfl rfl (by omega) (by have := hgr.size; simp; omega) ?_; intro v3 w3 hown3 hg3 hlt3)
            replace hown3 : w3.ownsRow w.heap.size 3 1 v3 (k + 1) (ints (W.take (k + 1))) := by rw [← HNEXT.out]; exact hown3
            have hgw := gr_grown (gr_alloc hgr _) hg3 hlt3
            go_wp2_with (fail)
            go_roundw
            case rel => exact ⟨k + 1, by omega, by go_num, hown3, hgw⟩
            case measure => simp [intOf]; omega
          · have HNEXT : Hid (ints (W.take k) ++ [.int .i64 x.sold] = ints (W.take (k + 1))) := ints_take_next W k _ (by rw [HWL.out]; exact hlt) (by rw [HWK.out k hlt, ← HX.out, wantOf, if_pos ⟨hxo, hn0⟩, if_neg hsq])
            have HO := Lib.hid hxo; clear hxo
            go_wp2_with (at_builtin; refine wpList_app1 eInt rfl _ _ rfl w.heap.size _ _ _ rfl _ _ rfl (hown.alloc _) _ rfl (by simp) rfl rfl (by omega) (by have := hgr.size; simp; omega) ?_; intro v3 w3 hown3 hg3 hlt3)
            replace hown3 : w3.ownsRow w.heap.size 3 1 v3 (k + 1) (ints (W.take (k + 1))) := by rw [← HNEXT.out]; exact hown3
            have hgw := gr_grown (gr_alloc hgr _) hg3 hlt3
            go_wp2_with (fail)
            go_roundw
            case rel => exact ⟨k + 1, by omega, by go_num, hown3, hgw⟩
            case measure => simp [intOf]; omega
        · have HNEXT : Hid (ints (W.take k) ++ [.int .i64 x.sold] = ints (W.take (k + 1))) := ints_take_next W k _ (by rw [HWL.out]; exact hlt) (by rw [HWK.out k hlt, ← HX.out, wantOf, if_neg (fun h => hn0 h.2)])
          have HO := Lib.hid hxo; clear hxo
          go_wp2_with (at_builtin; refine wpList_app1 eInt rfl _ _ rfl w.heap.size _ _ _ rfl _ _ rfl (hown.alloc _) _ rfl (by simp) rfl rfl (by omega) (by have := hgr.size; simp; omega) ?_; intro v3 w3 hown3 hg3 hlt3)
          replace hown3 : w3.ownsRow w.heap.size 3 1 v3 (k + 1) (ints (W.take (k + 1))) := by rw [← HNEXT.out]; exact hown3
          have hgw := gr_grown (gr_alloc hgr _) hg3 hlt3
          go_wp2_with (fail)
          go_roundw
          case rel => exact ⟨k + 1, by omega, by go_num, hown3, hgw⟩
          case measure => simp [intOf]; omega
      | false =>
        rw [hxo] at c2
        have HNEXT : Hid (ints (W.take k) ++ [.int .i64 x.sold] = ints (W.take (k + 1))) := ints_take_next W k _ (by rw [HWL.out]; exact hlt) (by rw [HWK.out k hlt, ← HX.out, wantOf, if_neg (fun h => by rw [hxo] at h; cases h.1)])
        have HO := Lib.hid hxo; clear hxo
        go_wp2_with (at_builtin; refine wpList_app1 eInt rfl _ _ rfl w.heap.size _ _ _ rfl _ _ rfl (hown.alloc _) _ rfl (by simp) rfl rfl (by omega) (by have := hgr.size; simp; omega) ?_; intro v3 w3 hown3 hg3 hlt3)
        replace hown3 : w3.ownsRow w.heap.size 3 1 v3 (k + 1) (ints (W.take (k + 1))) := by rw [← HNEXT.out]; exact hown3
        have hgw := gr_grown (gr_alloc hgr _) hg3 hlt3
        go_wp2_with (fail)
        go_roundw
        case rel => exact ⟨k + 1, by omega, by go_num, hown3, hgw⟩
        case measure => simp [intOf]; omega
    · have hkl : k = l.length := by omega
      have HK := Lib.hid hkl; clear hkl
      have hte : W.take k = W := by rw [HK.out, ← HWL.out]; exact List.take_length
      rw [hte] at hown
      go_wp2_with (fail)
      go_ret2
      exact ⟨_, rfl, by rw [← HK.out]; exact hown, hgr⟩
end Go.Proofs.Ytlpkancpjdihgaa
