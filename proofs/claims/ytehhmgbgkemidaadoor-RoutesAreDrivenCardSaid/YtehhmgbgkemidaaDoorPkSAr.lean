/- slices.Reverse at ints: a permutation. -/
import Derived.Test.YtehhmgbgkemidaaDoorPkSAg
namespace Go.Proofs.YtehhmgbgkemidaaDoor
open Go.RowKit

theorem swapR_perm (O : List Int) (i j : Nat) (hi : i < O.length) (hj : j < O.length) : ((O.set i (O.getD j 0)).set j (O.getD i 0)).Perm O := by
  rw [getD_eq' O i 0 hi, getD_eq' O j 0 hj]
  exact List.set_set_perm hi hj
def RevPerm (base g n cap : Nat) (L : List Int) (w : World) (e : Ending) (w' : World) : Prop :=
  e = .returned (.tuple #[]) ∧ (∃ L' : List Int, L'.Perm L ∧ w'.ownsRow base 3 1 (.slice (some ⟨g, 0, none⟩) n cap) n (ints L')) ∧ w.grownBy w' (some g)
set_option maxRecDepth 100000 in
set_option maxHeartbeats 2000000 in
theorem reverse_perm (base g n cap o m c : Nat) (L : List Int) (w : World) (hown : w.ownsRow base 3 1 (.slice (some ⟨g, 0, none⟩) n cap) n (ints L)) (hom : o + m ≤ n) (hn : n ≤ 100000) :
    Calls Tryd.prog 30 #[.slice (some ⟨g, o, none⟩) m c] w (RevPerm base g n cap L w) := by
  go_enter Tryd.func30, Tryd.ntmps30
  go_wp2_with (fail)
  go_loopw [2, 3] (fun i j wr => ∃ (k : Nat) (q : Int) (L' : List Int), i = .int .i64 k ∧ j = .int .i64 q ∧ q = (m : Int) - 1 - k ∧ L'.Perm L ∧ wr.ownsRow base 3 1 (.slice (some ⟨g, 0, none⟩) n cap) n (ints L') ∧ w.grownBy wr (some g)) (fun i _ _ => m - (intOf i).toNat)
  case atStart => exact ⟨0, (m : Int) - 1, L, rfl, rfl, by omega, List.Perm.refl _, hown, gr_refl _ _⟩
  case round =>
    obtain ⟨k, q, L', rfl, rfl, hq, hm, hown', hgr⟩ := hrel
    obtain ⟨wo, rfl⟩ : ∃ wo : World, wo = wr := ⟨_, rfl⟩
    have HM := Lib.hid hm
    clear hm
    by_cases hlt : (k : Int) < q
    · obtain ⟨r, hr⟩ : ∃ r : Nat, q = (r : Int) := ⟨q.toNat, by omega⟩
      subst hr
      have hkr : k < r := by omega
      have hrm : r < m := by omega
      have hkm : k < m := by omega
      have hrq : (r : Int) - 1 = (m : Int) - 1 - (k + 1 : Nat) := by omega
      have HRQ := Lib.hid hrq
      clear hq hrq hlt
      obtain ⟨d0, d1, d2⟩ := own_int hown' (o + k) (by omega)
      obtain ⟨e0, e1, e2⟩ := own_int hown' (o + r) (by omega)
      have hll := own_len hown'
      have hp1 : ((L'.set (o + k) (L'.getD (o + r) 0)).set (o + r) (L'.getD (o + k) 0)).Perm L' := swapR_perm L' (o + k) (o + r) (by omega) (by omega)
      have hp2 : ((L'.set (o + r) (L'.getD (o + k) 0)).set (o + k) (L'.getD (o + r) 0)).Perm L' := swapR_perm L' (o + r) (o + k) (by omega) (by omega)
      obtain ⟨x, hx⟩ : ∃ x, x = L'.getD (o + k) 0 := ⟨_, rfl⟩
      obtain ⟨y, hy⟩ : ∃ y, y = L'.getD (o + r) 0 := ⟨_, rfl⟩
      rw [← hx] at d0 hp1 hp2
      rw [← hy] at e0 hp1 hp2
      have D2 := Lib.hid ((own_int (d2 y) (o + r) (by omega)).2.2 x)
      have D3 := Lib.hid ((own_int (e2 x) (o + k) (by omega)).2.2 y)
      have M2 := Lib.hid (hp1.trans HM.out)
      have M3 := Lib.hid (hp2.trans HM.out)
      clear d2 e2 hx hy hll hp1 hp2 hown'
      go_wp2_with (fail)
      go_region
      all_goals (go_wp2_with (fail))
      all_goals go_roundw
      all_goals first | (simp [intOf]; omega) | skip
      all_goals first
        | exact ⟨k + 1, (r : Int) - 1, _, by go_num, by go_num, HRQ.out, M2.out, own_of_heap D2.out rfl, gr_drew (gr_set (q := ⟨g, o + r, none⟩) (gr_set (q := ⟨g, o + k, none⟩) hgr rfl _) rfl _)⟩
        | exact ⟨k + 1, (r : Int) - 1, _, by go_num, by go_num, HRQ.out, M3.out, own_of_heap D3.out rfl, gr_drew (gr_set (q := ⟨g, o + k, none⟩) (gr_set (q := ⟨g, o + r, none⟩) hgr rfl _) rfl _)⟩
    · go_wp2_with (fail)
      first | go_end0 | ((try simp only [Exit.inBlock, Exit.then]); refine bodyPost_ret (results_none rfl _ _ _) rfl ?_)
      exact ⟨rfl, ⟨L', HM.out, hown'⟩, hgr⟩
end Go.Proofs.YtehhmgbgkemidaaDoor
