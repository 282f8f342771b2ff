/- depot.places: the numbers of sites. -/
import Derived.Test.YtbgfflbddflokaaWalletOps
namespace Go.Proofs.Ytbgfflbddflokaa
open Go.RowKit

def PlacesPost (L : List Nat) (w : World) (e : Ending) (w' : World) : Prop := ∃ v, e = .returned (.tuple #[v, .int .i64 0]) ∧ w'.ownsRow w.heap.size 3 1 v L.length (ints (L.map fun n : Nat => (n : Int))) ∧ w.grownBy w' none

set_option maxRecDepth 100000 in
set_option maxHeartbeats 2000000 in
theorem places_any (x y z : Value) (A : Wal) (X : Int) (B : Nat → Prop) (L : List Nat) (g c : Nat) (w : World) (ha : WalAt w B x y z A) (hok : WOk A X) (hX : X ≤ 1000000000) (hL : ∀ i ∈ L, i < 3) (hc : ∀ k, k < L.length → w.cell? ⟨g, k, none⟩ = some (siteV (L.getD k 0))) (hl : L.length ≤ 10) (hl0 : 0 < L.length) :
    Calls Try.prog 67 #[.agg #[x, y, z], .slice (some ⟨g, 0, none⟩) L.length c] w (PlacesPost L w) := by
  have hg1 := gr_alloc (gr_refl w none) (.cells #[x, y, z] 50)
  have ha1 := ha.keep0 hg1
  obtain ⟨w1, hw1⟩ : ∃ w1, w1 = w.alloc (.cells #[x, y, z] 50) := ⟨_, rfl⟩
  have p0 : w1.cell? ⟨w.heap.size, 0, none⟩ = some x := by rw [hw1]; exact made_cell (gr_refl _ _) 0 rfl
  have p1 : w1.cell? ⟨w.heap.size, 1, none⟩ = some y := by rw [hw1]; exact made_cell (gr_refl _ _) 1 rfl
  have p2 : w1.cell? ⟨w.heap.size, 2, none⟩ = some z := by rw [hw1]; exact made_cell (gr_refl _ _) 2 rfl
  rw [← hw1] at hg1 ha1
  have CW := Lib.hid (checkWallet_ok x y z A X B w1 ha1 hok hX)
  have HA := Lib.hid ha1
  obtain ⟨sb, so, sc, rfl, _, _, _⟩ := ha1.s
  obtain ⟨rb, ro, rc, rfl, hrc, _, _⟩ := ha1.r
  obtain ⟨ub, uo, uc, rfl, huc, _, _⟩ := ha1.u
  have HC := Lib.hid hc
  have HL := Lib.hid hL
  clear ha hok ha1 hc hL
  go_enter Try.func67, Try.ntmps67
  go_wp2_with (fail)
  rw [← hw1]
  clear hw1
  go_wp2_with (fail)
  refine CW.out.mono ?_
  rintro e w2 ⟨rfl, hg2⟩
  have hgr2 := gr_trans hg1 hg2
  have q0 := (gr_cell hg2 (lt_of_cell p0)).trans p0
  have HA2 := Lib.hid (HA.out.keep0 hg2)
  clear p0 p1 p2 hg2 hg1 CW
  go_wp2_with (fail)
  go_loopw [7, 18] (fun v i wr => ∃ k : Nat, k ≤ L.length ∧ i = .int .i64 k ∧ wr.ownsRow w2.heap.size 3 1 v k (ints ((L.take k).map fun n : Nat => (n : Int))) ∧ w2.grownBy wr none) (fun _ i _ => L.length - (intOf i).toNat)
  case atStart => exact ⟨0, Nat.zero_le _, rfl, World.ownsRow_nil _ _ _ _, gr_refl _ _⟩
  case round =>
    obtain ⟨k, hk, rfl, hown, hgr⟩ := hrel
    obtain ⟨wo, rfl⟩ : ∃ wo : World, wo = wr := ⟨_, rfl⟩
    by_cases hlt : k < L.length
    · have c0 := HC.out k hlt
      have c1 := (gr_cell (gr_trans hgr2 hgr) (lt_of_cell c0)).trans c0
      have hi3 : L.getD k 0 < 3 := HL.out _ (by rw [List.getD_eq_getElem?_getD, List.getElem?_eq_getElem hlt]; exact List.getElem_mem hlt)
      have hnx : (L.take (k + 1)).map (fun n : Nat => (n : Int)) = (L.take k).map (fun n : Nat => (n : Int)) ++ [((L.getD k 0 : Nat) : Int)] := by
        rw [List.take_succ_eq_append_getElem hlt, List.map_append, List.getD_eq_getElem?_getD, List.getElem?_eq_getElem hlt]; rfl
      have q0' := (gr_cell hgr (lt_of_cell q0)).trans q0
      obtain ⟨_, _, _, he, _, _, hs⟩ := (HA2.out.keep0 hgr).s
      cases he
      obtain ⟨i, hi⟩ : ∃ i, i = L.getD k 0 := ⟨_, rfl⟩
      rw [← hi] at c1 hi3 hnx
      have IX := Lib.hid (index_site sb so sc i wo hs hi3)
      have HNX := Lib.hid hnx
      have hszo := hgr.size
      have hsv : (siteV i).oneCell' = true := by unfold siteV; split; rfl; split <;> rfl
      clear hs hi hnx c0
      go_wp2_with (fail)
      refine IX.out.mono ?_
      rintro e w' ⟨rfl, rfl⟩
      go_wp2_with (at_builtin; refine wpList_app1 eInt rfl _ _ rfl w2.heap.size _ k _ rfl wo #[.int .i64 i] rfl hown _ rfl rfl rfl rfl ?_ ?_ ?_; (· omega); (· omega); intro v6 w6 hown6 hg6 hlt6)
      go_wp2_with (fail)
      go_roundw
      case rel =>
        refine ⟨k + 1, by omega, by go_num, ?_, ?_⟩
        · rw [HNX.out]
          simpa [ints] using hown6
        · exact gr_grown hgr hg6 hlt6
      case measure => simp [intOf]; omega
    · have hkl : k = L.length := by omega
      rw [hkl, List.take_length] at hown
      clear hkl
      go_wp2_with (fail)
      go_ret2
      exact ⟨_, rfl, own_base hown hgr2.size, gr_trans hgr2 hgr⟩
end Go.Proofs.Ytbgfflbddflokaa
