/- The stream's orders: the numbers below n, in some order. -/
import Derived.Test.YthikknnadmebgaaGreatDoorPkSAc
import Derived.Test.YthikknnadmebgaaGreatDoorPkSAe
import Derived.Test.YthikknnadmebgaaGreatDoorPkSAu
import Derived.BigRegion
namespace Go.Proofs.YthikknnadmebgaaGreatDoor
open Go.RowKit
variable {lw : Nat}

/-- A list of the numbers below n. -/
def IsOrder (n : Nat) (L : List Int) : Prop := L.Perm ((List.range n).map fun k : Nat => (k : Int))
theorem IsOrder.len {n : Nat} {L : List Int} (h : IsOrder n L) : L.length = n := by
  have := h.length_eq
  simpa using this
theorem IsOrder.mem {n : Nat} {L : List Int} (h : IsOrder n L) (x : Int) : x ∈ L ↔ 0 ≤ x ∧ x < n := by
  rw [h.mem_iff, List.mem_map]
  constructor
  · rintro ⟨k, hk, rfl⟩
    have := List.mem_range.1 hk
    omega
  · intro hx
    exact ⟨x.toNat, List.mem_range.2 (by omega), by omega⟩
theorem order_next (k : Nat) : ((List.range (k + 1)).map fun k : Nat => (k : Int)) = ((List.range k).map fun k : Nat => (k : Int)) ++ [(k : Int)] := by
  rw [List.range_succ, List.map_append]; rfl
theorem order_swap {n : Nat} {L : List Int} (h : IsOrder n L) {i j : Nat} (hi : i < L.length) (hj : j < L.length) : IsOrder n ((L.set i (L.getD j 0)).set j (L.getD i 0)) := by
  have := List.set_set_perm (i := i) (j := j) hi hj
  rw [getD_eq _ _ _ hi, getD_eq _ _ _ hj]
  exact this.trans h
def OrderPost (l : List Int) (k n p lw : Nat) (w : World) (e : Ending) (w' : World) : Prop := ∃ v L, e = .returned v ∧ w'.ownsRow w.heap.size 3 1 v n (ints L) ∧ IsOrder n L ∧ StreamAt w' p lw l (k + (n - 1)) ∧ w.grownBy w' (some p)

set_option maxRecDepth 100000 in
set_option maxHeartbeats 4000000 in
theorem order_any (l : List Int) (k n : Nat) (p : Nat) (w : World) (hs : StreamAt w p lw l k) (hk : k < 990000000) (hn : n ≤ 10000) :
    Calls Tryz.prog 44 #[.pointer (some ⟨p, 0, none⟩), .int .i64 n] w (OrderPost l k n p lw w) := by
  have hlt := hs.lt
  go_enter Tryz.func44, Tryz.ntmps44
  go_wp2_with (fail)
  go_loopw [5, 10] (fun v i wr => ∃ m : Nat, m ≤ n ∧ i = .int .i64 m ∧ wr.ownsRow w.heap.size 3 1 v m (ints ((List.range m).map fun k : Nat => (k : Int))) ∧ w.grownBy wr none) (fun _ i _ => n - (intOf i).toNat)
  case atStart => exact ⟨0, Nat.zero_le _, rfl, World.ownsRow_nil _ _ _ _, gr_refl _ _⟩
  case round =>
    obtain ⟨m, hm, rfl, hown, hgr⟩ := hrel
    obtain ⟨wo, rfl⟩ : ∃ wo : World, wo = wr := ⟨_, rfl⟩
    have hsz := hgr.size
    by_cases hlt2 : m < n
    · go_wp2_with (at_builtin; refine wpList_app1 eInt rfl _ _ rfl w.heap.size _ m _ rfl wo #[.int .i64 m] rfl hown _ rfl rfl rfl rfl ?_ ?_ ?_; (· omega); (· omega); intro v6 w6 hown6 hg6 hlt6)
      go_wp2_with (fail)
      go_roundw
      case rel => exact ⟨m + 1, by omega, by go_num, by rw [order_next]; simpa [ints] using hown6, gr_grown hgr hg6 hlt6⟩
      case measure => simp [intOf]; omega
    · have hmn : m = n := by omega
      rw [hmn] at hown
      have hord : IsOrder n ((List.range n).map fun k : Nat => (k : Int)) := List.Perm.refl _
      have HORD := Lib.hid hord
      clear hmn hord
      obtain ⟨L0, hL0⟩ : ∃ L0, L0 = ((List.range n).map fun k : Nat => (k : Int)) := ⟨_, rfl⟩
      rw [← hL0] at hown HORD
      clear hL0
      have hso := hs.keep0 hgr
      obtain ⟨va, vc, rfl, _, _, _, _⟩ := own_shape hown
      go_wp2_with (fail)
      go_loopw [7] (fun i wr => ∃ (j : Nat) (L : List Int), i = .int .i64 ((n : Int) - 1 - j) ∧ j ≤ n - 1 ∧ wr.ownsRow w.heap.size 3 1 (.slice va n vc) n (ints L) ∧ IsOrder n L ∧ StreamAt wr p lw l (k + j) ∧ w.grownBy wr (some p)) (fun i _ => (intOf i + 1).toNat)
      case atStart => exact ⟨0, L0, by simp, Nat.zero_le _, hown, HORD.out, hso, gr_weak hgr _⟩
      case round =>
        obtain ⟨j, L, rfl, hj, hownL, hordL, hsr, hgr2⟩ := hrel
        obtain ⟨wi, rfl⟩ : ∃ wi : World, wi = wr := ⟨_, rfl⟩
        have HO := Lib.hid hordL
        clear hordL
        by_cases hgt : j + 1 < n
        · obtain ⟨i, hi⟩ : ∃ i : Nat, (n : Int) - 1 - j = (i : Int) := ⟨n - 1 - j, by omega⟩
          rw [hi]
          have hi0 : 0 < i := by omega
          have hin : i < n := by omega
          have HI := Lib.hid hi
          clear hi
          obtain ⟨g, gc, he, hgb, hgw, _, _⟩ := own_some hownL (by omega)
          cases he
          go_wp2_with (fail)
          refine (next_any l _ _ p wi hsr (by omega) (by omega)).mono ?_
          rintro e w3 ⟨rfl, hs3, hg3⟩
          have hr := nxt_range l (k + j) ((i : Int) + 1) (by omega)
          obtain ⟨q, hq⟩ : ∃ q : Nat, nxt l (k + j) ((i : Int) + 1) = q := ⟨(nxt l (k + j) ((i : Int) + 1)).toNat, by omega⟩
          rw [hq] at hr ⊢
          have hqi : q ≤ i := by omega
          have hqn : q < n := by omega
          clear hr hq
          have hown3 := own_keepS hownL hg3 hlt
          have hgr3 := gr_trans hgr2 hg3
          obtain ⟨d0, d1, d2⟩ := own_int hown3 i hin
          obtain ⟨e0, e1, e2⟩ := own_int hown3 q hqn
          obtain ⟨x, hx⟩ : ∃ x, x = L.getD i 0 := ⟨_, rfl⟩
          obtain ⟨y, hy⟩ : ∃ y, y = L.getD q 0 := ⟨_, rfl⟩
          rw [← hx] at d0
          rw [← hy] at e0
          have hll := own_len hown3
          have hsw := order_swap HO.out (i := i) (j := q) (by omega) (by omega)
          rw [← hx, ← hy] at hsw
          have D1 := Lib.hid (d2 y)
          have D2 := Lib.hid ((own_int (d2 y) q hqn).2.2 x)
          have D3 := Lib.hid ((own_int (e2 x) i hin).2.2 y)
          have HSW := Lib.hid hsw
          have hxy : i = q → x = y := by intro e; rw [hx, hy, e]
          have hcom : i ≠ q → (L.set q x).set i y = (L.set i y).set q x := fun e => List.set_comm _ _ (fun e2 => e e2.symm)
          have HXY := Lib.hid hxy
          have HCOM := Lib.hid hcom
          have HLL := Lib.hid hll
          clear d2 e2 hx hy hsw hxy hcom hll
          by_cases hiq : i = q
          · subst hiq
            have hxy := HXY.out rfl
            subst hxy
            go_wp2_with (fail)
            go_region
            all_goals (go_wp2_with (fail))
            all_goals go_roundw
            case rel =>
              refine ⟨j + 1, (L.set i x).set i x, by have := HI.out; congr 1; omega, by omega, own_of_heapc1 D2.out rfl, HSW.out, ?_, ?_⟩
              · rw [← Nat.add_assoc]
                exact hs3.keep (gr_drew (gr_set (q := ⟨g, i, none⟩) (gr_set (q := ⟨g, i, none⟩) (gr_refl w3 (some g)) rfl _) rfl _)) (fun r hr => by cases hr; omega)
              · exact gr_drew (gr_new (gr_new hgr3 hgb _) hgb _)
            case measure =>
              have := HI.out
              simp [intOf]; try omega
          · go_wp2_with (fail)
            go_region
            all_goals (go_wp2_with (fail))
            all_goals go_roundw
            case rel =>
              refine ⟨j + 1, (L.set i y).set q x, by have := HI.out; congr 1; omega, by omega, own_of_heapc1 D2.out rfl, HSW.out, ?_, ?_⟩
              · rw [← Nat.add_assoc]
                exact hs3.keep (gr_drew (gr_set (q := ⟨g, q, none⟩) (gr_set (q := ⟨g, i, none⟩) (gr_refl w3 (some g)) rfl _) rfl _)) (fun r hr => by cases hr; omega)
              · exact gr_drew (gr_new (gr_new hgr3 hgb _) hgb _)
            case measure =>
              have := HI.out
              simp [intOf]; try omega
        · have hjn : j = n - 1 := by omega
          have hneg : (n : Int) - 1 - j ≤ 0 := by omega
          rw [hjn] at hsr
          clear hjn
          go_wp2_with (fail)
          go_ret
          exact ⟨_, L, rfl, hownL, HO.out, hsr, hgr2⟩
end Go.Proofs.YthikknnadmebgaaGreatDoor
