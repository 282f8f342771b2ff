/- slices.Repeat at ints of one element. -/
import Derived.Test.YtjhfglhoiplfmaaDoorPkDAc
import Derived.Test.YtjhfglhoiplfmaaDoorPkDAu
import Derived.Test.YtjhfglhoiplfmaaDoorPkDAb
import Derived.Shelf.Bits.Mul64
import Derived.Deep.DeepCutAuto
import Derived.Deep.CutBlock
import Derived.Deep.DrawnRows
import Derived.Deep.RegionLaw
import Derived.Shelf.Spec.SlicesInsertGrow
namespace Go.Proofs.YtjhfglhoiplfmaaDoor
open Go.RowKit
attribute [local go_sem ↓] Go.wp_at_zero Go.wp_at_succ

def mulRen : Go.Shelf.Ren := ⟨fun | 212 => 105 | 263 => 134 | 264 => 135 | n => n, fun | 46 => 157 | 51 => 184 | 53 => 187 | 146 => 185 | 148 => 188 | n => n, fun n => n⟩
theorem mulLays : Lays.n212 Tryd.prog mulRen := {
  mixed := by kernel_rfl
  f212 := by kernel_rfl
  f263 := by kernel_rfl
  f264 := by kernel_rfl
  t46 := by kernel_rfl
  a46 := fun _ => by kernel_rfl
  z46 := fun _ => by kernel_rfl
  v46 := fun _ => by kernel_rfl
  t51 := by kernel_rfl
  a51 := fun _ => by kernel_rfl
  z51 := fun _ => by kernel_rfl
  v51 := fun _ => by kernel_rfl
  t53 := by kernel_rfl
  a53 := fun _ => by kernel_rfl
  z53 := fun _ => by kernel_rfl
  v53 := fun _ => by kernel_rfl
  t146 := by kernel_rfl
  a146 := fun _ => by kernel_rfl
  z146 := fun _ => by kernel_rfl
  v146 := fun _ => by kernel_rfl
  t148 := by kernel_rfl
  a148 := fun _ => by kernel_rfl
  z148 := fun _ => by kernel_rfl
  v148 := fun _ => by kernel_rfl }
theorem mul1_any (n : Nat) (hn : n ≤ 1000000) (w : World) : Calls Tryd.prog 105 #[.int .u64 1, .int .u64 n] w fun e w' => e = .returned (.tuple #[.int .u64 0, .int .u64 n]) ∧ w' = w := by
  have h := Any.bits_Mul mulLays 1 n (by omega) (by omega) w
  rw [Nat.one_mul, Nat.div_eq_of_lt (by omega), Nat.mod_eq_of_lt (by omega)] at h
  exact h
/-- What a row holds while it is filled. -/
theorem rep_step (n m : Nat) (y : Value) (cur : Array Value) (hs : cur.size = n) (hm : m ≤ n) (h : cur.toList.take m = List.replicate m y) :
    (cur.toList.take m ++ List.replicate (Nat.min m (n - m)) y ++ cur.toList.drop (m + Nat.min m (n - m))).length = n ∧ (cur.toList.take m ++ List.replicate (Nat.min m (n - m)) y ++ cur.toList.drop (m + Nat.min m (n - m))).take (m + Nat.min m (n - m)) = List.replicate (m + Nat.min m (n - m)) y := by
  have hk : Nat.min m (n - m) ≤ n - m := Nat.min_le_right _ _
  obtain ⟨k, hke⟩ : ∃ k, k = Nat.min m (n - m) := ⟨_, rfl⟩
  rw [← hke] at hk ⊢
  refine ⟨by simp [hs]; omega, ?_⟩
  rw [h, List.replicate_append_replicate, List.take_append_of_le_length (by simp), List.take_of_length_le (by simp)]
set_option maxRecDepth 100000 in
set_option maxHeartbeats 1000000 in
theorem repeat_any (y : Int) (n : Nat) (hn0 : 1 ≤ n) (hn : n ≤ 1000) (g c : Nat) (w : World) (h : w.cell? ⟨g, 0, none⟩ = some (.int .i64 y)) :
    Calls Tryd.prog 58 #[.slice (some ⟨g, 0, none⟩) 1 c, .int .i64 n] w fun e w' => ∃ G, w.heap.size ≤ G ∧ e = .returned (.slice (some ⟨G, 0, none⟩) n n) ∧ w'.ownsRow w.heap.size 3 1 (.slice (some ⟨G, 0, none⟩) n n) n (ints (List.replicate n y)) ∧ w.grownBy w' none := by
  have hgl := lt_of_cell h
  have mixed : Tryd.prog.follows .mixedOrders = true := by kernel_rfl
  have c1 : IntKind.u64.wrap (n : Int) = n := by rw [IntKind.wrap_u64]; omega
  have c2 : IntKind.i64.wrap (n : Int) = n := IntWalk.i64_in _ (by omega)
  have MU := Lib.hid (mul1_any n (by omega) w)
  go_enter Tryd.func58, Tryd.ntmps58
  go_wp2_with (fail)
  refine MU.out.mono ?_
  rintro e w1 ⟨rfl, rfl⟩
  go_upto_region 7 with (at_make; refine wpList_mk _ eInt rfl _ _ rfl w1.heap.size _ n rfl rfl rfl ?_ ?_ ?_; (· omega); (· omega); intro w2 o2 g2)
  have h2 := (gr_cell g2 hgl).trans h
  obtain ⟨cur, hcur, hcs, hct⟩ : ∃ cur : Array Value, w2.heap[w1.heap.size]? = some (.cells cur 3 (0, 0)) ∧ cur.size = n ∧ cur.toList = ints (List.replicate n 0) := by
    rcases o2.2 with ⟨h3, -⟩ | ⟨g', cap, cur, hv, hb, hg, hn', hm, hs, ht⟩
    · cases h3
    · cases hv
      refine ⟨cur, hg, by omega, ?_⟩
      rw [← ht, List.take_of_length_le (by simp; omega)]
  obtain ⟨G, hG⟩ : ∃ G, G = w1.heap.size := ⟨_, rfl⟩
  rw [← hG] at hcur
  rw [← hG]
  have hgG : ¬ g = G := by omega
  have HGE := Lib.hid hG
  have HG2 := Lib.hid g2
  have hcp1 : ∀ (ty : TypeId) (dc : Nat), (Builtin.copy_ #[22, 22] ty #[.slice (some ⟨G, 0, none⟩) n dc, .slice (some ⟨g, 0, none⟩) 1 c]).run Tryd.prog w2 = .ok (goInt 1) (w2.setRow G ([Value.int .i64 y] ++ cur.toList.drop 1).toArray) := fun ty dc => by
    have h := run_copy_row (P := Tryd.prog) w2 22 22 ty 3 G 0 n dc ⟨g, 0, none⟩ 1 c cur 3 [.int .i64 y] eInt.und (by kernel_rfl) hcur (show 1 = Nat.min 1 n from (Nat.min_eq_left (by omega)).symm)
      (fun j u hj => by
        have : j = 0 := by
          rcases Nat.lt_or_ge j 1 with h1 | h1
          · omega
          · rw [List.getElem?_eq_none (by simpa using h1)] at hj; cases hj
        subst this
        cases hj
        exact h2)
      (by simp [hcs]; omega) (fun v hv => by simp at hv; rw [hv]; rfl)
    simpa using h
  obtain ⟨w3, hw3⟩ : ∃ w3, w3 = w2.setRow G ([Value.int .i64 y] ++ cur.toList.drop 1).toArray := ⟨_, rfl⟩
  rw [← hw3] at hcp1
  have hc3 : w3.heap[G]? = some (.cells ([Value.int .i64 y] ++ cur.toList.drop 1).toArray 3 (0, 0)) := by rw [hw3]; exact setRow_heap w2 G cur _ _ _ hcur
  have K0 : Hid (([Value.int .i64 y] ++ cur.toList.drop 1).toArray.size = n ∧ ([Value.int .i64 y] ++ cur.toList.drop 1).toArray.toList.take 1 = List.replicate 1 (Value.int .i64 y)) := ⟨by simp [hcs]; omega, by simp⟩
  have hg3 : w2.grownBy w3 (some G) := by rw [hw3]; exact setRow_gr _ _ _
  have HG3 := Lib.hid (gr_grown g2 hg3 (fun q e => by cases e; omega))
  have HC3 := Lib.hid hc3
  clear hcur hcs hct h2 hw3 hc3 hg3 g2 o2 hG
  go_wp2_with (at_builtin; refine wpList_copy_runI _ rfl _ _ 22 22 rfl _ _ rfl rfl (hcp1 _ _) ?_)
  go_loopw [8] (fun i wr => ∃ (m : Nat) (cur : Array Value), 1 ≤ m ∧ m ≤ n ∧ i = .int .i64 m ∧ wr.heap[G]? = some (.cells cur 3 (0, 0)) ∧ Hid (cur.size = n ∧ cur.toList.take m = List.replicate m (Value.int .i64 y)) ∧ w1.grownBy wr none) (fun i _ => n - (intOf i).toNat)
  case atStart => exact ⟨1, _, Nat.le_refl _, hn0, rfl, HC3.out, K0.out, HG3.out⟩
  case round =>
    clear K0 HC3 HG3 HG2 hcp1
    obtain ⟨m, cur, hm1, hmn, rfl, hcur, HCUR, hgr⟩ := hrel
    obtain ⟨wo, rfl⟩ : ∃ wo : World, wo = wr := ⟨_, rfl⟩
    by_cases hlt : m < n
    · obtain ⟨hcs, hct⟩ := HCUR.out
      obtain ⟨r1, r2⟩ := rep_step n m _ cur hcs hmn hct
      obtain ⟨k, hk⟩ : ∃ k, k = Nat.min m (n - m) := ⟨_, rfl⟩
      have hk1 : 1 ≤ k := by rw [hk]; exact Nat.le_min.2 ⟨hm1, by omega⟩
      have hkn : m + k ≤ n := by have h3 : Nat.min m (n - m) ≤ n - m := Nat.min_le_right m (n - m); rw [← hk] at h3; omega
      rw [← hk] at r1 r2
      have hcp : ∀ (W : World), W.heap = wo.heap → ∀ (ty : TypeId) (dc sc : Nat), (Builtin.copy_ #[22, 22] ty #[.slice (some ⟨G, m, none⟩) (n - m) dc, .slice (some ⟨G, 0, none⟩) m sc]).run Tryd.prog W = .ok (goInt (k : Int)) (W.setRow G (cur.toList.take m ++ List.replicate k (Value.int .i64 y) ++ cur.toList.drop (m + k)).toArray) := fun W hW ty dc sc => by
        have h := run_copy_row (P := Tryd.prog) W 22 22 ty 3 G m (n - m) dc ⟨G, 0, none⟩ m sc cur 3 (List.replicate k (Value.int .i64 y)) eInt.und (by kernel_rfl) (by rw [hW]; exact hcur) (by rw [List.length_replicate, hk])
          (fun j u hj => by
            rw [Addr.add_lit, Nat.zero_add]
            have hjk : j < k := by
              rcases Nat.lt_or_ge j k with h1 | h1
              · exact h1
              · rw [List.getElem?_eq_none (by simpa using h1)] at hj; cases hj
            have hu : u = Value.int .i64 y := by
              rw [List.getElem?_replicate, if_pos hjk] at hj
              cases hj
              rfl
            have hkm : k ≤ m := by rw [hk]; exact Nat.min_le_left _ _
            have hjm : j < m := by omega
            have e : (cur.toList.take m)[j]? = some (Value.int .i64 y) := by rw [hct, List.getElem?_replicate, if_pos hjm]
            rw [List.getElem?_take_of_lt hjm] at e
            rw [hu]
            have hcell : W.heap[G]? = some (.cells cur 3 (0, 0)) := by rw [hW]; exact hcur
            exact blkC hcell j (by simpa using e))
          (by rw [List.length_replicate, hcs]; exact hkn) (fun v hv => by rw [(List.mem_replicate.1 hv).2]; rfl)
        rw [List.length_replicate] at h
        exact h
      obtain ⟨D, hD⟩ : ∃ D, D = (cur.toList.take m ++ List.replicate k (Value.int .i64 y) ++ cur.toList.drop (m + k)).toArray := ⟨_, rfl⟩
      rw [← hD] at hcp
      have KD : Hid (D.size = n ∧ D.toList.take (m + k) = List.replicate (m + k) (Value.int .i64 y)) := by rw [hD]; exact ⟨by simpa using r1, by simpa using r2⟩
      have HCU := Lib.hid hcur
      have HGR := Lib.hid hgr
      have HCP := Lib.hid (hcp wo.drew rfl)
      have hwmk : IntKind.i64.wrap ((m : Int) + (k : Int)) = (m : Int) + (k : Int) := IntWalk.i64_in _ (by omega)
      have hnm : ¬ n = m := by omega
      clear hcs hct r1 r2 hk hcp hD hcur hgr HCUR
      go_wp2_with (fail)
      go_region_law_o (refine step_copy_runI rfl _ _ 22 22 rfl (.slice (some ⟨G, m, none⟩) (n - m) (n - m)) (.slice (some ⟨G, 0, none⟩) m n) (by simp [Act.eval, Act.put]) (by simp [Act.eval, Act.put]) (HCP.out 3 (n - m) n) ?_)
      have HSET : Hid ((wo.drew.setRow G D).heap[G]? = some (.cells D 3 (0, 0))) := setRow_heap wo.drew G cur _ _ _ HCU.out
      have HGS : Hid (w1.grownBy (wo.drew.setRow G D) none) := gr_grown (gr_drew HGR.out) (setRow_gr _ _ _) (fun q e => by cases e; have := HGE.out; omega)
      all_goals (go_wp2_with (fail))
      all_goals (try go_simp)
      all_goals exact ⟨⟨m + k, by omega, by omega, by omega, D, HSET.out, KD, HGS.out⟩, by simp [intOf]; omega⟩
    · obtain rfl : m = n := by omega
      obtain ⟨hcs, hct⟩ := HCUR.out
      have HCU := Lib.hid hcur
      have HGR := Lib.hid hgr
      have HC := Lib.hid hct
      have HSZ := Lib.hid hcs
      clear hcs hct hcur hgr HCUR
      go_wp2_with (fail)
      go_ret
      refine ⟨G, by have := HGE.out; omega, rfl, ⟨by simp [ints], .inr ⟨G, m, cur, rfl, by have := HGE.out; omega, HCU.out, Nat.le_refl _, by unfold maxLen; omega, by rw [HSZ.out, Nat.mul_one], ?_⟩⟩, HGR.out⟩
      rw [Nat.mul_one, HC.out]
      simp [ints]
end Go.Proofs.YtjhfglhoiplfmaaDoor
