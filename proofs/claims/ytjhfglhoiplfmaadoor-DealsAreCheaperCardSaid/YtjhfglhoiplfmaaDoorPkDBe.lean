/- depot.Empty of the sites a, b (and c); package coilkeep's depots. -/
import Derived.Test.YtjhfglhoiplfmaaDoorPkDBd
import Derived.Test.YtjhfglhoiplfmaaDoorPkDAa
import Derived.Deep.OwnRows
import Derived.Test.YtjhfglhoiplfmaaDoorPkDAy
namespace Go.Proofs.YtjhfglhoiplfmaaDoor
open Go.RowKit

theorem sites_two (b o c : Nat) (w : World) (hs : ∀ i, i < 2 → w.cell? ⟨b, o + i, none⟩ = some (siteV i)) :
    Calls Tryd.prog 99 #[.slice (some ⟨b, o, none⟩) 2 c] w fun e w' => e = .returned (.int .i64 0) ∧ w = w' := by
  have h0 : w.cell? ⟨b, o, none⟩ = some (.string { data := #[97] }) := hs 0 (by omega)
  have h1 : w.cell? ⟨b, o + 1, none⟩ = some (.string { data := #[98] }) := hs 1 (by omega)
  clear hs
  have l1 : Op.bytesLess ({ data := #[98] } : ByteArray).toList ({ data := #[97] } : ByteArray).toList = false := by kernel_rfl
  have l2 : (({ data := #[98] } : ByteArray).toList == ({ data := #[97] } : ByteArray).toList) = false := by kernel_rfl
  go_enter Tryd.func99, Tryd.ntmps99
  go_wp2_with (fail)
  go_loop [15] (fun i => ∃ k : Nat, k ≤ 2 ∧ i = .int .i64 k) (fun i => 2 - (intOf i).toNat)
  case atStart => exact ⟨0, by omega, rfl⟩
  case round =>
    obtain ⟨k, hk, rfl⟩ := hrel
    obtain rfl | rfl | rfl : k = 0 ∨ k = 1 ∨ k = 2 := by omega
    · go_wp2_with (fail)
      refine (key_a w).mono ?_
      rintro e w' ⟨rfl, rfl⟩
      go_wp2_with (fail)
      go_round
      case rel => exact ⟨1, by omega, by go_num⟩
      case measure => simp [intOf]
    · go_wp2_with (fail)
      refine (key_b w).mono ?_
      rintro e w' ⟨rfl, rfl⟩
      go_wp2_with (fail)
      go_round
      case rel => exact ⟨2, by omega, by go_num⟩
      case measure => simp [intOf]
    · go_wp2_with (fail)
      go_ret
      exact ⟨rfl, rfl⟩
theorem sites_n (n b o c : Nat) (w : World) (h2 : 2 ≤ n) (h3 : n ≤ 3) (hs : ∀ i, i < n → w.cell? ⟨b, o + i, none⟩ = some (siteV i)) :
    Calls Tryd.prog 99 #[.slice (some ⟨b, o, none⟩) n c] w fun e w' => e = .returned (.int .i64 0) ∧ w = w' := by
  obtain rfl | rfl : n = 2 ∨ n = 3 := by omega
  · exact sites_two b o c w hs
  · exact sites_ok b o c w hs
def siteVn (n : Nat) : List Value := (List.range n).map siteV
def zerosT (n : Nat) : List (List Int) := List.replicate n (List.replicate n 0)
theorem heap_two (w : World) (o1 o2 : Obj) : ((w.alloc o1).alloc o2).heap[w.heap.size]? = some o1 ∧ ((w.alloc o1).alloc o2).heap[w.heap.size + 1]? = some o2 := by
  refine ⟨by rw [heap_alloc_old (h := by simp)]; exact heap_alloc_new w o1, ?_⟩
  have := heap_alloc_new (w.alloc o1) o2
  simpa using this
theorem own_made {w : World} {g base n : Nat} (h : w.heap[g]? = some (.cells (madeCells #[Value.int .i64 0] n) 3 (0, 0))) (hb : base ≤ g) (hn : n ≤ 1000) : w.ownsRow base 3 1 (.slice (some ⟨g, 0, none⟩) n n) n (ints (List.replicate n 0)) := by
  have e1 : (madeCells #[Value.int .i64 0] n).toList = ints (List.replicate n 0) := by
    rw [toList_madeCells_one]; simp [ints]
  have e2 : (madeCells #[Value.int .i64 0] n).size = n := by rw [← Array.length_toList, e1]; simp [ints]
  refine ⟨by simp [ints], .inr ⟨g, n, _, rfl, hb, h, Nat.le_refl _, by unfold maxLen; omega, by omega, ?_⟩⟩
  rw [e1, List.take_of_length_le (by simp [ints])]
/-- What Empty makes. -/
def EmptyPost (n : Nat) (w : World) (e : Ending) (w' : World) : Prop := ∃ x y z vs, e = .returned (.tuple #[.agg #[x, y, z], .int .i64 0]) ∧ w'.ownsRow w.heap.size 9 1 x n (siteVn n) ∧ OwnRows w' w.heap.size y (zerosT n) vs ∧ w'.ownsRow w.heap.size 3 1 z n (ints (List.replicate n 0)) ∧ (∀ i, i < n → ∀ g, (vs.getD i undef).ownBlock = some g → z.ownBlock ≠ some g) ∧ w.grownBy w' none

set_option maxRecDepth 100000 in
set_option maxHeartbeats 8000000 in
theorem empty_any (n b o c : Nat) (w : World) (h2 : 2 ≤ n) (h3 : n ≤ 3) (hs : ∀ i, i < n → w.cell? ⟨b, o + i, none⟩ = some (siteV i)) :
    Calls Tryd.prog 53 #[.slice (some ⟨b, o, none⟩) n c] w (EmptyPost n w) := by
  obtain ⟨dt, hd1⟩ := und_parts (P := Tryd.prog) (t := 107) (by kernel_rfl)
  obtain ⟨w1, hw1⟩ : ∃ w1, w1 = w.alloc (.cells #[.slice none 0 0, .slice none 0 0, .slice none 0 0] 107) := ⟨_, rfl⟩
  have hgR : w.grownBy w1 none := by rw [hw1]; exact gr_alloc (gr_refl w none) _
  have hlt1 : w.heap.size < w1.heap.size := by rw [hw1]; simp
  have hR1 : w1.heap[w.heap.size]? = some (.cells #[.slice none 0 0, .slice none 0 0, .slice none 0 0] 107 (0, 0)) := by rw [hw1]; exact heap_alloc_new w _
  have hs1 : ∀ i, i < n → w1.cell? ⟨b, o + i, none⟩ = some (siteV i) := fun i hi => (gr_cell hgR (lt_of_cell (hs i hi))).trans (hs i hi)
  have hsc : CellsAt w1 (some ⟨b, o, none⟩) (siteVn n) := by
    intro j v hj
    have hj3 : j < n := by have := (List.getElem?_eq_some_iff.1 hj).1; simpa [siteVn] using this
    have : (siteVn n)[j]? = some (siteV j) := by simp [siteVn, hj3]
    rw [this] at hj
    cases hj
    exact ⟨b, o, rfl, hs1 j hj3⟩
  have h1c : ∀ u ∈ siteVn n, u.oneCell' = true := by
    intro u hu
    obtain ⟨i, _, rfl⟩ := List.mem_map.1 hu
    unfold siteV; split; rfl; split <;> rfl
  have SF := Lib.hid (sites_n n b o c w1 h2 h3 hs1)
  have hgd := gr_drew (gr_refl w1 none)
  have CS : Hid (∀ w', w1.grownBy w' none → Calls Tryd.prog 100 #[.slice (some ⟨b, o, none⟩) n c] w' fun e w2 => ∃ g c, e = .returned (.slice (some ⟨g, 0, none⟩) n c) ∧ w2.ownsRow w1.heap.size 9 1 (.slice (some ⟨g, 0, none⟩) n c) n (siteVn n) ∧ w1.grownBy w2 none ∧ w'.grownBy w2 none ∧ ∀ (b : Nat) (o : Obj), w'.heap[b]? = some o → w2.heap[b]? = some o) := by
    intro w' h
    refine (cloneStr_any (some ⟨b, o, none⟩) n c (siteVn n) w' (by simp [siteVn]) (hsc.keep0 h) (fun h => by cases h) h1c (by omega)).mono ?_
    rintro e w2 ⟨v, rfl, ho, hg⟩
    obtain ⟨g, c, rfl, _, _, _, _⟩ := own_some ho (by omega)
    exact ⟨g, c, rfl, own_base ho h.size, gr_trans h hg, hg, fun b o hb => (hg.block b (lt_of_block hb) (by simp)).trans hb⟩
  have HR1 := Lib.hid hR1
  clear hs hs1 hsc h1c hR1
  go_enter Tryd.func53, Tryd.ntmps53
  go_wp2_with (fail)
  rw [← hw1]
  clear hw1
  refine SF.out.mono ?_
  rintro e w' ⟨rfl, rfl⟩
  have RM : ∀ w' : World, (Instr.makeSlice 22 (.int .i64 (n : Int)) (.int .i64 (n : Int))).run Tryd.prog w' = .ok (.slice (some ⟨w'.heap.size, 0, none⟩) n n) (w'.alloc (.cells (madeCells #[Value.int .i64 0] n) 3)) := fun w' =>
    run_make_row' 22 3 (.int .i64 0) 8 eInt.und eInt.info rfl .i64 .i64 n (by omega) (by omega) w'
  go_wp2_with (fail)
  go_cut [5] from 12 to 17 (fun s wx => ∃ (g : Nat) (x2 z2 : Value), s = .pointer (some ⟨g, 0, none⟩) ∧ w1.heap.size ≤ g ∧ wx.heap[g]? = some (.cells #[x2, .slice none 0 0, z2] 107 (0, 0)) ∧ wx.ownsRow w1.heap.size 9 1 x2 n (siteVn n) ∧ wx.ownsRow w1.heap.size 3 1 z2 n (ints (List.replicate n 0)) ∧ w1.grownBy wx none)
  case first =>
    go_region_law (first | (go_simp; go_at_call 100; (with_reducible refine (CS.out _ ?_).mono ?_); (· first | exact hgd | exact gr_alloc hgd _ | exact gr_alloc (gr_alloc hgd _) _); rintro e w3 ⟨gx, cx, rfl, hx3, hg3, _, hk3⟩; have hs3 := hg3.size; (try (have hm3 : w3.heap[w1.heap.size]? = _ := hk3 _ _ (heap_alloc_new w1.drew _))); (try (have hm4 : w3.heap[w1.heap.size]? = _ := hk3 _ _ (heap_two w1.drew _ _).1; have hn4 : w3.heap[w1.heap.size + 1]? = _ := hk3 _ _ (heap_two w1.drew _ _).2)); (try (have hlhm3 := lt_of_block hm3)); (try (have hbc := blk_cells hm3; obtain ⟨k0, k1, k2, f0, f1, f2⟩ := hbc)); (try (have hlhm4 := lt_of_block hm4)); (try (have hbc := blk_cells hm4; obtain ⟨k0, k1, k2, f0, f1, f2⟩ := hbc)); (try (have hlhn4 := lt_of_block hn4)); (try (have hbc := blk_cells hn4; obtain ⟨k0, k1, k2, f0, f1, f2⟩ := hbc)))
                         | fail)
    all_goals (go_wp2_with (fail))
    all_goals go_meet
    all_goals first
      | exact ⟨_, _, _, rfl, by omega, (heap_two w3 _ _).2, (hx3.alloc _).alloc _, own_made (heap_two w3 _ _).1 (by omega) (by omega), gr_alloc (gr_alloc hg3 _) _⟩
      | exact ⟨_, _, _, rfl, by omega, (heap_two w3 _ _).1, (hx3.alloc _).alloc _, own_made (heap_two w3 _ _).2 (by omega) (by omega), gr_alloc (gr_alloc hg3 _) _⟩
      | exact ⟨_, _, _, rfl, by omega, heap_alloc_new w3 _, hx3.alloc _, (own_made hm3 (by omega) (by omega)).alloc _, gr_alloc hg3 _⟩
      | exact ⟨_, _, _, rfl, by omega, set3_heap hn4 _ _ _, own_keep hx3 (set3_gr w3 _ _ _ _) (.inr (own_other hx3 hn4 (by decide))), own_keep (own_made hm4 (Nat.le_refl _) (by omega)) (set3_gr w3 _ _ _ _) (.inr (own_other (own_made (base := w1.heap.size) hm4 (Nat.le_refl _) (by omega)) hn4 (by decide))), gr_grown hg3 (set3_gr w3 _ _ _ _) (fun k hk => by cases hk; omega)⟩
      | exact ⟨_, _, _, rfl, by omega, set3_heap hm4 _ _ _, own_keep hx3 (set3_gr w3 _ _ _ _) (.inr (own_other hx3 hm4 (by decide))), own_keep (own_made hn4 (by omega) (by omega)) (set3_gr w3 _ _ _ _) (.inr (own_other (own_made (base := w1.heap.size) hn4 (by omega) (by omega)) hm4 (by decide))), gr_grown hg3 (set3_gr w3 _ _ _ _) (fun k hk => by cases hk; omega)⟩
      | (refine ⟨w1.heap.size, .slice (some ⟨gx, 0, none⟩) n cx, .slice (some ⟨w3.heap.size, 0, none⟩) n n, rfl, Nat.le_refl _, (by rw [heap_alloc_old (h := by simp; omega)]; exact set3_heap hm3 _ _ _), (own_keep hx3 (set3_gr w3 _ _ _ _) (.inr (own_other hx3 hm3 (by decide)))).alloc _, own_made (by simpa using heap_alloc_new (((w3.setCell ⟨w1.heap.size, 0, none⟩ (.slice (some ⟨gx, 0, none⟩) n cx)).setCell ⟨w1.heap.size, 1, none⟩ (.slice none 0 0)).setCell ⟨w1.heap.size, 2, none⟩ (.slice (some ⟨w3.heap.size, 0, none⟩) n n)) (.cells (madeCells #[Value.int .i64 0] n) 3)) hs3 (by omega), gr_alloc (gr_grown hg3 (set3_gr w3 _ _ _ _) (fun k hk => by cases hk; omega)) _⟩)
  case rest =>
  obtain ⟨g, x2, z2, rfl, hgle, hgb, hx, hz, hgc⟩ := hcut
  have hR2 := (hgc.block w.heap.size hlt1 (by simp)).trans HR1.out
  have hglt := lt_of_block hgb
  have HX := Lib.hid hx
  have HZ := Lib.hid hz
  have HR2 := Lib.hid hR2
  have HGR := Lib.hid hgR
  clear hgd hx hz hR2 CS hgR
  go_wp2_with (fail)
  go_loopw [20] (fun i wr => ∃ (k : Nat) (v : Value) (vs : List Value), k ≤ n ∧ i = .int .i64 k ∧ wr.heap[g]? = some (.cells #[x2, v, z2] 107 (0, 0)) ∧ OwnRows wr wc.heap.size v (List.replicate k (List.replicate n 0)) vs ∧ wc.grownBy wr (some g)) (fun i _ => n - (intOf i).toNat)
  case atStart => exact ⟨0, _, _, by omega, rfl, hgb, OwnRows.nil _ _, gr_refl _ _⟩
  case round =>
    obtain ⟨k, v, vs, hk, rfl, hb, hrows, hgr⟩ := hrel
    obtain ⟨wo, rfl⟩ : ∃ wo : World, wo = wr := ⟨_, rfl⟩
    by_cases hlt : k < n
    · obtain ⟨k0, k1, k2, f0, f1, f2⟩ := blk_cells hb
      have hout := hrows.outer
      rw [List.length_replicate] at hout
      have HROW := Lib.hid hrows
      have HB := Lib.hid hb
      have HVO := Lib.hid (own_other hout hb (by decide))
      have hszo := hgr.size
      have hgd := gr_drew (gr_refl wo none)
      have hdr : wo.drew.heap.size = wo.heap.size := rfl
      have hout3 := own_keep0 hout (gr_alloc hgd (.cells (madeCells #[Value.int .i64 0] n) 3))
      have hb3 := ((gr_alloc hgd (.cells (madeCells #[Value.int .i64 0] n) 3)).block g (lt_of_block hb) (by simp)).trans hb
      have HOUT3 := Lib.hid hout3
      have HB3 := Lib.hid hb3
      have hgw : g < wo.heap.size := lt_of_block hb
      clear hrows hb hout hdr k0 k2 f0 f2 hout3 hb3
      go_wp2_with (fail)
      go_region_law (first | (refine step_app1 eRows rfl _ _ rfl wc.heap.size _ k vs rfl (wo.drew.alloc (.cells (madeCells #[Value.int .i64 0] n) 3)) _ rfl HOUT3.out _ rfl (by simp) rfl rfl ?_ ?_ ?_; (· omega); (· simp; omega); intro v6 w6 hown6 hg6 hlt6 hk6; have hb6 := (hg6.block g (lt_of_block HB3.out) (fun e => HVO.out e.symm)).trans HB3.out; obtain ⟨_, m1, _, _, n1, _⟩ := blk_cells hb6; obtain ⟨g6, c6, rfl, _, _, _, _⟩ := own_some hown6 (by omega))
                           | fail)
      all_goals (go_wp2_with (fail))
      all_goals go_roundw
      all_goals first | (simp [intOf]; omega) | skip
      all_goals
        have hga := gr_alloc hgd (.cells (madeCells #[Value.int .i64 0] n) 3)
        have hr3 := HROW.out.keep0 hga
        have hnew : (wo.drew.alloc (.cells (madeCells #[Value.int .i64 0] n) 3)).ownsRow wo.heap.size 3 1 (.slice (some ⟨wo.heap.size, 0, none⟩) n n) n (ints (List.replicate n 0)) := own_made (heap_alloc_new wo.drew _) (Nat.le_refl _) (by omega)
        have hp := hr3.push hnew (by simp) hszo (by
          intro i hi e
          have := ((HROW.out.inner i hi).lt _ e).2
          omega) (by rw [List.length_replicate]; exact hown6) hg6
        refine ⟨k + 1, .slice (some ⟨g6, 0, none⟩) (k + 1) c6, _, by omega, by go_num, heap_setCell_same w6 g 1 _ _ _ hb6, by rw [show List.replicate (k + 1) (List.replicate n (0 : Int)) = List.replicate k (List.replicate n 0) ++ [List.replicate n 0] from List.replicate_succ']; exact hp.keepS (gr_set (q := ⟨g, 1, none⟩) (gr_refl w6 (some g)) rfl _) hglt, gr_set (q := ⟨g, 1, none⟩) (gr_grown (gr_trans hgr (gr_weak hga (some g))) hg6 (fun q hq => hlt6 q hq)) rfl _⟩
    · have hkn : k = n := by omega
      subst hkn
      have hx1 := own_keep HX.out hgr (.inr (own_other HX.out hgb (by decide)))
      have hz1 := own_keep HZ.out hgr (.inr (own_other HZ.out hgb (by decide)))
      have HZL := Lib.hid HZ.out.lt
      have hout := hrows.outer
      rw [List.length_replicate] at hout
      obtain ⟨g0, c0, hv, _, _, _, _⟩ := own_some hout (by omega)
      obtain ⟨gx, cx, hx, _, _, _, _⟩ := own_some hx1 (by omega)
      obtain ⟨gz, cz, hz, _, _, _, _⟩ := own_some hz1 (by omega)
      subst hv hx hz
      have hRo := (hgr.block w.heap.size (lt_of_block HR2.out) (by simp; omega)).trans HR2.out
      obtain ⟨k0, k1, k2, f0, f1, f2⟩ := blk_cells hb
      obtain ⟨l0, l1, l2, e0, e1, e2⟩ := blk_cells hRo
      have HRO := Lib.hid hRo
      have hRw : w.heap.size < wc.heap.size := lt_of_block HR2.out
      have hg1o : w1.grownBy wo none := gr_grown hgc hgr (fun q hq => by cases hq; exact hgle)
      have hgwo := gr_trans HGR.out hg1o
      have HX1 := Lib.hid hx1
      have HZ1 := Lib.hid hz1
      have HROW := Lib.hid hrows
      clear hRo hb hx1 hz1 hrows hgb hout
      go_wp2_with (fail)
      refine bodyPost_ret (results_cell_slot (p := 2) (q := 3) (by kernel_rfl) _ _ w.heap.size _ #[.slice (some ⟨gx, 0, none⟩) k cx, .slice (some ⟨g0, 0, none⟩) k c0, .slice (some ⟨gz, 0, none⟩) k cz] _ (.struct dt) _ rfl rfl (set3_heap HRO.out _ _ _) hd1 rfl (by kernel_rfl)) rfl ⟨_, _, _, vs, rfl, ?_, ?_, ?_, ?_, ?_⟩
      · exact own_base (own_keepS HX1.out (set3_gr wo w.heap.size _ _ _) hlt1) (by omega)
      · exact (HROW.out.keepS (set3_gr wo w.heap.size _ _ _) hRw).low (by omega)
      · exact own_base (own_keepS HZ1.out (set3_gr wo w.heap.size _ _ _) hlt1) (by omega)
      · intro i hi q hq e
        have h1 := ((HROW.out.inner i (by simpa using hi)).lt q hq).1
        have h2 := (HZL.out q e).2
        omega
      · exact gr_grown hgwo (set3_gr wo w.heap.size _ _ _) (fun q hq => by cases hq; omega)
end Go.Proofs.YtjhfglhoiplfmaaDoor

/-! depot.Balance, coilref.SameWallet, coilkeep.depots. -/
namespace Go.Proofs.YtjhfglhoiplfmaaDoor
open Go.RowKit

theorem depots_any (w : World) : Calls Tryd.prog 12 #[] w fun e w' => e = .returned (.bool true) ∧ w.grownBy w' none := by
  have hg0 := gr_alloc (gr_refl w none) (.cells #[.string { data := #[97] }, .string { data := #[98] }] 9)
  have hs : ∀ i, i < 2 → (w.alloc (.cells #[.string { data := #[97] }, .string { data := #[98] }] 9)).cell? ⟨w.heap.size, 0 + i, none⟩ = some (siteV i) := by
    intro i hi
    rw [Nat.zero_add]
    obtain rfl | rfl : i = 0 ∨ i = 1 := by omega
    · exact made_cell (gr_refl _ _) 0 rfl
    · exact made_cell (gr_refl _ _) 1 rfl
  have EM := Lib.hid (empty_any 2 w.heap.size 0 2 _ (by omega) (by omega) hs)
  clear hs
  go_enter Tryd.func12, Tryd.ntmps12
  go_wp2_with (fail)
  refine EM.out.mono ?_
  rintro e w1 ⟨x, y, z, vs, rfl, hx, hy, hz, _, hg1⟩
  have hyo := hy.outer
  rw [show (zerosT 2).length = 2 from rfl] at hyo
  obtain ⟨gx, cx, rfl, _, _, _, _⟩ := own_some hx (by omega)
  obtain ⟨gy, cy, rfl, _, _, _, _⟩ := own_some hyo (by omega)
  obtain ⟨gz, cz, rfl, _, _, _, _⟩ := own_some hz (by omega)
  have hgr := gr_trans hg0 hg1
  clear hx hy hz hyo hg0 hg1 EM
  go_wp2_with (fail)
  go_ret
  exact ⟨rfl, gr_alloc hgr _⟩

def balTo (A : Wal) : Nat → Int
  | 0 => 0
  | m + 1 => balTo A m + rightsTo A m 3

end Go.Proofs.YtjhfglhoiplfmaaDoor
