/- The reference's empty wallet; no fault of right wallets. After XEmpty and XMerge, by gen_wref.py. -/
import Derived.Test.YtakabckmiodjaaaDoorPkDAn
import Derived.Test.YtakabckmiodjaaaDoorPkDAo
import Derived.Test.YtakabckmiodjaaaDoorPkDAq
import Derived.Deep.CutRange
import Derived.Test.YtakabckmiodjaaaDoorPkDAj
import Derived.Deep.RegionHeld3
namespace Go.Proofs.YtakabckmiodjaaaDoor
open Go.RowKit

set_option maxRecDepth 100000 in
set_option maxHeartbeats 8000000 in
theorem emptyRef_any (n b o c : Nat) (w : World) (hn : n = 3) (h2 : 2 ≤ n) (h3 : n ≤ 3) (hs : ∀ i, i < n → w.cell? ⟨b, o + i, none⟩ = some (siteV i)) :
    Calls Tryd.prog 20 #[.slice (some ⟨b, o, none⟩) n c] w (EmptyPost n w) := by
  obtain ⟨dt, hd1⟩ := und_parts (P := Tryd.prog) (t := 29) (by kernel_rfl)
  obtain ⟨v1, hv1⟩ : ∃ v1, v1 = w.alloc (.cells #[.slice none 0 0, .slice none 0 0, .slice none 0 0] 29) := ⟨_, rfl⟩
  have hgV : w.grownBy v1 none := by rw [hv1]; exact gr_alloc (gr_refl w none) _
  have hltV : w.heap.size < v1.heap.size := by rw [hv1]; simp
  have hRV : v1.heap[w.heap.size]? = some (.cells #[.slice none 0 0, .slice none 0 0, .slice none 0 0] 29 (0, 0)) := by rw [hv1]; exact heap_alloc_new w _
  have hsV : ∀ i, i < n → v1.cell? ⟨b, o + i, none⟩ = some (siteV i) := fun i hi => (gr_cell hgV (lt_of_cell (hs i hi))).trans (hs i hi)
  have hscV : CellsAt v1 (some ⟨b, o, none⟩) (siteVn n) := by
    intro j v hj
    have hj3 : j < n := by have := (List.getElem?_eq_some_iff.1 hj).1; simpa [siteVn] using this
    have : (siteVn n)[j]? = some (siteV j) := by simp [siteVn, hj3]
    rw [this] at hj
    cases hj
    exact ⟨b, o, rfl, hsV j hj3⟩
  have h1c : ∀ u ∈ siteVn n, u.oneCell' = true := by
    intro u hu
    obtain ⟨i, _, rfl⟩ := List.mem_map.1 hu
    unfold siteV; split; rfl; split <;> rfl
  have SF : Hid (Calls Tryd.prog 58 #[.slice (some ⟨b, o, none⟩) n c] v1 fun e w' => e = .returned (.int .i64 0) ∧ v1.grownBy w' none) := by
    show Calls _ _ _ _ _
    subst hn
    exact kiosks_ok b o c v1 hsV
  have HN := Lib.hid hn
  clear hs hsV hn
  go_enter Tryd.func20, Tryd.ntmps20
  go_wp2_with (fail)
  rw [← hv1]
  clear hv1
  refine SF.out.mono ?_
  rintro e w1 ⟨rfl, hgk⟩
  have hgR := gr_trans hgV hgk
  have hlt1 : w.heap.size < w1.heap.size := Nat.lt_of_lt_of_le hltV hgk.size
  have HR1 := Lib.hid ((hgk.block w.heap.size hltV (by simp)).trans hRV)
  have hsc := hscV.keep0 hgk
  have hgd := gr_drew (gr_refl w1 none)
  have CS : Hid (∀ w', w1.grownBy w' none → Calls Tryd.prog 59 #[.slice (some ⟨b, o, none⟩) n c] w' fun e w2 => ∃ g c, e = .returned (.slice (some ⟨g, 0, none⟩) n c) ∧ w2.ownsRow w1.heap.size 9 1 (.slice (some ⟨g, 0, none⟩) n c) n (siteVn n) ∧ w1.grownBy w2 none ∧ w'.grownBy w2 none ∧ ∀ (b : Nat) (o : Obj), w'.heap[b]? = some o → w2.heap[b]? = some o) := by
    intro w' h
    refine (cloneStr_any (some ⟨b, o, none⟩) n c (siteVn n) w' (by simp [siteVn]) (hsc.keep0 h) (fun h => by cases h) h1c (by omega)).mono ?_
    rintro e w2 ⟨v, rfl, ho, hg⟩
    obtain ⟨g, c, rfl, _, _, _, _⟩ := own_some ho (by omega)
    exact ⟨g, c, rfl, own_base ho h.size, gr_trans h hg, hg, fun b o hb => (hg.block b (lt_of_block hb) (by simp)).trans hb⟩
  clear hsc h1c hRV hscV hgV hltV hgk SF
  have RM : ∀ w' : World, (Instr.makeSlice 22 (.int .i64 (n : Int)) (.int .i64 (n : Int))).run Tryd.prog w' = .ok (.slice (some ⟨w'.heap.size, 0, none⟩) n n) (w'.alloc (.cells (madeCells #[Value.int .i64 0] n) 3)) := fun w' =>
    run_make_row' 22 3 (.int .i64 0) 8 eInt.und eInt.info rfl .i64 .i64 n (by omega) (by omega) w'
  go_wp2_with (fail)
  go_cut [5] from 12 to 17 (fun s wx => ∃ (g : Nat) (x2 z2 : Value), s = .pointer (some ⟨g, 0, none⟩) ∧ w1.heap.size ≤ g ∧ wx.heap[g]? = some (.cells #[x2, .slice none 0 0, z2] 29 (0, 0)) ∧ wx.ownsRow w1.heap.size 9 1 x2 n (siteVn n) ∧ wx.ownsRow w1.heap.size 3 1 z2 n (ints (List.replicate n 0)) ∧ w1.grownBy wx none)
  case first =>
    go_region_law (first | (go_simp; go_at_call 59; (with_reducible refine (CS.out _ ?_).mono ?_); (· first | exact hgd | exact gr_alloc hgd _ | exact gr_alloc (gr_alloc hgd _) _); rintro e w3 ⟨gx, cx, rfl, hx3, hg3, _, hk3⟩; have hs3 := hg3.size; (try (have hm3 : w3.heap[w1.heap.size]? = _ := hk3 _ _ (heap_alloc_new w1.drew _))); (try (have hm4 : w3.heap[w1.heap.size]? = _ := hk3 _ _ (heap_two w1.drew _ _).1; have hn4 : w3.heap[w1.heap.size + 1]? = _ := hk3 _ _ (heap_two w1.drew _ _).2)); (try (have hlhm3 := lt_of_block hm3)); (try (have hbc := blk_cells hm3; obtain ⟨k0, k1, k2, f0, f1, f2⟩ := hbc)); (try (have hlhm4 := lt_of_block hm4)); (try (have hbc := blk_cells hm4; obtain ⟨k0, k1, k2, f0, f1, f2⟩ := hbc)); (try (have hlhn4 := lt_of_block hn4)); (try (have hbc := blk_cells hn4; obtain ⟨k0, k1, k2, f0, f1, f2⟩ := hbc)))
                         | fail)
    all_goals (go_wp2_with (fail))
    all_goals go_meet
    all_goals first
      | exact ⟨_, _, _, rfl, by omega, (heap_two w3 _ _).2, (hx3.alloc _).alloc _, own_made (heap_two w3 _ _).1 (by omega) (by omega), gr_alloc (gr_alloc hg3 _) _⟩
      | exact ⟨_, _, _, rfl, by omega, (heap_two w3 _ _).1, (hx3.alloc _).alloc _, own_made (heap_two w3 _ _).2 (by omega) (by omega), gr_alloc (gr_alloc hg3 _) _⟩
      | exact ⟨_, _, _, rfl, by omega, heap_alloc_new w3 _, hx3.alloc _, (own_made hm3 (by omega) (by omega)).alloc _, gr_alloc hg3 _⟩
      | exact ⟨_, _, _, rfl, by omega, set3_heap hn4 _ _ _, own_keep hx3 (set3_gr w3 _ _ _ _) (.inr (own_other hx3 hn4 (by decide))), own_keep (own_made hm4 (Nat.le_refl _) (by omega)) (set3_gr w3 _ _ _ _) (.inr (own_other (own_made (base := w1.heap.size) hm4 (Nat.le_refl _) (by omega)) hn4 (by decide))), gr_grown hg3 (set3_gr w3 _ _ _ _) (fun k hk => by cases hk; omega)⟩
      | exact ⟨_, _, _, rfl, by omega, set3_heap hm4 _ _ _, own_keep hx3 (set3_gr w3 _ _ _ _) (.inr (own_other hx3 hm4 (by decide))), own_keep (own_made hn4 (by omega) (by omega)) (set3_gr w3 _ _ _ _) (.inr (own_other (own_made (base := w1.heap.size) hn4 (by omega) (by omega)) hm4 (by decide))), gr_grown hg3 (set3_gr w3 _ _ _ _) (fun k hk => by cases hk; omega)⟩
      | (refine ⟨w1.heap.size, .slice (some ⟨gx, 0, none⟩) n cx, .slice (some ⟨w3.heap.size, 0, none⟩) n n, rfl, Nat.le_refl _, (by rw [heap_alloc_old (h := by simp; omega)]; exact set3_heap hm3 _ _ _), (own_keep hx3 (set3_gr w3 _ _ _ _) (.inr (own_other hx3 hm3 (by decide)))).alloc _, own_made (by simpa using heap_alloc_new (((w3.setCell ⟨w1.heap.size, 0, none⟩ (.slice (some ⟨gx, 0, none⟩) n cx)).setCell ⟨w1.heap.size, 1, none⟩ (.slice none 0 0)).setCell ⟨w1.heap.size, 2, none⟩ (.slice (some ⟨w3.heap.size, 0, none⟩) n n)) (.cells (madeCells #[Value.int .i64 0] n) 3)) hs3 (by omega), gr_alloc (gr_grown hg3 (set3_gr w3 _ _ _ _) (fun k hk => by cases hk; omega)) _⟩)
  case rest =>
  obtain ⟨g, x2, z2, rfl, hgle, hgb, hx, hz, hgc⟩ := hcut
  have hR2 := (hgc.block w.heap.size hlt1 (by simp)).trans HR1.out
  have hglt := lt_of_block hgb
  have HX := Lib.hid hx
  have HZ := Lib.hid hz
  have HR2 := Lib.hid hR2
  have HGR := Lib.hid hgR
  clear hgd hx hz hR2 CS hgR
  go_wp2_with (fail)
  go_loopw [20] (fun i wr => ∃ (k : Nat) (v : Value) (vs : List Value), k ≤ n ∧ i = .int .i64 k ∧ wr.heap[g]? = some (.cells #[x2, v, z2] 29 (0, 0)) ∧ OwnRows wr wc.heap.size v (List.replicate k (List.replicate n 0)) vs ∧ wc.grownBy wr (some g)) (fun i _ => n - (intOf i).toNat)
  case atStart => exact ⟨0, _, _, by omega, rfl, hgb, OwnRows.nil _ _, gr_refl _ _⟩
  case round =>
    obtain ⟨k, v, vs, hk, rfl, hb, hrows, hgr⟩ := hrel
    obtain ⟨wo, rfl⟩ : ∃ wo : World, wo = wr := ⟨_, rfl⟩
    by_cases hlt : k < n
    · obtain ⟨k0, k1, k2, f0, f1, f2⟩ := blk_cells hb
      have hout := hrows.outer
      rw [List.length_replicate] at hout
      have HROW := Lib.hid hrows
      have HB := Lib.hid hb
      have HVO := Lib.hid (own_other hout hb (by decide))
      have hszo := hgr.size
      have hgd := gr_drew (gr_refl wo none)
      have hdr : wo.drew.heap.size = wo.heap.size := rfl
      have hout3 := own_keep0 hout (gr_alloc hgd (.cells (madeCells #[Value.int .i64 0] n) 3))
      have hb3 := ((gr_alloc hgd (.cells (madeCells #[Value.int .i64 0] n) 3)).block g (lt_of_block hb) (by simp)).trans hb
      have HOUT3 := Lib.hid hout3
      have HB3 := Lib.hid hb3
      have hgw : g < wo.heap.size := lt_of_block hb
      clear hrows hb hout hdr k0 k2 f0 f2 hout3 hb3
      go_wp2_with (fail)
      go_region_law (first | (refine step_app1 eRows rfl _ _ rfl wc.heap.size _ k vs rfl (wo.drew.alloc (.cells (madeCells #[Value.int .i64 0] n) 3)) _ rfl HOUT3.out _ rfl (by simp) rfl rfl ?_ ?_ ?_; (· omega); (· simp; omega); intro v6 w6 hown6 hg6 hlt6 hk6; have hb6 := (hg6.block g (lt_of_block HB3.out) (fun e => HVO.out e.symm)).trans HB3.out; obtain ⟨_, m1, _, _, n1, _⟩ := blk_cells hb6; obtain ⟨g6, c6, rfl, _, _, _, _⟩ := own_some hown6 (by omega))
                           | fail)
      all_goals (go_wp2_with (fail))
      all_goals go_roundw
      all_goals first | (simp [intOf]; omega) | skip
      all_goals
        have hga := gr_alloc hgd (.cells (madeCells #[Value.int .i64 0] n) 3)
        have hr3 := HROW.out.keep0 hga
        have hnew : (wo.drew.alloc (.cells (madeCells #[Value.int .i64 0] n) 3)).ownsRow wo.heap.size 3 1 (.slice (some ⟨wo.heap.size, 0, none⟩) n n) n (ints (List.replicate n 0)) := own_made (heap_alloc_new wo.drew _) (Nat.le_refl _) (by omega)
        have hp := hr3.push hnew (by simp) hszo (by
          intro i hi e
          have := ((HROW.out.inner i hi).lt _ e).2
          omega) (by rw [List.length_replicate]; exact hown6) hg6
        refine ⟨k + 1, .slice (some ⟨g6, 0, none⟩) (k + 1) c6, _, by omega, by go_num, heap_setCell_same w6 g 1 _ _ _ hb6, by rw [show List.replicate (k + 1) (List.replicate n (0 : Int)) = List.replicate k (List.replicate n 0) ++ [List.replicate n 0] from List.replicate_succ']; exact hp.keepS (gr_set (q := ⟨g, 1, none⟩) (gr_refl w6 (some g)) rfl _) hglt, gr_set (q := ⟨g, 1, none⟩) (gr_grown (gr_trans hgr (gr_weak hga (some g))) hg6 (fun q hq => hlt6 q hq)) rfl _⟩
    · have hkn : k = n := by omega
      subst hkn
      have hx1 := own_keep HX.out hgr (.inr (own_other HX.out hgb (by decide)))
      have hz1 := own_keep HZ.out hgr (.inr (own_other HZ.out hgb (by decide)))
      have HZL := Lib.hid HZ.out.lt
      have hout := hrows.outer
      rw [List.length_replicate] at hout
      obtain ⟨g0, c0, hv, _, _, _, _⟩ := own_some hout (by omega)
      obtain ⟨gx, cx, hx, _, _, _, _⟩ := own_some hx1 (by omega)
      obtain ⟨gz, cz, hz, _, _, _, _⟩ := own_some hz1 (by omega)
      subst hv hx hz
      have hRo := (hgr.block w.heap.size (lt_of_block HR2.out) (by simp; omega)).trans HR2.out
      obtain ⟨k0, k1, k2, f0, f1, f2⟩ := blk_cells hb
      obtain ⟨l0, l1, l2, e0, e1, e2⟩ := blk_cells hRo
      have HRO := Lib.hid hRo
      have hRw : w.heap.size < wc.heap.size := lt_of_block HR2.out
      have hg1o : w1.grownBy wo none := gr_grown hgc hgr (fun q hq => by cases hq; exact hgle)
      have hgwo := gr_trans HGR.out hg1o
      have HX1 := Lib.hid hx1
      have HZ1 := Lib.hid hz1
      have HROW := Lib.hid hrows
      clear hRo hb hx1 hz1 hrows hgb hout
      go_wp2_with (fail)
      refine bodyPost_ret (results_cell_slot (p := 2) (q := 3) (by kernel_rfl) _ _ w.heap.size _ #[.slice (some ⟨gx, 0, none⟩) k cx, .slice (some ⟨g0, 0, none⟩) k c0, .slice (some ⟨gz, 0, none⟩) k cz] _ (.struct dt) _ rfl rfl (set3_heap HRO.out _ _ _) hd1 rfl (by kernel_rfl)) rfl ⟨_, _, _, vs, rfl, ?_, ?_, ?_, ?_, ?_⟩
      · exact own_base (own_keepS HX1.out (set3_gr wo w.heap.size _ _ _) hlt1) (by omega)
      · exact (HROW.out.keepS (set3_gr wo w.heap.size _ _ _) hRw).low (by omega)
      · exact own_base (own_keepS HZ1.out (set3_gr wo w.heap.size _ _ _) hlt1) (by omega)
      · intro i hi q hq e
        have h1 := ((HROW.out.inner i (by simpa using hi)).lt q hq).1
        have h2 := (HZL.out q e).2
        omega
      · exact gr_grown hgwo (set3_gr wo w.heap.size _ _ _) (fun q hq => by cases hq; omega)

end Go.Proofs.YtakabckmiodjaaaDoor

/-! The reference's fault of right wallets; of two of them. After XCheckWallet and XMerge, by gen_wref.py. -/
namespace Go.Proofs.YtakabckmiodjaaaDoor
open Go.RowKit

theorem wfault1_any (x : Option Addr × Nat × Nat) (n : Nat) (p : Nat) (w : World) (hn : w.cell? ⟨p, 0, none⟩ = some (.int .i64 n)) (h1 : x.2.1 = n) :
    Calls Tryd.prog 90 #[.slice x.1 x.2.1 x.2.2, .pointer (some ⟨p, 0, none⟩)] w fun e w' => e = .returned (.bool false) ∧ w.grownBy w' none := by
  have hne : ((n : Int) != (n : Int)) = false := by simp
  rw [h1]
  go_enter Tryd.func90, Tryd.ntmps90
  go_wp2_with (fail)
  go_ret
  exact ⟨rfl, gr_refl _ _⟩
theorem wfault1_fn : ∀ (args : Array Value) (w : World), (callFunc 90 args).run Tryd.prog w = .ok (.enter 90 args) w := fun _ _ => by kernel_rfl

set_option maxRecDepth 100000 in
set_option maxHeartbeats 4000000 in
theorem walletFault_ok (x y z : Value) (A : Wal) (X : Int) (B : Nat → Prop) (w : World) (ha : WalAt w B x y z A) (hok : WOk A X) (hX : X ≤ 1000000000) :
    Calls Tryd.prog 64 #[.agg #[x, y, z]] w fun e w' => e = .returned (.int .i64 0) ∧ w.grownBy w' none := by
  have hgV := gr_alloc (gr_refl w none) (.cells #[x, y, z] 29)
  have haV := ha.keep0 hgV
  obtain ⟨v1, hv1⟩ : ∃ v1, v1 = w.alloc (.cells #[x, y, z] 29) := ⟨_, rfl⟩
  have p0 : v1.cell? ⟨w.heap.size, 0, none⟩ = some x := by rw [hv1]; exact made_cell (gr_refl _ _) 0 rfl
  have p1 : v1.cell? ⟨w.heap.size, 1, none⟩ = some y := by rw [hv1]; exact made_cell (gr_refl _ _) 1 rfl
  have p2 : v1.cell? ⟨w.heap.size, 2, none⟩ = some z := by rw [hv1]; exact made_cell (gr_refl _ _) 2 rfl
  have hltV : w.heap.size < v1.heap.size := by rw [hv1]; simp
  rw [← hv1] at hgV haV
  have HF := Lib.hid hok.form
  have HOK := Lib.hid hok
  have HA := Lib.hid haV
  obtain ⟨sb, so, sc, rfl, _, _, hs⟩ := haV.s
  obtain ⟨rb, ro, rc, rfl, hrc, _, hr⟩ := haV.r
  obtain ⟨ub, uo, uc, rfl, huc, hu⟩ := haV.used hok.form
  have HS := Lib.hid hs
  clear ha hok haV hs hr
  go_enter Tryd.func64, Tryd.ntmps64
  go_wp2_with (fail)
  rw [← hv1]
  clear hv1
  go_wp2_with (fail)
  have KO := Lib.hid (kiosks_ok sb so sc v1 HS.out)
  refine KO.out.mono ?_
  rintro e w1 ⟨rfl, hgk⟩
  have hg1 := gr_trans hgV hgk
  have p0 := (gr_cell hgk (lt_of_cell p0)).trans p0
  have p1 := (gr_cell hgk (lt_of_cell p1)).trans p1
  have p2 := (gr_cell hgk (lt_of_cell p2)).trans p2
  have hlt1 : w.heap.size < w1.heap.size := Nat.lt_of_lt_of_le hltV hgk.size
  have HA := Lib.hid (HA.out.keep0 hgk)
  have hu := hu.keep0 hgk
  clear KO hltV hgV hgk
  have hn1 := made_cell (gr_refl (w1.alloc (.cells #[.int .i64 3] 3)) none) 0 (v := .int .i64 3) rfl
  have hg2 := gr_alloc (gr_refl w1 none) (.cells #[.int .i64 3] 3)
  obtain ⟨w2, hw2⟩ : ∃ w2, w2 = w1.alloc (.cells #[.int .i64 3] 3) := ⟨_, rfl⟩
  rw [← hw2] at hn1 hg2
  have ha2 := HA.out.keep0 hg2
  obtain ⟨_, _, _, he, _, _, hr2⟩ := ha2.r
  cases he
  have q0 := (gr_cell hg2 (lt_of_cell p0)).trans p0
  have q1 := (gr_cell hg2 (lt_of_cell p1)).trans p1
  have q2 := (gr_cell hg2 (lt_of_cell p2)).trans p2
  obtain ⟨_, o30, _, d30, _, _, _⟩ := hr2 0 (by omega)
  have hsl : ∃ xs : List (Option Addr × Nat × Nat), xs.length = 3 ∧ CellsAt w2 (some ⟨rb, ro, none⟩) (flat encSl xs) ∧ ∀ x ∈ xs, x.2.1 = 3 := by
    obtain ⟨b3, o3, c3, d3, _⟩ := hr2 0 (by omega)
    obtain ⟨b4, o4, c4, d4, _⟩ := hr2 1 (by omega)
    obtain ⟨b5, o5, c5, d5, _⟩ := hr2 2 (by omega)
    refine ⟨[(some ⟨b3, o3, none⟩, 3, c3), (some ⟨b4, o4, none⟩, 3, c4), (some ⟨b5, o5, none⟩, 3, c5)], rfl, ?_, ?_⟩
    · intro j v hj
      have hj3 : j < 3 := by have := (List.getElem?_eq_some_iff.1 hj).1; simpa [flat, encSl] using this
      obtain rfl | rfl | rfl : j = 0 ∨ j = 1 ∨ j = 2 := by omega
      · cases hj; exact ⟨rb, ro, rfl, d3⟩
      · cases hj; exact ⟨rb, ro, rfl, d4⟩
      · cases hj; exact ⟨rb, ro, rfl, d5⟩
    · intro x hx
      simp only [List.mem_cons, List.not_mem_nil, or_false] at hx
      rcases hx with rfl | rfl | rfl <;> rfl
  obtain ⟨xs, hxl, hxc, hx3⟩ := hsl
  have C1 := containsFunc_sl 90 w1.heap.size (fun _ => false) xs (some ⟨rb, ro, none⟩) rc w2 hxc (by omega) wfault1_fn (fun x hx w1' h => wfault1_any x 3 w1.heap.size w1' ((gr_cell h (lt_of_cell hn1)).trans hn1) (hx3 x hx))
  rw [hxl] at C1
  have hany : xs.any (fun _ => false) = false := by simp
  rw [hany] at C1
  have HC1 := Lib.hid C1
  clear C1 hany hxl hxc hx3 d30
  have hnn : ((3 : Int) != 3) = false := rfl
  go_wp2_with (fail)
  rw [← hw2]
  clear hw2
  refine HC1.out.mono ?_
  rintro e w3 ⟨rfl, hg3⟩
  have ha3 := ha2.keep0 hg3
  have s0 := (gr_cell hg3 (lt_of_cell q0)).trans q0
  have s1 := (gr_cell hg3 (lt_of_cell q1)).trans q1
  have s2 := (gr_cell hg3 (lt_of_cell q2)).trans q2
  have hg13 := gr_trans hg2 hg3
  have HA3 := Lib.hid ha3
  clear HC1 ha2 ha3 q0 q1 q2 p0 p1 p2 hg2 hg3 hn1 hr2
  go_wp2_with (fail)
  obtain ⟨_, _, _, he, hrows⟩ := HA3.out.rows HF.out
  cases he
  have CON := concat_rows A.T rb ro rc w3.drew (by
    intro i hi
    obtain ⟨ra, rc2, h1, h2, h3⟩ := hrows i (by have := HF.out.lenT; omega)
    exact ⟨ra, rc2, h1, h2.keep0 (gr_drew (gr_refl _ _)), h3⟩) (by rw [wal_len HF.out]; omega) (by rw [HF.out.lenT]; omega)
  rw [HF.out.lenT, wal_len HF.out] at CON
  have CON1 := Lib.hid CON
  have hu3 := hu.keep0 (gr_trans hg13 (gr_drew (gr_refl _ _)))
  have hUl := HF.out.lenU
  have hTl := wal_len HF.out
  have hmem := wal_mem HOK.out
  obtain ⟨Y, hY⟩ : ∃ Y, Y = A.T.flatten := ⟨_, rfl⟩
  obtain ⟨U, hU⟩ : ∃ U, U = A.U := ⟨_, rfl⟩
  rw [← hY] at CON1 hTl hmem
  rw [← hU] at hu3 hUl hmem
  have HUL := Lib.hid hUl
  have HTL := Lib.hid hTl
  have HMEM := Lib.hid hmem
  have hgd := gr_drew (gr_refl w3 none)
  clear CON hY hU hUl hTl hmem hu hrows
  go_cut [40, 41, 42] from 35 to 42 (fun s n i wx => ∃ v, s = v ∧ n = .int .i64 12 ∧ i = .int .i64 0 ∧ wx.ownsRow w3.heap.size 3 1 v 12 (ints (Y ++ U)) ∧ w3.grownBy wx none)
  case first =>
    go_region_law (first
      | (go_simp; go_at_call 70; (with_reducible refine CON1.out.mono ?_); rintro e w5 ⟨v5, rfl, hown5, hg5'⟩; have hg5 := gr_trans hgd hg5'; have t0 := (gr_cell hg5 (lt_of_cell s0)).trans s0; have t1 := (gr_cell hg5 (lt_of_cell s1)).trans s1; have t2 := (gr_cell hg5 (lt_of_cell s2)).trans s2; have hu5 := hu3.keep0 hg5'; have hz5 := hg5.size)
      | (refine step_appN eInt rfl _ _ rfl w3.heap.size _ 9 (ints Y) rfl ?_ (some ⟨ub, uo, none⟩) 3 uc (ints U) rfl ?_ ?_ (fun h => by cases h) (ints_one U) ?_ ?_ ?_; (· first | exact hown5 | exact own_keep0 hown5 (gr_drew (gr_refl _ _))); (· simp [ints, HUL.out]); (· first | exact hu5 | exact hu5.keep0 (gr_drew (gr_refl _ _))); (· omega); (· first | exact hz5 | omega); intro v6 w6 o6 g6 hl6 hk6; obtain ⟨va6, vc6, hv6, -, -, -, -⟩ := own_shape o6; subst hv6)
      | fail)
    all_goals (go_wp2_with (fail))
    all_goals go_meet
    all_goals refine ⟨_, rfl, rfl, rfl, by rw [show ints (Y ++ U) = ints Y ++ ints U by simp [ints]]; exact o6, ?_⟩
    all_goals exact gr_grown hg5 g6 (fun q hq => hl6 q hq)
  case rest =>
  obtain ⟨v12, rfl, rfl, rfl, hrow, hgc⟩ := hcut
  have HROW := Lib.hid hrow
  clear hrow
  obtain ⟨ra12, rc12, hv12, -, -, -, -⟩ := own_shape HROW.out
  subst hv12
  have p0 := (gr_cell hgc (lt_of_cell s0)).trans s0
  have p1 := (gr_cell hgc (lt_of_cell s1)).trans s1
  have p2 := (gr_cell hgc (lt_of_cell s2)).trans s2
  have HA4 := Lib.hid (HA3.out.keep0 hgc)
  have hgr := gr_trans hg1 (gr_trans hg13 hgc)
  clear s0 s1 s2 hgd hu3 hg13 CON1
  go_wp2_with (fail)
  go_loopw [42] (fun j wr => ∃ m : Nat, m ≤ 12 ∧ j = .int .i64 m ∧ wc.grownBy wr none) (fun j _ => 12 - (intOf j).toNat)
  case atStart => exact ⟨0, by omega, rfl, gr_refl _ _⟩
  case round =>
    obtain ⟨m, hm, rfl, hgo⟩ := hrel
    obtain ⟨wo, rfl⟩ : ∃ wo : World, wo = wr := ⟨_, rfl⟩
    by_cases hlt : m < 12
    · have hrow := own_keep0 HROW.out hgo
      obtain ⟨_, _, e, _, _, hcc, _⟩ := own_shape hrow
      cases e
      have hml : m < (Y ++ U).length := by rw [List.length_append, HTL.out, HUL.out]; exact hlt
      obtain ⟨b12, o12, rfl, d0⟩ := hcc m _ (by rw [show (ints (Y ++ U))[m]? = _ from ints_at _ m hml])
      have hb12 := HMEM.out _ (List.getElem_mem hml)
      rw [getD_eq _ m 0 hml] at d0
      obtain ⟨x, hx⟩ : ∃ x, x = (Y ++ U)[m] := ⟨_, rfl⟩
      rw [← hx] at d0 hb12
      have dx0 : decide (x < 0) = false := decide_eq_false (by omega)
      have dx1 : decide (1000000000 < x) = false := decide_eq_false (by omega)
      clear hx hcc hrow
      go_wp2_with (fail)
      go_roundw
      case rel => exact ⟨m + 1, by omega, by go_num, hgo⟩
      case measure => simp [intOf]; omega
    · obtain rfl : m = 12 := by omega
      rw [show ((12 : Nat) : Int) = 12 from rfl]
      have HA4 := Lib.hid (HA4.out.keep0 hgo)
      have p0 := (gr_cell hgo (lt_of_cell p0)).trans p0
      have p1 := (gr_cell hgo (lt_of_cell p1)).trans p1
      have p2 := (gr_cell hgo (lt_of_cell p2)).trans p2
      have hgr := gr_trans hgr hgo
      obtain ⟨wd, hwd⟩ : ∃ wd : World, wd = wo := ⟨_, rfl⟩
      rw [← hwd] at p0 p1 p2 hgr HA4
      rw [← hwd]
      clear hwd hgo
      go_wp2_with (fail)
      go_loopw [56] (fun j wr => ∃ m : Nat, m ≤ 3 ∧ j = .int .i64 m ∧ wd.grownBy wr none) (fun j _ => 3 - (intOf j).toNat)
      case atStart => exact ⟨0, by omega, rfl, gr_refl _ _⟩
      case round =>
        obtain ⟨m, hm, rfl, hgo⟩ := hrel
        obtain ⟨wo, rfl⟩ : ∃ wo : World, wo = wr := ⟨_, rfl⟩
        by_cases hlt : m < 3
        · have p0' := (gr_cell hgo (lt_of_cell p0)).trans p0
          have p1' := (gr_cell hgo (lt_of_cell p1)).trans p1
          have p2' := (gr_cell hgo (lt_of_cell p2)).trans p2
          have hge := HOK.out.ge m hlt
          have RT := Lib.hid (rightsRef_any _ _ _ A B m wo (HA4.out.keep0 hgo) hlt (fun i j hi hj => by have := HOK.out.r0 i j hi hj; omega) (fun i hi => by have := HOK.out.u0 i hi; omega))
          obtain ⟨r, hr⟩ : ∃ r, r = rightsTo A m 3 := ⟨_, rfl⟩
          rw [← hr] at hge RT
          clear hr
          go_wp2_with (fail)
          refine RT.out.mono ?_
          rintro e w8 ⟨rfl, hg8⟩
          go_wp2_with (fail)
          go_roundw
          case rel => exact ⟨m + 1, by omega, by go_num, gr_trans hgo hg8⟩
          case measure => simp [intOf]; omega
        · go_wp2_with (fail)
          go_ret
          exact ⟨rfl, gr_trans hgr hgo⟩

set_option maxRecDepth 100000 in
set_option maxHeartbeats 4000000 in
theorem pairFaultRef_ok (x y z x' y' z' : Value) (A A' : Wal) (X : Int) (B : Nat → Prop) (w : World) (ha : WalAt w B x y z A) (ha' : WalAt w B x' y' z' A') (hok : WOk A X) (hok' : WOk A' X) (hX : X ≤ 1000000000) :
    Calls Tryd.prog 63 #[.agg #[x, y, z], .agg #[x', y', z']] w fun e w' => e = .returned (.int .i64 0) ∧ w.grownBy w' none := by
  obtain ⟨w1, hw1⟩ : ∃ w1, w1 = (w.alloc (.cells #[x, y, z] 29)).alloc (.cells #[x', y', z'] 29) := ⟨_, rfl⟩
  have hgR : w.grownBy w1 none := by rw [hw1]; exact gr_alloc (gr_alloc (gr_refl w none) _) _
  have hlt1 : w.heap.size + 1 < w1.heap.size := by rw [hw1]; simp
  have hQ1 : w1.heap[w.heap.size + 1]? = some (.cells #[x', y', z'] 29 (0, 0)) := by rw [hw1]; simpa using heap_alloc_new (w.alloc (.cells #[x, y, z] 29)) _
  have hP1 : w1.heap[w.heap.size]? = some (.cells #[x, y, z] 29 (0, 0)) := by rw [hw1, heap_alloc_old (h := by simp)]; exact heap_alloc_new w _
  have ha1 := ha.keep0 hgR
  have ha2 := ha'.keep0 hgR
  have CW1 := Lib.hid (fun (w' : World) (h : w1.grownBy w' none) => walletFault_ok x y z A X B w' (ha1.keep0 h) hok hX)
  have CW2 := Lib.hid (fun (w' : World) (h : w1.grownBy w' none) => walletFault_ok x' y' z' A' X B w' (ha2.keep0 h) hok' hX)
  obtain ⟨sb, so, sc, hx, hs1⟩ := ha1.strs
  obtain ⟨sb', so', sc', hx', hs2⟩ := ha2.strs
  obtain ⟨rb, ro, rc, hy, _, _, _⟩ := ha1.r
  obtain ⟨ub, uo, uc, hz, _, _, _⟩ := ha1.u
  obtain ⟨rb', ro', rc', hy', _, _, _⟩ := ha2.r
  obtain ⟨ub', uo', uc', hz', _, _, _⟩ := ha2.u
  subst hx hy hz hx' hy' hz'
  obtain ⟨p0, p1, p2, _, _, _⟩ := blk_cells hP1
  obtain ⟨q0, q1, q2, _, _, _⟩ := blk_cells hQ1
  have hgd := gr_drew (gr_refl w1 none)
  have hlt0 : w.heap.size < w1.heap.size := by omega
  clear ha ha' hok hok' ha1 ha2 hP1 hQ1
  go_enter Tryd.func63, Tryd.ntmps63
  go_wp2_with (fail)
  rw [← hw1]
  clear hw1
  go_cut [5] from 6 to 11 (fun s wx => s = .int .i64 0 ∧ w1.grownBy wx none)
  case first =>
    go_region_held3 (fun w' => (w'.cell? ⟨w.heap.size, 0, none⟩ = some (.slice (some ⟨sb, so, none⟩) 3 sc) ∧ w'.cell? ⟨w.heap.size, 1, none⟩ = some (.slice (some ⟨rb, ro, none⟩) 3 rc) ∧ w'.cell? ⟨w.heap.size, 2, none⟩ = some (.slice (some ⟨ub, uo, none⟩) 3 uc)) ∧ w'.cell? ⟨w.heap.size + 1, 0, none⟩ = some (.slice (some ⟨sb', so', none⟩) 3 sc') ∧ w'.cell? ⟨w.heap.size + 1, 1, none⟩ = some (.slice (some ⟨rb', ro', none⟩) 3 rc') ∧ w'.cell? ⟨w.heap.size + 1, 2, none⟩ = some (.slice (some ⟨ub', uo', none⟩) 3 uc'))
      (first | exact ⟨⟨p0, p1, p2⟩, q0, q1, q2⟩ | exact ⟨⟨s0, s1, s2⟩, t0, t1, t2⟩ | exact ⟨⟨u0, u1, u2⟩, v0, v1, v2⟩ | exact ⟨⟨cellA u0 _, cellA u1 _, cellA u2 _⟩, cellA v0 _, cellA v1 _, cellA v2 _⟩)
      (first | (go_at_call 64; revert hg3; intro hg3; (first | (with_reducible refine (CW1.out w3 hg3).mono ?_) | (with_reducible refine (CW2.out w3 hg3).mono ?_)); rintro e w4 ⟨rfl, hg4'⟩; have hg4 := gr_trans hg3 hg4'; have u0 := (gr_cell hg4 (lt_of_cell p0)).trans p0; have u1 := (gr_cell hg4 (lt_of_cell p1)).trans p1; have u2 := (gr_cell hg4 (lt_of_cell p2)).trans p2; have v0 := (gr_cell hg4 (lt_of_cell q0)).trans q0; have v1 := (gr_cell hg4 (lt_of_cell q1)).trans q1; have v2 := (gr_cell hg4 (lt_of_cell q2)).trans q2)
             | (go_at_call 64; (first | (with_reducible refine (CW1.out w1.drew hgd).mono ?_) | (with_reducible refine (CW2.out w1.drew hgd).mono ?_)); rintro e w3 ⟨rfl, hg3'⟩; have hg3 := gr_trans hgd hg3'; have s0 := (gr_cell hg3 (lt_of_cell p0)).trans p0; have s1 := (gr_cell hg3 (lt_of_cell p1)).trans p1; have s2 := (gr_cell hg3 (lt_of_cell p2)).trans p2; have t0 := (gr_cell hg3 (lt_of_cell q0)).trans q0; have t1 := (gr_cell hg3 (lt_of_cell q1)).trans q1; have t2 := (gr_cell hg3 (lt_of_cell q2)).trans q2)
             | (go_at_call 49; (with_reducible refine (or_zeros w4.heap.size 2 _ ?_ ?_).mono ?_); (· exact made_cell (gr_refl _ _) 0 rfl); (· exact made_cell (gr_refl _ _) 1 rfl); rintro e w5 ⟨rfl, rfl⟩)
             | fail)
    all_goals (go_wp2_with (fail))
    all_goals (go_meet; exact ⟨rfl, gr_alloc hg4 _⟩)
  case rest =>
  obtain ⟨rfl, hgc⟩ := hcut
  have s0 := (gr_cell hgc (lt_of_cell p0)).trans p0
  have t0 := (gr_cell hgc (lt_of_cell q0)).trans q0
  have EQ := Lib.hid (equal_str siteBs (some ⟨sb, so, none⟩) (some ⟨sb', so', none⟩) sc sc' wc (hs1.keep0 hgc) (hs2.keep0 hgc) (by decide))
  rw [show siteBs.length = 3 from rfl] at EQ
  have hgrc := gr_trans hgR hgc
  clear p0 p1 p2 q0 q1 q2 hs1 hs2 hgd hgc CW1 CW2
  go_wp2_with (fail)
  refine EQ.out.mono ?_
  rintro e w6 ⟨rfl, hg6⟩
  go_wp2_with (fail)
  go_ret
  exact ⟨rfl, gr_trans hgrc hg6⟩
end Go.Proofs.YtakabckmiodjaaaDoor
