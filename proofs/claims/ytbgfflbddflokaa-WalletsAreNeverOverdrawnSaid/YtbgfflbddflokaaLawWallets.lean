/- The walk of WalletsAreNeverOverdrawn. -/
import Derived.Test.YtbgfflbddflokaaKiosks
namespace Go.Proofs.Ytbgfflbddflokaa
open Go.RowKit

theorem eWallets : ElemT Try.prog 53 50 (.agg #[.slice none 0 0, .slice none 0 0, .slice none 0 0]) 3 72 := ⟨by kernel_rfl, by kernel_rfl, by decide, by decide, by decide⟩
theorem list_eq3 {T : List (List Int)} {A : Wal} (h : A.T = T) : A.T = T := h
theorem zero_wal (w : World) (base : Nat) (x y z : Value) (vs : List Value) (hx : w.ownsRow base 9 1 x 3 (siteVn 3)) (hy : OwnRows w base y (zerosT 3) vs) (hz : w.ownsRow base 3 1 z 3 (ints (List.replicate 3 0))) (hap : ∀ i, i < 3 → ∀ g, (vs.getD i undef).ownBlock = some g → z.ownBlock ≠ some g) : WalOwn w base x y z zeroW vs :=
  ⟨hx, hy, hz, (zero_ok (B := 0) (Int.le_refl _)).form, hap⟩

theorem op_yes {can : Prop} {A : Wal} {w w' : World} {e : Ending} (h : OpPost can A w e w') (hc : can) : WalPost A w e w' := by
  rcases h with ⟨_, h⟩ | ⟨h, _⟩
  · exact h
  · exact absurd hc h
theorem op_no {can : Prop} {A : Wal} {w w' : World} {e : Ending} (h : OpPost can A w e w') (hc : ¬ can) : e = .returned (.tuple #[.agg #[.slice none 0 0, .slice none 0 0, .slice none 0 0], .int .i64 16]) ∧ w.grownBy w' none := by
  rcases h with ⟨h, _⟩ | ⟨_, h⟩
  · exact absurd h hc
  · exact h
theorem gr_cellP {w w1 : World} {p b o : Nat} (h : w.grownBy w1 (some p)) (hb : b < w.heap.size) (hn : p ≠ b) : w1.cell? ⟨b, o, none⟩ = w.cell? ⟨b, o, none⟩ := World.cell?_of_block (w := w) (h.block b hb (by simpa using fun e => hn e.symm))
theorem gr_freeP {w w1 : World} {p b o : Nat} (h : w.grownBy w1 (some p)) (hb : b < w.heap.size) (hn : p ≠ b) : w1.frozen? ⟨b, o, none⟩ = w.frozen? ⟨b, o, none⟩ := World.frozen?_of_block (w := w) (h.block b hb (by simpa using fun e => hn e.symm))
/-- What stands in the list of ends. -/
def Ends (w : World) (p wb : Nat) (s : Value) (W : Nat → Wal) (B : Int) (xs : List Value) (r : Nat) : Prop := ∀ j, j < r → ∃ x y z A Vp, xs[j * 3]? = some x ∧ xs[j * 3 + 1]? = some y ∧ xs[j * 3 + 2]? = some z ∧ WalAt w (fun b => Av p wb b ∧ (r < 2 → s.ownBlock ≠ some b)) x y z A ∧ WForm A ∧ Mid W B A Vp ∧ ∀ a, a < 3 → Vp a
def set3W (w : World) (b o : Nat) (x y z : Value) : World := ((w.setCell ⟨b, o, none⟩ x).setCell ⟨b, o + 1, none⟩ y).setCell ⟨b, o + 2, none⟩ z
/-- The end of a round: x was filled, and perhaps stored at its kiosk. -/
theorem round_skip {w w3 wo w9 w10 : World} {p wb xb q : Nat} {l : List Int} {V : Nat → Value × Value × Value} {W : Nat → Wal} (hkio : Kiosks wo p wb V W) (hg9 : wo.grownBy w9 (some p)) (hgn : w9.grownBy w10 none) (hs9 : StreamAt w9 p p l q) (hfr9 : Fr w3 w9 p wb) (hgr9 : w.grownBy w9 none)
    (hpw : p ≠ wb) (hpx : p < xb) (hx0 : wo.heap.size ≤ xb) (hx3 : w3.heap.size ≤ xb) (hxw : w.heap.size ≤ xb) (x y z : Value) :
    Kiosks (set3W w10 xb 0 x y z) p wb V W ∧ StreamAt (set3W w10 xb 0 x y z) p p l q ∧ Fr w3 (set3W w10 xb 0 x y z) p wb ∧ w.grownBy (set3W w10 xb 0 x y z) none := by
  have g := set3_gr w10 xb x y z
  refine ⟨hkio.keep (gr_grown (gr_trans hg9 (gr_weak hgn _)) g (fun k e => by cases e; exact hx0)) (fun q e => by cases e; rfl) hpw, (hs9.keep0 hgn).keep g (fun k e => by cases e; exact hpx), (hfr9.step0 hgn).step g (fun k e => by cases e; exact .inr (.inr hx3)), gr_grown (gr_trans hgr9 hgn) g (fun k e => by cases e; exact hxw)⟩
theorem round_put {w w3 wo w9 w10 : World} {p wb xb q kk : Nat} {l : List Int} {V : Nat → Value × Value × Value} {W : Nat → Wal} {A : Wal} {vs : List Value} {x y z : Value} (hkio : Kiosks wo p wb V W) (hg9 : wo.grownBy w9 (some p)) (hgn : w9.grownBy w10 none) (hs9 : StreamAt w9 p p l q) (hfr9 : Fr w3 w9 p wb) (hgr9 : w.grownBy w9 none)
    (hpw : p < wb) (hpx : p < xb) (hx0 : wo.heap.size ≤ xb) (hx3 : w3.heap.size ≤ xb) (hxw : w.heap.size ≤ xb) (hx9 : xb < w9.heap.size) (hwb : wb < w9.heap.size) (hww : w.heap.size ≤ wb) (hk : kk < 3) (hon : WalOwn w10 w9.heap.size x y z A vs) (x0 y0 z0 : Value) :
    Kiosks (set3W (set3W w10 xb 0 x0 y0 z0) wb (kk * 3) x y z) p wb (updV V kk (x, y, z)) (upd W kk A) ∧ StreamAt (set3W (set3W w10 xb 0 x0 y0 z0) wb (kk * 3) x y z) p p l q ∧ Fr w3 (set3W (set3W w10 xb 0 x0 y0 z0) wb (kk * 3) x y z) p wb ∧ w.grownBy (set3W (set3W w10 xb 0 x0 y0 z0) wb (kk * 3) x y z) none := by
  obtain ⟨h1, h2, h3, h4⟩ := round_skip hkio hg9 hgn hs9 hfr9 hgr9 (by omega) hpx hx0 hx3 hxw x0 y0 z0
  have ho : WalOwn (set3W w10 xb 0 x0 y0 z0) w9.heap.size x y z A vs := hon.keepS (set3_gr w10 xb x0 y0 z0) hx9
  obtain ⟨k1, k2⟩ := h1.put kk hk x y z A (ho.at.weak (fun b _ hb => ⟨by omega, by omega⟩))
  exact ⟨k1, h2.keep k2 (fun k e => by cases e; exact hpw), h3.step k2 (fun k e => by cases e; exact .inr (.inl rfl)), gr_grown h4 k2 (fun k e => by cases e; exact hww)⟩

set_option maxRecDepth 100000 in
set_option maxHeartbeats 16000000 in
theorem wallets_any (l : List Int) (a : Option Addr) (cap : Nat) (w : World) (hc : CellsAt w a (ints l)) (hl : l.length ≤ 9223372036854775807) :
    Calls Try.prog 4 #[.slice a l.length cap] w fun e w' => e = .returned (.bool true) ∧ w.grownBy w' none := by
  have hs0 := StreamAt.made cap hc hl
  obtain ⟨w1, hw1⟩ : ∃ w1, w1 = (w.alloc (.cells #[.slice a l.length cap, .int .i64 0] 25)).alloc (.cells #[.string { data := #[97] }, .string { data := #[98] }, .string { data := #[99] }] 9) := ⟨_, rfl⟩
  have hgw1 : w.grownBy w1 none := by rw [hw1]; exact gr_alloc (gr_alloc (gr_refl w none) _) _
  have hsz1 : w1.heap.size = w.heap.size + 2 := by rw [hw1]; simp
  have hs1 : StreamAt w1 w.heap.size w.heap.size l 0 := by rw [hw1]; exact hs0.keep0 (gr_alloc (gr_refl _ none) _)
  have hst1 : ∀ i, i < 3 → w1.cell? ⟨w.heap.size + 1, 0 + i, none⟩ = some (siteV i) := by
    intro i hi
    rw [Nat.zero_add]
    have hb : w1.heap[w.heap.size + 1]? = some (.cells #[.string { data := #[97] }, .string { data := #[98] }, .string { data := #[99] }] 9 (0, 0)) := by rw [hw1]; exact (heap_two w _ _).2
    simp only [World.cell?, hb]
    obtain rfl | rfl | rfl : i = 0 ∨ i = 1 ∨ i = 2 := by omega
    all_goals rfl
  have EM := Lib.hid (empty_any 3 (w.heap.size + 1) 0 3 w1 (by omega) (by omega) hst1)
  have HST1 := Lib.hid hst1
  have HS1 := Lib.hid hs1
  clear hst1 hs1 hs0 hc
  go_enter Try.func4, Try.ntmps4
  go_wp2_with (fail)
  rw [← hw1]
  clear hw1
  refine EM.out.mono ?_
  rintro e w2 ⟨x, y, z, vs, rfl, hx, hy, hz, hap, hg2⟩
  have how := zero_wal w2 w1.heap.size x y z vs hx hy hz hap
  obtain ⟨gx, cx, hxe, _, _, _, _⟩ := own_some how.s (by omega)
  obtain ⟨gy, cy, hye, _, _, _, _⟩ := own_some how.r.outer (by decide)
  obtain ⟨gz, cz, hze, _, _, _, _⟩ := own_some how.u (by omega)
  rw [show zeroW.T.length = 3 from rfl] at hye
  subst hxe hye hze
  clear hx hy hz hap EM
  have hgr2 := gr_trans hgw1 hg2
  have hsz2 := hg2.size
  have hs2 := HS1.out.keep0 hg2
  have hst2 : ∀ i, i < 3 → w2.cell? ⟨w.heap.size + 1, i, none⟩ = some (siteV i) := fun i hi => by
    have := HST1.out i hi
    rw [Nat.zero_add] at this
    exact (gr_cell hg2 (lt_of_cell this)).trans this
  have HST2 := Lib.hid hst2
  clear hst2 hg2
  go_wp2_with (fail)
  obtain ⟨w3, hw3⟩ : ∃ w3, w3 = (w2.alloc (.cells #[.slice (some ⟨gx, 0, none⟩) 3 cx, .slice (some ⟨gy, 0, none⟩) 3 cy, .slice (some ⟨gz, 0, none⟩) 3 cz] 50)).alloc (.cells #[.slice (some ⟨gx, 0, none⟩) 3 cx, .slice (some ⟨gy, 0, none⟩) 3 cy, .slice (some ⟨gz, 0, none⟩) 3 cz, .slice (some ⟨gx, 0, none⟩) 3 cx, .slice (some ⟨gy, 0, none⟩) 3 cy, .slice (some ⟨gz, 0, none⟩) 3 cz, .slice (some ⟨gx, 0, none⟩) 3 cx, .slice (some ⟨gy, 0, none⟩) 3 cy, .slice (some ⟨gz, 0, none⟩) 3 cz] 50) := ⟨_, rfl⟩
  have hg3 : w2.grownBy w3 none := by rw [hw3]; exact gr_alloc (gr_alloc (gr_refl _ _) _) _
  have hF3 : w3.heap[w2.heap.size]? = some (.cells #[.slice (some ⟨gx, 0, none⟩) 3 cx, .slice (some ⟨gy, 0, none⟩) 3 cy, .slice (some ⟨gz, 0, none⟩) 3 cz] 50 (0, 0)) := by rw [hw3]; exact (heap_two w2 _ _).1
  have hK3 := (heap_two w2 (.cells #[.slice (some ⟨gx, 0, none⟩) 3 cx, .slice (some ⟨gy, 0, none⟩) 3 cy, .slice (some ⟨gz, 0, none⟩) 3 cz] 50) (.cells #[.slice (some ⟨gx, 0, none⟩) 3 cx, .slice (some ⟨gy, 0, none⟩) 3 cy, .slice (some ⟨gz, 0, none⟩) 3 cz, .slice (some ⟨gx, 0, none⟩) 3 cx, .slice (some ⟨gy, 0, none⟩) 3 cy, .slice (some ⟨gz, 0, none⟩) 3 cz, .slice (some ⟨gx, 0, none⟩) 3 cx, .slice (some ⟨gy, 0, none⟩) 3 cy, .slice (some ⟨gz, 0, none⟩) 3 cz] 50)).2
  rw [← hw3] at hK3
  have hs3 := hs2.keep0 hg3
  have hfw : WalAt w3 (Av w.heap.size (w2.heap.size + 1)) (.slice (some ⟨gx, 0, none⟩) 3 cx) (.slice (some ⟨gy, 0, none⟩) 3 cy) (.slice (some ⟨gz, 0, none⟩) 3 cz) zeroW := (how.at.weak (fun b hb h => ⟨by omega, by omega⟩)).keep0 hg3
  have hkio : Kiosks w3 w.heap.size (w2.heap.size + 1) (fun _ => (.slice (some ⟨gx, 0, none⟩) 3 cx, .slice (some ⟨gy, 0, none⟩) 3 cy, .slice (some ⟨gz, 0, none⟩) 3 cz)) (fun _ => zeroW) := by
    refine ⟨⟨_, hK3, rfl, fun k hk => ?_⟩, fun k _ => hfw⟩
    obtain rfl | rfl | rfl : k = 0 ∨ k = 1 ∨ k = 2 := by omega
    all_goals exact ⟨rfl, rfl, rfl⟩
  have hsz3 : w3.heap.size = w2.heap.size + 2 := by rw [hw3]; simp
  have HST3 := Lib.hid (fun i hi => (gr_cell hg3 (lt_of_cell (HST2.out i hi))).trans (HST2.out i hi) : ∀ i, i < 3 → w3.cell? ⟨w.heap.size + 1, i, none⟩ = some (siteV i))
  have hgr3 := gr_trans hgr2 hg3
  obtain ⟨wb, hwb⟩ : ∃ wb, wb = w2.heap.size + 1 := ⟨_, rfl⟩
  rw [← hwb] at hfw hkio hK3
  rw [← hw3, ← hwb]
  obtain ⟨p, hp⟩ : ∃ p, p = w.heap.size := ⟨_, rfl⟩
  have hpw0 : w.heap.size ≤ p := by omega
  rw [← hp] at hfw hkio hs3 HST3 ⊢
  have hpw : p ≠ wb := by omega
  have hp1 : p + 1 ≠ wb := by omega
  have hpf : p < w2.heap.size := by omega
  have hwbf : w2.heap.size ≠ wb := by omega
  have hwb3 : wb < w3.heap.size := by omega
  have hpwl : p < wb := by omega
  have hwwb : w.heap.size ≤ wb := by omega
  have hp13 : p + 1 < w2.heap.size := by omega
  have HWB := Lib.hid hwb
  have HPP := Lib.hid hp
  have HSZ3 := Lib.hid hsz3
  have hF5 := hF3
  have HF3 := Lib.hid hF3
  clear hw3 hg3 how hs2 HST2 HST1 HS1 hgw1 hgr2 hK3 hwb hsz3 hF3 hF5 hsz1
  clear hp
  refine (next_any l 0 24 p w3 hs3 (by omega) (by omega)).mono ?_
  rintro e w5 ⟨rfl, hs5, hg5⟩
  have hr := nxt_range l 0 24 (by omega)
  obtain ⟨n0, hn0⟩ : ∃ n0 : Nat, nxt l 0 24 = n0 := ⟨(nxt l 0 24).toNat, by omega⟩
  rw [hn0] at hr ⊢
  have hn24 : n0 < 24 := by omega
  have hfr5 : Fr w3 w5 p wb := (Fr.refl w3 p wb).step hg5 (fun k e => by cases e; exact .inl rfl)
  have hk5 := hkio.keep hg5 (fun q e => by cases e; rfl) hpw
  have hgr5 : w.grownBy w5 none := gr_grown hgr3 hg5 (fun k e => by cases e; exact hpw0)
  clear hr hn0 hs3 hkio hg5 hgr3
  go_wp2_with (fail)
  go_loopw [8, 9, 39] (fun s8 s9 i wr => ∃ (t q : Nat) (V : Nat → Value × Value × Value) (W : Nat → Wal) (pd sp : Int), t ≤ n0 ∧ i = .int .i64 t ∧ s8 = .int .i64 pd ∧ s9 = .int .i64 sp ∧ 0 ≤ pd ∧ pd ≤ 100 * t ∧ 0 ≤ sp ∧ sp ≤ 100 * t ∧ q ≤ 1 + 4 * t ∧ StreamAt wr p p l q ∧ Kiosks wr p wb V W ∧ Sys W (100 * t) pd sp ∧ Fr w3 wr p wb ∧ w.grownBy wr none) (fun _ _ i _ => n0 - (intOf i).toNat)
  case atStart => exact ⟨0, 1, _, _, 0, 0, by omega, rfl, rfl, rfl, by omega, by omega, by omega, by omega, by omega, hs5, hk5, sys_start, hfr5, hgr5⟩
  case round =>
    obtain ⟨t, q, V, W, pd, sp, ht, rfl, rfl, rfl, hpd0, hpd1, hsp0, hsp1, hq, hsr, hkio, hsys, hfr, hgr⟩ := hrel
    obtain ⟨wo, rfl⟩ : ∃ wo : World, wo = wr := ⟨_, rfl⟩
    have HSYS := Lib.hid hsys
    have HKIO := Lib.hid hkio
    have HFR := Lib.hid hfr
    clear hsys hkio hfr
    by_cases hlt : t < n0
    · go_wp2_with (fail)
      refine (next_any l q 3 p wo hsr (by omega) (by omega)).mono ?_
      rintro e w6 ⟨rfl, hs6, hg6⟩
      have hr := nxt_range l q 3 (by omega)
      obtain ⟨kk, hkk⟩ : ∃ kk : Nat, nxt l q 3 = kk := ⟨(nxt l q 3).toNat, by omega⟩
      rw [hkk] at hr ⊢
      have hk3 : kk < 3 := by omega
      clear hr hkk
      go_wp2_with (fail)
      refine (pick_any l _ [5, 10, 40, 100] p w6 hs6 (by omega) (by decide) (by decide)).mono ?_
      rintro e w7 ⟨rfl, hs7, hg7⟩
      have hpm := pickM_mem l (q + 1) [5, 10, 40, 100] (by decide)
      obtain ⟨nn, hnn⟩ : ∃ nn, nn = pickM l (q + 1) [5, 10, 40, 100] := ⟨_, rfl⟩
      rw [← hnn] at hpm
      rw [← hnn]
      have hnn0 : 1 ≤ nn := by simp only [List.mem_cons, List.not_mem_nil, or_false] at hpm; omega
      have hnn1 : nn ≤ 100 := by simp only [List.mem_cons, List.not_mem_nil, or_false] at hpm; omega
      clear hpm hnn
      have hg67 := gr_trans hg6 hg7
      go_wp2_with (fail)
      obtain ⟨w8, hw8⟩ : ∃ w8, w8 = w7.alloc (.cells #[.slice none 0 0, .slice none 0 0, .slice none 0 0] 50) := ⟨_, rfl⟩
      have hg8 : w7.grownBy w8 none := by rw [hw8]; exact gr_alloc (gr_refl _ _) _
      have hX8 : w8.heap[w7.heap.size]? = some (.cells #[.slice none 0 0, .slice none 0 0, .slice none 0 0] 50 (0, 0)) := by rw [hw8]; exact heap_alloc_new w7 _
      have hs8 := hs7.keep0 hg8
      obtain ⟨xb, hxb⟩ : ∃ xb, xb = w7.heap.size := ⟨_, rfl⟩
      rw [← hw8, ← hxb]
      rw [← hxb] at hX8
      have hsz7 := hg67.size
      have hfsz := HFR.out.size
      have hxp : p ≠ xb := by have := hs7.lt; omega
      have hxw : wb ≠ xb := by omega
      have hx3 : w3.heap.size ≤ xb := by omega
      have HXB := Lib.hid hxb
      have hp1x : p + 1 ≠ xb := by omega
      have hx0 : wo.heap.size ≤ xb := by omega
      have hpx : p < xb := by have := hs7.lt; omega
      have hxw0 : w.heap.size ≤ xb := by have := hgr.size; omega
      clear hw8 hxb
      refine (next_any l _ 5 p w8 hs8 (by omega) (by omega)).mono ?_
      rintro e w9 ⟨rfl, hs9, hg9⟩
      have hr := nxt_range l (q + 1 + 1) 5 (by omega)
      obtain ⟨c, hcn⟩ : ∃ c : Nat, nxt l (q + 1 + 1) 5 = c := ⟨(nxt l (q + 1 + 1) 5).toNat, by omega⟩
      rw [hcn] at hr ⊢
      have hc5 : c < 5 := by omega
      have hg69 := gr_trans (gr_trans hg67 (gr_weak hg8 (some p))) hg9
      have hX9 := (hg9.block xb (lt_of_block hX8) (by simp; omega)).trans hX8
      have hk9 := HKIO.out.keep hg69 (fun q e => by cases e; rfl) hpw
      have hfr9 := HFR.out.step hg69 (fun k e => by cases e; exact .inl rfl)
      have hgr9 := gr_grown hgr hg69 (fun k e => by cases e; exact hpw0)
      have hst9 := hfr9.cell (HST3.out kk hk3) (by omega) hp1
      obtain ⟨v0, v1, v2, n0', n1', n2'⟩ := hk9.cells kk hk3
      obtain ⟨x0, x1, x2, f0, f1, f2⟩ := blk_cells hX9
      have hwk := hk9.wal kk hk3
      have hokk := HSYS.out.ok kk hk3
      have hxlt := lt_of_block hX9
      have HX9 := Lib.hid hX9
      have HK9 := Lib.hid hk9
      have HFR9 := Lib.hid hfr9
      have HG69 := Lib.hid hg69
      have HGR9 := Lib.hid hgr9
      have HS9 := Lib.hid hs9
      have hwb9 : wb < w9.heap.size := by have := hfr9.size; omega
      have hki : (0 : Int) ≤ (kk : Int) := by omega
      have hki3 : (kk : Int) < 3 := by omega
      clear hr hcn hg8 hX8 hs8 hg9 hg69 hs7 hg67 hg6 hg7 hsr hs6 hX9 hk9 hfr9 hgr hsz7 hs9 hgr9
      rcases (show c = 0 ∨ c = 1 ∨ c = 2 ∨ 3 ≤ c by omega) with rfl | rfl | rfl | hc3
      · have hV : ∃ X Y Z, V kk = (X, Y, Z) := ⟨(V kk).1, (V kk).2.1, (V kk).2.2, rfl⟩
        obtain ⟨X, Y, Z, hV⟩ := hV
        rw [hV] at v0 v1 v2 hwk
        simp only at v0 v1 v2 hwk
        obtain ⟨st, hst⟩ := siteV_str kk
        rw [hst] at hst9
        have hgd := gr_drew (gr_refl w9 none)
        have CR := Lib.hid (credit_any X Y Z (W kk) (100 * t) (Av p wb) kk nn w9.drew (hwk.keep0 hgd) hokk (by omega) hk3 hnn0)
        rw [hst] at CR
        obtain ⟨sb, so, sc, hXe, _, _, _⟩ := hwk.s
        obtain ⟨rb, ro, rc, hYe, _, _, _⟩ := hwk.r
        obtain ⟨ub, uo, uc, hZe, _, _, _⟩ := hwk.u
        subst hXe hYe hZe
        go_wp2_with (fail)
        go_region_held3 (fun w' => w'.cell? ⟨wb, kk * 3, none⟩ = some (.slice (some ⟨sb, so, none⟩) 3 sc) ∧ w'.cell? ⟨wb, kk * 3 + 1, none⟩ = some (.slice (some ⟨rb, ro, none⟩) 3 rc) ∧ w'.cell? ⟨wb, kk * 3 + 2, none⟩ = some (.slice (some ⟨ub, uo, none⟩) 3 uc) ∧ w'.cell? ⟨p + 1, kk, none⟩ = some (.string st))
          (first | exact ⟨v0, v1, v2, hst9⟩ | exact ⟨t0, t1, t2, t3⟩ | exact ⟨cell_set3' t0 (by omega) _ _ _, cell_set3' t1 (by omega) _ _ _, cell_set3' t2 (by omega) _ _ _, cell_set3' t3 (by omega) _ _ _⟩)
          (first | (go_at_call 20; (with_reducible refine CR.out.mono ?_); rintro e w10 ⟨xn, yn, zn, vn, rfl, hon, hgn'⟩; obtain ⟨g1, c1, he1, _, _, _, _⟩ := own_some hon.s (by omega); obtain ⟨g2, c2, he2, _, _, _, _⟩ := own_some hon.r.outer (by rw [hon.f.lenT]; omega); rw [hon.f.lenT] at he2; obtain ⟨g3, c3, he3, _, _, _, _⟩ := own_some hon.u (by omega); subst he1 he2 he3; have hgn := gr_trans hgd hgn'; have t0 := (gr_cell hgn (lt_of_cell v0)).trans v0; have t1 := (gr_cell hgn (lt_of_cell v1)).trans v1; have t2 := (gr_cell hgn (lt_of_cell v2)).trans v2; have t3 := (gr_cell hgn (lt_of_cell hst9)).trans hst9; have hX10 := (hgn.block xb hxlt (by simp)).trans HX9.out; obtain ⟨y0, y1, y2, e0, e1, e2⟩ := blk_cells hX10; have m0 := (gr_free (o := kk * 3) hgn hwb9).trans n0'; have m1 := (gr_free (o := kk * 3 + 1) hgn hwb9).trans n1'; have m2 := (gr_free (o := kk * 3 + 2) hgn hwb9).trans n2')
                 | fail)
        go_wp2_with (fail)
        go_roundw
        case rel =>
          obtain ⟨r1, r2, r3, r4⟩ := round_put HKIO.out HG69.out hgn HS9.out HFR9.out HGR9.out hpwl hpx hx0 hx3 hxw0 hxlt hwb9 hwwb hk3 hon (.slice (some ⟨g1, 0, none⟩) 3 c1) (.slice (some ⟨g2, 0, none⟩) 3 c2) (.slice (some ⟨g3, 0, none⟩) 3 c3)
          have hsy := sys_credit HSYS.out hk3 (by omega) hnn1
          exact ⟨t + 1, q + 1 + 1 + 1, _, _, pd + nn, sp, by omega, by go_num, rfl, rfl, by omega, by omega, by omega, by omega, by omega, r2, r1, by rw [show (100 : Int) * ((t + 1 : Nat) : Int) = 100 * t + 100 by omega]; exact hsy, r3, r4⟩
        case measure => simp [intOf]; omega
      · have hV : ∃ X Y Z, V kk = (X, Y, Z) := ⟨(V kk).1, (V kk).2.1, (V kk).2.2, rfl⟩
        obtain ⟨X, Y, Z, hV⟩ := hV
        rw [hV] at v0 v1 v2 hwk
        simp only at v0 v1 v2 hwk
        obtain ⟨st, hst⟩ := siteV_str kk
        rw [hst] at hst9
        have hgd := gr_drew (gr_refl w9 none)
        obtain ⟨mm, hmm⟩ : ∃ mm, mm = (kk + 1) % 3 := ⟨_, rfl⟩
        have hm3 : mm < 3 := by omega
        have hkm : kk ≠ mm := by omega
        have hmod : ((kk : Int) + 1).tmod 3 = (mm : Int) := by rw [Int.tmod_eq_emod_of_nonneg (by omega)]; omega
        have hmod2 : ((kk : Int) + 1) % 3 = (mm : Int) := by omega
        have hkw : IntKind.i64.wrap ((kk : Int) + 1) = (kk : Int) + 1 := IntWalk.i64_in _ (by omega)
        have hmw : IntKind.i64.wrap (mm : Int) = (mm : Int) := IntWalk.i64_in _ (by omega)
        have hmi : (0 : Int) ≤ (mm : Int) := by omega
        have hmi3 : (mm : Int) < 3 := by omega
        obtain ⟨su, hsu⟩ := siteV_str mm
        have hsu9 := HFR9.out.cell (HST3.out mm hm3) (by omega) hp1
        rw [hsu] at hsu9
        clear hmm
        by_cases hcan : nn ≤ rightsTo (W kk) kk 3
        · have HCAN := Lib.hid hcan
          clear hcan
          have CR := Lib.hid ((give_any X Y Z (W kk) (100 * t) (Av p wb) kk mm nn w9.drew (hwk.keep0 hgd) hokk (by omega) hk3 hm3 hkm hnn0).mono (fun _ _ h => op_yes h HCAN.out))
          rw [hst, hsu] at CR
          obtain ⟨sb, so, sc, hXe, _, _, _⟩ := hwk.s
          obtain ⟨rb, ro, rc, hYe, _, _, _⟩ := hwk.r
          obtain ⟨ub, uo, uc, hZe, _, _, _⟩ := hwk.u
          subst hXe hYe hZe
          go_wp2_with (fail)
          go_region_held3 (fun w' => w'.cell? ⟨wb, kk * 3, none⟩ = some (.slice (some ⟨sb, so, none⟩) 3 sc) ∧ w'.cell? ⟨wb, kk * 3 + 1, none⟩ = some (.slice (some ⟨rb, ro, none⟩) 3 rc) ∧ w'.cell? ⟨wb, kk * 3 + 2, none⟩ = some (.slice (some ⟨ub, uo, none⟩) 3 uc) ∧ w'.cell? ⟨p + 1, kk, none⟩ = some (.string st) ∧ w'.cell? ⟨p + 1, mm, none⟩ = some (.string su))
            (first | exact ⟨v0, v1, v2, hst9, hsu9⟩ | exact ⟨t0, t1, t2, t3, t4⟩ | exact ⟨cell_set3' t0 (by omega) _ _ _, cell_set3' t1 (by omega) _ _ _, cell_set3' t2 (by omega) _ _ _, cell_set3' t3 (by omega) _ _ _, cell_set3' t4 (by omega) _ _ _⟩)
            (first | (go_at_call 21; (with_reducible refine CR.out.mono ?_); rintro e w10 ⟨xn, yn, zn, vn, rfl, hon, hgn'⟩; obtain ⟨g1, c1, he1, _, _, _, _⟩ := own_some hon.s (by omega); obtain ⟨g2, c2, he2, _, _, _, _⟩ := own_some hon.r.outer (by rw [hon.f.lenT]; omega); rw [hon.f.lenT] at he2; obtain ⟨g3, c3, he3, _, _, _, _⟩ := own_some hon.u (by omega); subst he1 he2 he3; have hgn := gr_trans hgd hgn'; have t0 := (gr_cell hgn (lt_of_cell v0)).trans v0; have t1 := (gr_cell hgn (lt_of_cell v1)).trans v1; have t2 := (gr_cell hgn (lt_of_cell v2)).trans v2; have t3 := (gr_cell hgn (lt_of_cell hst9)).trans hst9; have t4 := (gr_cell hgn (lt_of_cell hsu9)).trans hsu9; have hX10 := (hgn.block xb hxlt (by simp)).trans HX9.out; obtain ⟨y0, y1, y2, e0, e1, e2⟩ := blk_cells hX10; have m0 := (gr_free (o := kk * 3) hgn hwb9).trans n0'; have m1 := (gr_free (o := kk * 3 + 1) hgn hwb9).trans n1'; have m2 := (gr_free (o := kk * 3 + 2) hgn hwb9).trans n2')
                   | fail)
          go_wp2_with (fail)
          go_roundw
          case rel =>
            obtain ⟨r1, r2, r3, r4⟩ := round_put HKIO.out HG69.out hgn HS9.out HFR9.out HGR9.out hpwl hpx hx0 hx3 hxw0 hxlt hwb9 hwwb hk3 hon (.slice (some ⟨g1, 0, none⟩) 3 c1) (.slice (some ⟨g2, 0, none⟩) 3 c2) (.slice (some ⟨g3, 0, none⟩) 3 c3)
            have hsy := sys_give HSYS.out hk3 hm3 hkm (by omega) hnn1 HCAN.out
            exact ⟨t + 1, q + 1 + 1 + 1, _, _, pd, sp, by omega, by go_num, rfl, rfl, by omega, by omega, by omega, by omega, by omega, r2, r1, by rw [show (100 : Int) * ((t + 1 : Nat) : Int) = 100 * t + 100 by omega]; exact hsy, r3, r4⟩
          case measure => simp [intOf]; omega

        · have HCAN := Lib.hid hcan
          clear hcan
          have CR := Lib.hid ((give_any X Y Z (W kk) (100 * t) (Av p wb) kk mm nn w9.drew (hwk.keep0 hgd) hokk (by omega) hk3 hm3 hkm hnn0).mono (fun _ _ h => op_no h HCAN.out))
          rw [hst, hsu] at CR
          obtain ⟨sb, so, sc, hXe, _, _, _⟩ := hwk.s
          obtain ⟨rb, ro, rc, hYe, _, _, _⟩ := hwk.r
          obtain ⟨ub, uo, uc, hZe, _, _, _⟩ := hwk.u
          subst hXe hYe hZe
          go_wp2_with (fail)
          go_region_held3 (fun w' => w'.cell? ⟨wb, kk * 3, none⟩ = some (.slice (some ⟨sb, so, none⟩) 3 sc) ∧ w'.cell? ⟨wb, kk * 3 + 1, none⟩ = some (.slice (some ⟨rb, ro, none⟩) 3 rc) ∧ w'.cell? ⟨wb, kk * 3 + 2, none⟩ = some (.slice (some ⟨ub, uo, none⟩) 3 uc) ∧ w'.cell? ⟨p + 1, kk, none⟩ = some (.string st) ∧ w'.cell? ⟨p + 1, mm, none⟩ = some (.string su))
            (first | exact ⟨v0, v1, v2, hst9, hsu9⟩ | exact ⟨t0, t1, t2, t3, t4⟩ | exact ⟨cell_set3' t0 (by omega) _ _ _, cell_set3' t1 (by omega) _ _ _, cell_set3' t2 (by omega) _ _ _, cell_set3' t3 (by omega) _ _ _, cell_set3' t4 (by omega) _ _ _⟩)
            (first | (go_at_call 21; (with_reducible refine CR.out.mono ?_); rintro e w10 ⟨rfl, hgn'⟩; have hgn := gr_trans hgd hgn'; have t0 := (gr_cell hgn (lt_of_cell v0)).trans v0; have t1 := (gr_cell hgn (lt_of_cell v1)).trans v1; have t2 := (gr_cell hgn (lt_of_cell v2)).trans v2; have t3 := (gr_cell hgn (lt_of_cell hst9)).trans hst9; have t4 := (gr_cell hgn (lt_of_cell hsu9)).trans hsu9; have hX10 := (hgn.block xb hxlt (by simp)).trans HX9.out; obtain ⟨y0, y1, y2, e0, e1, e2⟩ := blk_cells hX10; have m0 := (gr_free (o := kk * 3) hgn hwb9).trans n0'; have m1 := (gr_free (o := kk * 3 + 1) hgn hwb9).trans n1'; have m2 := (gr_free (o := kk * 3 + 2) hgn hwb9).trans n2')
                   | fail)
          go_wp2_with (fail)
          go_roundw
          case rel =>
            obtain ⟨r1, r2, r3, r4⟩ := round_skip HKIO.out HG69.out hgn HS9.out HFR9.out HGR9.out hpw hpx hx0 hx3 hxw0 (.slice none 0 0) (.slice none 0 0) (.slice none 0 0)
            exact ⟨t + 1, q + 1 + 1 + 1, _, _, pd, sp, by omega, by go_num, rfl, rfl, by omega, by omega, by omega, by omega, by omega, r2, r1, HSYS.out.more (by omega), r3, r4⟩
          case measure => simp [intOf]; omega
      · have hV : ∃ X Y Z, V kk = (X, Y, Z) := ⟨(V kk).1, (V kk).2.1, (V kk).2.2, rfl⟩
        obtain ⟨X, Y, Z, hV⟩ := hV
        rw [hV] at v0 v1 v2 hwk
        simp only at v0 v1 v2 hwk
        obtain ⟨st, hst⟩ := siteV_str kk
        rw [hst] at hst9
        have hgd := gr_drew (gr_refl w9 none)
        by_cases hcan : nn ≤ rightsTo (W kk) kk 3
        · have HCAN := Lib.hid hcan
          clear hcan
          have CR := Lib.hid ((spend_any X Y Z (W kk) (100 * t) (Av p wb) kk nn w9.drew (hwk.keep0 hgd) hokk (by omega) hk3 hnn0).mono (fun _ _ h => op_yes h HCAN.out))
          rw [hst] at CR
          obtain ⟨sb, so, sc, hXe, _, _, _⟩ := hwk.s
          obtain ⟨rb, ro, rc, hYe, _, _, _⟩ := hwk.r
          obtain ⟨ub, uo, uc, hZe, _, _, _⟩ := hwk.u
          subst hXe hYe hZe
          go_wp2_with (fail)
          go_region_held3 (fun w' => w'.cell? ⟨wb, kk * 3, none⟩ = some (.slice (some ⟨sb, so, none⟩) 3 sc) ∧ w'.cell? ⟨wb, kk * 3 + 1, none⟩ = some (.slice (some ⟨rb, ro, none⟩) 3 rc) ∧ w'.cell? ⟨wb, kk * 3 + 2, none⟩ = some (.slice (some ⟨ub, uo, none⟩) 3 uc) ∧ w'.cell? ⟨p + 1, kk, none⟩ = some (.string st))
            (first | exact ⟨v0, v1, v2, hst9⟩ | exact ⟨t0, t1, t2, t3⟩ | exact ⟨cell_set3' t0 (by omega) _ _ _, cell_set3' t1 (by omega) _ _ _, cell_set3' t2 (by omega) _ _ _, cell_set3' t3 (by omega) _ _ _⟩)
            (first | (go_at_call 22; (with_reducible refine CR.out.mono ?_); rintro e w10 ⟨xn, yn, zn, vn, rfl, hon, hgn'⟩; obtain ⟨g1, c1, he1, _, _, _, _⟩ := own_some hon.s (by omega); obtain ⟨g2, c2, he2, _, _, _, _⟩ := own_some hon.r.outer (by rw [hon.f.lenT]; omega); rw [hon.f.lenT] at he2; obtain ⟨g3, c3, he3, _, _, _, _⟩ := own_some hon.u (by omega); subst he1 he2 he3; have hgn := gr_trans hgd hgn'; have t0 := (gr_cell hgn (lt_of_cell v0)).trans v0; have t1 := (gr_cell hgn (lt_of_cell v1)).trans v1; have t2 := (gr_cell hgn (lt_of_cell v2)).trans v2; have t3 := (gr_cell hgn (lt_of_cell hst9)).trans hst9; have hX10 := (hgn.block xb hxlt (by simp)).trans HX9.out; obtain ⟨y0, y1, y2, e0, e1, e2⟩ := blk_cells hX10; have m0 := (gr_free (o := kk * 3) hgn hwb9).trans n0'; have m1 := (gr_free (o := kk * 3 + 1) hgn hwb9).trans n1'; have m2 := (gr_free (o := kk * 3 + 2) hgn hwb9).trans n2')
                   | fail)
          go_wp2_with (fail)
          go_roundw
          case rel =>
            obtain ⟨r1, r2, r3, r4⟩ := round_put HKIO.out HG69.out hgn HS9.out HFR9.out HGR9.out hpwl hpx hx0 hx3 hxw0 hxlt hwb9 hwwb hk3 hon (.slice (some ⟨g1, 0, none⟩) 3 c1) (.slice (some ⟨g2, 0, none⟩) 3 c2) (.slice (some ⟨g3, 0, none⟩) 3 c3)
            have hsy := sys_spend HSYS.out hk3 (by omega) hnn1 HCAN.out
            exact ⟨t + 1, q + 1 + 1 + 1, _, _, pd, sp + nn, by omega, by go_num, rfl, rfl, by omega, by omega, by omega, by omega, by omega, r2, r1, by rw [show (100 : Int) * ((t + 1 : Nat) : Int) = 100 * t + 100 by omega]; exact hsy, r3, r4⟩
          case measure => simp [intOf]; omega

        · have HCAN := Lib.hid hcan
          clear hcan
          have CR := Lib.hid ((spend_any X Y Z (W kk) (100 * t) (Av p wb) kk nn w9.drew (hwk.keep0 hgd) hokk (by omega) hk3 hnn0).mono (fun _ _ h => op_no h HCAN.out))
          rw [hst] at CR
          obtain ⟨sb, so, sc, hXe, _, _, _⟩ := hwk.s
          obtain ⟨rb, ro, rc, hYe, _, _, _⟩ := hwk.r
          obtain ⟨ub, uo, uc, hZe, _, _, _⟩ := hwk.u
          subst hXe hYe hZe
          go_wp2_with (fail)
          go_region_held3 (fun w' => w'.cell? ⟨wb, kk * 3, none⟩ = some (.slice (some ⟨sb, so, none⟩) 3 sc) ∧ w'.cell? ⟨wb, kk * 3 + 1, none⟩ = some (.slice (some ⟨rb, ro, none⟩) 3 rc) ∧ w'.cell? ⟨wb, kk * 3 + 2, none⟩ = some (.slice (some ⟨ub, uo, none⟩) 3 uc) ∧ w'.cell? ⟨p + 1, kk, none⟩ = some (.string st))
            (first | exact ⟨v0, v1, v2, hst9⟩ | exact ⟨t0, t1, t2, t3⟩ | exact ⟨cell_set3' t0 (by omega) _ _ _, cell_set3' t1 (by omega) _ _ _, cell_set3' t2 (by omega) _ _ _, cell_set3' t3 (by omega) _ _ _⟩)
            (first | (go_at_call 22; (with_reducible refine CR.out.mono ?_); rintro e w10 ⟨rfl, hgn'⟩; have hgn := gr_trans hgd hgn'; have t0 := (gr_cell hgn (lt_of_cell v0)).trans v0; have t1 := (gr_cell hgn (lt_of_cell v1)).trans v1; have t2 := (gr_cell hgn (lt_of_cell v2)).trans v2; have t3 := (gr_cell hgn (lt_of_cell hst9)).trans hst9; have hX10 := (hgn.block xb hxlt (by simp)).trans HX9.out; obtain ⟨y0, y1, y2, e0, e1, e2⟩ := blk_cells hX10; have m0 := (gr_free (o := kk * 3) hgn hwb9).trans n0'; have m1 := (gr_free (o := kk * 3 + 1) hgn hwb9).trans n1'; have m2 := (gr_free (o := kk * 3 + 2) hgn hwb9).trans n2')
                   | fail)
          go_wp2_with (fail)
          go_roundw
          case rel =>
            obtain ⟨r1, r2, r3, r4⟩ := round_skip HKIO.out HG69.out hgn HS9.out HFR9.out HGR9.out hpw hpx hx0 hx3 hxw0 (.slice none 0 0) (.slice none 0 0) (.slice none 0 0)
            exact ⟨t + 1, q + 1 + 1 + 1, _, _, pd, sp, by omega, by go_num, rfl, rfl, by omega, by omega, by omega, by omega, by omega, r2, r1, HSYS.out.more (by omega), r3, r4⟩
          case measure => simp [intOf]; omega
      · obtain ⟨m, hm⟩ : ∃ m : Nat, nxt l (q + 1 + 1 + 1) 3 = m := ⟨(nxt l (q + 1 + 1 + 1) 3).toNat, by have := nxt_range l (q + 1 + 1 + 1) 3 (by omega); omega⟩
        have hm3 : m < 3 := by have := nxt_range l (q + 1 + 1 + 1) 3 (by omega); omega
        have hgd := gr_drew (gr_refl w9 none)
        have NX := Lib.hid (next_any l (q + 1 + 1 + 1) 3 p w9.drew (HS9.out.keep0 hgd) (by omega) (by omega))
        rw [hm] at NX
        have hX : ∃ X Y Z, V kk = (X, Y, Z) := ⟨(V kk).1, (V kk).2.1, (V kk).2.2, rfl⟩
        obtain ⟨X, Y, Z, hV⟩ := hX
        rw [hV] at v0 v1 v2 hwk
        simp only at v0 v1 v2 hwk
        obtain ⟨u0, u1, u2, _, _, _⟩ := HK9.out.cells m hm3
        have hwm := HK9.out.wal m hm3
        have hX' : ∃ X Y Z, V m = (X, Y, Z) := ⟨(V m).1, (V m).2.1, (V m).2.2, rfl⟩
        obtain ⟨X', Y', Z', hV'⟩ := hX'
        rw [hV'] at u0 u1 u2 hwm
        simp only at u0 u1 u2 hwm
        have hi0 : ¬ ((c : Int) = 0) := by omega
        have hi1 : ¬ ((c : Int) = 1) := by omega
        have hi2 : ¬ ((c : Int) = 2) := by omega
        have hmi : (0 : Int) ≤ (m : Int) := by omega
        have hmi3 : (m : Int) < 3 := by omega
        have hokm := HSYS.out.ok m hm3
        have HCM := Lib.hid (fun i hi => HSYS.out.cmp kk m i hk3 hm3 hi : ∀ i, i < 3 → RowLe (W kk) (W m) i ∨ RowLe (W m) (W kk) i)
        obtain ⟨sb, so, sc, hXe, _, _, _⟩ := hwk.s
        obtain ⟨rb, ro, rc, hYe, _, _, _⟩ := hwk.r
        obtain ⟨ub, uo, uc, hZe, _, _, _⟩ := hwk.u
        obtain ⟨sb', so', sc', hXe', _, _, _⟩ := hwm.s
        obtain ⟨rb', ro', rc', hYe', _, _, _⟩ := hwm.r
        obtain ⟨ub', uo', uc', hZe', _, _, _⟩ := hwm.u
        subst hXe hYe hZe hXe' hYe' hZe'
        clear hm
        go_wp2_with (fail)
        go_region_held3 (fun w' => w'.cell? ⟨wb, kk * 3, none⟩ = some (.slice (some ⟨sb, so, none⟩) 3 sc) ∧ w'.cell? ⟨wb, kk * 3 + 1, none⟩ = some (.slice (some ⟨rb, ro, none⟩) 3 rc) ∧ w'.cell? ⟨wb, kk * 3 + 2, none⟩ = some (.slice (some ⟨ub, uo, none⟩) 3 uc) ∧ w'.cell? ⟨wb, m * 3, none⟩ = some (.slice (some ⟨sb', so', none⟩) 3 sc') ∧ w'.cell? ⟨wb, m * 3 + 1, none⟩ = some (.slice (some ⟨rb', ro', none⟩) 3 rc') ∧ w'.cell? ⟨wb, m * 3 + 2, none⟩ = some (.slice (some ⟨ub', uo', none⟩) 3 uc'))
          (first | exact ⟨v0, v1, v2, u0, u1, u2⟩ | exact ⟨t0, t1, t2, t3, t4, t5⟩ | exact ⟨d0, d1, d2, d3, d4, d5⟩ | exact ⟨cell_set3' d0 (by omega) _ _ _, cell_set3' d1 (by omega) _ _ _, cell_set3' d2 (by omega) _ _ _, cell_set3' d3 (by omega) _ _ _, cell_set3' d4 (by omega) _ _ _, cell_set3' d5 (by omega) _ _ _⟩)
          (first | (go_at_call 9; (with_reducible refine NX.out.mono ?_); rintro e w10 ⟨rfl, hs10, hgm'⟩; have hgm := gr_trans (gr_weak hgd (some p)) hgm'; have t0 := (gr_cellP hgm (lt_of_cell v0) hpw).trans v0; have t1 := (gr_cellP hgm (lt_of_cell v1) hpw).trans v1; have t2 := (gr_cellP hgm (lt_of_cell v2) hpw).trans v2; have t3 := (gr_cellP hgm (lt_of_cell u0) hpw).trans u0; have t4 := (gr_cellP hgm (lt_of_cell u1) hpw).trans u1; have t5 := (gr_cellP hgm (lt_of_cell u2) hpw).trans u2; have MG := Lib.hid (merge_any _ _ _ _ _ _ (W kk) (W m) (100 * t) (Av p wb) w10 (hwk.keep hgm (fun q e hq => by cases e; exact hq.1 rfl)) (hwm.keep hgm (fun q e hq => by cases e; exact hq.1 rfl)) hokk hokm (by omega) HCM.out))
                 | (go_at_call 23; (with_reducible refine MG.out.mono ?_); rintro e w11 ⟨xn, yn, zn, vn, C, rfl, hon, hmx, hgn⟩; obtain ⟨g1, c1, he1, _, _, _, _⟩ := own_some hon.s (by omega); obtain ⟨g2, c2, he2, _, _, _, _⟩ := own_some hon.r.outer (by rw [hon.f.lenT]; omega); rw [hon.f.lenT] at he2; obtain ⟨g3, c3, he3, _, _, _, _⟩ := own_some hon.u (by omega); subst he1 he2 he3; have hgs := hgm.size; have hwb10 : wb < w10.heap.size := (by omega); have hxl : xb < w10.heap.size := (by omega); have d0 := (gr_cell hgn (lt_of_cell t0)).trans t0; have d1 := (gr_cell hgn (lt_of_cell t1)).trans t1; have d2 := (gr_cell hgn (lt_of_cell t2)).trans t2; have d3 := (gr_cell hgn (lt_of_cell t3)).trans t3; have d4 := (gr_cell hgn (lt_of_cell t4)).trans t4; have d5 := (gr_cell hgn (lt_of_cell t5)).trans t5; have hX10 := ((hgn.block xb hxl (by simp)).trans (hgm.block xb hxlt (by simp; omega))).trans HX9.out; obtain ⟨y0, y1, y2, e0, e1, e2⟩ := blk_cells hX10; have m0 := (gr_free (o := kk * 3) hgn hwb10).trans ((gr_freeP (o := kk * 3) hgm hwb9 hpw).trans n0'); have m1 := (gr_free (o := kk * 3 + 1) hgn hwb10).trans ((gr_freeP (o := kk * 3 + 1) hgm hwb9 hpw).trans n1'); have m2 := (gr_free (o := kk * 3 + 2) hgn hwb10).trans ((gr_freeP (o := kk * 3 + 2) hgm hwb9 hpw).trans n2'))
                 | fail)
        go_wp2_with (fail)
        go_roundw
        case rel =>
          obtain ⟨r1, r2, r3, r4⟩ := round_put HKIO.out (gr_trans HG69.out hgm) hgn hs10 (HFR9.out.step hgm (fun k e => by cases e; exact .inl rfl)) (gr_grown HGR9.out hgm (fun k e => by cases e; exact hpw0)) hpwl hpx hx0 hx3 hxw0 hxl hwb10 hwwb hk3 hon (.slice (some ⟨g1, 0, none⟩) 3 c1) (.slice (some ⟨g2, 0, none⟩) 3 c2) (.slice (some ⟨g3, 0, none⟩) 3 c3)
          have hsy := sys_merge HSYS.out hk3 hm3 hmx hon.f
          exact ⟨t + 1, q + 1 + 1 + 1 + 1, _, _, pd, sp, by omega, by go_num, rfl, rfl, by omega, by omega, by omega, by omega, by omega, r2, r1, hsy.more (by omega), r3, r4⟩
        case measure => simp [intOf]; omega
    · have htn : t = n0 := by omega
      have hB : 100 * (t : Int) ≤ 2400 := by omega
      have hq97 : q ≤ 97 := by omega
      have hfsz := HFR.out.size
      have hwbo : wb < wo.heap.size := by omega
      have hpo := hsr.lt
      have HK0 := HKIO
      have hfwo := HFR.out.wal hfw
      have hFo := (HFR.out.blk w2.heap.size (lt_of_block HF3.out) (by omega) hwbf).trans HF3.out
      go_wp2_with (fail)
      go_loopw [14, 137] (fun s14 i wr => ∃ (r q' : Nat) (xs : List Value), r ≤ 2 ∧ i = .int .i64 r ∧ q' ≤ 97 + 4 * r ∧ StreamAt wr p p l q' ∧ wr.ownsRow wo.heap.size 50 3 s14 r xs ∧ (r = 0 → s14 = .slice none 0 0) ∧ Ends wr p wb s14 W (100 * t) xs r ∧ wo.grownBy wr (some p)) (fun _ i _ => 2 - (intOf i).toNat)
      case atStart => exact ⟨0, q, [], by omega, rfl, (by omega), hsr, World.ownsRow_nil _ _ _ _, fun _ => rfl, fun j hj => by omega, gr_refl _ _⟩
      case round =>
        obtain ⟨r, q', xs, hr2, rfl, hq', hs', hown, hnil, hends, hgw⟩ := hrel
        have HNIL := Lib.hid hnil
        clear hnil
        by_cases hlr : r < 2
        · have hFr := (hgw.block w2.heap.size (lt_of_block hFo) (by simp; omega)).trans hFo
          obtain ⟨f0, f1, f2, _, _, _⟩ := blk_cells hFr
          have HENDS := Lib.hid hends
          have HOWN := Lib.hid hown
          clear hends hown
          go_wp2_with (fail)
          obtain ⟨wx, hwx⟩ : ∃ wx, wx = wr.alloc (.cells #[.slice (some ⟨gx, 0, none⟩) 3 cx, .slice (some ⟨gy, 0, none⟩) 3 cy, .slice (some ⟨gz, 0, none⟩) 3 cz] 50) := ⟨_, rfl⟩
          have hgx : wr.grownBy wx none := by rw [hwx]; exact gr_alloc (gr_refl _ _) _
          have hXx : wx.heap[wr.heap.size]? = some (.cells #[.slice (some ⟨gx, 0, none⟩) 3 cx, .slice (some ⟨gy, 0, none⟩) 3 cy, .slice (some ⟨gz, 0, none⟩) 3 cz] 50 (0, 0)) := by rw [hwx]; exact heap_alloc_new wr _
          rw [← hwx]
          have hsx := hs'.keep0 hgx
          obtain ⟨xb, hxb⟩ : ∃ xb, xb = wr.heap.size := ⟨_, rfl⟩
          have hgws := hgw.size
          have hpxb : p < xb := by omega
          rw [← hxb] at hXx ⊢
          have HXB := Lib.hid hxb
          have HXX := Lib.hid hXx
          have hxbl := lt_of_block hXx
          clear hwx hxb hXx hs'
          refine (order_any l q' 3 p wx hsx (by omega) (by omega)).mono ?_
          rintro e wy ⟨v1, L1, rfl, ho1, hi1, hsy, hgy⟩
          go_wp2_with (fail)
          refine (order_any l _ 3 p wy hsy (by omega) (by omega)).mono ?_
          rintro e wz ⟨v2, L2, rfl, ho2, hi2, hsz, hgz⟩
          have hgys := hgy.size
          have ho1z := own_keepS ho1 hgz (by omega)
          obtain ⟨k2, c2, he2, _, _, _, hc2⟩ := own_some ho2 (by omega)
          subst he2
          have hl2 := hi2.len
          have hl1 := hi1.len
          have hcl2 := own_cells ho2 (gr_refl wz (some p)) (by omega)
          have hgzs := hgz.size
          go_wp2_with (at_builtin; refine wpList_app eInt rfl _ _ rfl wx.heap.size _ _ _ rfl ho1z (some ⟨k2, 0, none⟩) 3 c2 (ints L2) rfl ?_ hcl2 ?_ (ints_one L2) ?_ ?_ ?_; (· simp [ints, hl2]); (· intro h; cases h); (· omega); (· omega); intro v6 w6 hown6 hg6)
          have hlt1 : ∀ k, v1.ownBlock = some k → wx.heap.size ≤ k := fun k e => (ho1z.lt k e).1
          have hgA : wx.grownBy w6 (some p) := gr_grown (gr_trans hgy hgz) hg6 hlt1
          have hs6 := hsz.keep hg6 (fun k e => by have := hlt1 k e; omega)
          have hgo6 : wo.grownBy w6 (some p) := gr_trans (gr_trans hgw (gr_weak hgx _)) hgA
          have hX6 := (hgA.block xb hxbl (by simp; omega)).trans HXX.out
          have hxb0 := HXB.out
          have hwal6 : WalAt w6 (fun b => (Av p wb b ∧ u14.ownBlock ≠ some b) ∧ b ≠ xb) (.slice (some ⟨gx, 0, none⟩) 3 cx) (.slice (some ⟨gy, 0, none⟩) 3 cy) (.slice (some ⟨gz, 0, none⟩) 3 cz) zeroW := (hfwo.weak (fun b h hb => ⟨⟨hb, fun e => by have := (HOWN.out.lt b e).1; omega⟩, by omega⟩)).keep hgo6 (fun q e hq => by cases e; exact hq.1.1.1 rfl)
          obtain ⟨LL, hLL⟩ : ∃ LL, LL = L1 ++ L2 := ⟨_, rfl⟩
          have hown6' : w6.ownsRow wx.heap.size 3 1 v6 LL.length (ints LL) := by rw [hLL]; simpa [ints, hl1, hl2] using hown6
          have hmem : ∀ x, x ∈ LL → 0 ≤ x ∧ x < 3 := fun x hx => by rw [hLL, List.mem_append] at hx; rcases hx with hx | hx; exact (hi1.mem x).1 hx; exact (hi2.mem x).1 hx
          have hall : ∀ a : Nat, a < 3 → (a : Int) ∈ LL := fun a ha => by rw [hLL, List.mem_append]; exact .inl ((hi1.mem a).2 ⟨by omega, by omega⟩)
          have hlen : LL.length = 6 := by rw [hLL]; simp [hl1, hl2]
          obtain ⟨k6, c6, he6, hk6, _, hn6, hc6⟩ := own_some hown6' (by omega)
          subst he6
          have HM := Lib.hid hmem
          have HA := Lib.hid hall
          have HO6 := Lib.hid hown6'
          have HGW6 := Lib.hid (gr_trans (gr_weak hgx (some p)) hgA)
          have HGO6 := Lib.hid hgo6
          have HMID := Lib.hid (mid_start (W := W) (B := 100 * (t : Int)) (by omega) HSYS.out)
          clear hmem hall hown6' hown6 hgA hgo6 hgy hgz hg6 ho1 ho1z ho2 hcl2 hsy hsz hlt1 hxb0 hLL hi1 hi2
          go_wp2_with (fail)
          go_simp
          go_wp2_with (fail)
          go_loopw [146] (fun i w7 => ∃ (j : Nat) (x y z : Value) (A : Wal) (Vp : Nat → Prop), j ≤ 6 ∧ i = .int .i64 j ∧ w7.heap[xb]? = some (.cells #[x, y, z] 50 (0, 0)) ∧ WalAt w7 (fun b => (Av p wb b ∧ u14.ownBlock ≠ some b) ∧ b ≠ xb) x y z A ∧ WForm A ∧ Mid W (100 * t) A Vp ∧ (∀ a : Nat, (∃ i, i < j ∧ LL[i]? = some (a : Int)) → Vp a) ∧ w6.grownBy w7 (some xb)) (fun i _ => 6 - (intOf i).toNat)
          case atStart => exact ⟨0, _, _, _, zeroW, _, by omega, rfl, hX6, hwal6, (zero_ok (B := 0) (Int.le_refl _)).form, HMID.out, fun a ⟨i, h, _⟩ => by omega, gr_refl _ _⟩
          case round =>
            obtain ⟨j, x, y, z, A, Vp, hj, rfl, hX7, hwal7, hf7, hmid7, hV7, hg7⟩ := hrel
            have hc7 := own_cells HO6.out hg7 (by omega)
            by_cases hjl : j < LL.length
            · have hkk : ∃ kk : Nat, LL[j]? = some (kk : Int) ∧ kk < 3 := by
                have hmm := HM.out LL[j] (List.getElem_mem hjl)
                exact ⟨LL[j].toNat, by rw [List.getElem?_eq_getElem hjl]; congr 1; omega, by omega⟩
              obtain ⟨kk, hkk, hk3⟩ := hkk
              have hcj : wr.cell? ⟨k6, j, none⟩ = some (.int .i64 kk) := by
                obtain ⟨b, o, hbo, hcc⟩ := hc7 j (.int .i64 kk) (by simp [ints, hkk])
                cases hbo
                simpa using hcc
              have hxb0 := HXB.out
              have hgo7 : wo.grownBy wr (some p) := gr_grown HGO6.out hg7 (fun k e => by cases e; omega)
              have hk7 := HKIO.out.keep hgo7 (fun q e => by cases e; rfl) hpw
              obtain ⟨e0, e1, e2, _, _, _⟩ := hk7.cells kk hk3
              have hwk := hk7.wal kk hk3
              obtain ⟨d0, d1, d2, b0, b1, b2⟩ := blk_cells hX7
              clear hxb0
              have hwrs := hgo7.size
              have CS : Hid (∀ wq, wr.grownBy wq none → Calls Try.prog 23 #[.agg #[x, y, z], .agg #[(V kk).1, (V kk).2.1, (V kk).2.2]] wq fun e w2 => ∃ x1 c1 x2 c2 x3 c3 vs C, e = .returned (.tuple #[.agg #[.slice (some ⟨x1, 0, none⟩) 3 c1, .slice (some ⟨x2, 0, none⟩) 3 c2, .slice (some ⟨x3, 0, none⟩) 3 c3], .int .i64 0]) ∧ WalOwn w2 wq.heap.size (.slice (some ⟨x1, 0, none⟩) 3 c1) (.slice (some ⟨x2, 0, none⟩) 3 c2) (.slice (some ⟨x3, 0, none⟩) 3 c3) C vs ∧ IsMax A (W kk) C ∧ wr.grownBy w2 none ∧ ∀ (b : Nat) (o : Obj), wq.heap[b]? = some o → w2.heap[b]? = some o) := by
                intro wq hq
                refine (merge_any _ _ _ _ _ _ A (W kk) (100 * t) (Av p wb) wq ((hwal7.weak (fun b _ hb => hb.1.1)).keep0 hq) (hwk.keep0 hq) hmid7.ok (HSYS.out.ok kk hk3) (by omega) (fun i hi => (hmid7.cmp kk i hk3 hi).symm)).mono ?_
                rintro e w2 ⟨x9, y9, z9, vs, C, rfl, ho, hm, hg⟩
                obtain ⟨x1, c1, rfl, _, _, _, _⟩ := own_some ho.s (by omega)
                obtain ⟨x2, c2, rfl, _, _, _, _⟩ := own_some ho.r.outer (by rw [ho.f.lenT]; omega)
                rw [ho.f.lenT] at ho ⊢
                obtain ⟨x3, c3, rfl, _, _, _, _⟩ := own_some ho.u (by omega)
                exact ⟨x1, c1, x2, c2, x3, c3, vs, C, rfl, ho, hm, gr_trans hq hg, fun b o hb => (hg.block b (lt_of_block hb) (by simp)).trans hb⟩
              have hgd := gr_drew (gr_refl wr none)
              have hk3i : (kk : Int) < 3 := by omega
              have hwbl : wb < wr.heap.size := by omega
              have hxbl2 : xb < wr.heap.size := lt_of_block hX7
              go_wp2_with (fail)
              go_cut [18, 19] from 147 to 158 (fun s18 s19 wx => ∃ g x1 c1 x2 c2 x3 c3 vs C, s18 = .pointer (some ⟨g, 0, none⟩) ∧ s19 = .int .i64 0 ∧ wr.heap.size ≤ g ∧ wx.heap[g]? = some (.cells #[.slice (some ⟨x1, 0, none⟩) 3 c1, .slice (some ⟨x2, 0, none⟩) 3 c2, .slice (some ⟨x3, 0, none⟩) 3 c3] 50 (0, 0)) ∧ WalOwn wx wr.heap.size (.slice (some ⟨x1, 0, none⟩) 3 c1) (.slice (some ⟨x2, 0, none⟩) 3 c2) (.slice (some ⟨x3, 0, none⟩) 3 c3) C vs ∧ IsMax A (W kk) C ∧ wr.grownBy wx none)
              case first =>
                go_region_law (first | (go_simp; go_at_call 23; (with_reducible refine (CS.out _ ?_).mono ?_); (· first | exact hgd | exact gr_alloc hgd _); rintro e w9 ⟨x1, c1, x2, c2, x3, c3, vs, C, rfl, ho3, hm3, hg3, hk9⟩; have hs9 := hg3.size; (try (have hm9 : w9.heap[wr.heap.size]? = _ := hk9 _ _ (heap_alloc_new wr.drew _); have hlt9 := lt_of_block hm9; obtain ⟨m0, m1, m2, n0', n1, n2⟩ := blk_cells hm9)))
                                     | fail)
                all_goals (go_wp2_with (fail))
                all_goals (try go_simp)
                all_goals go_meet
                all_goals first
                  | exact ⟨_, _, _, _, _, _, _, _, _, rfl, rfl, hs9, heap_alloc_new w9 _, (ho3.keep0 (gr_alloc (gr_refl w9 none) _)).low (Nat.le_refl _), hm3, gr_alloc hg3 _⟩
                  | exact ⟨_, _, _, _, _, _, _, _, _, rfl, rfl, Nat.le_refl _, set3_heap hm9 _ _ _, (ho3.keepS (set3_gr w9 _ _ _ _) (by show _ < (wr.alloc _).heap.size; simp)).low (by show _ ≤ (wr.alloc _).heap.size; simp), hm3, gr_grown hg3 (set3_gr w9 _ _ _ _) (fun k hk => by cases hk; exact Nat.le_refl _)⟩
              case rest =>
                obtain ⟨g, x1, c1, x2, c2, x3, c3, vs9, C, rfl, rfl, hgle, hgb, hon, hmx, hgc⟩ := hcut
                obtain ⟨m0, m1, m2, _, _, _⟩ := blk_cells hgb
                have hXc := (hgc.block xb hxbl2 (by simp)).trans hX7
                clear d0 d1 d2 b0 b1 b2
                obtain ⟨d0, d1, d2, b0, b1, b2⟩ := blk_cells hXc
                have HXC := Lib.hid hXc
                have HGB := Lib.hid hgb
                have HMM := Lib.hid hmx
                have hxb0 := HXB.out
                have hw6x := HGW6.out.size
                have hgcs := hgc.size
                have hg7s := hg7.size
                have hwn : WalAt (set3W wc xb 0 (.slice (some ⟨x1, 0, none⟩) 3 c1) (.slice (some ⟨x2, 0, none⟩) 3 c2) (.slice (some ⟨x3, 0, none⟩) 3 c3)) (fun b => (Av p wb b ∧ u14.ownBlock ≠ some b) ∧ b ≠ xb) (.slice (some ⟨x1, 0, none⟩) 3 c1) (.slice (some ⟨x2, 0, none⟩) 3 c2) (.slice (some ⟨x3, 0, none⟩) 3 c3) C :=
                  (hon.at.weak (fun b _ hb => ⟨⟨⟨by omega, by omega⟩, fun e => by have := (HOWN.out.lt b e).2; omega⟩, by omega⟩)).keep (set3_gr wc xb _ _ _) (fun q e hq => by cases e; exact hq.2 rfl)
                have HWN := Lib.hid hwn
                clear hXc hgb hmx hxb0 hwn
                go_wp2_with (fail)
                go_roundw
                case rel =>
                  refine ⟨j + 1, _, _, _, C, _, by omega, by go_num, set3_heap HXC.out _ _ _, HWN.out, hon.f, hmid7.next HSYS.out hk3 HMM.out hon.f, ?_, gr_trans (gr_trans hg7 (gr_weak hgc _)) (set3_gr wc xb _ _ _)⟩
                  rintro a ⟨i, hi, ha⟩
                  by_cases hij : i < j
                  · exact .inl (hV7 a ⟨i, hij, ha⟩)
                  · obtain rfl : i = j := by omega
                    rw [hkk] at ha
                    cases ha
                    exact .inr (by omega)
                case measure => simp [intOf]; omega
            · obtain ⟨d0, d1, d2, b0, b1, b2⟩ := blk_cells hX7
              have hj6 : j = LL.length := by omega
              have hxb0 := HXB.out
              have hgo7 : wo.grownBy wr (some p) := gr_grown HGO6.out hg7 (fun k e => by cases e; omega)
              have hs7 := hs6.keep hg7 (fun k e => by cases e; omega)
              have hV : ∀ a : Nat, a < 3 → Vp a := fun a ha => hV7 a (by
                obtain ⟨i, hi, he⟩ := List.getElem_of_mem (HA.out a ha)
                exact ⟨i, by omega, by rw [List.getElem?_eq_getElem hi, he]⟩)
              have hw6x := HGW6.out.size
              have hown7 := own_keep (own_keepS HOWN.out HGW6.out (by omega)) hg7 (.inr (fun e => by have := (HOWN.out.lt xb e).2; omega))
              have hends7 : ∀ j, j < r → ∃ x y z A Vp, xs[j * 3]? = some x ∧ xs[j * 3 + 1]? = some y ∧ xs[j * 3 + 2]? = some z ∧ WalAt wr (fun b => Av p wb b ∧ u14.ownBlock ≠ some b) x y z A ∧ WForm A ∧ Mid W (100 * t) A Vp ∧ ∀ a, a < 3 → Vp a := by
                intro i hi
                obtain ⟨x, y, z, A, Vp, e0, e1, e2, hw, hf, hm, hv⟩ := HENDS.out i hi
                refine ⟨x, y, z, A, Vp, e0, e1, e2, ?_, hf, hm, hv⟩
                have h1 := hw.weak (B' := fun b => (Av p wb b ∧ u14.ownBlock ≠ some b) ∧ b ≠ xb) (fun b h hb => ⟨⟨hb.1, hb.2 (by omega)⟩, by omega⟩)
                have h2 := (h1.keep HGW6.out (fun q e hq => by cases e; exact hq.1.1.1 rfl)).keep hg7 (fun q e hq => by cases e; exact hq.2 rfl)
                exact h2.weak (fun b _ hb => hb.1)
              obtain ⟨bs, hbs1, hbs2, hownb, hbs0⟩ : ∃ bs, wo.heap.size ≤ bs ∧ bs ≤ wr.heap.size ∧ wr.ownsRow bs 50 3 u14 r xs ∧ (r = 0 → bs = wr.heap.size) := by
                by_cases h0 : r = 0
                · have hv := HNIL.out h0
                  subst h0
                  have hx : xs = [] := List.eq_nil_of_length_eq_zero (by simpa using hown7.1)
                  subst hx hv
                  exact ⟨wr.heap.size, hgo7.size, Nat.le_refl _, World.ownsRow_nil _ _ _ _, fun _ => rfl⟩
                · exact ⟨wo.heap.size, Nat.le_refl _, hgo7.size, hown7, fun h => absurd h h0⟩
              have HWAL := Lib.hid hwal7
              obtain ⟨a1, o1, c1, rfl, _, _, _⟩ := HWAL.out.s
              obtain ⟨a2, o2, c2, rfl, _, _, _⟩ := HWAL.out.r
              obtain ⟨a3, o3, c3, rfl, _, _, _⟩ := HWAL.out.u
              have HV := Lib.hid hV
              have HE7 := Lib.hid hends7
              have HBS0 := Lib.hid hbs0
              have hr1 : r ≤ 1 := by omega
              clear hxb0 hown7 hV hends7 hbs0 hwal7 hj6 hV7
              go_wp2_with (at_builtin; refine wpList_app1 eWallets rfl _ _ rfl bs _ r xs rfl wr #[.slice (some ⟨a1, o1, none⟩) 3 c1, .slice (some ⟨a2, o2, none⟩) 3 c2, .slice (some ⟨a3, o3, none⟩) 3 c3] rfl hownb _ rfl rfl rfl rfl (by omega) hbs2 ?_; intro v9 w9 hown9 hg9 hlt9; have hg9' : wr.grownBy w9 u14.ownBlock := hg9; have hlt9' : ∀ q, u14.ownBlock = some q → bs ≤ q := hlt9; clear hg9 hlt9)
              go_roundw
              case rel =>
                have hxl : xs.length = r * 3 := hownb.1
                have hszw := hgo7.size
                refine ⟨_, v9, _, _, _, _, .int .i64 ((r : Int) + 1), ⟨r + 1, by omega, by go_num, q' + (3 - 1) + (3 - 1), ?_, hs7.keep hg9' (fun k e => by have := hlt9' k e; omega), _, own_base hown9 hbs1, fun h => by omega, ?_, gr_grown hgo7 hg9' (fun k e => by have := hlt9' k e; omega)⟩, rfl, rfl, rfl, rfl, rfl, rfl, rfl⟩
                · omega
                · intro i hi
                  by_cases hir : i < r
                  · obtain ⟨x, y, z, A', Vp', e0, e1, e2, hw, hf, hm, hv⟩ := HE7.out i hir
                    refine ⟨x, y, z, A', Vp', ?_, ?_, ?_, (hw.keep hg9' (fun q e hq => hq.2 e)).weak (fun b _ hb => ⟨hb.1, fun h => by omega⟩), hf, by rw [← htn]; exact hm, hv⟩
                    · rw [List.getElem?_append_left (by omega)]; exact e0
                    · rw [List.getElem?_append_left (by omega)]; exact e1
                    · rw [List.getElem?_append_left (by omega)]; exact e2
                  · obtain rfl : i = r := by omega
                    refine ⟨.slice (some ⟨a1, o1, none⟩) 3 c1, .slice (some ⟨a2, o2, none⟩) 3 c2, .slice (some ⟨a3, o3, none⟩) 3 c3, A, Vp, ?_, ?_, ?_, ?_, hf7, by rw [← htn]; exact hmid7, HV.out⟩
                    · rw [List.getElem?_append_right (by omega), hxl]; simp
                    · rw [List.getElem?_append_right (by omega), hxl]; simp [show i * 3 + 1 - i * 3 = 1 by omega]
                    · rw [List.getElem?_append_right (by omega), hxl]; simp [show i * 3 + 2 - i * 3 = 2 by omega]
                    · have h1 := HWAL.out.weak (B' := fun b => (Av p wb b ∧ u14.ownBlock ≠ some b) ∧ b < wr.heap.size) (fun b h hb => ⟨hb.1, h⟩)
                      refine (h1.keep hg9' (fun q e hq => hq.1.2 e)).weak (fun b _ hb => ⟨hb.1.1, fun h e => ?_⟩)
                      have h2 := (hown9.lt b e).1
                      have h3 := HBS0.out (by omega)
                      have h4 := hb.2
                      omega
              case measure => simp [intOf]; omega
        · obtain rfl : r = 2 := by omega
          obtain ⟨gs, cs, rfl, _, hgslt, hcs2, hcsm⟩ := own_some hown (by omega)
          obtain ⟨x0, y0, z0, A0, P0, e00, e01, e02, hw0, hf0, hm0, hv0⟩ := hends 0 (by omega)
          obtain ⟨x1, y1, z1, A1, P1, e10, e11, e12, hw1, hf1, hm1, hv1⟩ := hends 1 (by omega)
          have hxl : xs.length = 2 * 3 := hown.1
          have c0 : wr.cell? ⟨gs, 0, none⟩ = some x0 := (hown.cellAt 0 (by omega)).trans e00
          have c1 : wr.cell? ⟨gs, 1, none⟩ = some y0 := (hown.cellAt 1 (by omega)).trans e01
          have c2 : wr.cell? ⟨gs, 2, none⟩ = some z0 := (hown.cellAt 2 (by omega)).trans e02
          have c3 : wr.cell? ⟨gs, 3, none⟩ = some x1 := (hown.cellAt 3 (by omega)).trans e10
          have c4 : wr.cell? ⟨gs, 4, none⟩ = some y1 := (hown.cellAt 4 (by omega)).trans e11
          have c5 : wr.cell? ⟨gs, 5, none⟩ = some z1 := (hown.cellAt 5 (by omega)).trans e12
          have heq : A1 = A0 := wal_eq hf1 hf0 (fun i hi => by
            obtain ⟨h1, h2⟩ := hm0.last hv0 i hi
            obtain ⟨h3, h4⟩ := hm1.last hv1 i hi
            exact ⟨fun j hj => by rw [h1 j hj, h3 j hj], by rw [h2, h4]⟩)
          subst heq
          obtain ⟨hb1, hb2⟩ := balance_last HSYS.out hm0 hv0
          have hb3 : balTo A1 3 = pd - sp := by simp only [balTo]; omega
          have hwa := hw0.weak (B' := Av p wb) (fun b _ hb => hb.1)
          have hwb1 := hw1.weak (B' := Av p wb) (fun b _ hb => hb.1)
          have BA : Hid (Calls Try.prog 25 #[.agg #[x0, y0, z0]] wr fun e w' => e = .returned (.tuple #[.int .i64 (pd - sp), .int .i64 0]) ∧ wr.grownBy w' none) := by
            rw [← hb3]; exact balance_any x0 y0 z0 A1 (100 * t) (Av p wb) wr hwa hm0.ok (by omega)
          have HA0 := Lib.hid hwa
          have HA1 := Lib.hid hwb1
          have HF1 := Lib.hid hf1
          have hgr' := gr_grown hgr hgw (fun k e => by cases e; exact hpw0)
          have HGR := Lib.hid hgr'
          clear hxl e00 e01 e02 e10 e11 e12 hb1 hb3 hwa hwb1 hf0 hf1 hm0 hm1 hv0 hv1 hw0 hw1 hends hown hgr' hFo
          go_wp2_with (fail)
          refine BA.out.mono ?_
          rintro e w8 ⟨rfl, hg8⟩
          have DP : Hid (∀ wq, wr.grownBy wq none → Calls Try.prog 26 #[] wq fun e w2 => e = .returned (.bool true) ∧ wr.grownBy w2 none ∧ w2.cell? ⟨gs, 0, none⟩ = some x0 ∧ w2.cell? ⟨gs, 1, none⟩ = some y0 ∧ w2.cell? ⟨gs, 2, none⟩ = some z0 ∧ w2.cell? ⟨gs, 3, none⟩ = some x1 ∧ w2.cell? ⟨gs, 4, none⟩ = some y1 ∧ w2.cell? ⟨gs, 5, none⟩ = some z1) := fun wq hq =>
            (depots_any wq).mono (by
              rintro e w2 ⟨rfl, hg⟩
              have hgg := gr_trans hq hg
              exact ⟨rfl, hgg, (gr_cell hgg hgslt).trans c0, (gr_cell hgg hgslt).trans c1, (gr_cell hgg hgslt).trans c2, (gr_cell hgg hgslt).trans c3, (gr_cell hgg hgslt).trans c4, (gr_cell hgg hgslt).trans c5⟩)
          have SW : Hid (∀ wq, wr.grownBy wq none → Calls Try.prog 27 #[.agg #[x0, y0, z0], .agg #[x1, y1, z1]] wq fun e w2 => e = .returned (.bool true) ∧ wr.grownBy w2 none ∧ w2.cell? ⟨gs, 0, none⟩ = some x0 ∧ w2.cell? ⟨gs, 1, none⟩ = some y0 ∧ w2.cell? ⟨gs, 2, none⟩ = some z0 ∧ w2.cell? ⟨gs, 3, none⟩ = some x1 ∧ w2.cell? ⟨gs, 4, none⟩ = some y1 ∧ w2.cell? ⟨gs, 5, none⟩ = some z1) := fun wq hq =>
            (sameWallet_any x0 y0 z0 x1 y1 z1 A1 (Av p wb) wq (HA0.out.keep0 hq) (HA1.out.keep0 hq) HF1.out).mono (by
              rintro e w2 ⟨rfl, hg⟩
              have hgg := gr_trans hq hg
              exact ⟨rfl, hgg, (gr_cell hgg hgslt).trans c0, (gr_cell hgg hgslt).trans c1, (gr_cell hgg hgslt).trans c2, (gr_cell hgg hgslt).trans c3, (gr_cell hgg hgslt).trans c4, (gr_cell hgg hgslt).trans c5⟩)
          have hgd := gr_drew hg8
          have k0 := (gr_cell hg8 hgslt).trans c0
          have k1 := (gr_cell hg8 hgslt).trans c1
          have k2 := (gr_cell hg8 hgslt).trans c2
          have k3 := (gr_cell hg8 hgslt).trans c3
          have k4 := (gr_cell hg8 hgslt).trans c4
          have k5 := (gr_cell hg8 hgslt).trans c5
          have hle : sp ≤ pd := by omega
          have hb2' : decide (sp ≤ pd) = true := decide_eq_true hle
          have hwr : IntKind.i64.wrap (pd - sp) = pd - sp := IntWalk.i64_in _ (by omega)
          go_wp2_with (fail)
          go_region_held3 (fun w' => wr.grownBy w' none ∧ w'.cell? ⟨gs, 0, none⟩ = some x0 ∧ w'.cell? ⟨gs, 1, none⟩ = some y0 ∧ w'.cell? ⟨gs, 2, none⟩ = some z0 ∧ w'.cell? ⟨gs, 3, none⟩ = some x1 ∧ w'.cell? ⟨gs, 4, none⟩ = some y1 ∧ w'.cell? ⟨gs, 5, none⟩ = some z1)
            (first | exact ⟨hgd, k0, k1, k2, k3, k4, k5⟩ | exact ⟨hg10, l0, l1, l2, l3, l4, l5⟩ | exact ⟨hg9, j0, j1, j2, j3, j4, j5⟩ | fail)
            (first | (go_at_call 26; (with_reducible refine (DP.out _ hgd).mono ?_); rintro e w9 ⟨rfl, hg9, j0, j1, j2, j3, j4, j5⟩)
                   | (go_at_call 27; (with_reducible refine (SW.out _ hg9).mono ?_); rintro e w10 ⟨rfl, hg10, l0, l1, l2, l3, l4, l5⟩)
                   | fail)
          all_goals (go_wp2_with (fail))
          all_goals go_ret
          all_goals exact ⟨rfl, gr_trans HGR.out hg10⟩
end Go.Proofs.Ytbgfflbddflokaa
