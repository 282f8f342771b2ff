/- The wallets of the stream, as a function of it. -/
import Derived.Test.YtakabckmiodjaaaDoorPkDAt
import Derived.Test.YtakabckmiodjaaaDoorPkDAw
namespace Go.Proofs.YtakabckmiodjaaaDoor
open Go.RowKit

def maxW (A B : Wal) : Wal := ⟨[[max (A.r 0 0) (B.r 0 0), max (A.r 0 1) (B.r 0 1), max (A.r 0 2) (B.r 0 2)], [max (A.r 1 0) (B.r 1 0), max (A.r 1 1) (B.r 1 1), max (A.r 1 2) (B.r 1 2)], [max (A.r 2 0) (B.r 2 0), max (A.r 2 1) (B.r 2 1), max (A.r 2 2) (B.r 2 2)]], [max (A.u 0) (B.u 0), max (A.u 1) (B.u 1), max (A.u 2) (B.u 2)]⟩
theorem maxW_form (A B : Wal) : WForm (maxW A B) := ⟨rfl, three _ rfl rfl rfl, rfl⟩
theorem maxW_is {A B C : Wal} (h : IsMax A B C) (hf : WForm C) : C = maxW A B := by
  refine wal_eq hf (maxW_form A B) ?_
  have h0 := h 0 (by omega)
  have h1 := h 1 (by omega)
  have h2 := h 2 (by omega)
  refine three _ ⟨three _ ?_ ?_ ?_, ?_⟩ ⟨three _ ?_ ?_ ?_, ?_⟩ ⟨three _ ?_ ?_ ?_, ?_⟩
  · exact h0.1 0 (by omega)
  · exact h0.1 1 (by omega)
  · exact h0.1 2 (by omega)
  · exact h0.2
  · exact h1.1 0 (by omega)
  · exact h1.1 1 (by omega)
  · exact h1.1 2 (by omega)
  · exact h1.2
  · exact h2.1 0 (by omega)
  · exact h2.1 1 (by omega)
  · exact h2.1 2 (by omega)
  · exact h2.2
/-- A step with what the stream gave: site, cents, case, other site. -/
def actW (W : Nat → Wal) (k : Nat) (n : Int) (c m : Nat) : Nat → Wal :=
  if c = 0 then upd W k (putR (W k) k k ((W k).r k k + n))
  else if c = 1 then (if k ≠ m ∧ n ≤ rightsTo (W k) k 3 then upd W k (putR (W k) k m ((W k).r k m + n)) else W)
  else if c = 2 then (if n ≤ rightsTo (W k) k 3 then upd W k (putU (W k) k ((W k).u k + n)) else W)
  else upd W k (maxW (W k) (W m))
def stepW (l : List Int) (W : Nat → Wal) (q : Nat) : (Nat → Wal) × Nat :=
  (actW W (nxt l q 3).toNat (pickM l (q + 1) [5, 10, 40, 100]) (nxt l (q + 1 + 1) 5).toNat (nxt l (q + 1 + 1 + 1) 3).toNat,
   if (nxt l (q + 1 + 1) 5).toNat = 0 ∨ (nxt l (q + 1 + 1) 5).toNat = 2 then q + 1 + 1 + 1 else q + 1 + 1 + 1 + 1)
def walsM (l : List Int) (k : Nat) : Nat → (Nat → Wal) × Nat
  | 0 => (fun _ => zeroW, k)
  | t + 1 => stepW l (walsM l k t).1 (walsM l k t).2
theorem walsM_next {l : List Int} {k t q : Nat} {W : Nat → Wal} (h : W = (walsM l k t).1 ∧ q = (walsM l k t).2) : walsM l k (t + 1) = stepW l W q := by
  rw [h.1, h.2]; rfl
theorem give_yes {can : Prop} {A : Wal} {w w' : World} {e : Ending} (h : GivePost can A w e w') (hc : can) : WalPost A w e w' := by
  rcases h with ⟨_, h⟩ | ⟨h, _⟩
  · exact h
  · exact absurd hc h
theorem give_no {can : Prop} {A : Wal} {w w' : World} {e : Ending} (h : GivePost can A w e w') (hc : ¬ can) : ∃ r : Int, (r == 0) = false ∧ e = .returned (.tuple #[.agg #[.slice none 0 0, .slice none 0 0, .slice none 0 0], .int .i64 r]) ∧ w.grownBy w' none := by
  rcases h with ⟨h, _⟩ | ⟨_, ⟨r, h1, h2⟩, h3⟩
  · exact absurd h hc
  · exact ⟨r, beq_eq_false_iff_ne.2 h1, h2, h3⟩
theorem sp_yes {can : Prop} {A : Wal} {w w' : World} {e : Ending} (h : OpPost can A w e w') (hc : can) : WalPost A w e w' := by
  rcases h with ⟨_, h⟩ | ⟨h, _⟩
  · exact h
  · exact absurd hc h
theorem sp_no {can : Prop} {A : Wal} {w w' : World} {e : Ending} (h : OpPost can A w e w') (hc : ¬ can) : e = .returned (.tuple #[.agg #[.slice none 0 0, .slice none 0 0, .slice none 0 0], .int .i64 16]) ∧ w.grownBy w' none := by
  rcases h with ⟨h, _⟩ | ⟨_, h⟩
  · exact absurd h hc
  · exact h
theorem zero_walP (w : World) (base : Nat) (x y z : Value) (vs : List Value) (hx : w.ownsRow base 9 1 x 3 (siteVn 3)) (hy : OwnRows w base y (zerosT 3) vs) (hz : w.ownsRow base 3 1 z 3 (ints (List.replicate 3 0))) (hap : ∀ i, i < 3 → ∀ g, (vs.getD i undef).ownBlock = some g → z.ownBlock ≠ some g) : WalOwn w base x y z zeroW vs :=
  ⟨hx, hy, hz, (zero_ok (B := 0) (Int.le_refl _)).form, hap⟩
theorem gr_cellQ {w w1 : World} {p b o : Nat} (h : w.grownBy w1 (some p)) (hb : b < w.heap.size) (hn : p ≠ b) : w1.cell? ⟨b, o, none⟩ = w.cell? ⟨b, o, none⟩ := World.cell?_of_block (w := w) (h.block b hb (by simpa using fun e => hn e.symm))
theorem gr_freeQ {w w1 : World} {p b o : Nat} (h : w.grownBy w1 (some p)) (hb : b < w.heap.size) (hn : p ≠ b) : w1.frozen? ⟨b, o, none⟩ = w.frozen? ⟨b, o, none⟩ := World.frozen?_of_block (w := w) (h.block b hb (by simpa using fun e => hn e.symm))
def set3P (w : World) (b o : Nat) (x y z : Value) : World := ((w.setCell ⟨b, o, none⟩ x).setCell ⟨b, o + 1, none⟩ y).setCell ⟨b, o + 2, none⟩ z
/-- The end of a round: x was filled, and perhaps stored at its place. -/
theorem roundP_skip {w w3 wo w9 w10 : World} {p lw wb xb q : Nat} {l : List Int} {V : Nat → Value × Value × Value} {W : Nat → Wal} (hkio : Kiosks wo p wb V W) (hg9 : wo.grownBy w9 (some p)) (hgn : w9.grownBy w10 none) (hs9 : StreamAt w9 p lw l q) (hfr9 : Fr w3 w9 p wb) (hgr9 : w.grownBy w9 (some p))
    (hpw : p ≠ wb) (hpx : p < xb) (hx0 : wo.heap.size ≤ xb) (hx3 : w3.heap.size ≤ xb) (hxw : w.heap.size ≤ xb) (x y z : Value) :
    Kiosks (set3P w10 xb 0 x y z) p wb V W ∧ StreamAt (set3P w10 xb 0 x y z) p lw l q ∧ Fr w3 (set3P w10 xb 0 x y z) p wb ∧ w.grownBy (set3P w10 xb 0 x y z) (some p) := by
  have g := set3_gr w10 xb x y z
  refine ⟨hkio.keep (gr_grown (gr_trans hg9 (gr_weak hgn _)) g (fun k e => by cases e; exact hx0)) (fun q e => by cases e; rfl) hpw, (hs9.keep0 hgn).keep g (fun k e => by cases e; exact hpx), (hfr9.step0 hgn).step g (fun k e => by cases e; exact .inr (.inr hx3)), gr_grown (gr_trans hgr9 (gr_weak hgn _)) g (fun k e => by cases e; exact hxw)⟩
theorem roundP_put {w w3 wo w9 w10 : World} {p lw wb xb q kk : Nat} {l : List Int} {V : Nat → Value × Value × Value} {W : Nat → Wal} {A : Wal} {vs : List Value} {x y z : Value} (hkio : Kiosks wo p wb V W) (hg9 : wo.grownBy w9 (some p)) (hgn : w9.grownBy w10 none) (hs9 : StreamAt w9 p lw l q) (hfr9 : Fr w3 w9 p wb) (hgr9 : w.grownBy w9 (some p))
    (hpw : p < wb) (hpx : p < xb) (hx0 : wo.heap.size ≤ xb) (hx3 : w3.heap.size ≤ xb) (hxw : w.heap.size ≤ xb) (hx9 : xb < w9.heap.size) (hwb : wb < w9.heap.size) (hww : w.heap.size ≤ wb) (hk : kk < 3) (hon : WalOwn w10 w9.heap.size x y z A vs) (x0 y0 z0 : Value) :
    Kiosks (set3P (set3P w10 xb 0 x0 y0 z0) wb (kk * 3) x y z) p wb (updV V kk (x, y, z)) (upd W kk A) ∧ StreamAt (set3P (set3P w10 xb 0 x0 y0 z0) wb (kk * 3) x y z) p lw l q ∧ Fr w3 (set3P (set3P w10 xb 0 x0 y0 z0) wb (kk * 3) x y z) p wb ∧ w.grownBy (set3P (set3P w10 xb 0 x0 y0 z0) wb (kk * 3) x y z) (some p) := by
  obtain ⟨h1, h2, h3, h4⟩ := roundP_skip hkio hg9 hgn hs9 hfr9 hgr9 (by omega) hpx hx0 hx3 hxw x0 y0 z0
  have ho : WalOwn (set3P w10 xb 0 x0 y0 z0) w9.heap.size x y z A vs := hon.keepS (set3_gr w10 xb x0 y0 z0) hx9
  obtain ⟨k1, k2⟩ := h1.put kk hk x y z A (ho.at.weak (fun b _ hb => ⟨by omega, by omega⟩))
  exact ⟨k1, h2.keep k2 (fun k e => by cases e; exact hpw), h3.step k2 (fun k e => by cases e; exact .inr (.inl rfl)), gr_grown h4 k2 (fun k e => by cases e; exact hww)⟩
end Go.Proofs.YtakabckmiodjaaaDoor

/-! The stream's wallets: three, as the function walsM of the stream says. -/
namespace Go.Proofs.YtakabckmiodjaaaDoor
open Go.RowKit

def WalletsPost (l : List Int) (lw k p : Nat) (w : World) (e : Ending) (w' : World) : Prop :=
  ∃ (wb n q : Nat) (V : Nat → Value × Value × Value) (W : Nat → Wal) (pd sp : Int), e = .returned (.slice (some ⟨wb, 0, none⟩) 3 3) ∧ Kiosks w' p wb V W ∧ Sys W 1600 pd sp ∧ W = (walsM l (k + 1) n).1 ∧ q = (walsM l (k + 1) n).2 ∧ (n : Int) = nxt l k 16 ∧ q ≤ k + 100 ∧ StreamAt w' p lw l q ∧ w.heap.size ≤ wb ∧ wb < w'.heap.size ∧ w.grownBy w' (some p)
set_option maxRecDepth 100000 in
set_option maxHeartbeats 4000000 in
theorem streamWallets_any (l : List Int) (lw k : Nat) (p : Nat) (w : World) (hs : StreamAt w p lw l k) (hk : k < 800000000) :
    Calls Tryd.prog 5 #[.pointer (some ⟨p, 0, none⟩)] w (WalletsPost l lw k p w) := by
  have hpw0 := hs.lt
  obtain ⟨w1, hw1⟩ : ∃ w1, w1 = w.alloc (.cells #[.string { data := #[97] }, .string { data := #[98] }, .string { data := #[99] }] 9) := ⟨_, rfl⟩
  have hgw1 : w.grownBy w1 none := by rw [hw1]; exact gr_alloc (gr_refl w none) _
  have hsz1 : w1.heap.size = w.heap.size + 1 := by rw [hw1]; simp
  have hs1 : StreamAt w1 p lw l k := hs.keep0 hgw1
  have hst1 : ∀ i, i < 3 → w1.cell? ⟨w.heap.size, 0 + i, none⟩ = some (siteV i) := by
    intro i hi
    rw [Nat.zero_add]
    have hb : w1.heap[w.heap.size]? = some (.cells #[.string { data := #[97] }, .string { data := #[98] }, .string { data := #[99] }] 9 (0, 0)) := by rw [hw1]; exact heap_alloc_new w _
    simp only [World.cell?, hb]
    obtain rfl | rfl | rfl : i = 0 ∨ i = 1 ∨ i = 2 := by omega
    all_goals rfl
  have EM := Lib.hid (emptyRef_any 3 w.heap.size 0 3 w1 rfl (by omega) (by omega) hst1)
  have HST1 := Lib.hid hst1
  have HS1 := Lib.hid hs1
  clear hst1 hs1 hs
  go_enter Tryd.func5, Tryd.ntmps5
  go_wp2_with (fail)
  rw [← hw1]
  clear hw1
  refine EM.out.mono ?_
  rintro e w2 ⟨x, y, z, vs, rfl, hx, hy, hz, hap, hg2⟩
  have how := zero_walP w2 w1.heap.size x y z vs hx hy hz hap
  obtain ⟨gx, cx, hxe, _, _, _, _⟩ := own_some how.s (by omega)
  obtain ⟨gy, cy, hye, _, _, _, _⟩ := own_some how.r.outer (by decide)
  obtain ⟨gz, cz, hze, _, _, _, _⟩ := own_some how.u (by omega)
  rw [show zeroW.T.length = 3 from rfl] at hye
  subst hxe hye hze
  clear hx hy hz hap EM
  have hgr2 := gr_trans hgw1 hg2
  have hsz2 := hg2.size
  have hs2 := HS1.out.keep0 hg2
  have hst2 : ∀ i, i < 3 → w2.cell? ⟨w.heap.size, i, none⟩ = some (siteV i) := fun i hi => by
    have := HST1.out i hi
    rw [Nat.zero_add] at this
    exact (gr_cell hg2 (lt_of_cell this)).trans this
  have HST2 := Lib.hid hst2
  clear hst2 hg2
  go_wp2_with (fail)
  obtain ⟨w3, hw3⟩ : ∃ w3, w3 = (w2.alloc (.cells #[.slice (some ⟨gx, 0, none⟩) 3 cx, .slice (some ⟨gy, 0, none⟩) 3 cy, .slice (some ⟨gz, 0, none⟩) 3 cz] 29)).alloc (.cells #[.slice (some ⟨gx, 0, none⟩) 3 cx, .slice (some ⟨gy, 0, none⟩) 3 cy, .slice (some ⟨gz, 0, none⟩) 3 cz, .slice (some ⟨gx, 0, none⟩) 3 cx, .slice (some ⟨gy, 0, none⟩) 3 cy, .slice (some ⟨gz, 0, none⟩) 3 cz, .slice (some ⟨gx, 0, none⟩) 3 cx, .slice (some ⟨gy, 0, none⟩) 3 cy, .slice (some ⟨gz, 0, none⟩) 3 cz] 29) := ⟨_, rfl⟩
  have hg3 : w2.grownBy w3 none := by rw [hw3]; exact gr_alloc (gr_alloc (gr_refl _ _) _) _
  have hK3 := (heap_two w2 (.cells #[.slice (some ⟨gx, 0, none⟩) 3 cx, .slice (some ⟨gy, 0, none⟩) 3 cy, .slice (some ⟨gz, 0, none⟩) 3 cz] 29) (.cells #[.slice (some ⟨gx, 0, none⟩) 3 cx, .slice (some ⟨gy, 0, none⟩) 3 cy, .slice (some ⟨gz, 0, none⟩) 3 cz, .slice (some ⟨gx, 0, none⟩) 3 cx, .slice (some ⟨gy, 0, none⟩) 3 cy, .slice (some ⟨gz, 0, none⟩) 3 cz, .slice (some ⟨gx, 0, none⟩) 3 cx, .slice (some ⟨gy, 0, none⟩) 3 cy, .slice (some ⟨gz, 0, none⟩) 3 cz] 29)).2
  rw [← hw3] at hK3
  have hs3 := hs2.keep0 hg3
  have hfw : WalAt w3 (Av p (w2.heap.size + 1)) (.slice (some ⟨gx, 0, none⟩) 3 cx) (.slice (some ⟨gy, 0, none⟩) 3 cy) (.slice (some ⟨gz, 0, none⟩) 3 cz) zeroW := (how.at.weak (fun b hb h => ⟨by omega, by omega⟩)).keep0 hg3
  have hkio : Kiosks w3 p (w2.heap.size + 1) (fun _ => (.slice (some ⟨gx, 0, none⟩) 3 cx, .slice (some ⟨gy, 0, none⟩) 3 cy, .slice (some ⟨gz, 0, none⟩) 3 cz)) (fun _ => zeroW) := by
    refine ⟨⟨_, hK3, rfl, fun k hk => ?_⟩, fun k _ => hfw⟩
    obtain rfl | rfl | rfl : k = 0 ∨ k = 1 ∨ k = 2 := by omega
    all_goals exact ⟨rfl, rfl, rfl⟩
  have hsz3 : w3.heap.size = w2.heap.size + 2 := by rw [hw3]; simp
  obtain ⟨sB, hsB⟩ : ∃ sB, sB = w.heap.size := ⟨_, rfl⟩
  have HST3 := Lib.hid (fun i hi => (gr_cell hg3 (lt_of_cell (HST2.out i hi))).trans (HST2.out i hi) : ∀ i, i < 3 → w3.cell? ⟨w.heap.size, i, none⟩ = some (siteV i))
  have hgr3 := gr_trans hgr2 hg3
  obtain ⟨wb, hwb⟩ : ∃ wb, wb = w2.heap.size + 1 := ⟨_, rfl⟩
  rw [← hwb] at hfw hkio hK3
  rw [← hw3, ← hwb]
  rw [← hsB] at HST3
  rw [← hsB]
  have hpsB : p < sB := by omega
  have hpw : p ≠ wb := by omega
  have hp1 : sB ≠ wb := by omega
  have hwb3 : wb < w3.heap.size := by omega
  have hpwl : p < wb := by omega
  have hwwb : w.heap.size ≤ wb := by omega
  have hsB3 : sB < w3.heap.size := by omega
  clear hw3 hg3 how hs2 HST2 HST1 HS1 hgw1 hgr2 hK3 hwb hsz3 hsz1 hsB hfw
  refine (next_any l k 16 p w3 hs3 (by omega) (by omega)).mono ?_
  rintro e w5 ⟨rfl, hs5, hg5⟩
  have hr := nxt_range l k 16 (by omega)
  obtain ⟨n0, hn0⟩ : ∃ n0 : Nat, nxt l k 16 = n0 := ⟨(nxt l k 16).toNat, by omega⟩
  have HN0 := Lib.hid hn0
  rw [hn0] at hr ⊢
  have hn24 : n0 < 16 := by omega
  have hfr5 : Fr w3 w5 p wb := (Fr.refl w3 p wb).step hg5 (fun k e => by cases e; exact .inl rfl)
  have hk5 := hkio.keep hg5 (fun q e => by cases e; rfl) hpw
  have hgr5 : w.grownBy w5 (some p) := gr_trans (gr_weak hgr3 _) hg5
  clear hr hn0 hs3 hkio hg5 hgr3
  go_wp2_with (fail)
  go_loopw [23] (fun i wr => ∃ (t q : Nat) (V : Nat → Value × Value × Value) (W : Nat → Wal) (pd sp : Int), t ≤ n0 ∧ i = .int .i64 t ∧ q ≤ k + 1 + 4 * t ∧ StreamAt wr p lw l q ∧ Kiosks wr p wb V W ∧ Sys W (100 * t) pd sp ∧ Fr w3 wr p wb ∧ Hid (W = (walsM l (k + 1) t).1 ∧ q = (walsM l (k + 1) t).2) ∧ w.grownBy wr (some p)) (fun i _ => n0 - (intOf i).toNat)
  case atStart => exact ⟨0, k + 1, _, _, 0, 0, by omega, rfl, by omega, hs5, hk5, sys_start, hfr5, ⟨rfl, rfl⟩, hgr5⟩
  case round =>
    obtain ⟨t, q, V, W, pd, sp, ht, rfl, hq, hsr, hkio, hsys, hfr, HD, hgr⟩ := hrel
    obtain ⟨wo, rfl⟩ : ∃ wo : World, wo = wr := ⟨_, rfl⟩
    have HSYS := Lib.hid hsys
    have HKIO := Lib.hid hkio
    have HFR := Lib.hid hfr
    clear hsys hkio hfr
    by_cases hlt : t < n0
    · go_wp2_with (fail)
      refine (next_any l q 3 p wo hsr (by omega) (by omega)).mono ?_
      rintro e w6 ⟨rfl, hs6, hg6⟩
      have hr := nxt_range l q 3 (by omega)
      obtain ⟨kk, hkk⟩ : ∃ kk : Nat, nxt l q 3 = kk := ⟨(nxt l q 3).toNat, by omega⟩
      have HKK := Lib.hid hkk
      rw [hkk] at hr ⊢
      have hk3 : kk < 3 := by omega
      clear hr hkk
      go_wp2_with (fail)
      refine (pick_any l _ [5, 10, 40, 100] p w6 hs6 (by omega) (by decide) (by decide)).mono ?_
      rintro e w7 ⟨rfl, hs7, hg7⟩
      have hpm := pickM_mem l (q + 1) [5, 10, 40, 100] (by decide)
      obtain ⟨nn, hnn⟩ : ∃ nn, nn = pickM l (q + 1) [5, 10, 40, 100] := ⟨_, rfl⟩
      have HNN := Lib.hid hnn
      rw [← hnn] at hpm
      rw [← hnn]
      have hnn0 : 1 ≤ nn := by simp only [List.mem_cons, List.not_mem_nil, or_false] at hpm; omega
      have hnn1 : nn ≤ 100 := by simp only [List.mem_cons, List.not_mem_nil, or_false] at hpm; omega
      clear hpm hnn
      have hg67 := gr_trans hg6 hg7
      go_wp2_with (fail)
      obtain ⟨w8, hw8⟩ : ∃ w8, w8 = w7.alloc (.cells #[.slice none 0 0, .slice none 0 0, .slice none 0 0] 29) := ⟨_, rfl⟩
      have hg8 : w7.grownBy w8 none := by rw [hw8]; exact gr_alloc (gr_refl _ _) _
      have hX8 : w8.heap[w7.heap.size]? = some (.cells #[.slice none 0 0, .slice none 0 0, .slice none 0 0] 29 (0, 0)) := by rw [hw8]; exact heap_alloc_new w7 _
      have hs8 := hs7.keep0 hg8
      obtain ⟨xb, hxb⟩ : ∃ xb, xb = w7.heap.size := ⟨_, rfl⟩
      rw [← hw8, ← hxb]
      rw [← hxb] at hX8
      have hsz7 := hg67.size
      have hfsz := HFR.out.size
      have hxp : p ≠ xb := by have := hs7.lt; omega
      have hxw : wb ≠ xb := by omega
      have hx3 : w3.heap.size ≤ xb := by omega
      have HXB := Lib.hid hxb
      have hp1x : sB ≠ xb := by omega
      have hx0 : wo.heap.size ≤ xb := by omega
      have hpx : p < xb := by have := hs7.lt; omega
      have hxw0 : w.heap.size ≤ xb := by have := hgr.size; omega
      clear hw8 hxb
      refine (next_any l _ 5 p w8 hs8 (by omega) (by omega)).mono ?_
      rintro e w9 ⟨rfl, hs9, hg9⟩
      have hr := nxt_range l (q + 1 + 1) 5 (by omega)
      obtain ⟨c, hcn⟩ : ∃ c : Nat, nxt l (q + 1 + 1) 5 = c := ⟨(nxt l (q + 1 + 1) 5).toNat, by omega⟩
      have HCN := Lib.hid hcn
      rw [hcn] at hr ⊢
      have hc5 : c < 5 := by omega
      have hg69 := gr_trans (gr_trans hg67 (gr_weak hg8 (some p))) hg9
      have hX9 := (hg9.block xb (lt_of_block hX8) (by simp; omega)).trans hX8
      have hk9 := HKIO.out.keep hg69 (fun q e => by cases e; rfl) hpw
      have hfr9 := HFR.out.step hg69 (fun k e => by cases e; exact .inl rfl)
      have hgr9 := gr_trans hgr hg69
      have hst9 := hfr9.cell (HST3.out kk hk3) (by omega) hp1
      obtain ⟨v0, v1, v2, n0', n1', n2'⟩ := hk9.cells kk hk3
      obtain ⟨x0, x1, x2, f0, f1, f2⟩ := blk_cells hX9
      have hwk := hk9.wal kk hk3
      have hokk := HSYS.out.ok kk hk3
      have hxlt := lt_of_block hX9
      have HX9 := Lib.hid hX9
      have HK9 := Lib.hid hk9
      have HFR9 := Lib.hid hfr9
      have HG69 := Lib.hid hg69
      have HGR9 := Lib.hid hgr9
      have HS9 := Lib.hid hs9
      have hwb9 : wb < w9.heap.size := by have := hfr9.size; omega
      have hki : (0 : Int) ≤ (kk : Int) := by omega
      have hki3 : (kk : Int) < 3 := by omega
      obtain ⟨mq, hmq⟩ : ∃ m : Nat, nxt l (q + 1 + 1 + 1) 3 = m := ⟨(nxt l (q + 1 + 1 + 1) 3).toNat, by have := nxt_range l (q + 1 + 1 + 1) 3 (by omega); omega⟩
      have HMQ := Lib.hid hmq
      have HST : Hid (stepW l W q = (actW W kk nn c mq, if c = 0 ∨ c = 2 then q + 1 + 1 + 1 else q + 1 + 1 + 1 + 1)) := by
        show _ = _
        unfold stepW
        rw [HKK.out, ← HNN.out, HCN.out, HMQ.out]
        simp only [Int.toNat_natCast]
      clear hr hcn hmq hg8 hX8 hs8 hg9 hg69 hs7 hg67 hg6 hg7 hsr hs6 hX9 hk9 hfr9 hgr hsz7 hs9 hgr9
      rcases (show c = 0 ∨ c = 1 ∨ c = 2 ∨ 3 ≤ c by omega) with rfl | rfl | rfl | hc3
      · have hV : ∃ X Y Z, V kk = (X, Y, Z) := ⟨(V kk).1, (V kk).2.1, (V kk).2.2, rfl⟩
        obtain ⟨X, Y, Z, hV⟩ := hV
        rw [hV] at v0 v1 v2 hwk
        simp only at v0 v1 v2 hwk
        obtain ⟨st, hst⟩ := siteV_str kk
        rw [hst] at hst9
        have hgd := gr_drew (gr_refl w9 none)
        have CR := Lib.hid ((givenRef_any X Y Z (W kk) (100 * t) (Av p wb) kk kk nn true w9.drew (hwk.keep0 hgd) hokk (by omega) hk3 hk3 hnn0).mono (fun _ _ h => give_yes h (.inl rfl)))
        rw [hst] at CR
        obtain ⟨sb, so, sc, hXe, _, _, _⟩ := hwk.s
        obtain ⟨rb, ro, rc, hYe, _, _, _⟩ := hwk.r
        obtain ⟨ub, uo, uc, hZe, _, _, _⟩ := hwk.u
        subst hXe hYe hZe
        go_wp2_with (fail)
        go_region_held3 (fun w' => w'.cell? ⟨wb, kk * 3, none⟩ = some (.slice (some ⟨sb, so, none⟩) 3 sc) ∧ w'.cell? ⟨wb, kk * 3 + 1, none⟩ = some (.slice (some ⟨rb, ro, none⟩) 3 rc) ∧ w'.cell? ⟨wb, kk * 3 + 2, none⟩ = some (.slice (some ⟨ub, uo, none⟩) 3 uc) ∧ w'.cell? ⟨sB, kk, none⟩ = some (.string st))
          (first | exact ⟨v0, v1, v2, hst9⟩ | exact ⟨t0, t1, t2, t3⟩ | exact ⟨cell_set3' t0 (by omega) _ _ _, cell_set3' t1 (by omega) _ _ _, cell_set3' t2 (by omega) _ _ _, cell_set3' t3 (by omega) _ _ _⟩)
          (first | (go_at_call 22; (with_reducible refine CR.out.mono ?_); rintro e w10 ⟨xn, yn, zn, vn, rfl, hon, hgn'⟩; obtain ⟨g1, c1, he1, _, _, _, _⟩ := own_some hon.s (by omega); obtain ⟨g2, c2, he2, _, _, _, _⟩ := own_some hon.r.outer (by rw [hon.f.lenT]; omega); rw [hon.f.lenT] at he2; obtain ⟨g3, c3, he3, _, _, _, _⟩ := own_some hon.u (by omega); subst he1 he2 he3; have hgn := gr_trans hgd hgn'; have t0 := (gr_cell hgn (lt_of_cell v0)).trans v0; have t1 := (gr_cell hgn (lt_of_cell v1)).trans v1; have t2 := (gr_cell hgn (lt_of_cell v2)).trans v2; have t3 := (gr_cell hgn (lt_of_cell hst9)).trans hst9; have hX10 := (hgn.block xb hxlt (by simp)).trans HX9.out; obtain ⟨y0, y1, y2, e0, e1, e2⟩ := blk_cells hX10; have m0 := (gr_free (o := kk * 3) hgn hwb9).trans n0'; have m1 := (gr_free (o := kk * 3 + 1) hgn hwb9).trans n1'; have m2 := (gr_free (o := kk * 3 + 2) hgn hwb9).trans n2')
                 | fail)
        go_wp2_with (fail)
        go_roundw
        case rel =>
          obtain ⟨r1, r2, r3, r4⟩ := roundP_put HKIO.out HG69.out hgn HS9.out HFR9.out HGR9.out hpwl hpx hx0 hx3 hxw0 hxlt hwb9 hwwb hk3 hon (.slice (some ⟨g1, 0, none⟩) 3 c1) (.slice (some ⟨g2, 0, none⟩) 3 c2) (.slice (some ⟨g3, 0, none⟩) 3 c3)
          have hsy := sys_credit HSYS.out hk3 (by omega) hnn1
          exact ⟨t + 1, q + 1 + 1 + 1, _, _, pd + nn, sp, by omega, by go_num, by omega, r2, r1, by rw [show (100 : Int) * ((t + 1 : Nat) : Int) = 100 * t + 100 by omega]; exact hsy, r3, by rw [walsM_next HD.out, HST.out]; exact ⟨by simp [actW], by simp⟩, r4⟩
        case measure => simp [intOf]; omega
      · have hV : ∃ X Y Z, V kk = (X, Y, Z) := ⟨(V kk).1, (V kk).2.1, (V kk).2.2, rfl⟩
        obtain ⟨X, Y, Z, hV⟩ := hV
        rw [hV] at v0 v1 v2 hwk
        simp only at v0 v1 v2 hwk
        have hm := HMQ.out
        have hm3 : mq < 3 := by have := nxt_range l (q + 1 + 1 + 1) 3 (by omega); omega
        obtain ⟨st, hst⟩ := siteV_str kk
        obtain ⟨su, hsu⟩ := siteV_str mq
        have hsu9 := HFR9.out.cell (HST3.out mq hm3) (by omega) hp1
        rw [hst] at hst9
        rw [hsu] at hsu9
        have HST1 := Lib.hid hst
        have HST2 := Lib.hid hsu
        have hmi : (0 : Int) ≤ (mq : Int) := by omega
        have hmi3 : (mq : Int) < 3 := by omega
        clear hst hsu
        by_cases hcan : kk ≠ mq ∧ nn ≤ rightsTo (W kk) kk 3
        · have HCAN := Lib.hid hcan
          clear hcan
          have hgd := gr_drew (gr_refl w9 none)
          have NX := Lib.hid (next_any l (q + 1 + 1 + 1) 3 p w9.drew (HS9.out.keep0 hgd) (by omega) (by omega))
          rw [hm] at NX
          obtain ⟨sb, so, sc, hXe, _, _, _⟩ := hwk.s
          obtain ⟨rb, ro, rc, hYe, _, _, _⟩ := hwk.r
          obtain ⟨ub, uo, uc, hZe, _, _, _⟩ := hwk.u
          subst hXe hYe hZe
          have GW : Hid (∀ W9, w9.grownBy W9 (some p) → Calls Tryd.prog 22 #[.agg #[.slice (some ⟨sb, so, none⟩) 3 sc, .slice (some ⟨rb, ro, none⟩) 3 rc, .slice (some ⟨ub, uo, none⟩) 3 uc], .string st, .string su, .int .i64 nn, .bool false] W9 (WalPost (putR (W kk) kk mq ((W kk).r kk mq + nn)) W9)) := fun W9 g9 => by
            have h := givenRef_any _ _ _ (W kk) (100 * t) (Av p wb) kk mq nn false W9 (hwk.keep g9 (fun q e hq => by cases e; exact hq.1 rfl)) hokk (by omega) hk3 hm3 hnn0
            rw [HST1.out, HST2.out] at h
            exact h.mono (fun _ _ h => give_yes h (.inr HCAN.out))
          clear hm
          go_wp2_with (fail)
          go_region_held3 (fun w' => w'.cell? ⟨wb, kk * 3, none⟩ = some (.slice (some ⟨sb, so, none⟩) 3 sc) ∧ w'.cell? ⟨wb, kk * 3 + 1, none⟩ = some (.slice (some ⟨rb, ro, none⟩) 3 rc) ∧ w'.cell? ⟨wb, kk * 3 + 2, none⟩ = some (.slice (some ⟨ub, uo, none⟩) 3 uc) ∧ w'.cell? ⟨sB, kk, none⟩ = some (.string st) ∧ w'.cell? ⟨sB, mq, none⟩ = some (.string su))
            (first | exact ⟨v0, v1, v2, hst9, hsu9⟩ | exact ⟨t0, t1, t2, t3, t4⟩ | exact ⟨d0, d1, d2, d3, d4⟩ | exact ⟨cell_set3' d0 (by omega) _ _ _, cell_set3' d1 (by omega) _ _ _, cell_set3' d2 (by omega) _ _ _, cell_set3' d3 (by omega) _ _ _, cell_set3' d4 (by omega) _ _ _⟩)
            (first | (go_at_call 19; (with_reducible refine NX.out.mono ?_); rintro e w10 ⟨rfl, hs10, hgm'⟩; have hgm := gr_trans (gr_weak hgd (some p)) hgm'; have t0 := (gr_cellQ hgm (lt_of_cell v0) hpw).trans v0; have t1 := (gr_cellQ hgm (lt_of_cell v1) hpw).trans v1; have t2 := (gr_cellQ hgm (lt_of_cell v2) hpw).trans v2; have t3 := (gr_cellQ hgm (lt_of_cell hst9) (by omega)).trans hst9; have t4 := (gr_cellQ hgm (lt_of_cell hsu9) (by omega)).trans hsu9)
                   | (go_at_call 22; (with_reducible refine (GW.out w10 hgm).mono ?_); rintro e w11 ⟨xn, yn, zn, vn, rfl, hon, hgn⟩; obtain ⟨g1, c1, he1, _, _, _, _⟩ := own_some hon.s (by omega); obtain ⟨g2, c2, he2, _, _, _, _⟩ := own_some hon.r.outer (by rw [hon.f.lenT]; omega); rw [hon.f.lenT] at he2; obtain ⟨g3, c3, he3, _, _, _, _⟩ := own_some hon.u (by omega); subst he1 he2 he3; have hgs := hgm.size; have hwb10 : wb < w10.heap.size := (by omega); have hxl : xb < w10.heap.size := (by omega); have d0 := (gr_cell hgn (lt_of_cell t0)).trans t0; have d1 := (gr_cell hgn (lt_of_cell t1)).trans t1; have d2 := (gr_cell hgn (lt_of_cell t2)).trans t2; have d3 := (gr_cell hgn (lt_of_cell t3)).trans t3; have d4 := (gr_cell hgn (lt_of_cell t4)).trans t4; have hX10 := ((hgn.block xb hxl (by simp)).trans (hgm.block xb hxlt (by simp; omega))).trans HX9.out; obtain ⟨y0, y1, y2, e0, e1, e2⟩ := blk_cells hX10; have m0 := (gr_free (o := kk * 3) hgn hwb10).trans ((gr_freeQ (o := kk * 3) hgm hwb9 hpw).trans n0'); have m1 := (gr_free (o := kk * 3 + 1) hgn hwb10).trans ((gr_freeQ (o := kk * 3 + 1) hgm hwb9 hpw).trans n1'); have m2 := (gr_free (o := kk * 3 + 2) hgn hwb10).trans ((gr_freeQ (o := kk * 3 + 2) hgm hwb9 hpw).trans n2'))
                   | fail)
          go_wp2_with (fail)
          go_roundw
          case rel =>
            obtain ⟨r1, r2, r3, r4⟩ := roundP_put HKIO.out (gr_trans HG69.out hgm) hgn hs10 (HFR9.out.step hgm (fun k e => by cases e; exact .inl rfl)) (gr_trans HGR9.out hgm) hpwl hpx hx0 hx3 hxw0 hxl hwb10 hwwb hk3 hon (.slice (some ⟨g1, 0, none⟩) 3 c1) (.slice (some ⟨g2, 0, none⟩) 3 c2) (.slice (some ⟨g3, 0, none⟩) 3 c3)
            have hsy := sys_give HSYS.out hk3 hm3 HCAN.out.1 (by omega) hnn1 HCAN.out.2
            exact ⟨t + 1, q + 1 + 1 + 1 + 1, _, _, pd, sp, by omega, by go_num, by omega, r2, r1, by rw [show (100 : Int) * ((t + 1 : Nat) : Int) = 100 * t + 100 by omega]; exact hsy, r3, by rw [walsM_next HD.out, HST.out]; exact ⟨by simp only [actW]; rw [if_neg (by decide), if_pos trivial, if_pos HCAN.out], by simp⟩, r4⟩
          case measure => simp [intOf]; omega
        · have HCAN := Lib.hid hcan
          clear hcan
          have hgd := gr_drew (gr_refl w9 none)
          have NX := Lib.hid (next_any l (q + 1 + 1 + 1) 3 p w9.drew (HS9.out.keep0 hgd) (by omega) (by omega))
          rw [hm] at NX
          obtain ⟨sb, so, sc, hXe, _, _, _⟩ := hwk.s
          obtain ⟨rb, ro, rc, hYe, _, _, _⟩ := hwk.r
          obtain ⟨ub, uo, uc, hZe, _, _, _⟩ := hwk.u
          subst hXe hYe hZe
          have GW : Hid (∀ W9, w9.grownBy W9 (some p) → Calls Tryd.prog 22 #[.agg #[.slice (some ⟨sb, so, none⟩) 3 sc, .slice (some ⟨rb, ro, none⟩) 3 rc, .slice (some ⟨ub, uo, none⟩) 3 uc], .string st, .string su, .int .i64 nn, .bool false] W9 (fun e w' => ∃ r : Int, (r == 0) = false ∧ e = .returned (.tuple #[.agg #[.slice none 0 0, .slice none 0 0, .slice none 0 0], .int .i64 r]) ∧ W9.grownBy w' none)) := fun W9 g9 => by
            have h := givenRef_any _ _ _ (W kk) (100 * t) (Av p wb) kk mq nn false W9 (hwk.keep g9 (fun q e hq => by cases e; exact hq.1 rfl)) hokk (by omega) hk3 hm3 hnn0
            rw [HST1.out, HST2.out] at h
            exact h.mono (fun _ _ h => give_no h (fun h => h.elim (fun h => by cases h) HCAN.out))
          clear hm
          go_wp2_with (fail)
          go_region_held3 (fun w' => w'.cell? ⟨wb, kk * 3, none⟩ = some (.slice (some ⟨sb, so, none⟩) 3 sc) ∧ w'.cell? ⟨wb, kk * 3 + 1, none⟩ = some (.slice (some ⟨rb, ro, none⟩) 3 rc) ∧ w'.cell? ⟨wb, kk * 3 + 2, none⟩ = some (.slice (some ⟨ub, uo, none⟩) 3 uc) ∧ w'.cell? ⟨sB, kk, none⟩ = some (.string st) ∧ w'.cell? ⟨sB, mq, none⟩ = some (.string su))
            (first | exact ⟨v0, v1, v2, hst9, hsu9⟩ | exact ⟨t0, t1, t2, t3, t4⟩ | exact ⟨d0, d1, d2, d3, d4⟩ | exact ⟨cell_set3' d0 (by omega) _ _ _, cell_set3' d1 (by omega) _ _ _, cell_set3' d2 (by omega) _ _ _, cell_set3' d3 (by omega) _ _ _, cell_set3' d4 (by omega) _ _ _⟩)
            (first | (go_at_call 19; (with_reducible refine NX.out.mono ?_); rintro e w10 ⟨rfl, hs10, hgm'⟩; have hgm := gr_trans (gr_weak hgd (some p)) hgm'; have t0 := (gr_cellQ hgm (lt_of_cell v0) hpw).trans v0; have t1 := (gr_cellQ hgm (lt_of_cell v1) hpw).trans v1; have t2 := (gr_cellQ hgm (lt_of_cell v2) hpw).trans v2; have t3 := (gr_cellQ hgm (lt_of_cell hst9) (by omega)).trans hst9; have t4 := (gr_cellQ hgm (lt_of_cell hsu9) (by omega)).trans hsu9)
                   | (go_at_call 22; (with_reducible refine (GW.out w10 hgm).mono ?_); rintro e w11 ⟨r, hrz, rfl, hgn⟩; have hgs := hgm.size; have hwb10 : wb < w10.heap.size := (by omega); have hxl : xb < w10.heap.size := (by omega); have d0 := (gr_cell hgn (lt_of_cell t0)).trans t0; have d1 := (gr_cell hgn (lt_of_cell t1)).trans t1; have d2 := (gr_cell hgn (lt_of_cell t2)).trans t2; have d3 := (gr_cell hgn (lt_of_cell t3)).trans t3; have d4 := (gr_cell hgn (lt_of_cell t4)).trans t4; have hX10 := ((hgn.block xb hxl (by simp)).trans (hgm.block xb hxlt (by simp; omega))).trans HX9.out; obtain ⟨y0, y1, y2, e0, e1, e2⟩ := blk_cells hX10; have m0 := (gr_free (o := kk * 3) hgn hwb10).trans ((gr_freeQ (o := kk * 3) hgm hwb9 hpw).trans n0'); have m1 := (gr_free (o := kk * 3 + 1) hgn hwb10).trans ((gr_freeQ (o := kk * 3 + 1) hgm hwb9 hpw).trans n1'); have m2 := (gr_free (o := kk * 3 + 2) hgn hwb10).trans ((gr_freeQ (o := kk * 3 + 2) hgm hwb9 hpw).trans n2'))
                   | fail)
          go_wp2_with (fail)
          go_roundw
          case rel =>
            obtain ⟨r1, r2, r3, r4⟩ := roundP_skip HKIO.out (gr_trans HG69.out hgm) hgn hs10 (HFR9.out.step hgm (fun k e => by cases e; exact .inl rfl)) (gr_trans HGR9.out hgm) hpw hpx hx0 hx3 hxw0 (.slice none 0 0) (.slice none 0 0) (.slice none 0 0)
            exact ⟨t + 1, q + 1 + 1 + 1 + 1, _, _, pd, sp, by omega, by go_num, by omega, r2, r1, HSYS.out.more (by omega), r3, by rw [walsM_next HD.out, HST.out]; exact ⟨by simp only [actW]; rw [if_neg (by decide), if_pos trivial, if_neg HCAN.out], by simp⟩, r4⟩
          case measure => simp [intOf]; omega
      · have hV : ∃ X Y Z, V kk = (X, Y, Z) := ⟨(V kk).1, (V kk).2.1, (V kk).2.2, rfl⟩
        obtain ⟨X, Y, Z, hV⟩ := hV
        rw [hV] at v0 v1 v2 hwk
        simp only at v0 v1 v2 hwk
        obtain ⟨st, hst⟩ := siteV_str kk
        rw [hst] at hst9
        have hgd := gr_drew (gr_refl w9 none)
        by_cases hcan : nn ≤ rightsTo (W kk) kk 3
        · have HCAN := Lib.hid hcan
          clear hcan
          have CR := Lib.hid ((spentRef_any X Y Z (W kk) (100 * t) (Av p wb) kk nn w9.drew (hwk.keep0 hgd) hokk (by omega) hk3 hnn0).mono (fun _ _ h => sp_yes h HCAN.out))
          rw [hst] at CR
          obtain ⟨sb, so, sc, hXe, _, _, _⟩ := hwk.s
          obtain ⟨rb, ro, rc, hYe, _, _, _⟩ := hwk.r
          obtain ⟨ub, uo, uc, hZe, _, _, _⟩ := hwk.u
          subst hXe hYe hZe
          go_wp2_with (fail)
          go_region_held3 (fun w' => w'.cell? ⟨wb, kk * 3, none⟩ = some (.slice (some ⟨sb, so, none⟩) 3 sc) ∧ w'.cell? ⟨wb, kk * 3 + 1, none⟩ = some (.slice (some ⟨rb, ro, none⟩) 3 rc) ∧ w'.cell? ⟨wb, kk * 3 + 2, none⟩ = some (.slice (some ⟨ub, uo, none⟩) 3 uc) ∧ w'.cell? ⟨sB, kk, none⟩ = some (.string st))
            (first | exact ⟨v0, v1, v2, hst9⟩ | exact ⟨t0, t1, t2, t3⟩ | exact ⟨cell_set3' t0 (by omega) _ _ _, cell_set3' t1 (by omega) _ _ _, cell_set3' t2 (by omega) _ _ _, cell_set3' t3 (by omega) _ _ _⟩)
            (first | (go_at_call 23; (with_reducible refine CR.out.mono ?_); rintro e w10 ⟨xn, yn, zn, vn, rfl, hon, hgn'⟩; obtain ⟨g1, c1, he1, _, _, _, _⟩ := own_some hon.s (by omega); obtain ⟨g2, c2, he2, _, _, _, _⟩ := own_some hon.r.outer (by rw [hon.f.lenT]; omega); rw [hon.f.lenT] at he2; obtain ⟨g3, c3, he3, _, _, _, _⟩ := own_some hon.u (by omega); subst he1 he2 he3; have hgn := gr_trans hgd hgn'; have t0 := (gr_cell hgn (lt_of_cell v0)).trans v0; have t1 := (gr_cell hgn (lt_of_cell v1)).trans v1; have t2 := (gr_cell hgn (lt_of_cell v2)).trans v2; have t3 := (gr_cell hgn (lt_of_cell hst9)).trans hst9; have hX10 := (hgn.block xb hxlt (by simp)).trans HX9.out; obtain ⟨y0, y1, y2, e0, e1, e2⟩ := blk_cells hX10; have m0 := (gr_free (o := kk * 3) hgn hwb9).trans n0'; have m1 := (gr_free (o := kk * 3 + 1) hgn hwb9).trans n1'; have m2 := (gr_free (o := kk * 3 + 2) hgn hwb9).trans n2')
                   | fail)
          go_wp2_with (fail)
          go_roundw
          case rel =>
            obtain ⟨r1, r2, r3, r4⟩ := roundP_put HKIO.out HG69.out hgn HS9.out HFR9.out HGR9.out hpwl hpx hx0 hx3 hxw0 hxlt hwb9 hwwb hk3 hon (.slice (some ⟨g1, 0, none⟩) 3 c1) (.slice (some ⟨g2, 0, none⟩) 3 c2) (.slice (some ⟨g3, 0, none⟩) 3 c3)
            have hsy := sys_spend HSYS.out hk3 (by omega) hnn1 HCAN.out
            exact ⟨t + 1, q + 1 + 1 + 1, _, _, pd, sp + nn, by omega, by go_num, by omega, r2, r1, by rw [show (100 : Int) * ((t + 1 : Nat) : Int) = 100 * t + 100 by omega]; exact hsy, r3, by rw [walsM_next HD.out, HST.out]; exact ⟨by unfold actW; rw [if_neg (by decide), if_neg (by decide), if_pos rfl]; first | rw [if_pos HCAN.out] | rw [if_neg (by have := HCAN.out; omega)], by simp⟩, r4⟩
          case measure => simp [intOf]; omega

        · have HCAN := Lib.hid hcan
          clear hcan
          have CR := Lib.hid ((spentRef_any X Y Z (W kk) (100 * t) (Av p wb) kk nn w9.drew (hwk.keep0 hgd) hokk (by omega) hk3 hnn0).mono (fun _ _ h => sp_no h HCAN.out))
          rw [hst] at CR
          obtain ⟨sb, so, sc, hXe, _, _, _⟩ := hwk.s
          obtain ⟨rb, ro, rc, hYe, _, _, _⟩ := hwk.r
          obtain ⟨ub, uo, uc, hZe, _, _, _⟩ := hwk.u
          subst hXe hYe hZe
          go_wp2_with (fail)
          go_region_held3 (fun w' => w'.cell? ⟨wb, kk * 3, none⟩ = some (.slice (some ⟨sb, so, none⟩) 3 sc) ∧ w'.cell? ⟨wb, kk * 3 + 1, none⟩ = some (.slice (some ⟨rb, ro, none⟩) 3 rc) ∧ w'.cell? ⟨wb, kk * 3 + 2, none⟩ = some (.slice (some ⟨ub, uo, none⟩) 3 uc) ∧ w'.cell? ⟨sB, kk, none⟩ = some (.string st))
            (first | exact ⟨v0, v1, v2, hst9⟩ | exact ⟨t0, t1, t2, t3⟩ | exact ⟨cell_set3' t0 (by omega) _ _ _, cell_set3' t1 (by omega) _ _ _, cell_set3' t2 (by omega) _ _ _, cell_set3' t3 (by omega) _ _ _⟩)
            (first | (go_at_call 23; (with_reducible refine CR.out.mono ?_); rintro e w10 ⟨rfl, hgn'⟩; have hgn := gr_trans hgd hgn'; have t0 := (gr_cell hgn (lt_of_cell v0)).trans v0; have t1 := (gr_cell hgn (lt_of_cell v1)).trans v1; have t2 := (gr_cell hgn (lt_of_cell v2)).trans v2; have t3 := (gr_cell hgn (lt_of_cell hst9)).trans hst9; have hX10 := (hgn.block xb hxlt (by simp)).trans HX9.out; obtain ⟨y0, y1, y2, e0, e1, e2⟩ := blk_cells hX10; have m0 := (gr_free (o := kk * 3) hgn hwb9).trans n0'; have m1 := (gr_free (o := kk * 3 + 1) hgn hwb9).trans n1'; have m2 := (gr_free (o := kk * 3 + 2) hgn hwb9).trans n2')
                   | fail)
          go_wp2_with (fail)
          go_roundw
          case rel =>
            obtain ⟨r1, r2, r3, r4⟩ := roundP_skip HKIO.out HG69.out hgn HS9.out HFR9.out HGR9.out hpw hpx hx0 hx3 hxw0 (.slice none 0 0) (.slice none 0 0) (.slice none 0 0)
            exact ⟨t + 1, q + 1 + 1 + 1, _, _, pd, sp, by omega, by go_num, by omega, r2, r1, HSYS.out.more (by omega), r3, by rw [walsM_next HD.out, HST.out]; exact ⟨by unfold actW; rw [if_neg (by decide), if_neg (by decide), if_pos rfl]; first | rw [if_pos HCAN.out] | rw [if_neg (by have := HCAN.out; omega)], by simp⟩, r4⟩
          case measure => simp [intOf]; omega
      · have hm := HMQ.out
        have hm3 : mq < 3 := by have := nxt_range l (q + 1 + 1 + 1) 3 (by omega); omega
        have hgd := gr_drew (gr_refl w9 none)
        have NX := Lib.hid (next_any l (q + 1 + 1 + 1) 3 p w9.drew (HS9.out.keep0 hgd) (by omega) (by omega))
        rw [hm] at NX
        have hX : ∃ X Y Z, V kk = (X, Y, Z) := ⟨(V kk).1, (V kk).2.1, (V kk).2.2, rfl⟩
        obtain ⟨X, Y, Z, hV⟩ := hX
        rw [hV] at v0 v1 v2 hwk
        simp only at v0 v1 v2 hwk
        obtain ⟨u0, u1, u2, _, _, _⟩ := HK9.out.cells mq hm3
        have hwm := HK9.out.wal mq hm3
        have hX' : ∃ X Y Z, V mq = (X, Y, Z) := ⟨(V mq).1, (V mq).2.1, (V mq).2.2, rfl⟩
        obtain ⟨X', Y', Z', hV'⟩ := hX'
        rw [hV'] at u0 u1 u2 hwm
        simp only at u0 u1 u2 hwm
        have hi0 : ¬ ((c : Int) = 0) := by omega
        have hi1 : ¬ ((c : Int) = 1) := by omega
        have hi2 : ¬ ((c : Int) = 2) := by omega
        have hmi : (0 : Int) ≤ (mq : Int) := by omega
        have hmi3 : (mq : Int) < 3 := by omega
        have hokm := HSYS.out.ok mq hm3
        have HCM := Lib.hid (fun i hi => HSYS.out.cmp kk mq i hk3 hm3 hi : ∀ i, i < 3 → RowLe (W kk) (W mq) i ∨ RowLe (W mq) (W kk) i)
        obtain ⟨sb, so, sc, hXe, _, _, _⟩ := hwk.s
        obtain ⟨rb, ro, rc, hYe, _, _, _⟩ := hwk.r
        obtain ⟨ub, uo, uc, hZe, _, _, _⟩ := hwk.u
        obtain ⟨sb', so', sc', hXe', _, _, _⟩ := hwm.s
        obtain ⟨rb', ro', rc', hYe', _, _, _⟩ := hwm.r
        obtain ⟨ub', uo', uc', hZe', _, _, _⟩ := hwm.u
        subst hXe hYe hZe hXe' hYe' hZe'
        clear hm
        go_wp2_with (fail)
        go_region_held3 (fun w' => w'.cell? ⟨wb, kk * 3, none⟩ = some (.slice (some ⟨sb, so, none⟩) 3 sc) ∧ w'.cell? ⟨wb, kk * 3 + 1, none⟩ = some (.slice (some ⟨rb, ro, none⟩) 3 rc) ∧ w'.cell? ⟨wb, kk * 3 + 2, none⟩ = some (.slice (some ⟨ub, uo, none⟩) 3 uc) ∧ w'.cell? ⟨wb, mq * 3, none⟩ = some (.slice (some ⟨sb', so', none⟩) 3 sc') ∧ w'.cell? ⟨wb, mq * 3 + 1, none⟩ = some (.slice (some ⟨rb', ro', none⟩) 3 rc') ∧ w'.cell? ⟨wb, mq * 3 + 2, none⟩ = some (.slice (some ⟨ub', uo', none⟩) 3 uc'))
          (first | exact ⟨v0, v1, v2, u0, u1, u2⟩ | exact ⟨t0, t1, t2, t3, t4, t5⟩ | exact ⟨d0, d1, d2, d3, d4, d5⟩ | exact ⟨cell_set3' d0 (by omega) _ _ _, cell_set3' d1 (by omega) _ _ _, cell_set3' d2 (by omega) _ _ _, cell_set3' d3 (by omega) _ _ _, cell_set3' d4 (by omega) _ _ _, cell_set3' d5 (by omega) _ _ _⟩)
          (first | (go_at_call 19; (with_reducible refine NX.out.mono ?_); rintro e w10 ⟨rfl, hs10, hgm'⟩; have hgm := gr_trans (gr_weak hgd (some p)) hgm'; have t0 := (gr_cellQ hgm (lt_of_cell v0) hpw).trans v0; have t1 := (gr_cellQ hgm (lt_of_cell v1) hpw).trans v1; have t2 := (gr_cellQ hgm (lt_of_cell v2) hpw).trans v2; have t3 := (gr_cellQ hgm (lt_of_cell u0) hpw).trans u0; have t4 := (gr_cellQ hgm (lt_of_cell u1) hpw).trans u1; have t5 := (gr_cellQ hgm (lt_of_cell u2) hpw).trans u2; have MG := Lib.hid (mergedRef_any _ _ _ _ _ _ (W kk) (W mq) (100 * t) (Av p wb) w10 (hwk.keep hgm (fun q e hq => by cases e; exact hq.1 rfl)) (hwm.keep hgm (fun q e hq => by cases e; exact hq.1 rfl)) hokk hokm (by omega) HCM.out))
                 | (go_at_call 24; (with_reducible refine MG.out.mono ?_); rintro e w11 ⟨xn, yn, zn, vn, C, rfl, hon, hmx, hgn⟩; obtain ⟨g1, c1, he1, _, _, _, _⟩ := own_some hon.s (by omega); obtain ⟨g2, c2, he2, _, _, _, _⟩ := own_some hon.r.outer (by rw [hon.f.lenT]; omega); rw [hon.f.lenT] at he2; obtain ⟨g3, c3, he3, _, _, _, _⟩ := own_some hon.u (by omega); subst he1 he2 he3; have hgs := hgm.size; have hwb10 : wb < w10.heap.size := (by omega); have hxl : xb < w10.heap.size := (by omega); have d0 := (gr_cell hgn (lt_of_cell t0)).trans t0; have d1 := (gr_cell hgn (lt_of_cell t1)).trans t1; have d2 := (gr_cell hgn (lt_of_cell t2)).trans t2; have d3 := (gr_cell hgn (lt_of_cell t3)).trans t3; have d4 := (gr_cell hgn (lt_of_cell t4)).trans t4; have d5 := (gr_cell hgn (lt_of_cell t5)).trans t5; have hX10 := ((hgn.block xb hxl (by simp)).trans (hgm.block xb hxlt (by simp; omega))).trans HX9.out; obtain ⟨y0, y1, y2, e0, e1, e2⟩ := blk_cells hX10; have m0 := (gr_free (o := kk * 3) hgn hwb10).trans ((gr_freeQ (o := kk * 3) hgm hwb9 hpw).trans n0'); have m1 := (gr_free (o := kk * 3 + 1) hgn hwb10).trans ((gr_freeQ (o := kk * 3 + 1) hgm hwb9 hpw).trans n1'); have m2 := (gr_free (o := kk * 3 + 2) hgn hwb10).trans ((gr_freeQ (o := kk * 3 + 2) hgm hwb9 hpw).trans n2'))
                 | fail)
        go_wp2_with (fail)
        go_roundw
        case rel =>
          obtain ⟨r1, r2, r3, r4⟩ := roundP_put HKIO.out (gr_trans HG69.out hgm) hgn hs10 (HFR9.out.step hgm (fun k e => by cases e; exact .inl rfl)) (gr_trans HGR9.out hgm) hpwl hpx hx0 hx3 hxw0 hxl hwb10 hwwb hk3 hon (.slice (some ⟨g1, 0, none⟩) 3 c1) (.slice (some ⟨g2, 0, none⟩) 3 c2) (.slice (some ⟨g3, 0, none⟩) 3 c3)
          have hsy := sys_merge HSYS.out hk3 hm3 hmx hon.f
          exact ⟨t + 1, q + 1 + 1 + 1 + 1, _, _, pd, sp, by omega, by go_num, by omega, r2, r1, hsy.more (by omega), r3, by rw [walsM_next HD.out, HST.out, maxW_is hmx hon.f]; exact ⟨by simp [actW, show ¬ c = 0 by omega, show ¬ c = 1 by omega, show ¬ c = 2 by omega], by simp [show ¬ c = 0 by omega, show ¬ c = 2 by omega]⟩, r4⟩
        case measure => simp [intOf]; omega
    · have htn : t = n0 := by omega
      obtain ⟨e1, e2⟩ := HD.out
      have hfsz := HFR.out.size
      have HE1 := Lib.hid e1
      have HE2 := Lib.hid e2
      clear e1 e2
      go_wp2_with (fail)
      go_ret
      exact ⟨wb, t, q, V, W, pd, sp, rfl, HKIO.out, HSYS.out.more (by omega), HE1.out, HE2.out, by rw [HN0.out, htn], by omega, hsr, hwwb, by omega, hgr⟩
end Go.Proofs.YtakabckmiodjaaaDoor

/-! A wallet that a law spoils; a wallet's blocks are not a stream's. -/
namespace Go.Proofs.YtakabckmiodjaaaDoor
open Go.RowKit

theorem two_cells {w : World} {p t : Nat} {u0 u1 v : Value} {j : Nat} (h : w.heap[p]? = some (.cells #[u0, u1] t (0, 0))) (hc : w.cell? ⟨p, j, none⟩ = some v) : j < 2 := by
  simp only [World.cell?, h] at hc
  have := (Array.getElem?_eq_some_iff.1 hc).1
  simpa using this
theorem WalAt.notTwo {w : World} {B : Nat → Prop} {x y z : Value} {A : Wal} {p t : Nat} {u0 u1 : Value} (h : WalAt w B x y z A) (hp : w.heap[p]? = some (.cells #[u0, u1] t (0, 0))) : WalAt w (fun b => B b ∧ b ≠ p) x y z A := by
  obtain ⟨⟨b1, o1, c1, e1, m1, k1, h1⟩, ⟨b2, o2, c2, e2, m2, k2, h2⟩, ⟨b3, o3, c3, e3, m3, k3, h3⟩⟩ := h
  refine ⟨⟨b1, o1, c1, e1, m1, ⟨k1, fun e => ?_⟩, h1⟩, ⟨b2, o2, c2, e2, m2, ⟨k2, fun e => ?_⟩, fun i hi => ?_⟩, ⟨b3, o3, c3, e3, m3, ⟨k3, fun e => ?_⟩, h3⟩⟩
  · subst e; have := two_cells hp (h1 2 (by omega)); omega
  · subst e
    obtain ⟨b4, o4, c4, h4, _⟩ := h2 2 (by omega)
    have := two_cells hp h4; omega
  · obtain ⟨b4, o4, c4, h4, m4, k4, h5⟩ := h2 i hi
    exact ⟨b4, o4, c4, h4, m4, ⟨k4, fun e => by subst e; have := two_cells hp (h5 2 (by omega)); omega⟩, h5⟩
  · subst e; have := two_cells hp (h3 2 (by omega)); omega
structure SpW (w : World) (base gx cx gy cy gz cz : Nat) (xs : List Value) (A : Wal) (vs : List Value) : Prop where
  s : w.ownsRow base 9 1 (.slice (some ⟨gx, 0, none⟩) 3 cx) 3 xs
  r : OwnRows w base (.slice (some ⟨gy, 0, none⟩) 3 cy) A.T vs
  u : w.ownsRow base 3 1 (.slice (some ⟨gz, 0, none⟩) 3 cz) 3 (ints A.U)
  f : WForm A
  ap : ∀ i, i < 3 → ∀ g, (vs.getD i undef).ownBlock = some g → (Value.slice (some ⟨gz, 0, none⟩) 3 cz).ownBlock ≠ some g
theorem SpW.of {w : World} {base : Nat} {x y z : Value} {A : Wal} {vs : List Value} (h : WalOwn w base x y z A vs) : ∃ gx cx gy cy gz cz, x = .slice (some ⟨gx, 0, none⟩) 3 cx ∧ y = .slice (some ⟨gy, 0, none⟩) 3 cy ∧ z = .slice (some ⟨gz, 0, none⟩) 3 cz ∧ SpW w base gx cx gy cy gz cz siteVs A vs := by
  obtain ⟨gx, cx, hx, _, _, _, _⟩ := own_some h.s (by omega)
  obtain ⟨gy, cy, hy, _, _, _, _⟩ := own_some h.r.outer (by rw [h.f.lenT]; omega)
  obtain ⟨gz, cz, hz, _, _, _, _⟩ := own_some h.u (by omega)
  rw [h.f.lenT] at hy
  subst hx hy hz
  exact ⟨gx, cx, gy, cy, gz, cz, rfl, rfl, rfl, h.s, h.r, h.u, h.f, h.ap⟩
variable {w w1 : World} {base gx cx gy cy gz cz : Nat} {xs : List Value} {A : Wal} {vs : List Value}
theorem SpW.keepS {p : Nat} (h : SpW w base gx cx gy cy gz cz xs A vs) (g : w.grownBy w1 (some p)) (hp : p < base) : SpW w1 base gx cx gy cy gz cz xs A vs :=
  ⟨own_keepS h.s g hp, h.r.keepS g hp, own_keepS h.u g hp, h.f, h.ap⟩
theorem SpW.keep0 (h : SpW w base gx cx gy cy gz cz xs A vs) (g : w.grownBy w1 none) : SpW w1 base gx cx gy cy gz cz xs A vs :=
  ⟨own_keep0 h.s g, h.r.keep0 g, own_keep0 h.u g, h.f, h.ap⟩
theorem SpW.setR (h : SpW w base gx cx gy cy gz cz xs A vs) (i j : Nat) (hi : i < 3) (hj : j < 3) :
    ∃ g c, w.cell? ⟨gy, i, none⟩ = some (.slice (some ⟨g, 0, none⟩) 3 c) ∧ w.cell? ⟨g, j, none⟩ = some (.int .i64 (A.r i j)) ∧ w.frozen? ⟨g, j, none⟩ = false ∧ base ≤ g ∧ gy ≠ g ∧ (vs.getD i undef).ownBlock = some g ∧
      ∀ v, SpW (w.setCell ⟨g, j, none⟩ (.int .i64 v)) base gx cx gy cy gz cz xs (putR A i j v) vs := by
  have hTl := h.f.lenT
  have hl := h.f.lenR i hi
  have hr := h.r
  obtain ⟨_, g, c, he, _, _, hvs, hgb, hgw⟩ := hr.shape i (by omega) (by omega)
  cases he
  obtain ⟨q1, q2, q3, q4⟩ := hr.put i j (by omega) (by omega) hvs
  rw [hl] at q1
  have hin := hr.inner i (by omega)
  have hgo : gy ≠ g := fun e => own_types hr.outer hin (by decide) gy rfl (by rw [hvs, e]; rfl)
  refine ⟨g, c, q1, q2, q3, hgb, hgo, by rw [hvs]; rfl, fun v => ⟨?_, ?_, ?_, putR_form h.f i j v hi, ?_⟩⟩
  · exact own_keep h.s (gr_set (q := ⟨g, j, none⟩) (gr_refl w (some g)) rfl _) (.inr (fun e => own_types h.s hin (by decide) g e (by rw [hvs]; rfl)))
  · exact q4 v
  · exact own_keep h.u (gr_set (q := ⟨g, j, none⟩) (gr_refl w (some g)) rfl _) (.inr (h.ap i hi g (by rw [hvs]; rfl)))
  · exact h.ap
theorem SpW.setU (h : SpW w base gx cx gy cy gz cz xs A vs) (i : Nat) (hi : i < 3) :
    w.cell? ⟨gz, i, none⟩ = some (.int .i64 (A.u i)) ∧ w.frozen? ⟨gz, i, none⟩ = false ∧ base ≤ gz ∧
      ∀ v, SpW (w.setCell ⟨gz, i, none⟩ (.int .i64 v)) base gx cx gy cy gz cz xs (putU A i v) vs := by
  have hTl := h.f.lenT
  have hu := h.u
  have hap := h.ap
  obtain ⟨d0, d1, d2⟩ := own_int hu i hi
  refine ⟨d0, d1, (hu.lt gz rfl).1, fun v => ⟨?_, ?_, d2 v, putU_form h.f i v, h.ap⟩⟩
  · exact own_keep h.s (gr_set (q := ⟨gz, i, none⟩) (gr_refl w (some gz)) rfl _) (.inr (fun e => own_types h.s hu (by decide) gz e rfl))
  · refine ⟨own_keep h.r.outer (gr_set (q := ⟨gz, i, none⟩) (gr_refl w (some gz)) rfl _) (.inr (fun e => own_types h.r.outer hu (by decide) gz e rfl)), fun k hk => ?_, h.r.apart⟩
    have hk' : k < A.T.length := hk
    exact own_keep (h.r.inner k hk') (gr_set (q := ⟨gz, i, none⟩) (gr_refl w (some gz)) rfl _) (.inr (fun e => hap k (by omega) gz e rfl))
theorem SpW.setS (h : SpW w base gx cx gy cy gz cz xs A vs) (i : Nat) (hi : i < 3) :
    (∃ u, w.cell? ⟨gx, i, none⟩ = some u) ∧ w.frozen? ⟨gx, i, none⟩ = false ∧ base ≤ gx ∧
      ∀ v, SpW (w.setCell ⟨gx, i, none⟩ v) base gx cx gy cy gz cz (xs.set i v) A vs := by
  have hTl := h.f.lenT
  have hs := h.s
  have hl : xs.length = 3 := by have := hs.1; simpa using this
  refine ⟨⟨xs[i]'(by omega), by rw [hs.cellAt i (by omega), List.getElem?_eq_getElem (by omega)]⟩, hs.frozenAt _, (hs.lt gx rfl).1, fun v => ⟨(hs.stored i v).1, ?_, ?_, h.f, h.ap⟩⟩
  · refine ⟨own_keep h.r.outer (gr_set (q := ⟨gx, i, none⟩) (gr_refl w (some gx)) rfl _) (.inr (fun e => own_types h.r.outer hs (by decide) gx e rfl)), fun k hk => ?_, h.r.apart⟩
    have hk' : k < A.T.length := hk
    exact own_keep (h.r.inner k hk') (gr_set (q := ⟨gx, i, none⟩) (gr_refl w (some gx)) rfl _) (.inr (fun e => own_types (h.r.inner k hk') hs (by decide) gx e rfl))
  · exact own_keep h.u (gr_set (q := ⟨gx, i, none⟩) (gr_refl w (some gx)) rfl _) (.inr (fun e => own_types h.u hs (by decide) gx e rfl))
end Go.Proofs.YtakabckmiodjaaaDoor

/-! Two streams' wallets beside each other, and the variables that hold the first of each. -/
namespace Go.Proofs.YtakabckmiodjaaaDoor
open Go.RowKit

theorem WalAt.frB {a w : World} {B : Nat → Prop} {x y z : Value} {A : Wal} (h : ∀ b, b < a.heap.size → B b → w.heap[b]? = a.heap[b]?) (ha : WalAt a B x y z A) : WalAt w B x y z A := by
  have hc : ∀ {b o : Nat} {v : Value}, B b → a.cell? ⟨b, o, none⟩ = some v → w.cell? ⟨b, o, none⟩ = some v := fun hb hc => (World.cell?_of_block (w := a) (h _ (lt_of_cell hc) hb)).trans hc
  obtain ⟨⟨b1, o1, c1, e1, m1, k1, h1⟩, ⟨b2, o2, c2, e2, m2, k2, h2⟩, ⟨b3, o3, c3, e3, m3, k3, h3⟩⟩ := ha
  refine ⟨⟨b1, o1, c1, e1, m1, k1, fun i hi => hc k1 (h1 i hi)⟩, ⟨b2, o2, c2, e2, m2, k2, fun i hi => ?_⟩, ⟨b3, o3, c3, e3, m3, k3, fun i hi => hc k3 (h3 i hi)⟩⟩
  obtain ⟨b4, o4, c4, h4, m4, k4, h5⟩ := h2 i hi
  exact ⟨b4, o4, c4, hc k2 h4, m4, k4, fun j hj => hc k4 (h5 j hj)⟩
theorem StreamAt.frB {w w1 : World} {p lw k : Nat} {l : List Int} (h : StreamAt w p lw l k) (hp : w1.heap[p]? = w.heap[p]?) (hl : ∀ b, b < lw → w1.heap[b]? = w.heap[b]?) : StreamAt w1 p lw l k := by
  obtain ⟨⟨a, cap, hb, hc, hne⟩, hlen, hlow⟩ := h
  refine ⟨⟨a, cap, hp.trans hb, fun i v hv => ?_, hne⟩, hlen, hlow⟩
  obtain ⟨b, off, he, hcell⟩ := hc i v hv
  have h0 : 0 < l.length := by
    cases l with
    | nil => simp at hv
    | cons x l => simp
  exact ⟨b, off, he, (World.cell?_of_block (w := w) (hl b (hne h0 b off he))).trans hcell⟩
def NilBlk (w : World) (p : Nat) : Prop := w.heap[p]? = some (.cells #[.slice none 0 0, .slice none 0 0, .slice none 0 0] 29 (0, 0))
theorem nil_cells {w : World} {p j : Nat} {v : Value} (h : NilBlk w p) (hc : w.cell? ⟨p, j, none⟩ = some v) : v = .slice none 0 0 := by
  have h' : w.heap[p]? = some (.cells #[.slice none 0 0, .slice none 0 0, .slice none 0 0] 29 (0, 0)) := h
  simp only [World.cell?, h'] at hc
  have hj := (Array.getElem?_eq_some_iff.1 hc).1
  have hj3 : j < 3 := by simpa using hj
  obtain rfl | rfl | rfl : j = 0 ∨ j = 1 ∨ j = 2 := by omega
  all_goals (simpa using hc.symm)
theorem siteV_ne (i : Nat) : siteV i ≠ .slice none 0 0 := by
  obtain ⟨s, hs⟩ := siteV_str i
  rw [hs]; simp
theorem WalAt.notNil {w : World} {B : Nat → Prop} {x y z : Value} {A : Wal} {p : Nat} (h : WalAt w B x y z A) (hp : NilBlk w p) : WalAt w (fun b => B b ∧ b ≠ p) x y z A := by
  obtain ⟨⟨b1, o1, c1, e1, m1, k1, h1⟩, ⟨b2, o2, c2, e2, m2, k2, h2⟩, ⟨b3, o3, c3, e3, m3, k3, h3⟩⟩ := h
  refine ⟨⟨b1, o1, c1, e1, m1, ⟨k1, fun e => ?_⟩, h1⟩, ⟨b2, o2, c2, e2, m2, ⟨k2, fun e => ?_⟩, fun i hi => ?_⟩, ⟨b3, o3, c3, e3, m3, ⟨k3, fun e => ?_⟩, h3⟩⟩
  · subst e; exact siteV_ne _ (nil_cells hp (h1 0 (by omega)))
  · subst e
    obtain ⟨b4, o4, c4, h4, _⟩ := h2 0 (by omega)
    have := nil_cells hp h4; simp at this
  · obtain ⟨b4, o4, c4, h4, m4, k4, h5⟩ := h2 i hi
    exact ⟨b4, o4, c4, h4, m4, ⟨k4, fun e => by subst e; have := nil_cells hp (h5 0 (by omega)); simp at this⟩, h5⟩
  · subst e; have := nil_cells hp (h3 0 (by omega)); simp at this
/-- Two streams that gave alike, and a wallet of each. -/
structure TwoAt (w : World) (p p2 lw : Nat) (l : List Int) (q : Nat) (A : Wal) (u v : Value × Value × Value) : Prop where
  sA : StreamAt w p lw l q
  sB : StreamAt w p2 lw l q
  wA : WalAt w (fun b => b ≠ p ∧ b ≠ p2) u.1 u.2.1 u.2.2 A
  wB : WalAt w (fun b => b ≠ p ∧ b ≠ p2) v.1 v.2.1 v.2.2 A
theorem Kiosks.shape0 {w : World} {p wb : Nat} {V : Nat → Value × Value × Value} {W : Nat → Wal} (h : Kiosks w p wb V W) : ∃ b1 o1 c1 b2 o2 c2 b3 o3 c3, V 0 = (.slice (some ⟨b1, o1, none⟩) 3 c1, .slice (some ⟨b2, o2, none⟩) 3 c2, .slice (some ⟨b3, o3, none⟩) 3 c3) := by
  obtain ⟨⟨b1, o1, c1, e1, _⟩, ⟨b2, o2, c2, e2, _⟩, ⟨b3, o3, c3, e3, _⟩⟩ := h.wal 0 (by omega)
  exact ⟨b1, o1, c1, b2, o2, c2, b3, o3, c3, by rw [← e1, ← e2, ← e3]⟩
theorem Kiosks.cells0 {w : World} {p wb : Nat} {V : Nat → Value × Value × Value} {W : Nat → Wal} {x y z : Value} (h : Kiosks w p wb V W) (hV : V 0 = (x, y, z)) : w.cell? ⟨wb, 0, none⟩ = some x ∧ w.cell? ⟨wb, 1, none⟩ = some y ∧ w.cell? ⟨wb, 2, none⟩ = some z := by
  obtain ⟨h0, h1, h2, _⟩ := h.cells 0 (by omega)
  rw [hV] at h0 h1 h2
  exact ⟨h0, h1, h2⟩
theorem two_after {x y z x' y' z' : Value} {w1 W w2 : World} {p p2 lw q k0 wb1 wb2 : Nat} {l : List Int} {V1 V2 : Nat → Value × Value × Value} {W1 : Nat → Wal} (K1 : Kiosks w1 p wb1 V1 W1) (sA : StreamAt w1 p lw l q) (s2 : StreamAt w1 p2 lw l k0) (gW : w1.grownBy W none) (gB : W.grownBy w2 (some p2)) (K2 : Kiosks w2 p2 wb2 V2 W1) (sB : StreamAt w2 p2 lw l q) (hne : p ≠ p2) (h1 : p2 ≠ wb1) (hV1 : V1 0 = (x, y, z)) (hV2 : V2 0 = (x', y', z')) :
    TwoAt w2 p p2 lw l q (W1 0) (x, y, z) (x', y', z') ∧ (w2.cell? ⟨wb1, 0, none⟩ = some x ∧ w2.cell? ⟨wb1, 1, none⟩ = some y ∧ w2.cell? ⟨wb1, 2, none⟩ = some z) ∧ w2.cell? ⟨wb2, 0, none⟩ = some x' ∧ w2.cell? ⟨wb2, 1, none⟩ = some y' ∧ w2.cell? ⟨wb2, 2, none⟩ = some z' := by
  have gA : w1.grownBy w2 (some p2) := gr_trans (gr_weak gW _) gB
  have sA2 : StreamAt w2 p lw l q := sA.keepNe gA (fun q e => by cases e; exact ⟨hne, s2.low⟩)
  obtain ⟨a2, cap2, hb2, _⟩ := s2.blk
  obtain ⟨a1, cap1, hb1, _⟩ := sA2.blk
  have wA1 := (K1.wal 0 (by omega)).notTwo hb2
  rw [hV1] at wA1
  have wB1 := (K2.wal 0 (by omega)).notTwo hb1
  rw [hV2] at wB1
  refine ⟨⟨sA2, sB, (wA1.weak (B' := fun b => b ≠ p ∧ b ≠ p2) (fun b _ h => ⟨h.1.1, h.2⟩)).keep gA (fun q e h => by cases e; exact h.2 rfl), wB1.weak (fun b _ h => ⟨h.2, h.1.1⟩)⟩, ?_, K2.cells0 hV2⟩
  obtain ⟨c0, c1, c2⟩ := K1.cells0 hV1
  exact ⟨(gr_cellQ gA (lt_of_cell c0) h1).trans c0, (gr_cellQ gA (lt_of_cell c1) h1).trans c1, (gr_cellQ gA (lt_of_cell c2) h1).trans c2⟩
theorem TwoAt.fr {w wx : World} {p p2 lw q P Q : Nat} {l : List Int} {A : Wal} {u v : Value × Value × Value} (h : TwoAt w p p2 lw l q A u v) (hf : Fr w wx P Q) (hP : P < w.heap.size → NilBlk w P) (hQ : Q < w.heap.size → NilBlk w Q) (hlP : lw ≤ P) (hlQ : lw ≤ Q) : TwoAt wx p p2 lw l q A u v := by
  have hlt1 := h.sA.lt
  have hlt2 := h.sB.lt
  have hlow1 := h.sA.low
  have hno : ∀ (s k R : Nat), StreamAt w s lw l k → (R < w.heap.size → NilBlk w R) → s ≠ R := by
    intro s k R hs hR e
    subst e
    obtain ⟨a, cap, hb, _⟩ := hs.blk
    have := hR hs.lt
    unfold NilBlk at this
    rw [hb] at this
    simp at this
  have hbl : ∀ b, b < lw → wx.heap[b]? = w.heap[b]? := fun b hb => hf.blk b (by omega) (by omega) (by omega)
  have hwal : ∀ {x y z : Value} {B : Nat → Prop}, WalAt w B x y z A → WalAt wx B x y z A := by
    intro x y z B hw
    have h1 : WalAt w (fun b => B b ∧ b ≠ P) x y z A := by
      by_cases hs : P < w.heap.size
      · exact hw.notNil (hP hs)
      · exact hw.weak (fun b hb hB => ⟨hB, by omega⟩)
    have h2 : WalAt w (fun b => (B b ∧ b ≠ P) ∧ b ≠ Q) x y z A := by
      by_cases hs : Q < w.heap.size
      · exact h1.notNil (hQ hs)
      · exact h1.weak (fun b hb hB => ⟨hB, by omega⟩)
    refine (h2.frB (w := wx) (fun b hb hB => hf.blk b hb hB.1.2 hB.2)).weak (fun b _ hB => hB.1.1)
  exact ⟨h.sA.frB (hf.blk p hlt1 (hno _ _ _ h.sA hP) (hno _ _ _ h.sA hQ)) hbl, h.sB.frB (hf.blk p2 hlt2 (hno _ _ _ h.sB hP) (hno _ _ _ h.sB hQ)) hbl, hwal h.wA, hwal h.wB⟩
theorem Fr.al {a w : World} {p q : Nat} (h : Fr a w p q) (o : Obj) : Fr a (w.alloc o) p q := h.step0 (gr_alloc (gr_refl _ _) o)
theorem Fr.setP {a w : World} {p q : Nat} (h : Fr a w p q) (o : Nat) (v : Value) : Fr a (w.setCell ⟨p, o, none⟩ v) p q := h.step (gr_set (q := ⟨p, o, none⟩) (gr_refl w (some p)) rfl v) (fun k e => by cases e; exact .inl rfl)
theorem Fr.setQ {a w : World} {p q : Nat} (h : Fr a w p q) (o : Nat) (v : Value) : Fr a (w.setCell ⟨q, o, none⟩ v) p q := h.step (gr_set (q := ⟨q, o, none⟩) (gr_refl w (some q)) rfl v) (fun k e => by cases e; exact .inr (.inl rfl))
structure BoxAt (w : World) (b : Nat) (u : Value × Value × Value) : Prop where
  c0 : w.cell? ⟨b, 0, none⟩ = some u.1
  c1 : w.cell? ⟨b, 1, none⟩ = some u.2.1
  c2 : w.cell? ⟨b, 2, none⟩ = some u.2.2
theorem BoxAt.keep {w w1 : World} {b : Nat} {u : Value × Value × Value} {r : Option Nat} (h : BoxAt w b u) (g : w.grownBy w1 r) (hr : ∀ q, r = some q → b ≠ q) : BoxAt w1 b u := by
  have hn : some b ≠ r := fun e => hr b e.symm rfl
  exact ⟨g.cell h.c0 hn, g.cell h.c1 hn, g.cell h.c2 hn⟩
/-- What holds behind the two first wallets. -/
def BoxPost (l : List Int) (p p2 lw : Nat) (w : World) (s5 s6 : Value) (wx : World) : Prop :=
  ∃ bx by_ q u v A, s5 = .pointer (some ⟨bx, 0, none⟩) ∧ s6 = .pointer (some ⟨by_, 0, none⟩) ∧ BoxAt wx bx u ∧ BoxAt wx by_ v ∧ TwoAt wx p p2 lw l q A u v ∧ WOk A 1600 ∧ q ≤ 100 ∧ w.grownBy wx none ∧ w.heap.size + 2 ≤ bx ∧ w.heap.size + 2 ≤ by_
theorem NilBlk.keepS {w w1 : World} {p q : Nat} (h : NilBlk w p) (g : w.grownBy w1 (some q)) (hne : p ≠ q) : NilBlk w1 p := (g.block p (lt_of_block h) (by simpa using hne)).trans h
theorem NilBlk.keep0 {w w1 : World} {p : Nat} (h : NilBlk w p) (g : w.grownBy w1 none) : NilBlk w1 p := (g.block p (lt_of_block h) (by simp)).trans h
theorem nil_alloc (w : World) : NilBlk (w.alloc (.cells #[.slice none 0 0, .slice none 0 0, .slice none 0 0] 29)) w.heap.size := heap_alloc_new w _
theorem NilBlk.al {w : World} {p : Nat} (h : NilBlk w p) (o : Obj) : NilBlk (w.alloc o) p := h.keep0 (gr_alloc (gr_refl _ _) o)
theorem nil_alloc2 (w : World) : NilBlk ((w.alloc (.cells #[.slice none 0 0, .slice none 0 0, .slice none 0 0] 29)).alloc (.cells #[.slice none 0 0, .slice none 0 0, .slice none 0 0] 29)) (w.heap.size + 1) := (heap_two w _ _).2
theorem NilBlk.facts {w : World} {p : Nat} (h : NilBlk w p) : w.cell? ⟨p, 0, none⟩ = some (.slice none 0 0) ∧ w.cell? ⟨p, 1, none⟩ = some (.slice none 0 0) ∧ w.cell? ⟨p, 2, none⟩ = some (.slice none 0 0) ∧ w.frozen? ⟨p, 0, none⟩ = false ∧ w.frozen? ⟨p, 1, none⟩ = false ∧ w.frozen? ⟨p, 2, none⟩ = false := blk_cells h
theorem box_end {w w2 wx : World} {l : List Int} {p p2 lw q P Q : Nat} {A : Wal} {u v : Value × Value × Value} (HT : TwoAt w2 p p2 lw l q A u v ∧ WOk A 1600 ∧ q ≤ 100) (hf : Fr w2 wx P Q) (hP : P < w2.heap.size → NilBlk w2 P) (hQ : Q < w2.heap.size → NilBlk w2 Q) (hlP : lw ≤ P) (hlQ : lw ≤ Q) (hwP : w.heap.size + 2 ≤ P) (hwQ : w.heap.size + 2 ≤ Q) (hgx : w.grownBy wx none) (hb : BoxAt wx P u) (hc : BoxAt wx Q v) :
    BoxPost l p p2 lw w (.pointer (some ⟨P, 0, none⟩)) (.pointer (some ⟨Q, 0, none⟩)) wx :=
  ⟨P, Q, q, u, v, A, rfl, rfl, hb, hc, HT.1.fr hf hP hQ hlP hlQ, HT.2.1, HT.2.2, hgx, hwP, hwQ⟩
end Go.Proofs.YtakabckmiodjaaaDoor

/-! Two wallets that a law spoils, one after the other. -/
namespace Go.Proofs.YtakabckmiodjaaaDoor
open Go.RowKit

/-- What a wallet's blocks lie below. -/
structure Bd (top gx gy gz : Nat) (vs : List Value) : Prop where
  x : gx < top
  y : gy < top
  z : gz < top
  v : ∀ i, i < 3 → ∀ g, (vs.getD i undef).ownBlock = some g → g < top
def Sp1 (w : World) (top low : Nat) (x y z : Value) : Prop := ∃ gx cx gy cy gz cz xs A vs, x = .slice (some ⟨gx, 0, none⟩) 3 cx ∧ y = .slice (some ⟨gy, 0, none⟩) 3 cy ∧ z = .slice (some ⟨gz, 0, none⟩) 3 cz ∧ SpW w low gx cx gy cy gz cz xs A vs ∧ Bd top gx gy gz vs
theorem Sp1.of {w : World} {base : Nat} {x y z : Value} {A : Wal} {vs : List Value} (h : WalOwn w base x y z A vs) : Sp1 w w.heap.size base x y z := by
  obtain ⟨gx, cx, gy, cy, gz, cz, rfl, rfl, rfl, hs⟩ := SpW.of h
  have hT := hs.f.lenT
  exact ⟨gx, cx, gy, cy, gz, cz, _, A, vs, rfl, rfl, rfl, hs, (hs.s.lt gx rfl).2, (hs.r.outer.lt gy rfl).2, (hs.u.lt gz rfl).2, fun i hi g hg => ((hs.r.inner i (by omega)).lt g hg).2⟩
theorem Sp1.keep0 {w w1 : World} {top low : Nat} {x y z : Value} (h : Sp1 w top low x y z) (g : w.grownBy w1 none) : Sp1 w1 top low x y z := by
  obtain ⟨gx, cx, gy, cy, gz, cz, xs, A, vs, h1, h2, h3, h4, h5⟩ := h
  exact ⟨gx, cx, gy, cy, gz, cz, xs, A, vs, h1, h2, h3, h4.keep0 g, h5⟩
theorem Sp1.keepS {w w1 : World} {top low p : Nat} {x y z : Value} (h : Sp1 w top low x y z) (g : w.grownBy w1 (some p)) (hp : p < low) : Sp1 w1 top low x y z := by
  obtain ⟨gx, cx, gy, cy, gz, cz, xs, A, vs, h1, h2, h3, h4, h5⟩ := h
  exact ⟨gx, cx, gy, cy, gz, cz, xs, A, vs, h1, h2, h3, h4.keepS g hp, h5⟩
theorem Sp1.top {w : World} {top top' low : Nat} {x y z : Value} (h : Sp1 w top low x y z) (ht : top ≤ top') : Sp1 w top' low x y z := by
  obtain ⟨gx, cx, gy, cy, gz, cz, xs, A, vs, h1, h2, h3, h4, h5⟩ := h
  exact ⟨gx, cx, gy, cy, gz, cz, xs, A, vs, h1, h2, h3, h4, by have := h5.x; omega, by have := h5.y; omega, by have := h5.z; omega, fun i hi g hg => by have := h5.v i hi g hg; omega⟩
/-- Inside a round: the wallet in hand, its variable, the other wallet. -/
structure InS (wm wr : World) (arr xb m top low t gx cx gy cy gz cz : Nat) (vs : List Value) (cs : Array Value) (x2 y2 z2 : Value) : Prop where
  sp : ∃ xs A, SpW wr low gx cx gy cy gz cz xs A vs
  nx : t = 0 → Sp1 wr arr m x2 y2 z2
  ar : wr.heap[arr]? = some (.cells cs 29 (0, 0))
  bx : wr.heap[xb]? = some (.cells #[.slice (some ⟨gx, 0, none⟩) 3 cx, .slice (some ⟨gy, 0, none⟩) 3 cy, .slice (some ⟨gz, 0, none⟩) 3 cz] 29 (0, 0))
  gr : wm.grownBy wr none
  bd : Bd top gx gy gz vs
  tm : t = 0 → top ≤ m
  ta : top ≤ arr
  ax : arr < xb
  wl : wm.heap.size ≤ low
variable {wm wr : World} {arr xb m top low t gx cx gy cy gz cz : Nat} {vs : List Value} {cs : Array Value} {x2 y2 z2 : Value}
theorem InS.put (h : InS wm wr arr xb m top low t gx cx gy cy gz cz vs cs x2 y2 z2) (g j : Nat) (v : Value) (hl : low ≤ g) (ht : g < top) (hs : ∃ xs A, SpW (wr.setCell ⟨g, j, none⟩ v) low gx cx gy cy gz cz xs A vs) : InS wm (wr.setCell ⟨g, j, none⟩ v) arr xb m top low t gx cx gy cy gz cz vs cs x2 y2 z2 := by
  have gg := gr_set (q := ⟨g, j, none⟩) (gr_refl wr (some g)) rfl v
  have h1 := h.ta
  have h2 := h.ax
  have h3 := h.wl
  refine ⟨hs, fun e => (h.nx e).keepS gg (by have := h.tm e; omega), (gg.block arr (lt_of_block h.ar) (by simp; omega)).trans h.ar, (gg.block xb (lt_of_block h.bx) (by simp; omega)).trans h.bx, gr_new h.gr (q := ⟨g, j, none⟩) (by show _ ≤ g; omega) v, h.bd, h.tm, h1, h2, h3⟩
theorem InS.us (h : InS wm wr arr xb m top low t gx cx gy cy gz cz vs cs x2 y2 z2) (i : Nat) (hi : i < 3) :
    ∃ (u : Int) (u2 : Value), wr.cell? ⟨gz, i, none⟩ = some (.int .i64 u) ∧ wr.frozen? ⟨gz, i, none⟩ = false ∧ wr.cell? ⟨gx, i, none⟩ = some u2 ∧ wr.frozen? ⟨gx, i, none⟩ = false ∧ gx ≠ gz ∧ gx < xb ∧ gz < xb ∧ ∀ v v2, InS wm ((wr.setCell ⟨gz, i, none⟩ (.int .i64 v)).setCell ⟨gx, i, none⟩ v2) arr xb m top low t gx cx gy cy gz cz vs cs x2 y2 z2 := by
  obtain ⟨xs, A, hs⟩ := h.sp
  obtain ⟨d0, d1, d2, d3⟩ := hs.setU i hi
  obtain ⟨⟨u2, e0⟩, e1, e2, _⟩ := hs.setS i hi
  have hb := h.bd
  have h1 := h.ta
  have h2 := h.ax
  have hbz := hb.z
  have hbx := hb.x
  have hne : gx ≠ gz := fun e => own_types hs.s hs.u (by decide) gx rfl (by rw [e]; rfl)
  refine ⟨_, u2, d0, d1, e0, e1, hne, by omega, by omega, fun v v2 => ?_⟩
  have k1 := h.put gz i (.int .i64 v) d2 hb.z ⟨_, _, d3 v⟩
  obtain ⟨xs', A', hs'⟩ := k1.sp
  obtain ⟨_, _, f2, f3⟩ := hs'.setS i hi
  exact k1.put gx i v2 f2 hb.x ⟨_, _, f3 v2⟩
theorem InS.rs (h : InS wm wr arr xb m top low t gx cx gy cy gz cz vs cs x2 y2 z2) (i j : Nat) (hi : i < 3) (hj : j < 3) :
    ∃ (g c : Nat) (u : Int), wr.cell? ⟨gy, i, none⟩ = some (.slice (some ⟨g, 0, none⟩) 3 c) ∧ wr.cell? ⟨g, j, none⟩ = some (.int .i64 u) ∧ wr.frozen? ⟨g, j, none⟩ = false ∧ ∀ v, InS wm (wr.setCell ⟨g, j, none⟩ (.int .i64 v)) arr xb m top low t gx cx gy cy gz cz vs cs x2 y2 z2 := by
  obtain ⟨xs, A, hs⟩ := h.sp
  obtain ⟨g, c, q1, q2, q3, q4, _, q5, q6⟩ := hs.setR i j hi hj
  exact ⟨g, c, _, q1, q2, q3, fun v => h.put g j _ q4 (h.bd.v i hi g q5) ⟨_, _, q6 v⟩⟩
theorem InS.cells (h : InS wm wr arr xb m top low t gx cx gy cy gz cz vs cs x2 y2 z2) : wr.cell? ⟨xb, 0, none⟩ = some (.slice (some ⟨gx, 0, none⟩) 3 cx) ∧ wr.cell? ⟨xb, 1, none⟩ = some (.slice (some ⟨gy, 0, none⟩) 3 cy) ∧ wr.cell? ⟨xb, 2, none⟩ = some (.slice (some ⟨gz, 0, none⟩) 3 cz) := by
  obtain ⟨a, b, c, _⟩ := blk_cells h.bx
  exact ⟨a, b, c⟩
theorem InS.keep0 {w1 : World} (h : InS wm wr arr xb m top low t gx cx gy cy gz cz vs cs x2 y2 z2) (g : wr.grownBy w1 none) : InS wm w1 arr xb m top low t gx cx gy cy gz cz vs cs x2 y2 z2 := by
  obtain ⟨xs, A, hs⟩ := h.sp
  exact ⟨⟨xs, A, hs.keep0 g⟩, fun e => (h.nx e).keep0 g, (g.block arr (lt_of_block h.ar) (by simp)).trans h.ar, (g.block xb (lt_of_block h.bx) (by simp)).trans h.bx, gr_trans h.gr g, h.bd, h.tm, h.ta, h.ax, h.wl⟩
/-- Between the rounds. -/
structure Sps (wm wr : World) (arr m t : Nat) (x1 y1 z1 x2 y2 z2 : Value) : Prop where
  c1 : t = 0 → ∃ low, wm.heap.size ≤ low ∧ Sp1 wr m low x1 y1 z1
  c2 : t ≤ 1 → Sp1 wr arr m x2 y2 z2
  ar : wr.heap[arr]? = some (.cells #[x1, y1, z1, x2, y2, z2] 29 (0, 0))
  gr : wm.grownBy wr none
  mm : wm.heap.size ≤ m
  ma : m ≤ arr
theorem InS.leave {x1 y1 z1 : Value} (h : InS wm wr arr xb m top low t gx cx gy cy gz cz vs #[x1, y1, z1, x2, y2, z2] x2 y2 z2) (hm : wm.heap.size ≤ m) (ha : m ≤ arr) : Sps wm wr arr m (t + 1) x1 y1 z1 x2 y2 z2 :=
  ⟨fun e => by omega, fun e => h.nx (by omega), h.ar, h.gr, hm, ha⟩
theorem Sps.enter {x1 y1 z1 : Value} (h : Sps wm wr arr m t x1 y1 z1 x2 y2 z2) (ht : t < 2) :
    ∃ (top low gx cx gy cy gz cz : Nat) (vs : List Value), (wr.cell? ⟨arr, t * 3, none⟩ = some (.slice (some ⟨gx, 0, none⟩) 3 cx) ∧ wr.cell? ⟨arr, t * 3 + 1, none⟩ = some (.slice (some ⟨gy, 0, none⟩) 3 cy) ∧ wr.cell? ⟨arr, t * 3 + 2, none⟩ = some (.slice (some ⟨gz, 0, none⟩) 3 cz)) ∧
      InS wm (wr.alloc (.cells #[.slice (some ⟨gx, 0, none⟩) 3 cx, .slice (some ⟨gy, 0, none⟩) 3 cy, .slice (some ⟨gz, 0, none⟩) 3 cz] 29)) arr wr.heap.size m top low t gx cx gy cy gz cz vs #[x1, y1, z1, x2, y2, z2] x2 y2 z2 := by
  have har := h.ar
  have hlt := lt_of_block har
  have hm := h.mm
  have hma := h.ma
  obtain rfl | rfl : t = 0 ∨ t = 1 := by omega
  · obtain ⟨low, hlow, gx, cx, gy, cy, gz, cz, xs, A, vs, rfl, rfl, rfl, hs, hb⟩ := h.c1 rfl
    have g0 := gr_alloc (gr_refl wr none) (.cells #[.slice (some ⟨gx, 0, none⟩) 3 cx, .slice (some ⟨gy, 0, none⟩) 3 cy, .slice (some ⟨gz, 0, none⟩) 3 cz] 29)
    refine ⟨m, low, gx, cx, gy, cy, gz, cz, vs, ⟨?_, ?_, ?_⟩, ⟨_, _, hs.keep0 g0⟩, fun _ => (h.c2 (by omega)).keep0 g0, (g0.block arr hlt (by simp)).trans har, heap_alloc_new wr _, gr_trans h.gr g0, hb, fun _ => Nat.le_refl _, hma, hlt, hlow⟩
    all_goals (simp only [World.cell?, har]; rfl)
  · obtain ⟨gx, cx, gy, cy, gz, cz, xs, A, vs, rfl, rfl, rfl, hs, hb⟩ := h.c2 (by omega)
    have g0 := gr_alloc (gr_refl wr none) (.cells #[.slice (some ⟨gx, 0, none⟩) 3 cx, .slice (some ⟨gy, 0, none⟩) 3 cy, .slice (some ⟨gz, 0, none⟩) 3 cz] 29)
    refine ⟨arr, m, gx, cx, gy, cy, gz, cz, vs, ⟨?_, ?_, ?_⟩, ⟨_, _, hs.keep0 g0⟩, fun e => by omega, (g0.block arr hlt (by simp)).trans har, heap_alloc_new wr _, gr_trans h.gr g0, hb, fun e => by omega, Nat.le_refl _, hlt, hm⟩
    all_goals (simp only [World.cell?, har]; rfl)
end Go.Proofs.YtakabckmiodjaaaDoor
