/- Rows of ints that are written: what stays of those that hold them. -/
import Derived.Test.YtjhfglhoiplfmaaPkSBb
namespace Go.Proofs.Ytjhfglhoiplfmaa
open Go.RowKit

/-- A slice of ints that is there, whatever it holds. -/
def IntRow (w : World) (base : Nat) (a : Option Addr) (n c : Nat) : Prop := ∃ M : List Int, M.length = n ∧ w.ownsRow base 3 1 (.slice a n c) n (ints M)
theorem IntRow.of {w : World} {base c : Nat} {a : Option Addr} {M : List Int} (h : w.ownsRow base 3 1 (.slice a M.length c) M.length (ints M)) : IntRow w base a M.length c := ⟨M, rfl, h⟩
theorem IntRow.keep0 {w w1 : World} {base n c : Nat} {a : Option Addr} (h : IntRow w base a n c) (g : w.grownBy w1 none) : IntRow w1 base a n c := by
  obtain ⟨M, h1, h2⟩ := h
  exact ⟨M, h1, own_keep0 h2 g⟩
theorem IntRow.set {w : World} {base n c b : Nat} {a : Option Addr} (h : IntRow w base a n c) (k : Nat) (x : Int) : IntRow (w.setCell ⟨b, k, none⟩ (.int .i64 x)) base a n c := by
  obtain ⟨M, h1, h2⟩ := h
  have gs : w.grownBy _ (some b) := gr_set (q := ⟨b, k, none⟩) (gr_refl w (some b)) rfl (.int .i64 x)
  by_cases e : (Value.slice a n c).ownBlock = some b
  · rcases h2.2 with ⟨h3, h4⟩ | ⟨g, cap, cur, hv, r⟩
    · rw [h3] at e; cases e
    · rw [hv] at e h2
      cases e
      have h5 := (h2.stored k (.int .i64 x)).1
      refine ⟨M.set k x, by simp [h1], ?_⟩
      rw [hv]
      have e2 : ints (M.set k x) = (ints M).set k (.int .i64 x) := by simp [ints, List.map_set]
      rw [e2]
      simpa using h5
  · exact ⟨M, h1, own_keep h2 gs (.inr e)⟩
/-- What an index into it wants. -/
theorem IntRow.at {w : World} {base n c : Nat} {a : Option Addr} (h : IntRow w base a n c) {k : Nat} (hk : k < n) : ∃ g, a = some ⟨g, 0, none⟩ ∧ base ≤ g ∧ g < w.heap.size ∧ (∃ u : Int, w.cell? ⟨g, k, none⟩ = some (.int .i64 u)) ∧ w.frozen? ⟨g, k, none⟩ = false ∧ ∃ cur, w.heap[g]? = some (.cells cur 3 (0, 0)) := by
  obtain ⟨M, h1, h2⟩ := h
  rcases h2.2 with ⟨h3, h4⟩ | ⟨g, cap, cur, hv, hb, hg, r⟩
  · omega
  · cases hv
    have c := h2.cellAt k (by omega)
    rw [ints_get M k (by omega)] at c
    exact ⟨g, rfl, hb, lt_of_block hg, ⟨_, c⟩, h2.frozenAt k, cur, hg⟩
structure ShR (w : World) (base : Nat) (v : Value) (L : List RdG) : Prop where
  row : w.ownsRow base 56 2 v L.length (cellsG L)
  vals : ∀ g ∈ L, IntRow w base g.a g.rd.vs.length g.c
theorem Rds.sh {w : World} {base : Nat} {v : Value} {L : List RdG} (h : Rds w base v L) : ShR w base v L := ⟨h.row, fun g hg => .of (h.vals g hg)⟩
theorem ShR.keep0 {w w1 : World} {base : Nat} {v : Value} {L : List RdG} (h : ShR w base v L) (g : w.grownBy w1 none) : ShR w1 base v L := ⟨own_keep0 h.row g, fun x hx => (h.vals x hx).keep0 g⟩
theorem ShR.set {w : World} {base b : Nat} {v : Value} {L : List RdG} {cur : Array Value} (h : ShR w base v L) (hb : w.heap[b]? = some (.cells cur 3 (0, 0))) (k : Nat) (x : Int) : ShR (w.setCell ⟨b, k, none⟩ (.int .i64 x)) base v L :=
  ⟨own_keep h.row (gr_set (q := ⟨b, k, none⟩) (gr_refl w (some b)) rfl (.int .i64 x)) (.inr (own_ne h.row hb (by decide))), fun g hg => (h.vals g hg).set k x⟩
theorem ShR.base {w : World} {base base' : Nat} {v : Value} {L : List RdG} (h : ShR w base v L) (hb : base' ≤ base) : ShR w base' v L := ⟨own_base h.row hb, fun g hg => by
  obtain ⟨M, h1, h2⟩ := h.vals g hg
  exact ⟨M, h1, own_base h2 hb⟩⟩
theorem ShR.at {w : World} {base c : Nat} {a : Option Addr} {L : List RdG} (h : ShR w base (.slice a L.length c) L) {k : Nat} (hk : k < L.length) : ∃ b off, a = some ⟨b, off, none⟩ ∧ w.cell? ⟨b, off + k * 2, none⟩ = some (.int .i64 L[k].rd.at_) ∧ w.cell? ⟨b, off + k * 2 + 1, none⟩ = some (.slice L[k].a L[k].rd.vs.length L[k].c) := by
  obtain ⟨_, _, e, -, -, hc, -⟩ := own_shape h.row
  cases e
  have hk2 : k < (L.map RdG.cell).length := by simpa using hk
  obtain ⟨b, off, e, hcs⟩ := flat_cells (enc := encC) (m := 2) (fun _ => rfl) (by decide) (l := L.map RdG.cell) hc (by omega)
  have e2 : (L.map RdG.cell)[k] = L[k].cell := by simp
  exact ⟨b, off, e, hcs k hk2 0 _ (by rw [e2]; rfl), hcs k hk2 1 _ (by rw [e2]; rfl)⟩
structure ShS (w : World) (base : Nat) (v : Value) (L : List StG) : Prop where
  row : w.ownsRow base 70 4 v L.length (flat encS L)
  vals : ∀ g ∈ L, IntRow w base g.a g.st.sold.length g.c
theorem Sts.sh {w : World} {base : Nat} {v : Value} {L : List StG} (h : Sts w base v L) : ShS w base v L := ⟨h.row, fun g hg => .of (h.vals g hg)⟩
theorem ShS.keep0 {w w1 : World} {base : Nat} {v : Value} {L : List StG} (h : ShS w base v L) (g : w.grownBy w1 none) : ShS w1 base v L := ⟨own_keep0 h.row g, fun x hx => (h.vals x hx).keep0 g⟩
theorem ShS.set {w : World} {base b : Nat} {v : Value} {L : List StG} {cur : Array Value} (h : ShS w base v L) (hb : w.heap[b]? = some (.cells cur 3 (0, 0))) (k : Nat) (x : Int) : ShS (w.setCell ⟨b, k, none⟩ (.int .i64 x)) base v L :=
  ⟨own_keep h.row (gr_set (q := ⟨b, k, none⟩) (gr_refl w (some b)) rfl (.int .i64 x)) (.inr (own_ne h.row hb (by decide))), fun g hg => (h.vals g hg).set k x⟩
theorem ShS.at {w : World} {base c : Nat} {a : Option Addr} {L : List StG} (h : ShS w base (.slice a L.length c) L) {k : Nat} (hk : k < L.length) : ∃ b off, a = some ⟨b, off, none⟩ ∧ w.cell? ⟨b, off + k * 4, none⟩ = some (.int .i64 L[k].st.fr) ∧ w.cell? ⟨b, off + k * 4 + 1, none⟩ = some (.int .i64 L[k].st.til) ∧ w.cell? ⟨b, off + k * 4 + 2, none⟩ = some (.bool L[k].st.rs) ∧ w.cell? ⟨b, off + k * 4 + 3, none⟩ = some (.slice L[k].a L[k].st.sold.length L[k].c) := by
  obtain ⟨_, _, e, -, -, hc, -⟩ := own_shape h.row
  cases e
  obtain ⟨b, off, e, hcs⟩ := flat_cells (enc := encS) (m := 4) (fun _ => rfl) (by decide) (l := L) hc (by omega)
  exact ⟨b, off, e, hcs k hk 0 _ rfl, hcs k hk 1 _ rfl, hcs k hk 2 _ rfl, hcs k hk 3 _ rfl⟩
theorem Rds.keepHi {w w1 : World} {base N : Nat} {v : Value} {L : List RdG} {T : Nat → Prop} (h : Rds w base v L) (g : GrowT T w w1) (hT : ∀ k, T k → k < N) (hN : N ≤ base) : Rds w1 base v L :=
  ⟨own_keepT h.row g (fun q hq ht => by have := (h.row.lt q hq).1; have := hT q ht; omega), fun x hx => own_keepT (h.vals x hx) g (fun q hq ht => by have := ((h.vals x hx).lt q hq).1; have := hT q ht; omega)⟩
end Go.Proofs.Ytjhfglhoiplfmaa

/-! What each counter sold. -/
namespace Go.Proofs.Ytjhfglhoiplfmaa
open Go.RowKit
attribute [local go_sem ↓] Go.wp_at_zero Go.wp_at_succ

def soldAt (S : List Stp) (k : Nat) : Int := (S.map fun s => s.sold.getD k 0).sum
theorem soldAt_next (S : List Stp) (s : Stp) (k : Nat) : soldAt (S ++ [s]) k = soldAt S k + s.sold.getD k 0 := by simp [soldAt]
theorem dM_in {t a b : Int} (ha : 0 ≤ a ∧ a < t) (hb : 0 ≤ b ∧ b < t) : 0 ≤ dM t a b ∧ dM t a b < t := by unfold dM; split <;> omega
theorem dsTo_in {t : Int} {x y : List Int} (hx : ∀ n ∈ x, 0 ≤ n ∧ n < t) (hy : ∀ n ∈ y, 0 ≤ n ∧ n < t) {k : Nat} (h1 : k ≤ x.length) (h2 : k ≤ y.length) : ∀ d ∈ dsTo t x y k, 0 ≤ d ∧ d < t := by
  intro d hd
  simp only [dsTo, List.mem_map, List.mem_range] at hd
  obtain ⟨i, hi, rfl⟩ := hd
  rw [getD_eq _ _ _ (by omega), getD_eq _ _ _ (by omega)]
  exact dM_in (hx _ (List.getElem_mem _)) (hy _ (List.getElem_mem _))
theorem stepM_sold {m : Mtr} {x y : Rd} (hx : RdOk m x) (hy : RdOk m y) : ((stepM m x y).sold.length : Int) = m.cnt ∧ ∀ d ∈ (stepM m x y).sold, 0 ≤ d ∧ d < m.turn := by
  have h1 := hx.len
  have h2 := hy.len
  unfold stepM
  split
  · exact ⟨by simp only; rw [dsTo_len]; exact h2, dsTo_in hx.all hy.all (by omega) (Nat.le_refl _)⟩
  · exact ⟨h2, hy.all⟩
theorem stepsM_sold {m : Mtr} {Y : List Rd} (h : ∀ r ∈ Y, RdOk m r) : ∀ s ∈ stepsM m Y, ((s.sold.length : Nat) : Int) = m.cnt ∧ ∀ d ∈ s.sold, 0 ≤ d ∧ d < m.turn := by
  intro s hs
  simp only [stepsM, stepsTo, List.mem_map, List.mem_range] at hs
  obtain ⟨i, hi, rfl⟩ := hs
  rw [getD_eq _ _ _ (by omega), getD_eq _ _ _ (by omega)]
  exact stepM_sold (h _ (List.getElem_mem _)) (h _ (List.getElem_mem _))
theorem stepsM_len (m : Mtr) (Y : List Rd) : (stepsM m Y).length = Y.length - 1 := by simp [stepsM, stepsTo]
theorem asc_len {Y : List Rd} (h : Y.Pairwise (fun a b => a.at_ < b.at_)) : ∀ X : List Rd, (∀ r ∈ Y, r ∈ X) → Y.length ≤ X.length := by
  induction Y with
  | nil => intro X _; exact Nat.zero_le _
  | cons y ys ih =>
    intro X hX
    rw [List.pairwise_cons] at h
    obtain ⟨s, t, rfl⟩ := List.append_of_mem (hX y (by simp))
    have := ih h.2 (s ++ t) (fun r hr => by
      have h1 := hX r (by simp [hr])
      have h2 := h.1 r hr
      simp only [List.mem_append, List.mem_cons] at h1 ⊢
      rcases h1 with h1 | h1 | h1
      · exact .inl h1
      · subst h1; omega
      · exact .inr h1)
    simp only [List.length_append, List.length_cons] at this ⊢
    omega
def SoldPost (m : Mtr) (C : Nat) (X : List Rd) (w : World) (e : Ending) (w' : World) : Prop := ∃ v P Y, e = .returned (.tuple #[v, .int .i64 0]) ∧ w'.ownsRow w.heap.size 3 1 v C (ints P) ∧ Asc Y X ∧ (∀ c, c < C → P.getD c 0 = soldAt (stepsM m Y) c) ∧ w.grownBy w' none
set_option maxRecDepth 100000 in
set_option maxHeartbeats 8000000 in
theorem sold_ok (m : Mtr) (C : Nat) (hC : (C : Int) = m.cnt) (hok : MtrOk m) (L : List RdG) (a : Option Addr) (c : Nat) (w : World) (hc : RdsC w a L) (hn : a = none → L.length = 0 ∧ c = 0) (hl : L.length ≤ 12) (hall : ∀ x ∈ rdsG L, RdOk m x) (hnc : NoConf (rdsG L)) :
    Calls Try.prog 13 #[mtrV m, .slice a L.length c] w (SoldPost m C (rdsG L) w) := by
  have SO := Lib.hid (fun (W : World) (g : w.grownBy W none) => steps_ok m hok L a c W (hc.keep0 g) hn hl hall hnc)
  have HALL := Lib.hid hall
  have hC60 : C ≤ 60 := by have := hok.c2; omega
  have ht := hok.t2
  have HSS : Hid (∀ Y, Asc Y (rdsG L) → ∀ s ∈ stepsM m Y, ((s.sold.length : Nat) : Int) = m.cnt ∧ ∀ d ∈ s.sold, 0 ≤ d ∧ d < m.turn) := fun Y hY => stepsM_sold (fun r hr => hall r ((hY.mem r).1 hr))
  have HYL : Hid (∀ Y, Asc Y (rdsG L) → Y.length ≤ 12) := by
    show ∀ Y, _
    intro Y hY
    have := asc_len hY.asc (rdsG L) (fun r hr => (hY.mem r).1 hr)
    rw [rdsG_len] at this
    omega
  obtain ⟨mm, hmm⟩ : ∃ mm, mm = m := ⟨_, rfl⟩
  rw [← hmm] at SO HSS hC ht ⊢
  obtain ⟨mc, mt, mf⟩ := mm
  dsimp only at hC ht
  subst hC
  unfold mtrV at SO ⊢
  dsimp only at SO ⊢
  have hP := heap_alloc_new w (.cells #[.int .i64 (C : Int), .int .i64 mt, .int .i64 mf] 34)
  have g1 := gr_alloc (gr_refl w none) (.cells #[.int .i64 (C : Int), .int .i64 mt, .int .i64 mf] 34)
  obtain ⟨w1, hw1⟩ : ∃ w1, w1 = w.alloc (.cells #[.int .i64 (C : Int), .int .i64 mt, .int .i64 mf] 34) := ⟨_, rfl⟩
  rw [← hw1] at hP g1
  have HW := Lib.hid hw1
  have HP := Lib.hid hP
  have HG := Lib.hid g1
  obtain ⟨q0, q1, q2, -⟩ := blk3M hP
  clear hw1 hP g1 hc hnc hn hall hok hmm
  go_enter Try.func13, Try.ntmps13
  go_wp2_with (fail)
  rw [← HW.out]
  go_wp2_with (fail)
  refine (SO.out w1 HG.out).mono ?_
  rintro e w2 ⟨tv, S, Y, rfl, hst, hasc, heq, g2⟩
  obtain ⟨ta, tc, rfl, -, -⟩ := hst.shape
  have HST := Lib.hid hst
  have HASC := Lib.hid hasc
  have HEQ := Lib.hid heq
  have hS : S.length ≤ 12 := by
    have h1 := congrArg List.length heq
    rw [stG_len, stepsM_len] at h1
    have := HYL.out Y hasc
    omega
  have HSIN : Hid (∀ g ∈ S, ((g.st.sold.length : Nat) : Int) = (C : Int) ∧ ∀ d ∈ g.st.sold, 0 ≤ d ∧ d < mt) := fun g hg => HSS.out Y hasc g.st (by rw [← heq]; exact List.mem_map_of_mem hg)
  have hP2 := (g2.block _ (lt_of_block HP.out) (by simp)).trans HP.out
  obtain ⟨q0, q1, q2, -⟩ := blk3M hP2
  have HG2 := Lib.hid (gr_trans HG.out g2)
  have hz2 := HG2.out.size
  clear hst hasc heq g2 hP2 HP HG SO HSS HYL
  go_wp2_with (refine wpList_mk w2 eInt rfl _ _ rfl w2.heap.size (C : Int) C rfl rfl rfl (by omega) (Nat.le_refl _) ?_)
  intro w3 ho3 g3
  obtain ⟨ob, hob⟩ : ∃ ob, ob = w2.heap.size := ⟨_, rfl⟩
  have hobl : w2.heap.size ≤ ob := by omega
  rw [show (Value.slice (some ⟨w2.heap.size, 0, none⟩) C C) = .slice (some ⟨ob, 0, none⟩) C C by rw [hob]] at ho3
  rw [← hob]
  have HO3 := Lib.hid ho3
  have HG3 := Lib.hid g3
  clear ho3 g3 hob q0 q1 q2
  go_wp2_with (fail)
  go_loopw [27] (fun i wr => ∃ (k : Nat) (P : List Int), k ≤ S.length ∧ i = .int .i64 k ∧ wr.ownsRow w2.heap.size 3 1 (.slice (some ⟨ob, 0, none⟩) C C) C (ints P) ∧ Hid (∀ c, c < C → P.getD c 0 = soldAt (stG (S.take k)) c ∧ 0 ≤ P.getD c 0 ∧ P.getD c 0 ≤ 1000000 * k) ∧ w2.grownBy wr none) (fun i _ => S.length - (intOf i).toNat)
  case atStart =>
    refine ⟨0, _, Nat.zero_le _, rfl, HO3.out, ?_, HG3.out⟩
    show ∀ c, _
    intro c hc
    have e : (List.replicate C (0 : Int)).getD c 0 = 0 := by rw [List.getD_eq_getElem?_getD, List.getElem?_replicate, if_pos hc]; rfl
    rw [e]
    exact ⟨rfl, by omega, by omega⟩
  case round =>
    obtain ⟨k, P, hk, rfl, hown, HPV, hgr⟩ := hrel
    obtain ⟨wo, rfl⟩ : ∃ wo : World, wo = wr := ⟨_, rfl⟩
    have HOW := Lib.hid hown
    have HGR := Lib.hid hgr
    clear hown
    by_cases hlt : k < S.length
    · obtain ⟨b, off, rfl, c0, c1, c2, c3⟩ := ((HST.out.sh).keep0 hgr).at hlt
      obtain ⟨hsl, hsd⟩ := HSIN.out _ (List.getElem_mem hlt)
      obtain ⟨_, _, ev, -, -, hcv, -⟩ := own_shape ((HST.out.keep0 hgr).vals _ (List.getElem_mem hlt))
      cases ev
      have HTK : Hid (∀ c, soldAt (stG (S.take (k + 1))) c = soldAt (stG (S.take k)) c + S[k].st.sold.getD c 0) := by
        show ∀ c, _
        intro c
        have e : S.take (k + 1) = S.take k ++ [S[k]] := by simp
        rw [e, stG_app, soldAt_next]
      obtain ⟨x, hx⟩ : ∃ x, x = S[k] := ⟨_, rfl⟩
      rw [← hx] at c0 c1 c2 c3 hsl hsd hcv HTK
      obtain ⟨xr, pa, pc⟩ := x
      simp only at c0 c1 c2 c3 hsl hsd hcv HTK
      have hslA : xr.sold.length ≤ C := by omega
      have hslB : C ≤ xr.sold.length := by omega
      have HSD := Lib.hid hsd
      have ga := gr_alloc (gr_refl wo none) (.cells #[.int .i64 xr.fr, .int .i64 xr.til, .bool xr.rs, .slice pa xr.sold.length pc] 70)
      have hV := heap_alloc_new wo (.cells #[.int .i64 xr.fr, .int .i64 xr.til, .bool xr.rs, .slice pa xr.sold.length pc] 70)
      have v3 : (wo.alloc (.cells #[.int .i64 xr.fr, .int .i64 xr.til, .bool xr.rs, .slice pa xr.sold.length pc] 70)).cell? ⟨wo.heap.size, 3, none⟩ = some (.slice pa xr.sold.length pc) := blkC hV 3 rfl
      have HOA := Lib.hid (own_keep0 HOW.out ga)
      have HGA := Lib.hid (gr_trans HGR.out ga)
      have HCV : Hid (CellsAt w2 pa (ints xr.sold)) := by
        show CellsAt _ _ _
        have h := HST.out.vals _ (List.getElem_mem hlt)
        rw [← hx] at h
        obtain ⟨_, _, ev, -, -, hcv, -⟩ := own_shape h
        cases ev
        exact hcv
      clear hx ga hV hcv hsl hsd hgr
      go_upto_region 8 with (fail)
      go_wp2_with (fail)
      go_loopw [34] (fun u wr => ∃ (t : Nat) (Q : List Int), t ≤ xr.sold.length ∧ u = .int .i64 t ∧ wr.ownsRow w2.heap.size 3 1 (.slice (some ⟨ob, 0, none⟩) C C) C (ints Q) ∧ Hid (∀ c, c < C → Q.getD c 0 = P.getD c 0 + if c < t then xr.sold.getD c 0 else 0) ∧ w2.grownBy wr none) (fun u _ => xr.sold.length - (intOf u).toNat)
      case atStart => exact ⟨0, P, Nat.zero_le _, rfl, HOA.out, fun c hc => by simp, HGA.out⟩
      case round =>
        obtain ⟨t, Q, ht', rfl, hownQ, HQV, hgq⟩ := hrel
        obtain ⟨wi, rfl⟩ : ∃ wi : World, wi = wr := ⟨_, rfl⟩
        have HOQ := Lib.hid hownQ
        have HGQ := Lib.hid hgq
        by_cases htl : t < xr.sold.length
        · have htC : t < C := by omega
          have hQl : Q.length = C := by have := hownQ.1; simpa [ints] using this
          obtain ⟨db, doff, rfl, dc⟩ := (HCV.out.keep0 hgq) t _ (ints_get xr.sold t htl)
          have e0 := hownQ.cellAt t (by omega)
          rw [ints_get Q t (by omega)] at e0
          have z0 := hownQ.frozenAt t
          have hPb := HPV.out t htC
          have hQb := HQV.out t htC
          rw [if_neg (Nat.lt_irrefl t)] at hQb
          have hdb := HSD.out _ (List.getElem_mem htl)
          rw [← getD_eq _ _ 0 htl] at hdb
          have HST2 : Hid (∀ y, (wi.setCell ⟨ob, t, none⟩ (.int .i64 y)).ownsRow w2.heap.size 3 1 (.slice (some ⟨ob, 0, none⟩) C C) C (ints (Q.set t y))) := by
            show ∀ y, _
            intro y
            rw [← ints_set]
            exact (hownQ.stored t _).1
          obtain ⟨qv, hqv⟩ : ∃ qv, qv = Q.getD t 0 := ⟨_, rfl⟩
          obtain ⟨d, hd⟩ : ∃ d, d = xr.sold.getD t 0 := ⟨_, rfl⟩
          have HNX : Hid (∀ c, c < C → (Q.set t (qv + d)).getD c 0 = P.getD c 0 + if c < t + 1 then xr.sold.getD c 0 else 0) := by
            show ∀ c, _
            intro c hc
            by_cases e : c = t
            · subst e
              rw [if_pos (by omega), List.getD_eq_getElem?_getD, List.getElem?_set_self (by omega), Option.getD_some, hqv, hd, hQb]
              omega
            · rw [List.getD_eq_getElem?_getD, List.getElem?_set_ne (fun e2 => e e2.symm), ← List.getD_eq_getElem?_getD, HQV.out c hc]
              by_cases h1 : c < t
              · rw [if_pos h1, if_pos (by omega)]
              · rw [if_neg h1, if_neg (by omega)]
          rw [← hqv] at e0 hQb
          rw [← hd] at dc hdb
          have hq0 : 0 ≤ qv := by omega
          have hq1 : qv ≤ 12000000 := by
            have h1 := hPb.2.2
            have h2 : (k : Int) ≤ 12 := by omega
            omega
          have hw1 : IntKind.i64.wrap (qv + d) = qv + d := IntWalk.i64_in _ (by omega)
          have hob2 : w2.heap.size ≤ ob := hobl
          clear hqv hd hQb hPb hownQ hgq hQl
          go_wp2_with (fail)
          go_roundw
          case rel => exact ⟨t + 1, Q.set t (qv + d), by omega, by go_num, HST2.out _, HNX.out, gr_new HGQ.out (q := ⟨ob, t, none⟩) hob2 _⟩
          case measure => simp [intOf]; omega
        · have htE : t = C := by omega
          have HNX : Hid (∀ c, c < C → Q.getD c 0 = soldAt (stG (S.take (k + 1))) c ∧ 0 ≤ Q.getD c 0 ∧ Q.getD c 0 ≤ 1000000 * ((k + 1 : Nat) : Int)) := by
            show ∀ c, _
            intro c hc
            have h1 := HQV.out c hc
            rw [if_pos (by omega)] at h1
            obtain ⟨p1, p2, p3⟩ := HPV.out c hc
            have h2 := HSD.out _ (List.getElem_mem (show c < xr.sold.length by omega))
            rw [← getD_eq _ _ 0 (by omega)] at h2
            rw [HTK.out c, ← p1]
            refine ⟨h1, by omega, ?_⟩
            have e : 1000000 * ((k + 1 : Nat) : Int) = 1000000 * (k : Int) + 1000000 := by omega
            rw [e]; omega
          clear hownQ hgq htE
          go_wp2_with (fail)
          go_roundw
          case rel => exact ⟨k + 1, Q, by omega, by go_num, HOQ.out, HNX.out, HGQ.out⟩
          case measure => simp [intOf]; omega
    · obtain rfl : k = S.length := by omega
      have HFIN : Hid (∀ c, c < C → P.getD c 0 = soldAt (stepsM ⟨(C : Int), mt, mf⟩ Y) c) := by
        show ∀ c, _
        intro c hc
        have h := (HPV.out c hc).1
        rw [List.take_length, HEQ.out] at h
        exact h
      clear hgr
      go_wp2_with (fail)
      go_ret2
      exact ⟨_, P, Y, rfl, own_base HOW.out hz2, HASC.out, HFIN.out, gr_trans HG2.out HGR.out⟩
end Go.Proofs.Ytjhfglhoiplfmaa
