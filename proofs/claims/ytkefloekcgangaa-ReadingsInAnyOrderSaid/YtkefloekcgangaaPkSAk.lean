/- Equality of rows of ints, and of readings. -/
import Derived.Test.YtkefloekcgangaaPkSAi
import Derived.Test.YtkefloekcgangaaPkSAg
import Derived.Test.YtkefloekcgangaaPkSAj
namespace Go.Proofs.Ytkefloekcgangaa
open Go.RowKit

set_option maxRecDepth 100000 in
theorem equalD_int (xs ys : List Int) (a b : Option Addr) (c d : Nat) (w : World) (ha : CellsAt w a (ints xs)) (hb : CellsAt w b (ints ys)) (hl2 : ys.length ≤ 1000000) :
    Calls Try.prog 43 #[.slice a xs.length c, .slice b ys.length d] w fun e w' => e = .returned (.bool (decide (xs = ys))) ∧ w.grownBy w' none := by
  by_cases hlen : xs.length = ys.length
  · have hne : ((xs.length : Int) != (ys.length : Int)) = false := by simp [hlen]
    have HLEN := Lib.hid hlen
    have hle : xs.length ≤ ys.length := by omega
    clear hlen
    go_enter Try.func43, Try.ntmps43
    go_wp2_with (fail)
    go_loopw [13] (fun i wr => ∃ k : Nat, k ≤ xs.length ∧ i = .int .i64 k ∧ Hid (∀ j, j < k → xs[j]? = ys[j]?) ∧ w.grownBy wr none) (fun i _ => xs.length - (intOf i).toNat)
    case atStart => exact ⟨0, Nat.zero_le _, rfl, fun j hj => absurd hj (Nat.not_lt_zero _), gr_refl _ _⟩
    case round =>
      obtain ⟨k, hk, rfl, HPRE, hgr⟩ := hrel
      obtain ⟨wo, rfl⟩ : ∃ wo : World, wo = wr := ⟨_, rfl⟩
      by_cases hlt : k < xs.length
      · have hlt2 : k < ys.length := by omega
        obtain ⟨b1, o1, rfl, c1⟩ := (ha.keep0 hgr) k _ (ints_get xs k hlt)
        obtain ⟨b2, o2, rfl, c2⟩ := (hb.keep0 hgr) k _ (ints_get ys k hlt2)
        have HE : Hid (xs.getD k 0 = ys.getD k 0 → ∀ j, j < k + 1 → xs[j]? = ys[j]?) := by
          show _ → _
          intro h j hj
          by_cases e : j = k
          · subst e
            rw [getD_eq _ _ _ hlt, getD_eq _ _ _ hlt2] at h
            rw [List.getElem?_eq_getElem hlt, List.getElem?_eq_getElem hlt2, h]
          · exact HPRE.out j (by omega)
        have HN : Hid (xs.getD k 0 ≠ ys.getD k 0 → xs ≠ ys) := fun h e => h (by rw [e])
        obtain ⟨x, hx⟩ : ∃ x, x = xs.getD k 0 := ⟨_, rfl⟩
        obtain ⟨y, hy⟩ : ∃ y, y = ys.getD k 0 := ⟨_, rfl⟩
        rw [← hx] at c1 HE HN
        rw [← hy] at c2 HE HN
        clear hx hy
        by_cases hxy : x = y
        · subst hxy
          have HE2 := Lib.hid (HE.out rfl)
          clear HE HN
          go_wp2_with (fail)
          go_region
          all_goals (go_wp2_with (fail))
          all_goals go_roundw
          case rel => exact ⟨k + 1, by omega, by go_num, HE2, gr_drew hgr⟩
          case measure => simp [intOf]; omega
        · have hq : (x != y) = true := by simpa using hxy
          have HN2 := Lib.hid (HN.out hxy)
          clear HE HN hxy
          go_wp2_with (fail)
          go_region
          all_goals (go_wp2_with (fail))
          all_goals go_ret
          all_goals exact ⟨ret_bool (decide_eq_false HN2.out).symm, gr_drew hgr⟩
      · have hkl : k = xs.length := by omega
        have HEQ : Hid (xs = ys) := by
          show _ = _
          apply List.ext_getElem?
          intro j
          by_cases hj : j < k
          · exact HPRE.out j hj
          · have := HLEN.out
            rw [List.getElem?_eq_none (by omega), List.getElem?_eq_none (by omega)]
        clear hkl
        go_wp2_with (fail)
        go_ret
        exact ⟨ret_bool (decide_eq_true HEQ.out).symm, hgr⟩
  · have hne : ((xs.length : Int) != (ys.length : Int)) = true := by simp; omega
    have HN : Hid (xs ≠ ys) := fun e => hlen (by rw [e])
    clear hlen
    go_enter Try.func43, Try.ntmps43
    go_wp2_with (fail)
    go_ret
    exact ⟨ret_bool (decide_eq_false HN.out).symm, gr_refl _ _⟩

/-! Readings in memory. -/
/-- The row and all its values are there. -/
structure RdsC (w : World) (a : Option Addr) (L : List RdG) : Prop where
  row : CellsAt w a (cellsG L)
  vals : ∀ g ∈ L, CellsAt w g.a (ints g.rd.vs)
  nil : ∀ g ∈ L, g.a = none → g.rd.vs.length = 0 ∧ g.c = 0
theorem RdsC.keep0 {w w1 : World} {a : Option Addr} {L : List RdG} (h : RdsC w a L) (g : w.grownBy w1 none) : RdsC w1 a L := ⟨h.row.keep0 g, fun x hx => (h.vals x hx).keep0 g, h.nil⟩
theorem RdsC.at {w : World} {a : Option Addr} {L : List RdG} (h : RdsC w a L) {k : Nat} (hk : k < L.length) : ∃ b off, a = some ⟨b, off, none⟩ ∧ w.cell? ⟨b, off + k * 2, none⟩ = some (.int .i64 L[k].rd.at_) ∧ w.cell? ⟨b, off + k * 2 + 1, none⟩ = some (.slice L[k].a L[k].rd.vs.length L[k].c) ∧ CellsAt w L[k].a (ints L[k].rd.vs) := by
  have hk2 : k < (L.map RdG.cell).length := by simpa using hk
  obtain ⟨b, off, e, hc⟩ := flat_cells (enc := encC) (m := 2) (fun _ => rfl) (by decide) (l := L.map RdG.cell) h.row (by omega)
  have e2 : (L.map RdG.cell)[k] = L[k].cell := by simp
  exact ⟨b, off, e, hc k hk2 0 _ (by rw [e2]; rfl), hc k hk2 1 _ (by rw [e2]; rfl), h.vals _ (List.getElem_mem hk)⟩
set_option maxRecDepth 100000 in
theorem sameR1_any (t : Int) (vs : List Int) (a b : Option Addr) (c d : Nat) (w : World) (ha : CellsAt w a (ints vs)) (hb : CellsAt w b (ints vs)) (hl : vs.length ≤ 1000000) :
    Calls Try.prog 58 #[.agg #[.int .i64 t, .slice a vs.length c], .agg #[.int .i64 t, .slice b vs.length d]] w fun e w' => e = .returned (.bool true) ∧ w.grownBy w' none := by
  obtain ⟨hP, hQ⟩ := heap_2 w (.cells #[.int .i64 t, .slice a vs.length c] 52) (.cells #[.int .i64 t, .slice b vs.length d] 52)
  have g2 := gr_alloc (gr_alloc (gr_refl w none) (.cells #[.int .i64 t, .slice a vs.length c] 52)) (.cells #[.int .i64 t, .slice b vs.length d] 52)
  obtain ⟨w2, hw2⟩ : ∃ w2, w2 = (w.alloc (.cells #[.int .i64 t, .slice a vs.length c] 52)).alloc (.cells #[.int .i64 t, .slice b vs.length d] 52) := ⟨_, rfl⟩
  rw [← hw2] at hP hQ g2
  have p0 : w2.cell? ⟨w.heap.size, 0, none⟩ = some (.int .i64 t) := blkC hP 0 rfl
  have p1 : w2.cell? ⟨w.heap.size, 1, none⟩ = some (.slice a vs.length c) := blkC hP 1 rfl
  have q0 : w2.cell? ⟨w.heap.size + 1, 0, none⟩ = some (.int .i64 t) := blkC hQ 0 rfl
  have q1 : w2.cell? ⟨w.heap.size + 1, 1, none⟩ = some (.slice b vs.length d) := blkC hQ 1 rfl
  have EQ := Lib.hid (fun (W : World) (g : w2.grownBy W none) => equal_int vs a b c d W (ha.keep0 (gr_trans g2 g)) (hb.keep0 (gr_trans g2 g)) hl)
  have HG := Lib.hid g2
  have HW := Lib.hid hw2
  clear hP hQ g2 hw2 ha hb
  go_enter Try.func58, Try.ntmps58
  go_wp2_with (fail)
  rw [← HW.out]
  refine (EQ.out w2 (gr_refl _ _)).mono ?_
  rintro e w3 ⟨rfl, g3⟩
  have HG3 := Lib.hid (gr_trans HG.out g3)
  go_wp2_with (fail)
  go_ret
  exact ⟨rfl, HG3.out⟩
theorem sameR1_fn : ∀ (args : Array Value) (w : World), (callFunc 58 args).run Try.prog w = .ok (.enter 58 args) w := fun _ _ => by kernel_rfl
set_option maxRecDepth 100000 in
theorem sameReadings_any (L M : List RdG) (he : rdsG L = rdsG M) (a b : Option Addr) (c d : Nat) (w : World) (ha : RdsC w a L) (hb : RdsC w b M) (hl : L.length ≤ 1000000) (hv : ∀ g ∈ L, g.rd.vs.length ≤ 1000000) :
    Calls Try.prog 21 #[.slice a L.length c, .slice b M.length d] w fun e w' => e = .returned (.bool true) ∧ w.grownBy w' none := by
  have hlen : M.length = L.length := by have := congrArg List.length he; simpa [rdsG] using this.symm
  have hat : ∀ k (h : k < L.length) (h2 : k < M.length), M[k].rd = L[k].rd := by
    intro k h h2
    have e := congrArg (fun l => l[k]?) he
    simp only [rdsG, List.getElem?_map, List.getElem?_eq_getElem h, List.getElem?_eq_getElem h2, Option.map_some, Option.some.injEq] at e
    exact e.symm
  have HAT := Lib.hid hat
  have HV := Lib.hid hv
  have HLN := Lib.hid hlen
  have hle : L.length ≤ M.length := by omega
  rw [hlen]
  have EQ : Hid (Calls Try.prog 57 #[.slice a L.length c, .slice b L.length d, .func (.func 58) #[] #[]] w fun e w' => e = .returned (.bool true) ∧ w.grownBy w' none) := by
    show Calls _ _ _ _ _
    have hE := sameR1_fn
    clear hat hv hlen he
    go_enter Try.func57, Try.ntmps57
    go_wp2_with (fail)
    go_loopw [17] (fun i wr => ∃ k : Nat, k ≤ L.length ∧ i = .int .i64 k ∧ w.grownBy wr none) (fun i _ => L.length - (intOf i).toNat)
    case atStart => exact ⟨0, Nat.zero_le _, rfl, gr_refl _ _⟩
    case round =>
      obtain ⟨k, hk, rfl, hgr⟩ := hrel
      obtain ⟨wo, rfl⟩ : ∃ wo : World, wo = wr := ⟨_, rfl⟩
      by_cases hlt : k < L.length
      · have hlt2 : k < M.length := by omega
        obtain ⟨b1, o1, rfl, c0, c1, cv⟩ := (ha.keep0 hgr).at hlt
        obtain ⟨b2, o2, rfl, d0, d1, dv⟩ := (hb.keep0 hgr).at hlt2
        rw [HAT.out k hlt hlt2] at d0 d1 dv
        have hvl := HV.out _ (List.getElem_mem hlt)
        obtain ⟨x, hx⟩ : ∃ x, x = L[k] := ⟨_, rfl⟩
        obtain ⟨y, hy⟩ : ∃ y, y = M[k] := ⟨_, rfl⟩
        rw [← hx] at c0 c1 cv d0 d1 dv hvl
        rw [← hy] at d1 dv
        clear hx hy
        obtain ⟨⟨t, vs⟩, xa, xc⟩ := x
        obtain ⟨yr, ya, yc⟩ := y
        simp only at c0 c1 cv d0 d1 dv hvl
        have HC := Lib.hid (fun (W : World) (g : wo.grownBy W none) => sameR1_any t vs xa ya xc yc W (cv.keep0 g) (dv.keep0 g) hvl)
        have ga := gr_alloc (gr_alloc (gr_refl wo none) (.cells #[.int .i64 t, .slice xa vs.length xc] 52)) (.cells #[.int .i64 t, .slice ya vs.length yc] 52)
        have e0 := held_cell (gr_refl (wo.alloc (.cells #[.int .i64 t, .slice xa vs.length xc] 52)) none) d0
        have e1 := held_cell (gr_refl (wo.alloc (.cells #[.int .i64 t, .slice xa vs.length xc] 52)) none) d1
        have HGA := Lib.hid ga
        clear cv dv ga
        go_wp2_with (fail)
        refine (HC.out _ HGA.out).mono ?_
        rintro e w1 ⟨rfl, hg1⟩
        have hgr1 := gr_trans hgr (gr_trans HGA.out hg1)
        go_wp2_with (fail)
        go_roundw
        case rel => exact ⟨k + 1, by omega, by go_num, hgr1⟩
        case measure => simp [intOf]; omega
      · go_wp2_with (fail)
        go_ret
        exact ⟨rfl, hgr⟩
  clear hat hv hlen he
  go_enter Try.func21, Try.ntmps21
  go_wp2_with (fail)
  refine EQ.out.mono ?_
  rintro e w1 ⟨rfl, hg1⟩
  go_wp2_with (fail)
  go_ret
  exact ⟨rfl, hg1⟩
end Go.Proofs.Ytkefloekcgangaa
