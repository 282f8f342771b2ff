/- slices.DeleteFunc at elements coilrack/api.Named, with a function value that has one capture, of a row that is the call's own. -/
import Derived.Test.YthikknnadmebgaaGreatDoorPkSAv
import Derived.Test.YthikknnadmebgaaGreatDoorPkSAp
import Derived.Test.YthikknnadmebgaaGreatDoorPkSAa
import Derived.Test.YthikknnadmebgaaGreatDoorPkSBj
namespace Go.Proofs.YthikknnadmebgaaGreatDoor
open Go.RowKit
attribute [local go_sem ↓] Go.wp_at_zero Go.wp_at_succ

theorem flat_takeD {α : Type} {enc : α → List Value} {m : Nat} (hm : ∀ a, (enc a).length = m) (l : List α) (j : Nat) (hj : j ≤ l.length) : (flat enc l).take (j * m) = flat enc (l.take j) := by
  have e : flat enc l = flat enc (l.take j) ++ flat enc (l.drop j) := by rw [← flat_append, List.take_append_drop]
  have hl : (flat enc (l.take j)).length = j * m := by rw [flat_length hm, List.length_take, Nat.min_eq_left hj]
  rw [e, ← hl, List.take_left]
theorem nm_cellsD {w : World} {a : Option Addr} {p : List Nm} (h : CellsAt w a (flat encNm p)) (k : Nat) (hk : k < p.length) : ∃ b off, a = some ⟨b, off, none⟩ ∧ w.cell? ⟨b, off + k * 2, none⟩ = some (.string p[k].key) ∧ w.cell? ⟨b, off + k * 2 + 1, none⟩ = some (.int .i64 p[k].many) := by
  obtain ⟨b, off, rfl, hcs⟩ := flat_cells (enc := encNm) (m := 2) (fun _ => rfl) (by decide) h (by omega)
  exact ⟨b, off, rfl, by have := hcs k hk 0 _ rfl; simpa using this, by have := hcs k hk 1 _ rfl; simpa using this⟩
/-- What stands while a row is thinned: j were looked at, z are kept at the front. -/
structure Thin (P : Nm → Bool) (xs Y : List Nm) (j z : Nat) : Prop where
  len : Y.length = xs.length
  jl : j ≤ xs.length
  zj : z < j
  front : Y.take z = (xs.take j).filter (fun x => !P x)
  back : Y.drop j = xs.drop j
theorem Thin.zlen {P : Nm → Bool} {xs Y : List Nm} {j z : Nat} (h : Thin P xs Y j z) : z = ((xs.take j).filter (fun x => !P x)).length := by
  rw [← h.front, List.length_take]
  have := h.zj; have := h.jl; have := h.len
  omega
theorem Thin.at {P : Nm → Bool} {xs Y : List Nm} {j z : Nat} (h : Thin P xs Y j z) (hj : j < xs.length) : Y[j]'(by rw [h.len]; exact hj) = xs[j] := by
  have e := congrArg (fun l : List Nm => l[0]?) h.back
  simp only [List.getElem?_drop, Nat.add_zero] at e
  rw [List.getElem?_eq_getElem (by rw [h.len]; exact hj), List.getElem?_eq_getElem hj] at e
  exact Option.some.inj e
theorem Thin.drop {P : Nm → Bool} {xs Y : List Nm} {j z : Nat} (h : Thin P xs Y j z) (hj : j < xs.length) (hp : P xs[j] = true) : Thin P xs Y (j + 1) z := by
  refine ⟨h.len, hj, by have := h.zj; omega, ?_, ?_⟩
  · rw [h.front, List.take_succ_eq_append_getElem hj, List.filter_append]
    simp [hp]
  · have e := congrArg (fun l : List Nm => l.drop 1) h.back
    simpa using e
theorem Thin.keep {P : Nm → Bool} {xs Y : List Nm} {j z : Nat} (h : Thin P xs Y j z) (hj : j < xs.length) (hp : P xs[j] = false) : Thin P xs (Y.set z xs[j]) (j + 1) (z + 1) := by
  have hz := h.zj
  have hl := h.len
  refine ⟨by rw [List.length_set]; exact hl, hj, by omega, ?_, ?_⟩
  · rw [List.take_succ_eq_append_getElem (by rw [List.length_set]; omega), List.getElem_set_self, List.take_set_of_le (Nat.le_refl _), h.front, List.take_succ_eq_append_getElem hj, List.filter_append]
    simp [hp]
  · rw [List.drop_set_of_lt (by omega)]
    have e := congrArg (fun l : List Nm => l.drop 1) h.back
    simpa using e
theorem Thin.start {P : Nm → Bool} {xs : List Nm} {i : Nat} (hi : i < xs.length) (hp : P xs[i] = true) (hno : ∀ j (hj : j < i), P (xs[j]'(by omega)) = false) : Thin P xs xs (i + 1) i := by
  refine ⟨rfl, hi, by omega, ?_, rfl⟩
  rw [List.take_succ_eq_append_getElem hi, List.filter_append]
  have e : (xs.take i).filter (fun x => !P x) = xs.take i := by
    rw [List.filter_eq_self]
    intro x hx
    obtain ⟨j, hj, e⟩ := List.mem_iff_getElem.1 hx
    rw [List.length_take] at hj
    rw [List.getElem_take] at e
    have := hno j (by omega)
    rw [e] at this
    rw [this]; rfl
  rw [e]
  simp [hp]
theorem findA_cases {α : Type} (P : α → Bool) (xs : List α) : (findA P xs = -1 ∧ ∀ x ∈ xs, P x = false) ∨ ∃ (i : Nat) (hi : i < xs.length), findA P xs = (i : Int) ∧ P xs[i] = true ∧ ∀ j (hj : j < i), P (xs[j]'(by omega)) = false := by
  rcases Nat.lt_or_ge (xs.findIdx P) xs.length with h | h
  · refine .inr ⟨xs.findIdx P, h, ?_, List.findIdx_getElem, fun j hj => ?_⟩
    · unfold findA
      rw [if_pos h]
    · have := List.not_of_lt_findIdx hj
      simpa using this
  · refine .inl ⟨?_, fun x hx => ?_⟩
    · unfold findA
      rw [if_neg (by omega)]
    · have h2 : xs.findIdx P = xs.length := Nat.le_antisymm List.findIdx_le_length h
      rw [List.findIdx_eq_length] at h2
      simpa using h2 x hx
set_option maxRecDepth 100000 in
set_option maxHeartbeats 2000000 in
theorem deleteFunc_Nm (F : FuncId) (q0 : Nat) (P : Nm → Bool) (xs : List Nm) (v : Value) (base : Nat) (w : World) (hown : w.ownsRow base 42 2 v xs.length (flat encNm xs)) (hl : xs.length ≤ 1000)
    (hE : ∀ (args : Array Value) (w : World), (callFunc F args).run Tryz.prog w = .ok (.enter F args) w)
    (hF : ∀ x ∈ xs, ∀ w1, w.grownBy w1 v.ownBlock → Calls Tryz.prog F #[.agg #[.string x.key, .int .i64 x.many], .pointer (some ⟨q0, 0, none⟩)] w1 fun e w2 => e = .returned (.bool (P x)) ∧ w1.grownBy w2 none) :
    Calls Tryz.prog 12 #[v, .func (.func F) #[] #[.pointer (some ⟨q0, 0, none⟩)]] w fun e w' => ∃ v', e = .returned v' ∧ w'.ownsRow base 42 2 v' (xs.filter (fun x => !P x)).length (flat encNm (xs.filter (fun x => !P x))) ∧ w.grownBy w' v.ownBlock := by
  obtain ⟨va, vc, rfl, _, _, hcc, _⟩ := own_shape hown
  have IX := indexFunc_NmQ F q0 P xs va vc w hcc (by omega) hE (fun x hx w1 g1 => hF x hx w1 (gr_weak g1 _))
  have HOWN := Lib.hid hown
  have HF := Lib.hid hF
  clear hown hcc hF
  rcases findA_cases P xs with ⟨e0, hall⟩ | ⟨i, hi, e0, hp, hno⟩
  · have hfil : Hid (xs.filter (fun x => !P x) = xs) := by
      show _ = _
      rw [List.filter_eq_self]
      intro x hx
      rw [hall x hx]; rfl
    rw [e0] at IX
    replace IX := Lib.hid IX
    clear e0 hall
    go_enter Tryz.func12, Tryz.ntmps12
    go_wp2_with (fail)
    refine IX.out.mono ?_
    rintro e w1 ⟨rfl, g1⟩
    have G1 := Lib.hid g1
    clear g1 IX
    go_wp2_with (fail)
    go_ret
    exact ⟨_, rfl, by rw [hfil.out]; exact own_keep0 HOWN.out G1.out, gr_weak G1.out _⟩
  · rw [e0] at IX
    replace IX := Lib.hid IX
    have T0 := Lib.hid (Thin.start hi hp hno)
    obtain ⟨g, gc, hge, hgb, _, _, _⟩ := own_some HOWN.out (by omega)
    cases hge
    have dm : ((i : Int) == -1) = false := beq_eq_false_iff_ne.2 (by omega)
    have hwi : IntKind.i64.wrap ((i : Int) + 1) = (i : Int) + 1 := IntWalk.i64_in _ (by omega)
    clear e0 hp hno
    go_enter Tryz.func12, Tryz.ntmps12
    go_wp2_with (fail)
    refine IX.out.mono ?_
    rintro e w1 ⟨rfl, g1⟩
    have HO1 := Lib.hid (own_keep0 HOWN.out g1)
    have HG1 := Lib.hid (gr_weak g1 (some g))
    clear g1 IX HOWN
    go_wp2_with (fail)
    go_loopw [5, 6] (fun z i wr => ∃ (j q : Nat) (Y : List Nm), i = .int .i64 (j : Int) ∧ z = .int .i64 (q : Int) ∧ Thin P xs Y j q ∧ wr.ownsRow base 42 2 (.slice (some ⟨g, 0, none⟩) xs.length vc) xs.length (flat encNm Y) ∧ w.grownBy wr (some g)) (fun _ i _ => xs.length - (intOf i).toNat)
    case atStart => exact ⟨i + 1, i, xs, by go_num, rfl, T0.out, HO1.out, HG1.out⟩
    case round =>
      clear T0 HO1 HG1
      obtain ⟨j, q, Y, rfl, rfl, hT, hO, hgr⟩ := hrel
      obtain ⟨wo, rfl⟩ : ∃ wo : World, wo = wr := ⟨_, rfl⟩
      have hzj := hT.zj
      have hjl := hT.jl
      have hYl := hT.len
      by_cases hlt : j < xs.length
      · have hat := hT.at hlt
        obtain ⟨_, _, e, _, _, hcc, _⟩ := own_shape hO
        cases e
        obtain ⟨_, _, e, d0, d1⟩ := nm_cellsD hcc j (by omega)
        cases e
        rw [hat] at d0 d1
        have HFX := Lib.hid (HF.out xs[j] (List.getElem_mem _))
        have hK := hT.keep hlt
        have hD := hT.drop hlt
        have c0 := own_cellE (enc := encNm) (m := 2) (fun _ => rfl) hO q (by omega) 0 (by decide) (.string (Y[q]'(by omega)).key) rfl hYl
        have c1 := own_cellE (enc := encNm) (m := 2) (fun _ => rfl) hO q (by omega) 1 (by decide) (.int .i64 (Y[q]'(by omega)).many) rfl hYl
        obtain ⟨x, hx⟩ : ∃ x, x = xs[j] := ⟨_, rfl⟩
        rw [← hx] at d0 d1 HFX hK hD
        obtain ⟨s, m⟩ := x
        simp only [Nat.zero_add] at d0 d1 HFX
        have hX := heap_alloc_new wo (.cells #[.string s, .int .i64 m] 42)
        have ga := gr_alloc (gr_refl wo none) (.cells #[.string s, .int .i64 m] 42)
        obtain ⟨w3, hw3⟩ : ∃ w3, w3 = wo.alloc (.cells #[.string s, .int .i64 m] 42) := ⟨_, rfl⟩
        rw [← hw3] at hX ga
        obtain ⟨X, hXe⟩ : ∃ X, X = wo.heap.size := ⟨_, rfl⟩
        rw [← hXe] at hX
        have y0 : w3.cell? ⟨X, 0, none⟩ = some (.string s) := blkC hX 0 rfl
        have y1 : w3.cell? ⟨X, 1, none⟩ = some (.int .i64 m) := blkC hX 1 rfl
        have hwj : IntKind.i64.wrap ((j : Int) + 1) = (j : Int) + 1 := IntWalk.i64_in _ (by omega)
        have hwq : IntKind.i64.wrap ((q : Int) + 1) = (q : Int) + 1 := IntWalk.i64_in _ (by omega)
        have hqn : q < xs.length := by omega
        have HG3 := Lib.hid (gr_trans hgr (gr_weak ga (some g)))
        have HO3 := Lib.hid (own_keep0 hO ga)
        have HX := Lib.hid hX
        have HW3 := Lib.hid hw3
        have HXE := Lib.hid hXe
        have HKE := Lib.hid hK
        have HDR := Lib.hid hD
        have HT := Lib.hid hT
        clear hx hcc hO hgr hX ga hw3 hXe hK hD hT hat c0 c1
        go_upto_region 8 with (fail)
        rw [← HW3.out, ← HXE.out]
        clear d0 d1
        go_wp2_with (fail)
        refine (HFX.out w3 HG3.out).mono ?_
        rintro e w4 ⟨rfl, g4⟩
        have HO4 := Lib.hid (own_keep0 HO3.out g4)
        have HG4 := Lib.hid (gr_trans HG3.out (gr_weak g4 (some g)))
        have z0 : w4.cell? ⟨X, 0, none⟩ = some (.string s) := (gr_cell g4 (lt_of_cell y0)).trans y0
        have z1 : w4.cell? ⟨X, 1, none⟩ = some (.int .i64 m) := (gr_cell g4 (lt_of_cell y1)).trans y1
        clear g4 y0 y1 HO3 HG3
        cases hp : P ⟨s, m⟩ with
        | true =>
          have HD2 := Lib.hid (HDR.out hp)
          clear hp
          go_wp2_with (fail)
          go_roundw
          case rel => exact ⟨j + 1, q, Y, by go_num, rfl, HD2.out, HO4.out, HG4.out⟩
          case measure => simp [intOf]; omega
        | false =>
          have HK2 := Lib.hid (HKE.out hp)
          have b0 := HO4.out.cellAt (q * 2) (by omega)
          have b1 := HO4.out.cellAt (q * 2 + 1) (by omega)
          rw [show q * 2 = q * 2 + 0 from rfl, flat_get (enc := encNm) (m := 2) (fun _ => rfl) Y q (by omega) 0 (by decide)] at b0
          rw [flat_get (enc := encNm) (m := 2) (fun _ => rfl) Y q (by omega) 1 (by decide)] at b1
          replace b0 : w4.cell? ⟨g, q * 2, none⟩ = some (.string (Y[q]'(by omega)).key) := b0
          replace b1 : w4.cell? ⟨g, q * 2 + 1, none⟩ = some (.int .i64 (Y[q]'(by omega)).many) := b1
          have t0 := HO4.out.frozenAt (q * 2)
          have t1 := HO4.out.frozenAt (q * 2 + 1)
          have s1 := HO4.out.stored (q * 2) (.string s)
          have s2 := s1.1.stored (q * 2 + 1) (.int .i64 m)
          have hfr := flat_rowNm Y q (by omega) ⟨s, m⟩
          have hrow := s2.1
          rw [hfr] at hrow
          have HROW := Lib.hid hrow
          have HG5 := Lib.hid (gr_trans HG4.out (gr_trans s1.2 s2.2))
          clear hp s1 s2 hfr hrow
          go_wp2_with (fail)
          go_roundw
          case rel => exact ⟨j + 1, q + 1, _, by go_num, by go_num, HK2.out, HROW.out, HG5.out⟩
          case measure => simp [intOf]; omega
      · obtain rfl : j = xs.length := by omega
        have hfront := hT.front
        rw [List.take_length] at hfront
        have hz := hT.zlen
        rw [List.take_length] at hz
        have HO5 := Lib.hid hO
        have HG5 := Lib.hid hgr
        have HFR := Lib.hid hfront
        have HZ := Lib.hid hz
        have hqx : q < xs.length := by omega
        clear hO hgr hT hfront hz
        go_wp2_with (refine wpList_clear eNm rfl _ rfl base g xs.length vc q (flat encNm Y) HO5.out hqx _ rfl (by decide) ?_; intro w9 o9 g9)
        have hlast : w9.ownsRow base 42 2 (.slice (some ⟨g, 0, none⟩) q vc) q (flat encNm (xs.filter (fun x => !P x))) := by
          rw [← HFR.out, ← flat_takeD (m := 2) (fun _ => rfl) Y q (by omega)]
          exact o9
        have HL := Lib.hid hlast
        have HG9 := Lib.hid (gr_trans HG5.out g9)
        clear o9 g9 hlast
        go_wp2_with (fail)
        go_ret
        exact ⟨_, rfl, by rw [← HZ.out]; exact HL.out, HG9.out⟩
end Go.Proofs.YthikknnadmebgaaGreatDoor
