/- Where a lot is: in stock, and in the reference. -/
import Derived.Test.YtdjnomeabadbnaaDoorFindLot
import Derived.WalkLawsBesides
namespace Go.Proofs.YtdjnomeabadbnaaDoor
open Go.RowKit

def idIs (k : ByteArray) (x : Lot) : Bool := x.id.toList == k.toList
def lotIx (xs : List Lot) (k : ByteArray) : Int := findA (idIs k) xs
theorem lot1_fn : ∀ (args : Array Value) (w : World), (callFunc 158 args).run Tryd.prog w = .ok (.enter 158 args) w := fun _ _ => by kernel_rfl
set_option maxRecDepth 100000 in
theorem lot1_any (t : Lot) (x : ByteArray) (q : Nat) (w : World) (hq : w.cell? ⟨q, 0, none⟩ = some (.string x)) :
    Calls Tryd.prog 158 #[.agg #[.string t.id, .string t.prod, .int .i64 t.exp, .int .i64 t.many], .pointer (some ⟨q, 0, none⟩)] w fun e w' => e = .returned (.bool (idIs x t)) ∧ w.grownBy w' none := by
  have hqlt := lt_of_cell hq
  go_enter Tryd.func158, Tryd.ntmps158
  go_wp2_with (fail)
  go_ret
  exact ⟨rfl, gr_alloc (gr_refl w none) _⟩
set_option maxRecDepth 100000 in
theorem lot_any (key : ByteArray) (xs : List Lot) (a : Option Addr) (c : Nat) (w : World) (h : CellsAt w a (flat encLot xs)) (hl : xs.length ≤ 100000) :
    Calls Tryd.prog 114 #[.slice a xs.length c, .string key] w fun e w' => e = .returned (.int .i64 (lotIx xs key)) ∧ w.grownBy w' none := by
  have H := Lib.hid h
  clear h
  go_enter Tryd.func114, Tryd.ntmps114
  go_wp2_with (fail)
  have hg1 := gr_alloc (gr_refl w none) (.cells #[.string key] 9)
  refine (indexFunc_Lot _ ⟨w.heap.size, 0, none⟩ (idIs key) xs a c _ (H.out.keep0 hg1) (by omega) lot1_fn ?_).mono ?_
  · intro t _ w1 hg
    exact lot1_any t key w.heap.size w1 ((gr_cell hg (by simp)).trans (by rw [World.cell?_alloc_at _ _ _ _ rfl]; rfl))
  rintro e w2 ⟨rfl, hg2⟩
  go_wp2_with (fail)
  go_ret
  exact ⟨rfl, gr_trans hg1 hg2⟩
/-- The lot that is found, or an empty one. -/
def lotGet (xs : List Lot) (k : ByteArray) : Lot := (xs.find? (idIs k)).getD ⟨⟨#[]⟩, ⟨#[]⟩, 0, 0⟩
def lotHas (xs : List Lot) (k : ByteArray) : Bool := xs.any (idIs k)
theorem find_at {α : Type} {P : α → Bool} {xs : List α} {k : Nat} (hk : k < xs.length) (hp : P xs[k] = true) (hno : ∀ j (hj : j < xs.length), j < k → P xs[j] = false) : xs.find? P = some xs[k] := by
  induction xs generalizing k with
  | nil => cases hk
  | cons x xs ih =>
    cases k with
    | zero => simp only [List.getElem_cons_zero] at hp ⊢; rw [List.find?_cons, hp]
    | succ k =>
      have h0 := hno 0 (by simp) (by omega)
      simp only [List.getElem_cons_zero] at h0
      rw [List.find?_cons, h0]
      exact ih (by simpa using hk) hp (fun j hj h => by have := hno (j + 1) (by simpa using hj) (by omega); simpa using this)
theorem find_not {α : Type} {P : α → Bool} {xs : List α} (hno : ∀ j (hj : j < xs.length), P xs[j] = false) : xs.find? P = none := by
  rw [List.find?_eq_none]
  intro x hx
  obtain ⟨j, hj, rfl⟩ := List.getElem_of_mem hx
  simp [hno j hj]
theorem lotHas_get {xs : List Lot} {k : ByteArray} : lotHas xs k = (xs.find? (idIs k)).isSome := by
  unfold lotHas
  rw [Bool.eq_iff_iff, List.any_eq_true, List.find?_isSome]
theorem lotIx_neg {xs : List Lot} {k : ByteArray} : lotIx xs k < 0 ↔ lotHas xs k = false := by
  have := any_findA (idIs k) xs
  unfold lotIx lotHas
  rw [this]
  simp
theorem lotIx_at {xs : List Lot} {k : ByteArray} (h : lotHas xs k = true) : ∃ (j : Nat) (hj : j < xs.length), lotIx xs k = j ∧ xs[j] = lotGet xs k := by
  rw [lotHas_get] at h
  have hex : ∃ j, ∃ hj : j < xs.length, idIs k xs[j] = true := by
    obtain ⟨x, hx, hp⟩ := List.find?_isSome.mp h
    obtain ⟨j, hj, rfl⟩ := List.getElem_of_mem hx
    exact ⟨j, hj, hp⟩
  have hmin : ∀ n, (∃ j, ∃ hj : j < xs.length, j ≤ n ∧ idIs k xs[j] = true) → ∃ j, ∃ hj : j < xs.length, idIs k xs[j] = true ∧ ∀ i (hi : i < xs.length), i < j → idIs k xs[i] = false := by
    intro n
    induction n with
    | zero =>
      rintro ⟨j, hj, h0, hp⟩
      exact ⟨j, hj, hp, fun i _ hi => by omega⟩
    | succ n ih =>
      rintro ⟨j, hj, h0, hp⟩
      by_cases hb : ∃ j, ∃ hj : j < xs.length, j ≤ n ∧ idIs k xs[j] = true
      · exact ih hb
      · refine ⟨j, hj, hp, fun i hi hij => ?_⟩
        cases hq : idIs k xs[i] with
        | false => rfl
        | true => exact absurd ⟨i, hi, by omega, hq⟩ hb
  obtain ⟨j, hj, hp⟩ := hex
  obtain ⟨j, hj, hp, hno⟩ := hmin j ⟨j, hj, Nat.le_refl _, hp⟩
  refine ⟨j, hj, findA_at hj hp (fun i hi => hno i (by omega) hi), ?_⟩
  unfold lotGet
  rw [find_at hj hp hno]
  rfl
def vLot (x : Lot) : Value := .agg #[.string x.id, .string x.prod, .int .i64 x.exp, .int .i64 x.many]
set_option maxRecDepth 100000 in
set_option maxHeartbeats 1000000 in
theorem lotOf_any (key : ByteArray) (xs : List Lot) (a : Option Addr) (c : Nat) (w : World) (h : CellsAt w a (flat encLot xs)) (hl : xs.length ≤ 100000) :
    Calls Tryd.prog 100 #[.slice a xs.length c, .string key] w fun e w' => e = .returned (.tuple #[vLot (lotGet xs key), .bool (lotHas xs key)]) ∧ w.grownBy w' none := by
  have H := Lib.hid h
  clear h
  obtain ⟨dt, hd1⟩ := und_struct (P := Tryd.prog) (t := 106) (by kernel_rfl)
  have HD := Lib.hid hd1
  clear hd1
  have hR := heap_alloc_new w (.cells #[.string ⟨#[]⟩, .string ⟨#[]⟩, .int .i64 0, .int .i64 0] 106)
  have hg0 := gr_alloc (gr_refl w none) (.cells #[.string ⟨#[]⟩, .string ⟨#[]⟩, .int .i64 0, .int .i64 0] 106)
  obtain ⟨w0, hw0⟩ : ∃ w0, w0 = w.alloc (.cells #[.string ⟨#[]⟩, .string ⟨#[]⟩, .int .i64 0, .int .i64 0] 106) := ⟨_, rfl⟩
  rw [← hw0] at hR hg0
  have HW := Lib.hid hw0
  have hz0 : w0.heap.size = w.heap.size + 1 := by rw [hw0]; simp
  obtain ⟨R, hRe⟩ : ∃ R, R = w.heap.size := ⟨_, rfl⟩
  rw [← hRe] at hR hz0
  have HRE := Lib.hid hRe
  have HR := Lib.hid hR
  have HG0 := Lib.hid hg0
  clear hw0 hRe hR hg0
  go_enter Tryd.func100, Tryd.ntmps100
  go_wp2_with (fail)
  rw [← HW.out, ← HRE.out]
  go_loopw [10] (fun i wr => ∃ k : Nat, k ≤ xs.length ∧ i = .int .i64 k ∧ (∀ j (hj : j < xs.length), j < k → idIs key xs[j] = false) ∧ w0.grownBy wr none) (fun i _ => xs.length - (intOf i).toNat)
  case atStart => exact ⟨0, Nat.zero_le _, rfl, fun j _ hj => absurd hj (Nat.not_lt_zero _), gr_refl _ _⟩
  case round =>
    obtain ⟨k, hk, rfl, hno, hgr⟩ := hrel
    obtain ⟨wo, rfl⟩ : ∃ wo : World, wo = wr := ⟨_, rfl⟩
    have HNO := Lib.hid hno
    have HGR := Lib.hid hgr
    have hRo := (hgr.block R (lt_of_block HR.out) (by simp)).trans HR.out
    have HRO := Lib.hid hRo
    have hRl := lt_of_block hRo
    obtain ⟨r0, r1, r2, r3⟩ := blk4 hRo
    have z0 := blkF hRo 0
    have z1 := blkF hRo 1
    have z2 := blkF hRo 2
    have z3 := blkF hRo 3
    clear hno hRo
    by_cases hlt : k < xs.length
    · obtain ⟨b, off, rfl, d0, d1, d2, d3⟩ := lot_cells (H.out.keep0 (gr_trans HG0.out hgr)) k hlt
      have HAT : Hid (idIs key xs[k] = true → lotGet xs key = xs[k] ∧ lotHas xs key = true) := fun hp => by
        have hf := find_at hlt hp (fun j hj h => HNO.out j hj h)
        exact ⟨by unfold lotGet; rw [hf]; rfl, by rw [lotHas_get, hf]; rfl⟩
      have HNX : Hid (idIs key xs[k] = false → ∀ j (hj : j < xs.length), j < k + 1 → idIs key xs[j] = false) := fun hp j hj h => by
        by_cases e : j = k
        · subst e; exact hp
        · exact HNO.out j hj (by omega)
      obtain ⟨x, hx⟩ : ∃ x, x = xs[k] := ⟨_, rfl⟩
      rw [← hx] at d0 d1 d2 d3 HAT HNX
      obtain ⟨K, P, E, M⟩ := x
      simp only at d0 d1 d2 d3
      clear hx hgr HNO
      cases hq : (K.toList == key.toList) with
      | true =>
        have HE : Hid (vLot (lotGet xs key) = .agg #[.string K, .string P, .int .i64 E, .int .i64 M] ∧ lotHas xs key = true) := by
          show _ ∧ _
          rw [(HAT.out hq).1]; exact ⟨rfl, (HAT.out hq).2⟩
        go_wp2_with (fail)
        rw [HE.out.1, HE.out.2]
        have hR5 := set4_heap HRO.out (.string K) (.string P) (.int .i64 E) (.int .i64 M)
        have hR6 := ((gr_alloc (gr_refl _ none) (.cells #[.string K, .string P, .int .i64 E, .int .i64 M] 106)).block R (lt_of_block hR5) (by simp)).trans hR5
        refine bodyPost_ret (results_cell_slot (p := 4) (q := 5) (by kernel_rfl) _ _ R _ #[.string K, .string P, .int .i64 E, .int .i64 M] _ (.struct dt) _ rfl rfl hR6 HD.out rfl (by kernel_rfl)) rfl ⟨rfl, ?_⟩
        exact gr_alloc (gr_grown (gr_trans HG0.out HGR.out) (set4_gr _ _ _ _ _ _) (fun g e => by cases e; have := HRE.out; omega)) _
      | false =>
        have HNO := Lib.hid (HNX.out hq)
        go_wp2_with (fail)
        go_roundw
        case rel => exact ⟨k + 1, by omega, by go_num, HNO.out, gr_alloc HGR.out _⟩
        case measure => simp [intOf]; omega
    · obtain rfl : k = xs.length := by omega
      have HE : Hid (vLot (lotGet xs key) = .agg #[.string ⟨#[]⟩, .string ⟨#[]⟩, .int .i64 0, .int .i64 0] ∧ lotHas xs key = false) := by
        have hf := find_not (fun j hj => HNO.out j hj hj)
        exact ⟨by unfold lotGet; rw [hf]; rfl, by rw [lotHas_get, hf]; rfl⟩
      clear hgr
      go_wp2_with (fail)
      rw [HE.out.1, HE.out.2]
      refine bodyPost_ret (results_cell_slot (p := 4) (q := 5) (by kernel_rfl) _ _ R _ #[.string ⟨#[]⟩, .string ⟨#[]⟩, .int .i64 0, .int .i64 0] _ (.struct dt) _ rfl rfl (set4_heap HRO.out _ _ _ _) HD.out rfl (by kernel_rfl)) rfl ⟨rfl, ?_⟩
      exact gr_grown (gr_trans HG0.out HGR.out) (set4_gr _ _ _ _ _ _) (fun g e => by cases e; have := HRE.out; omega)
set_option maxRecDepth 100000 in
set_option maxHeartbeats 1000000 in
theorem keepLotOf_any (key : ByteArray) (xs : List Lot) (a : Option Addr) (c : Nat) (w : World) (h : CellsAt w a (flat encLot xs)) (hl : xs.length ≤ 100000) :
    Calls Tryd.prog 55 #[.slice a xs.length c, .string key] w fun e w' => e = .returned (vLot (lotGet xs key)) ∧ w.grownBy w' none := by
  have H := Lib.hid h
  clear h
  obtain ⟨dt, hd1⟩ := und_struct (P := Tryd.prog) (t := 106) (by kernel_rfl)
  have HD := Lib.hid hd1
  clear hd1
  have hR := heap_alloc_new w (.cells #[.string ⟨#[]⟩, .string ⟨#[]⟩, .int .i64 0, .int .i64 0] 106)
  have hg0 := gr_alloc (gr_refl w none) (.cells #[.string ⟨#[]⟩, .string ⟨#[]⟩, .int .i64 0, .int .i64 0] 106)
  obtain ⟨w0, hw0⟩ : ∃ w0, w0 = w.alloc (.cells #[.string ⟨#[]⟩, .string ⟨#[]⟩, .int .i64 0, .int .i64 0] 106) := ⟨_, rfl⟩
  rw [← hw0] at hR hg0
  have HW := Lib.hid hw0
  have hz0 : w0.heap.size = w.heap.size + 1 := by rw [hw0]; simp
  obtain ⟨R, hRe⟩ : ∃ R, R = w.heap.size := ⟨_, rfl⟩
  rw [← hRe] at hR hz0
  have HRE := Lib.hid hRe
  have HR := Lib.hid hR
  have HG0 := Lib.hid hg0
  clear hw0 hRe hR hg0
  go_enter Tryd.func55, Tryd.ntmps55
  go_wp2_with (fail)
  rw [← HW.out, ← HRE.out]
  go_loopw [9] (fun i wr => ∃ k : Nat, k ≤ xs.length ∧ i = .int .i64 k ∧ (∀ j (hj : j < xs.length), j < k → idIs key xs[j] = false) ∧ w0.grownBy wr none) (fun i _ => xs.length - (intOf i).toNat)
  case atStart => exact ⟨0, Nat.zero_le _, rfl, fun j _ hj => absurd hj (Nat.not_lt_zero _), gr_refl _ _⟩
  case round =>
    obtain ⟨k, hk, rfl, hno, hgr⟩ := hrel
    obtain ⟨wo, rfl⟩ : ∃ wo : World, wo = wr := ⟨_, rfl⟩
    have HNO := Lib.hid hno
    have HGR := Lib.hid hgr
    have hRo := (hgr.block R (lt_of_block HR.out) (by simp)).trans HR.out
    have HRO := Lib.hid hRo
    have hRl := lt_of_block hRo
    obtain ⟨r0, r1, r2, r3⟩ := blk4 hRo
    have z0 := blkF hRo 0
    have z1 := blkF hRo 1
    have z2 := blkF hRo 2
    have z3 := blkF hRo 3
    clear hno hRo
    by_cases hlt : k < xs.length
    · obtain ⟨b, off, rfl, d0, d1, d2, d3⟩ := lot_cells (H.out.keep0 (gr_trans HG0.out hgr)) k hlt
      have HAT : Hid (idIs key xs[k] = true → lotGet xs key = xs[k] ∧ lotHas xs key = true) := fun hp => by
        have hf := find_at hlt hp (fun j hj h => HNO.out j hj h)
        exact ⟨by unfold lotGet; rw [hf]; rfl, by rw [lotHas_get, hf]; rfl⟩
      have HNX : Hid (idIs key xs[k] = false → ∀ j (hj : j < xs.length), j < k + 1 → idIs key xs[j] = false) := fun hp j hj h => by
        by_cases e : j = k
        · subst e; exact hp
        · exact HNO.out j hj (by omega)
      obtain ⟨x, hx⟩ : ∃ x, x = xs[k] := ⟨_, rfl⟩
      rw [← hx] at d0 d1 d2 d3 HAT HNX
      obtain ⟨K, P, E, M⟩ := x
      simp only at d0 d1 d2 d3
      clear hx hgr HNO
      cases hq : (K.toList == key.toList) with
      | true =>
        have HE : Hid (vLot (lotGet xs key) = .agg #[.string K, .string P, .int .i64 E, .int .i64 M] ∧ lotHas xs key = true) := by
          show _ ∧ _
          rw [(HAT.out hq).1]; exact ⟨rfl, (HAT.out hq).2⟩
        go_wp2_with (fail)
        rw [HE.out.1]
        have hR5 := set4_heap HRO.out (.string K) (.string P) (.int .i64 E) (.int .i64 M)
        have hR6 := ((gr_alloc (gr_refl _ none) (.cells #[.string K, .string P, .int .i64 E, .int .i64 M] 106)).block R (lt_of_block hR5) (by simp)).trans hR5
        refine bodyPost_ret (results_cell_row (p := 4) (by kernel_rfl) _ _ R _ #[.string K, .string P, .int .i64 E, .int .i64 M] _ (.struct dt) rfl hR6 HD.out rfl (by kernel_rfl)) rfl ⟨rfl, ?_⟩
        exact gr_alloc (gr_grown (gr_trans HG0.out HGR.out) (set4_gr _ _ _ _ _ _) (fun g e => by cases e; have := HRE.out; omega)) _
      | false =>
        have HNO := Lib.hid (HNX.out hq)
        go_wp2_with (fail)
        go_roundw
        case rel => exact ⟨k + 1, by omega, by go_num, HNO.out, gr_alloc HGR.out _⟩
        case measure => simp [intOf]; omega
    · obtain rfl : k = xs.length := by omega
      have HE : Hid (vLot (lotGet xs key) = .agg #[.string ⟨#[]⟩, .string ⟨#[]⟩, .int .i64 0, .int .i64 0] ∧ lotHas xs key = false) := by
        have hf := find_not (fun j hj => HNO.out j hj hj)
        exact ⟨by unfold lotGet; rw [hf]; rfl, by rw [lotHas_get, hf]; rfl⟩
      clear hgr
      go_wp2_with (fail)
      rw [HE.out.1]
      refine bodyPost_ret (results_cell_row (p := 4) (by kernel_rfl) _ _ R _ #[.string ⟨#[]⟩, .string ⟨#[]⟩, .int .i64 0, .int .i64 0] _ (.struct dt) rfl (set4_heap HRO.out _ _ _ _) HD.out rfl (by kernel_rfl)) rfl ⟨rfl, ?_⟩
      exact gr_grown (gr_trans HG0.out HGR.out) (set4_gr _ _ _ _ _ _) (fun g e => by cases e; have := HRE.out; omega)
end Go.Proofs.YtdjnomeabadbnaaDoor
