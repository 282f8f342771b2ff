/- The comparison by which a coil is rotated. -/
import Derived.Test.YtdjnomeabadbnaaDoorSortPc
import Derived.Test.YtdjnomeabadbnaaDoorCompare
import Derived.Test.YtdjnomeabadbnaaDoorLotAt
import Derived.Test.YtdjnomeabadbnaaDoorGrewTail
namespace Go.Proofs.YtdjnomeabadbnaaDoor
open Go.RowKit
attribute [local go_sem ↓] Go.wp_at_zero Go.wp_at_succ

def cmpN (a b : Int) : Int := if a < b then -1 else if b < a then 1 else 0
theorem nanInt_any (x : Int) (w : World) : Calls Tryd.prog 156 #[.int .i64 x] w fun e w' => e = .returned (.bool false) ∧ w = w' := by
  go_enter Tryd.func156, Tryd.ntmps156
  go_wp2_with (fail)
  go_ret
  exact ⟨ret_bool (by simp), rfl⟩
theorem cmpInt_any (a b : Int) (w : World) : Calls Tryd.prog 113 #[.int .i64 a, .int .i64 b] w fun e w' => e = .returned (.int .i64 (cmpN a b)) ∧ w = w' := by
  go_enter Tryd.func113, Tryd.ntmps113
  go_wp2_with (fail)
  refine (nanInt_any a w).mono ?_
  rintro e w1 ⟨rfl, rfl⟩
  go_wp2_with (fail)
  refine (nanInt_any b w).mono ?_
  rintro e w1 ⟨rfl, rfl⟩
  by_cases h1 : a < b
  · have HC : Hid (cmpN a b = -1) := by show _ = _; unfold cmpN; rw [if_pos h1]
    go_wp2_with (fail)
    go_ret
    exact ⟨ret_int HC.out.symm, rfl⟩
  · by_cases h2 : b < a
    · have HC : Hid (cmpN a b = 1) := by show _ = _; unfold cmpN; rw [if_neg h1, if_pos h2]
      go_wp2_with (fail)
      go_ret
      exact ⟨ret_int HC.out.symm, rfl⟩
    · have HC : Hid (cmpN a b = 0) := by show _ = _; unfold cmpN; rw [if_neg h1, if_neg h2]
      go_wp2_with (fail)
      go_ret
      exact ⟨ret_int HC.out.symm, rfl⟩
def orI (a b : Int) : Int := if a = 0 then b else a
set_option maxRecDepth 100000 in
theorem orInt_any (a b : Int) (g c : Nat) (w : World) (h0 : w.cell? ⟨g, 0, none⟩ = some (.int .i64 a)) (h1 : w.cell? ⟨g, 1, none⟩ = some (.int .i64 b)) :
    Calls Tryd.prog 112 #[.slice (some ⟨g, 0, none⟩) 2 c] w fun e w' => e = .returned (.int .i64 (orI a b)) ∧ w = w' := by
  unfold orI
  go_enter Tryd.func112, Tryd.ntmps112
  go_wp2_with (fail)
  go_loop [8] (fun i => (i = .int .i64 0 ∨ (i = .int .i64 1 ∧ a = 0) ∨ (i = .int .i64 2 ∧ a = 0 ∧ b = 0))) (fun i => 2 - (intOf i).toNat)
  case atStart => exact .inl rfl
  case round =>
    rcases hrel with rfl | ⟨rfl, rfl⟩ | ⟨rfl, rfl, rfl⟩
    · by_cases ha : a = 0
      · subst ha
        go_wp2_with (fail)
        go_round
        case rel => exact .inr (.inl (by simp))
        case measure => simp [intOf]
      · have ha2 : (a != 0) = true := by simpa using ha
        go_wp2_with (fail)
        go_ret
        exact ⟨rfl, rfl⟩
    · by_cases hb : b = 0
      · subst hb
        go_wp2_with (fail)
        go_round
        case rel => exact .inr (.inr (by simp))
        case measure => simp [intOf]
      · have hb2 : (b != 0) = true := by simpa using hb
        go_wp2_with (fail)
        go_ret
        exact ⟨rfl, rfl⟩
    · go_wp2_with (fail)
      go_ret
      exact ⟨rfl, rfl⟩
def rotCm (xs : List Lot) (x y : Piece) : Int := orI (cmpN (lotGet xs x.lot).exp (lotGet xs y.lot).exp) (cmpB x.lot y.lot)
theorem rotCm_bd (xs : List Lot) (x y : Piece) : -1 ≤ rotCm xs x y ∧ rotCm xs x y ≤ 1 := by
  have := cmpB_bd x.lot y.lot
  unfold rotCm orI cmpN
  split <;> split at * <;> (try split at *) <;> omega
theorem rotCm_neg {xs : List Lot} {x y : Piece} : rotCm xs x y < 0 ↔ (lotGet xs x.lot).exp < (lotGet xs y.lot).exp ∨ ((lotGet xs x.lot).exp = (lotGet xs y.lot).exp ∧ x.lot.data.toList < y.lot.data.toList) := by
  rw [← cmpB_neg]
  unfold rotCm orI cmpN
  by_cases h1 : (lotGet xs x.lot).exp < (lotGet xs y.lot).exp
  · rw [if_pos h1]; simp [h1]
  · rw [if_neg h1]
    by_cases h2 : (lotGet xs y.lot).exp < (lotGet xs x.lot).exp
    · rw [if_pos h2]; simp; omega
    · rw [if_neg h2]; simp; omega
theorem rotCm_ok (xs : List Lot) : CmpOk (rotCm xs) := by
  refine ⟨fun a b h => ?_, fun a b c h1 h2 h3 => ?_⟩
  · rw [rotCm_neg] at h ⊢
    rintro (g | ⟨g, g2⟩)
    · rcases h with h | ⟨h, _⟩ <;> omega
    · rcases h with h | ⟨_, h2⟩
      · omega
      · exact ltL_irrefl _ (ltL_trans h2 g2)
  · rw [rotCm_neg] at h1 h2 h3
    have tri := fun (x y : ByteArray) => compareBytes_sign x.data.toList y.data.toList
    rcases h3 with h3 | ⟨h3, h4⟩
    · have a1 : ¬ (lotGet xs b.lot).exp < (lotGet xs a.lot).exp := fun h => h1 (.inl h)
      have a2 : ¬ (lotGet xs c.lot).exp < (lotGet xs b.lot).exp := fun h => h2 (.inl h)
      omega
    · have a1 : ¬ (lotGet xs b.lot).exp < (lotGet xs a.lot).exp := fun h => h1 (.inl h)
      have a2 : ¬ (lotGet xs c.lot).exp < (lotGet xs b.lot).exp := fun h => h2 (.inl h)
      have e1 : (lotGet xs b.lot).exp = (lotGet xs a.lot).exp := by omega
      have e2 : (lotGet xs c.lot).exp = (lotGet xs b.lot).exp := by omega
      have n1 : ¬ b.lot.data.toList < a.lot.data.toList := fun h => h1 (.inr ⟨e1, h⟩)
      have n2 : ¬ c.lot.data.toList < b.lot.data.toList := fun h => h2 (.inr ⟨e2, h⟩)
      rcases tri a.lot b.lot with ⟨_, h⟩ | ⟨_, h⟩ | ⟨_, h⟩
      · exact n2 (ltL_trans h4 h)
      · rw [h] at h4; exact n2 h4
      · exact n1 h
set_option maxRecDepth 100000 in
set_option maxHeartbeats 4000000 in
theorem rot1_any (x y : Piece) (xs : List Lot) (xa : Option Addr) (xc q : Nat) (w : World) (hq : w.cell? ⟨q, 0, none⟩ = some (.slice xa xs.length xc)) (hx : CellsAt w xa (flat encLot xs)) (hxl : xs.length ≤ 100000) (h1 : lotHas xs x.lot = true) (h2 : lotHas xs y.lot = true) :
    Calls Tryd.prog 111 #[.agg #[.string x.lot, .int .i64 x.many], .agg #[.string y.lot, .int .i64 y.many], .pointer (some ⟨q, 0, none⟩)] w fun e w' => e = .returned (.int .i64 (rotCm xs x y)) ∧ w.grownBy w' none := by
  have hqlt := lt_of_cell hq
  obtain ⟨x0, x1⟩ := x
  obtain ⟨y0, y1⟩ := y
  simp only at h1 h2 ⊢
  obtain ⟨i, hi, hie, hig⟩ := lotIx_at h1
  obtain ⟨j, hj, hje, hjg⟩ := lotIx_at h2
  have g2 := gr_alloc (gr_alloc (gr_refl w none) (.cells #[.string x0, .int .i64 x1] 94)) (.cells #[.string y0, .int .i64 y1] 94)
  obtain ⟨hA, hB⟩ := heap_2 w (.cells #[.string x0, .int .i64 x1] 94) (.cells #[.string y0, .int .i64 y1] 94)
  obtain ⟨w2, hw2⟩ : ∃ w2, w2 = (w.alloc (.cells #[.string x0, .int .i64 x1] 94)).alloc (.cells #[.string y0, .int .i64 y1] 94) := ⟨_, rfl⟩
  rw [← hw2] at g2 hA hB
  have hq2 := (gr_cell g2 hqlt).trans hq
  have hx2 := hx.keep0 g2
  obtain ⟨lb, lo, rfl, a0, a1, a2, a3⟩ := lot_cells hx2 i hi
  obtain ⟨lb', lo', e', b0, b1, b2, b3⟩ := lot_cells hx2 j hj
  cases e'
  rw [hig] at a2
  rw [hjg] at b2
  obtain ⟨p0, p1, -, -⟩ := blk2 hA
  obtain ⟨r0, r1, -, -⟩ := blk2 hB
  have LX : Hid (∀ W, w2.grownBy W none → Calls Tryd.prog 114 #[.slice (some ⟨lb, lo, none⟩) xs.length xc, .string x0] W fun e w' => e = .returned (.int .i64 i) ∧ W.grownBy w' none) := fun W g => by
    have := lot_any x0 xs _ xc W (hx2.keep0 g) hxl
    rw [hie] at this; exact this
  have LY : Hid (∀ W, w2.grownBy W none → Calls Tryd.prog 114 #[.slice (some ⟨lb, lo, none⟩) xs.length xc, .string y0] W fun e w' => e = .returned (.int .i64 j) ∧ W.grownBy w' none) := fun W g => by
    have := lot_any y0 xs _ xc W (hx2.keep0 g) hxl
    rw [hje] at this; exact this
  have HE : Hid (rotCm xs ⟨x0, x1⟩ ⟨y0, y1⟩ = orI (cmpN (lotGet xs x0).exp (lotGet xs y0).exp) (cmpB x0 y0)) := rfl
  obtain ⟨ex, hex⟩ : ∃ e, e = (lotGet xs x0).exp := ⟨_, rfl⟩
  obtain ⟨ey, hey⟩ : ∃ e, e = (lotGet xs y0).exp := ⟨_, rfl⟩
  rw [← hex] at a2 HE
  rw [← hey] at b2 HE
  have gq2 := grew_cell hq2
  have ga2 := grew_cell a2
  have gb2 := grew_cell b2
  have gp0 := grew_cell p0
  have gr0 := grew_cell r0
  have HG := Lib.hid g2
  have HW := Lib.hid hw2
  have hi0 : (0 : Int) ≤ (i : Int) := by omega
  have hi1 : (i : Int) < (xs.length : Int) := by omega
  have hj0 : (0 : Int) ≤ (j : Int) := by omega
  have hj1 : (j : Int) < (xs.length : Int) := by omega
  clear hq hx hx2 g2 hA hB hw2 hie hig hje hjg a0 a1 a2 a3 b0 b1 b2 b3 p0 p1 r0 r1 hq2 hex hey h1 h2
  go_enter Tryd.func111, Tryd.ntmps111
  go_wp2_with (fail)
  rw [← HW.out]
  refine wp_region_grew_tail 22 (by kernel_rfl) (by kernel_rfl) ?_
  simp only [List.take_succ_cons, List.take_zero, List.drop_succ_cons, List.drop_zero]
  repeat (go_big_quiet_step (first
    | (go_at_call 114; first | (with_reducible exact Calls.grew_of (fun W g => LX.out W g)) | (with_reducible exact Calls.grew_of (fun W g => LY.out W g)))
    | (go_at_call 113; exact Calls.grew_of (fun W g => (cmpInt_any _ _ W).mono fun _ _ h => ⟨h.1, by rw [← h.2]; exact gr_refl _ _⟩))
    | (go_at_call 115; exact Calls.grew_of (fun W g => (compare_any _ _ W).mono fun _ _ h => ⟨h.1, by rw [← h.2]; exact gr_refl _ _⟩))))
  refine wpQuiet_nil ?_
  rintro wq ⟨nn, rfl⟩
  have gq := nn.gr
  obtain ⟨wn, hwn⟩ : ∃ wn, wn = nn.w := ⟨_, rfl⟩
  rw [← hwn] at gq
  rw [← hwn]
  obtain ⟨u, hu⟩ : ∃ u, u = cmpN ex ey := ⟨_, rfl⟩
  obtain ⟨v, hv⟩ : ∃ v, v = cmpB x0 y0 := ⟨_, rfl⟩
  rw [← hu, ← hv] at HE
  rw [← hu, ← hv]
  have gN := gr_alloc (gr_refl wn none) (.cells #[.int .i64 u, .int .i64 v] 3)
  have hN := heap_alloc_new wn (.cells #[.int .i64 u, .int .i64 v] 3)
  have OR := Lib.hid (orInt_any u v wn.heap.size 2 _ (blkC hN 0 rfl) (blkC hN 1 rfl))
  clear ga2 gb2 gp0 gr0 gq2 hwn hu hv hN
  go_wp2_with (fail)
  refine OR.out.mono ?_
  rintro e w5 ⟨rfl, rfl⟩
  go_wp2_with (fail)
  go_ret
  exact ⟨ret_int HE.out.symm, gr_trans HG.out (gr_trans gq gN)⟩
end Go.Proofs.YtdjnomeabadbnaaDoor
