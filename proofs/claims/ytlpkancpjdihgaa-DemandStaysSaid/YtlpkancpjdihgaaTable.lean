/- Tables of shares: what is wrong with one, by package and by document. -/
import Derived.Test.YtlpkancpjdihgaaTotals
import Derived.Test.YtlpkancpjdihgaaFuncs
namespace Go.Proofs.Ytlpkancpjdihgaa
open Go.RowKit

/-- Rows of ints behind a slice of slices. -/
def RowsAt (w : World) (a : Option Addr) (T : List (List Int)) : Prop :=
  ∀ i, i < T.length → ∃ b off ra rc, a = some ⟨b, off, none⟩ ∧ w.cell? ⟨b, off + i, none⟩ = some (.slice ra (T.getD i []).length rc) ∧ CellsAt w ra (ints (T.getD i []))
theorem RowsAt.keep0 {w w1 : World} {a : Option Addr} {T : List (List Int)} (h : RowsAt w a T) (g : w.grownBy w1 none) : RowsAt w1 a T := by
  intro i hi
  obtain ⟨b, off, ra, rc, e, c, r⟩ := h i hi
  exact ⟨b, off, ra, rc, e, by rw [gr_cell g (lt_of_cell c)]; exact c, r.keep0 g⟩
/-- The first of some codes that is not 0. -/
def firstCode (f : Nat → Int) : Nat → Int
  | 0 => 0
  | n + 1 => if firstCode f n = 0 then f n else firstCode f n
theorem firstCode_none (f : Nat → Int) (n : Nat) (h : ∀ j, j < n → f j = 0) : firstCode f n = 0 := by
  induction n with
  | zero => rfl
  | succ n ih => rw [firstCode, if_pos (ih fun j hj => h j (by omega))]; exact h n (by omega)
theorem firstCode_at (f : Nat → Int) (n k : Nat) (hk : k < n) (h : ∀ j, j < k → f j = 0) (hf : f k ≠ 0) : firstCode f n = f k := by
  induction n with
  | zero => omega
  | succ n ih =>
    rw [firstCode]
    by_cases e : k = n
    · subst e; rw [if_pos (firstCode_none f k h)]
    · rw [ih (by omega), if_neg hf]
theorem firstCode_zero (f : Nat → Int) (n : Nat) (h : firstCode f n = 0) (j : Nat) (hj : j < n) : f j = 0 := by
  induction n with
  | zero => omega
  | succ n ih =>
    rw [firstCode] at h
    by_cases e : firstCode f n = 0
    · rw [if_pos e] at h
      by_cases e2 : j = n
      · rw [e2]; exact h
      · exact ih e (by omega)
    · rw [if_neg e] at h; exact absurd h e
def odd100 (x : Int) : Bool := decide (x < 0) || decide (100 < x)
def rowCode (n i : Nat) (r : List Int) : Int := if r.length ≠ n then 3 else if r.any odd100 = true ∨ r.getD i 0 ≠ 0 ∨ 100 < r.sum then 1 else 0
def tableCode (T : List (List Int)) : Int := if T.length = 0 then 8 else if 30 < T.length then 2 else firstCode (fun i => rowCode T.length i (T.getD i [])) T.length

theorem odd_fn : IsFn 157 := fun _ _ => by kernel_rfl
theorem odd_any (x : Int) (w : World) : Calls Try.prog 157 #[.int .i64 x] w fun e w' => e = .returned (.bool (odd100 x)) ∧ w = w' := by
  go_enter Try.func157, Try.ntmps157
  go_wp2
  all_goals (go_ret; exact ⟨ret_bool (by unfold odd100; simp; try omega), rfl⟩)

set_option maxRecDepth 100000 in
set_option maxHeartbeats 1000000 in
theorem tableFault_any (T : List (List Int)) (a : Option Addr) (c : Nat) (w : World) (hc : RowsAt w a T) (hl : T.length ≤ 1000000) (hr : ∀ r ∈ T, r.length ≤ 1000000) :
    Calls Try.prog 105 #[.agg #[.slice a T.length c]] w fun e w' => e = .returned (.int .i64 (tableCode T)) ∧ w.grownBy w' none := by
  by_cases h0 : T.length = 0
  · have hT : T = [] := List.eq_nil_of_length_eq_zero h0
    subst hT
    clear h0
    go_enter Try.func105, Try.ntmps105
    go_wp2_with (fail)
    go_ret
    exact ⟨ret_int (by simp [tableCode]), gr_alloc (gr_refl _ _) _⟩
  have h1 : 0 < T.length := by omega
  by_cases h30 : 30 < T.length
  · have hfin : Hid (tableCode T = 2) := by show _ = _; unfold tableCode; rw [if_neg h0, if_pos h30]
    clear h0
    go_enter Try.func105, Try.ntmps105
    go_wp2_with (fail)
    go_ret
    exact ⟨ret_int (by rw [hfin.out]), gr_alloc (gr_refl _ _) _⟩
  have hfin : Hid (tableCode T = firstCode (fun i => rowCode T.length i (T.getD i [])) T.length) := by show _ = _; unfold tableCode; rw [if_neg h0, if_neg h30]
  have h30' : T.length ≤ 30 := by omega
  clear h0 h30
  have hr' : Hid (∀ r ∈ T, r.length ≤ 1000000) := hr
  clear hr
  go_enter Try.func105, Try.ntmps105
  have hz : ((T.length : Int) == 0) = false := beq_eq_false_iff_ne.2 (by omega)
  go_wp2_with (fail)
  clear hz
  go_loopw [16] (fun i wr => ∃ k : Nat, k ≤ T.length ∧ i = .int .i64 k ∧ (∀ j, j < k → rowCode T.length j (T.getD j []) = 0) ∧ w.grownBy wr none ∧ (w.alloc (.cells #[.slice a T.length c] 72)).grownBy wr none) (fun i _ => T.length - (intOf i).toNat)
  case atStart => exact ⟨0, Nat.zero_le _, rfl, fun j hj => by omega, gr_alloc (gr_refl _ _) _, gr_refl _ _⟩
  case round =>
    obtain ⟨k, hk, rfl, hok, hgr, hgr0⟩ := hrel
    have HOK := Lib.hid hok; clear hok
    obtain ⟨wo, rfl⟩ : ∃ wo : World, wo = wr := ⟨_, rfl⟩
    have t0 : wo.cell? ⟨w.heap.size, 0, none⟩ = some (.slice a T.length c) := hgr0.cell (World.cell?_alloc_at _ _ _ _ rfl) (by simp)
    by_cases hlt : k < T.length
    · obtain ⟨b, off, ra, rc, rfl, d0, hrow⟩ := (hc.keep0 hgr) k hlt
      have hrl := hr'.out _ (show T.getD k [] ∈ T by rw [List.getD_eq_getElem?_getD, List.getElem?_eq_getElem hlt]; exact List.getElem_mem hlt)
      obtain ⟨r, hr⟩ : ∃ r, r = T.getD k [] := ⟨_, rfl⟩
      rw [← hr] at d0 hrow hrl
      have HR := Lib.hid hr; clear hr
      have hbad : rowCode T.length k r ≠ 0 → Hid (tableCode T = rowCode T.length k r) := by
        intro h
        show _ = _
        rw [hfin.out]
        have := firstCode_at (fun i => rowCode T.length i (T.getD i [])) T.length k hlt HOK.out (by show rowCode _ _ (T.getD k []) ≠ 0; rw [← HR.out]; exact h)
        rw [this]
        show rowCode _ _ (T.getD k []) = _
        rw [← HR.out]
      by_cases hrn : r.length = T.length
      · have hrk : k < r.length := by omega
        obtain ⟨b2, off2, rfl, c0⟩ := hrow k _ (ints_get r k hrk)
        obtain ⟨y, hy⟩ : ∃ y, y = r.getD k 0 := ⟨_, rfl⟩
        rw [← hy] at c0
        have HY := Lib.hid hy; clear hy
        have HBAD := Lib.hid hbad; clear hbad
        have hcode : Hid (rowCode T.length k r = if r.any odd100 = true ∨ y ≠ 0 ∨ 100 < r.sum then 1 else 0) := by
          show _ = _
          unfold rowCode
          rw [if_neg (by omega), ← HY.out]
        have HC : Hid (Calls Try.prog 97 #[.slice (some ⟨b2, off2, none⟩) T.length rc, .func (.func 157) #[] #[]] wo fun e w' => e = .returned (.bool (r.any odd100)) ∧ wo.grownBy w' none) := by
          show Calls _ _ _ _ _
          rw [← hrn]
          exact containsFunc_int 157 odd100 r _ _ wo hrow (by omega) odd_fn (fun x _ w1 _ => (odd_any x w1).mono (by rintro e w2 ⟨rfl, rfl⟩; exact ⟨rfl, gr_refl _ _⟩))
        have HS : Hid (r.any odd100 = false → ∀ w1, wo.grownBy w1 none → Calls Try.prog 112 #[.slice (some ⟨b2, off2, none⟩) T.length rc] w1 fun e w' => e = .returned (.int .i64 r.sum) ∧ w1.grownBy w' none) := by
          show _ → ∀ w1, _ → Calls _ _ _ _ _
          intro hno w1 hg1
          rw [← hrn]
          refine refSum_any r _ _ w1 (hrow.keep0 hg1) (by omega) (fun x hx => ?_)
          rw [List.any_eq_false] at hno
          have := hno x hx
          simp [odd100] at this
          omega
        rw [hrn] at d0 hrk
        have HRN := Lib.hid hrn; clear hrn hrl
        go_wp2_with (fail)
        refine HC.out.mono ?_
        rintro e w1 ⟨rfl, hg1⟩
        have c1 := hg1.cell c0 (by simp)
        have hgr1 := gr_trans hgr hg1
        cases hp : r.any odd100 with
        | true =>
          have h1 : Hid (rowCode T.length k r = 1) := by show _ = _; rw [hcode.out, if_pos (.inl hp)]
          clear hp
          go_wp2_with (fail)
          go_ret
          exact ⟨ret_int (by rw [(HBAD.out (by rw [h1.out]; decide)).out, h1.out]), hgr1⟩
        | false =>
          by_cases hy0 : y = 0
          · subst hy0
            have HP := HS.out hp; clear HS HC
            have hbig : 100 < r.sum → Hid (rowCode T.length k r = 1) := by intro h; show _ = _; rw [hcode.out, if_pos (.inr (.inr h))]
            have hsmall : ¬ 100 < r.sum → Hid (rowCode T.length k r = 0) := by
              intro h; show _ = _; rw [hcode.out, if_neg]
              rintro (h1 | h1 | h1)
              · rw [hp] at h1; cases h1
              · exact h1 rfl
              · exact h h1
            have HBIG := Lib.hid hbig; clear hbig
            have HSM := Lib.hid hsmall; clear hsmall
            clear hp
            go_wp2_with (fail)
            refine (HP w1 hg1).mono ?_
            rintro e w2 ⟨rfl, hg2⟩
            clear HP
            have hgr2 := gr_trans hgr1 hg2
            have hgr02 := gr_trans (gr_trans hgr0 hg1) hg2
            obtain ⟨s, hs⟩ : ∃ s, s = r.sum := ⟨_, rfl⟩
            rw [← hs] at HBIG HSM
            rw [← hs]
            have HSE := Lib.hid hs; clear hs
            by_cases hs100 : 100 < s
            · have h1 := HBIG.out hs100
              clear HBIG HSM
              go_wp2_with (fail)
              go_ret
              exact ⟨ret_int (by rw [(HBAD.out (by rw [h1.out]; decide)).out, h1.out]), hgr2⟩
            · have h1 := HSM.out (by omega)
              clear HBIG HSM
              go_wp2_with (fail)
              go_roundw
              case rel =>
                refine ⟨k + 1, by omega, by go_num, fun j hj => ?_, hgr2, hgr02⟩
                by_cases hjk : j = k
                · subst hjk; rw [← HR.out]; exact h1.out
                · exact HOK.out j (by omega)
              case measure => simp [intOf]; omega
          · have h1 : Hid (rowCode T.length k r = 1) := by show _ = _; rw [hcode.out, if_pos (.inr (.inl hy0))]
            have HP := Lib.hid hp; clear hp
            go_wp2_with (fail)
            go_ret
            exact ⟨ret_int (by rw [(HBAD.out (by rw [h1.out]; decide)).out, h1.out]), hgr1⟩
      · have h3 : Hid (rowCode T.length k r = 3) := by show _ = _; unfold rowCode; rw [if_pos hrn]
        have hb2 := hbad (by rw [h3.out]; decide)
        clear hbad
        go_wp2_with (fail)
        go_ret
        exact ⟨ret_int (by rw [hb2.out, h3.out]), hgr⟩
    · have hkl : k = T.length := by omega
      have hz : Hid (tableCode T = 0) := by show _ = _; rw [hfin.out]; exact firstCode_none _ _ (fun j hj => HOK.out j (by omega))
      have HKL := Lib.hid hkl; clear hkl
      go_wp2_with (fail)
      go_ret
      exact ⟨ret_int (by rw [hz.out]), hgr⟩
end Go.Proofs.Ytlpkancpjdihgaa
