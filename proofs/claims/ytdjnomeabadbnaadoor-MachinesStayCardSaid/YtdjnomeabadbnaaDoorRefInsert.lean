/- coilref.Machine.Insert. -/
import Derived.Test.YtdjnomeabadbnaaDoorRefNew
import Derived.Test.YtdjnomeabadbnaaDoorMach
import Derived.Test.YtdjnomeabadbnaaDoorSameAudit
namespace Go.Proofs.YtdjnomeabadbnaaDoor
open Go.RowKit
attribute [local go_sem ↓] Go.wp_at_zero Go.wp_at_succ

def RefInsPost (c : Cfg) (esc : List Int) (x : Int) (base M : Nat) (tv kv sv ev : Value) (b1 b2 : Nat) (w : World) (e : Ending) (w' : World) : Prop :=
  (∃ r, e = .returned (.int .i64 r) ∧ ((c.takes.any (fun y => x == y) = false ∧ r = 8) ∨ (c.takes.any (fun y => x == y) = true ∧ c.high < esc.sum + x ∧ r = 12)) ∧ w.grownBy w' none) ∨
  (e = .returned (.int .i64 0) ∧ c.takes.any (fun y => x == y) = true ∧ esc.sum + x ≤ c.high ∧
    ∃ ev', RefV w' base M c (esc ++ [x]) tv kv sv ev' b1 b2 ∧ grS w w' (fun k => k = M ∨ ev.ownBlock = some k))
set_option maxRecDepth 100000 in
set_option maxHeartbeats 2000000 in
theorem refInsert_any (c : Cfg) (esc : List Int) (x : Int) (base M : Nat) (tv kv sv ev : Value) (b1 b2 : Nat) (w : World) (h : RefV w base M c esc tv kv sv ev b1 b2) (hsep : ∀ q, kv.ownBlock = some q → ev.ownBlock ≠ some q) (hk : c.takes.length ≤ 1000) (hx0 : 0 ≤ x) (hx1 : x ≤ 1000000) (he : esc.length ≤ 1000) (heb : ∀ y ∈ esc, 0 ≤ y ∧ y ≤ 1000000) :
    Calls Tryd.prog 18 #[.pointer (some ⟨M, 0, none⟩), .int .i64 x] w (RefInsPost c esc x base M tv kv sv ev b1 b2 w) := by
  obtain ⟨ka, kc, rfl, _, _, hkc, _⟩ := own_shape h.k
  obtain ⟨ea, ec, rfl, _, _, hec, _⟩ := own_shape h.e
  have H := Lib.hid h
  have HKC := Lib.hid hkc
  have HEC := Lib.hid hec
  have HEB := Lib.hid heb
  have HSEP := Lib.hid hsep
  have hM := h.blk
  have c1 := blkC hM 1 rfl
  have c3 := blkC hM 3 rfl
  have c5 := blkC hM 5 rfl
  have hsb := sum_bound_all esc 0 1000000 (by decide) (by decide) heb
  have SUM : Hid (∀ m, Calls Tryd.prog 84 #[.slice ea esc.length ec] (w.drewN m) fun e w' => e = .returned (.int .i64 esc.sum) ∧ w' = w.drewN m) := fun m => refSum_same esc ea ec _ (HEC.out.keep0 (gr_drewN (gr_refl _ _) _)) (by omega) (fun y hy => by have := HEB.out y hy; omega)
  clear h hkc hec heb hsep hM
  obtain ⟨S, hS⟩ : ∃ S, S = esc.sum := ⟨_, rfl⟩
  rw [← hS] at hsb SUM
  have HS := Lib.hid hS
  clear hS
  go_enter Tryd.func18, Tryd.ntmps18
  go_wp2_with (fail)
  refine (contains_int ka c.takes kc x w HKC.out (by omega)).mono ?_
  rintro e w1 ⟨rfl, rfl⟩
  cases hp : c.takes.any (fun y => x == y) with
  | false =>
    have HP := Lib.hid hp; clear hp
    go_wp2_with (fail)
    go_ret
    exact .inl ⟨_, rfl, .inl ⟨HP.out, rfl⟩, gr_refl _ _⟩
  | true =>
    have HP := Lib.hid hp; clear hp
    by_cases hf : c.high < S + x
    · go_wp2_with (fail)
      go_quiet ((first | (go_at_call 84; exact Calls.quiet_of_same (SUM.out _))))
      go_wp2_with (fail)
      go_ret
      exact .inl ⟨_, rfl, .inr ⟨HP.out, by rw [← HS.out]; exact hf, rfl⟩, gr_drewN (gr_refl _ _) _⟩
    · go_wp2_with (fail)
      go_quiet ((first | (go_at_call 84; exact Calls.quiet_of_same (SUM.out _))))
      have HF := Lib.hid hf
      go_wp2_with (at_builtin; refine wpList_app1F eInt rfl _ _ rfl base _ esc.length (ints esc) rfl (w.drewN _) #[.int .i64 x] rfl ?_ _ rfl rfl rfl rfl ?_ ?_ ?_; (· exact own_keep0 H.out.e (gr_drewN (gr_refl _ _) _)); (· omega); (· exact Nat.le_of_lt (Nat.lt_of_le_of_lt H.out.low (lt_of_block H.out.blk))); intro v6 w6 hown6 hg6 hlt6 hf6; have hM6 := (hg6.block M (lt_of_block H.out.blk) (fun e => own_ne H.out.e H.out.blk (by decide) e.symm)).trans H.out.blk; have e5 := blkC hM6 5 rfl; have z5 := blkF hM6 5; have HM6 := Lib.hid hM6; clear hM6; obtain ⟨g6, cg6, rfl, _, _, _, _⟩ := own_some hown6 (by omega))
      go_ret
      have gd := gr_drewN (gr_refl w none) nq
      have hst1 := heap_setCell_same w6 M 5 _ _ (.slice (some ⟨g6, 0, none⟩) (esc.length + 1) cg6) HM6.out
      have hgs : w6.grownBy _ (some M) := gr_set (q := ⟨M, 5, none⟩) (gr_refl w6 (some M)) rfl (.slice (some ⟨g6, 0, none⟩) (esc.length + 1) cg6)
      have hM := H.out.blk
      have row : ∀ {e z n : Nat} {v : Value} {l : List Value}, w.ownsRow base e z v n l → (v.ownBlock = none ∨ v.ownBlock ≠ (Value.slice ea esc.length ec).ownBlock) → e ≠ 148 → (w6.setCell ⟨M, 5, none⟩ (.slice (some ⟨g6, 0, none⟩) (esc.length + 1) cg6)).ownsRow base e z v n l := by
        intro e z n v l h he he2
        exact own_keep (own_keep (own_keep0 h gd) hg6 he) hgs (.inr (own_ne h hM he2))
      have off : ∀ {e z n : Nat} {v : Value} {l : List Value}, w.ownsRow base e z v n l → e ≠ 3 → (v.ownBlock = none ∨ v.ownBlock ≠ (Value.slice ea esc.length ec).ownBlock) := by
        intro e z n v l h he
        cases hv : v.ownBlock with
        | none => exact .inl rfl
        | some q => exact .inr (fun e2 => own_apart h H.out.e he hv e2.symm)
      have hkeep : (Value.slice ka c.takes.length kc).ownBlock = none ∨ (Value.slice ka c.takes.length kc).ownBlock ≠ (Value.slice ea esc.length ec).ownBlock := by
        cases hv : (Value.slice ka c.takes.length kc).ownBlock with
        | none => exact .inl rfl
        | some q => exact .inr (fun e2 => HSEP.out q hv e2.symm)
      have mapk : ∀ {b : Nat}, w.heap[b]? = some (.map #[] 0) → (w6.setCell ⟨M, 5, none⟩ (.slice (some ⟨g6, 0, none⟩) (esc.length + 1) cg6)).heap[b]? = some (.map #[] 0) := by
        intro b hb
        have h6 := (hg6.block b (lt_of_block hb) (fun e => by
          obtain ⟨cs, hcs⟩ := own_blk H.out.e e.symm
          rw [hb] at hcs
          cases hcs)).trans hb
        exact (hgs.block b (lt_of_block h6) (fun e => by
          injection e with e
          rw [← e, hb] at hM
          cases hM)).trans h6
      refine .inr ⟨rfl, HP.out, by rw [← HS.out]; omega, _, ⟨hst1, row H.out.t (off H.out.t (by decide)) (by decide), row H.out.k hkeep (by decide), row H.out.s (off H.out.s (by decide)) (by decide), ?_, mapk H.out.m1, mapk H.out.m2, H.out.low⟩, ?_⟩
      · have := own_keep hown6 hgs (.inr (own_ne hown6 HM6.out (by decide)))
        simpa [ints] using this
      · refine grS.next (grS.next (grS.none gd) hg6 (fun k hk => .inl (.inr hk))) hgs (fun k hk => .inl (.inl ?_))
        injection hk with hk
        exact hk.symm
end Go.Proofs.YtdjnomeabadbnaaDoor
