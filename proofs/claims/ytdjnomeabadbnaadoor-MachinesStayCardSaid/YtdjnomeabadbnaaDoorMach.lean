/- A machine and its rows by name; what a step may write; Insert, Back and Collect. -/
import Derived.Test.YtdjnomeabadbnaaDoorVendNew
import Derived.Test.YtdjnomeabadbnaaDoorContains
import Derived.Test.YtdjnomeabadbnaaDoorFindTube
namespace Go.Proofs.YtdjnomeabadbnaaDoor
open Go.RowKit
attribute [local go_sem ↓] Go.wp_at_zero Go.wp_at_succ

structure grS (w w' : World) (S : Nat → Prop) : Prop where
  os : w'.os = w.os
  tape : w'.tape = w.tape
  output : w'.output = w.output
  size : w.heap.size ≤ w'.heap.size
  block : ∀ k, k < w.heap.size → ¬ S k → w'.heap[k]? = w.heap[k]?
theorem grS.of {w w' : World} {S : Nat → Prop} {r : Option Nat} (g : w.grownBy w' r) (h : ∀ k, r = some k → S k) : grS w w' S :=
  ⟨g.os, g.tape, g.output, g.size, fun k hk hs => g.block k hk (fun e => hs (h k e.symm))⟩
theorem grS.none {w w' : World} {S : Nat → Prop} (g : w.grownBy w' none) : grS w w' S := grS.of g (fun _ h => by cases h)
theorem grS.trans {w w1 w2 : World} {S : Nat → Prop} (a : grS w w1 S) (b : grS w1 w2 S) : grS w w2 S :=
  ⟨b.os.trans a.os, b.tape.trans a.tape, b.output.trans a.output, Nat.le_trans a.size b.size, fun k hk hs => (b.block k (Nat.lt_of_lt_of_le hk a.size) hs).trans (a.block k hk hs)⟩
theorem grS.next {w w1 w2 : World} {S : Nat → Prop} {r : Option Nat} (a : grS w w1 S) (b : w1.grownBy w2 r) (h : ∀ k, r = some k → S k ∨ w.heap.size ≤ k) : grS w w2 S :=
  ⟨b.os.trans a.os, b.tape.trans a.tape, b.output.trans a.output, Nat.le_trans a.size b.size, fun k hk hs => (b.block k (Nat.lt_of_lt_of_le hk a.size) (fun e => by rcases h k e.symm with h1 | h1; exact hs h1; omega)).trans (a.block k hk hs)⟩
theorem grS.weak {w w1 : World} {S T : Nat → Prop} (a : grS w w1 S) (h : ∀ k, S k → T k) : grS w w1 T := ⟨a.os, a.tape, a.output, a.size, fun k hk hs => a.block k hk (fun e => hs (h k e))⟩
theorem grS.own {w w1 : World} {S : Nat → Prop} {base e size n : Nat} {v : Value} {xs : List Value} (h : w.ownsRow base e size v n xs) (g : grS w w1 S) (hr : ∀ k, v.ownBlock = some k → ¬ S k) : w1.ownsRow base e size v n xs := by
  refine ⟨h.1, ?_⟩
  rcases h.2 with h2 | ⟨q, cap, cur, rfl, hb, hg, r⟩
  · exact .inl h2
  · exact .inr ⟨q, cap, cur, rfl, hb, (g.block q (lt_of_block hg) (hr q rfl)).trans hg, r⟩

theorem mb0 {w : World} {M t : Nat} {tv kv sv jv ev dv : Value} {hi i o f c b cr : Int} (h : w.heap[M]? = some (.cells #[tv, kv, sv, .int .i64 hi, jv, ev, dv, .int .i64 i, .int .i64 o, .int .i64 f, .int .i64 c, .int .i64 b, .int .i64 cr, .slice none 0 0] t (0, 0))) : w.cell? ⟨M, 0, none⟩ = some (tv) ∧ w.frozen? ⟨M, 0, none⟩ = false := ⟨blkC h 0 rfl, blkF h 0⟩
theorem mb1 {w : World} {M t : Nat} {tv kv sv jv ev dv : Value} {hi i o f c b cr : Int} (h : w.heap[M]? = some (.cells #[tv, kv, sv, .int .i64 hi, jv, ev, dv, .int .i64 i, .int .i64 o, .int .i64 f, .int .i64 c, .int .i64 b, .int .i64 cr, .slice none 0 0] t (0, 0))) : w.cell? ⟨M, 1, none⟩ = some (kv) ∧ w.frozen? ⟨M, 1, none⟩ = false := ⟨blkC h 1 rfl, blkF h 1⟩
theorem mb2 {w : World} {M t : Nat} {tv kv sv jv ev dv : Value} {hi i o f c b cr : Int} (h : w.heap[M]? = some (.cells #[tv, kv, sv, .int .i64 hi, jv, ev, dv, .int .i64 i, .int .i64 o, .int .i64 f, .int .i64 c, .int .i64 b, .int .i64 cr, .slice none 0 0] t (0, 0))) : w.cell? ⟨M, 2, none⟩ = some (sv) ∧ w.frozen? ⟨M, 2, none⟩ = false := ⟨blkC h 2 rfl, blkF h 2⟩
theorem mb3 {w : World} {M t : Nat} {tv kv sv jv ev dv : Value} {hi i o f c b cr : Int} (h : w.heap[M]? = some (.cells #[tv, kv, sv, .int .i64 hi, jv, ev, dv, .int .i64 i, .int .i64 o, .int .i64 f, .int .i64 c, .int .i64 b, .int .i64 cr, .slice none 0 0] t (0, 0))) : w.cell? ⟨M, 3, none⟩ = some (.int .i64 hi) ∧ w.frozen? ⟨M, 3, none⟩ = false := ⟨blkC h 3 rfl, blkF h 3⟩
theorem mb4 {w : World} {M t : Nat} {tv kv sv jv ev dv : Value} {hi i o f c b cr : Int} (h : w.heap[M]? = some (.cells #[tv, kv, sv, .int .i64 hi, jv, ev, dv, .int .i64 i, .int .i64 o, .int .i64 f, .int .i64 c, .int .i64 b, .int .i64 cr, .slice none 0 0] t (0, 0))) : w.cell? ⟨M, 4, none⟩ = some (jv) ∧ w.frozen? ⟨M, 4, none⟩ = false := ⟨blkC h 4 rfl, blkF h 4⟩
theorem mb5 {w : World} {M t : Nat} {tv kv sv jv ev dv : Value} {hi i o f c b cr : Int} (h : w.heap[M]? = some (.cells #[tv, kv, sv, .int .i64 hi, jv, ev, dv, .int .i64 i, .int .i64 o, .int .i64 f, .int .i64 c, .int .i64 b, .int .i64 cr, .slice none 0 0] t (0, 0))) : w.cell? ⟨M, 5, none⟩ = some (ev) ∧ w.frozen? ⟨M, 5, none⟩ = false := ⟨blkC h 5 rfl, blkF h 5⟩
theorem mb6 {w : World} {M t : Nat} {tv kv sv jv ev dv : Value} {hi i o f c b cr : Int} (h : w.heap[M]? = some (.cells #[tv, kv, sv, .int .i64 hi, jv, ev, dv, .int .i64 i, .int .i64 o, .int .i64 f, .int .i64 c, .int .i64 b, .int .i64 cr, .slice none 0 0] t (0, 0))) : w.cell? ⟨M, 6, none⟩ = some (dv) ∧ w.frozen? ⟨M, 6, none⟩ = false := ⟨blkC h 6 rfl, blkF h 6⟩
theorem mb7 {w : World} {M t : Nat} {tv kv sv jv ev dv : Value} {hi i o f c b cr : Int} (h : w.heap[M]? = some (.cells #[tv, kv, sv, .int .i64 hi, jv, ev, dv, .int .i64 i, .int .i64 o, .int .i64 f, .int .i64 c, .int .i64 b, .int .i64 cr, .slice none 0 0] t (0, 0))) : w.cell? ⟨M, 7, none⟩ = some (.int .i64 i) ∧ w.frozen? ⟨M, 7, none⟩ = false := ⟨blkC h 7 rfl, blkF h 7⟩
theorem mb8 {w : World} {M t : Nat} {tv kv sv jv ev dv : Value} {hi i o f c b cr : Int} (h : w.heap[M]? = some (.cells #[tv, kv, sv, .int .i64 hi, jv, ev, dv, .int .i64 i, .int .i64 o, .int .i64 f, .int .i64 c, .int .i64 b, .int .i64 cr, .slice none 0 0] t (0, 0))) : w.cell? ⟨M, 8, none⟩ = some (.int .i64 o) ∧ w.frozen? ⟨M, 8, none⟩ = false := ⟨blkC h 8 rfl, blkF h 8⟩
theorem mb9 {w : World} {M t : Nat} {tv kv sv jv ev dv : Value} {hi i o f c b cr : Int} (h : w.heap[M]? = some (.cells #[tv, kv, sv, .int .i64 hi, jv, ev, dv, .int .i64 i, .int .i64 o, .int .i64 f, .int .i64 c, .int .i64 b, .int .i64 cr, .slice none 0 0] t (0, 0))) : w.cell? ⟨M, 9, none⟩ = some (.int .i64 f) ∧ w.frozen? ⟨M, 9, none⟩ = false := ⟨blkC h 9 rfl, blkF h 9⟩
theorem mb10 {w : World} {M t : Nat} {tv kv sv jv ev dv : Value} {hi i o f c b cr : Int} (h : w.heap[M]? = some (.cells #[tv, kv, sv, .int .i64 hi, jv, ev, dv, .int .i64 i, .int .i64 o, .int .i64 f, .int .i64 c, .int .i64 b, .int .i64 cr, .slice none 0 0] t (0, 0))) : w.cell? ⟨M, 10, none⟩ = some (.int .i64 c) ∧ w.frozen? ⟨M, 10, none⟩ = false := ⟨blkC h 10 rfl, blkF h 10⟩
theorem mb11 {w : World} {M t : Nat} {tv kv sv jv ev dv : Value} {hi i o f c b cr : Int} (h : w.heap[M]? = some (.cells #[tv, kv, sv, .int .i64 hi, jv, ev, dv, .int .i64 i, .int .i64 o, .int .i64 f, .int .i64 c, .int .i64 b, .int .i64 cr, .slice none 0 0] t (0, 0))) : w.cell? ⟨M, 11, none⟩ = some (.int .i64 b) ∧ w.frozen? ⟨M, 11, none⟩ = false := ⟨blkC h 11 rfl, blkF h 11⟩
theorem mb12 {w : World} {M t : Nat} {tv kv sv jv ev dv : Value} {hi i o f c b cr : Int} (h : w.heap[M]? = some (.cells #[tv, kv, sv, .int .i64 hi, jv, ev, dv, .int .i64 i, .int .i64 o, .int .i64 f, .int .i64 c, .int .i64 b, .int .i64 cr, .slice none 0 0] t (0, 0))) : w.cell? ⟨M, 12, none⟩ = some (.int .i64 cr) ∧ w.frozen? ⟨M, 12, none⟩ = false := ⟨blkC h 12 rfl, blkF h 12⟩
theorem mb13 {w : World} {M t : Nat} {tv kv sv jv ev dv : Value} {hi i o f c b cr : Int} (h : w.heap[M]? = some (.cells #[tv, kv, sv, .int .i64 hi, jv, ev, dv, .int .i64 i, .int .i64 o, .int .i64 f, .int .i64 c, .int .i64 b, .int .i64 cr, .slice none 0 0] t (0, 0))) : w.cell? ⟨M, 13, none⟩ = some (.slice none 0 0) ∧ w.frozen? ⟨M, 13, none⟩ = false := ⟨blkC h 13 rfl, blkF h 13⟩

structure MachV (w : World) (base M : Nat) (m : Mach) (tv kv sv jv ev dv : Value) : Prop where
  blk : w.heap[M]? = some (.cells #[tv, kv, sv, .int .i64 m.high, jv, ev, dv, .int .i64 m.inn, .int .i64 m.out, .int .i64 m.filled, .int .i64 m.collected, .int .i64 m.box, .int .i64 m.credit, .slice none 0 0] 139 (0, 0))
  t : w.ownsRow base 41 3 tv m.tubes.length (tubes m.tubes)
  k : w.ownsRow base 3 1 kv m.takes.length (ints m.takes)
  s : w.ownsRow base 43 5 sv m.slots.length (flat encSlot m.slots)
  j : w.ownsRow base 4 1 jv m.jam.length (bools m.jam)
  e : w.ownsRow base 3 1 ev m.esc.length (ints m.esc)
  d : w.ownsRow base 79 3 dv m.sold.length (flat encTally m.sold)
  sep : ∀ q, kv.ownBlock = some q → ev.ownBlock ≠ some q
  low : base ≤ M
theorem MachAt.v {w : World} {base M : Nat} {m : Mach} (h : MachAt w base M m) (hb : base ≤ M) : ∃ tv kv sv jv ev dv, MachV w base M m tv kv sv jv ev dv := by
  obtain ⟨tv, kv, sv, jv, ev, dv, hb', h1, h2, h3, h4, h5, h6, h7⟩ := h.ex
  exact ⟨tv, kv, sv, jv, ev, dv, hb', h1, h2, h3, h4, h5, h6, h7, hb⟩
theorem own_blk {w : World} {base e size n : Nat} {v : Value} {xs : List Value} (h : w.ownsRow base e size v n xs) {z : Nat} (hz : v.ownBlock = some z) : ∃ cs, w.heap[z]? = some (.cells cs e (0, 0)) := by
  rcases h.2 with ⟨rfl, _⟩ | ⟨g, cap, cur, rfl, hb, hg, r⟩
  · simp [Value.ownBlock] at hz
  · simp only [Value.ownBlock, Option.some.injEq] at hz
    exact ⟨cur, hz ▸ hg⟩
theorem own_apart {w : World} {base e size n base' e' size' n' : Nat} {v v' : Value} {xs xs' : List Value} (h : w.ownsRow base e size v n xs) (h' : w.ownsRow base' e' size' v' n' xs') (hne : e ≠ e') {z : Nat} (hz : v.ownBlock = some z) : v'.ownBlock ≠ some z := by
  obtain ⟨cs, hc⟩ := own_blk h hz
  exact own_ne h' hc (fun e => hne e.symm)
theorem MachV.keep0 {w w1 : World} {base M : Nat} {m : Mach} {tv kv sv jv ev dv : Value} (h : MachV w base M m tv kv sv jv ev dv) (g : w.grownBy w1 none) : MachV w1 base M m tv kv sv jv ev dv :=
  ⟨(g.block M (lt_of_block h.blk) (by simp)).trans h.blk, own_keep0 h.t g, own_keep0 h.k g, own_keep0 h.s g, own_keep0 h.j g, own_keep0 h.e g, own_keep0 h.d g, h.sep, h.low⟩
/-- The machine's own block was written, and nothing else of it. -/
theorem MachV.own {w w1 : World} {base M : Nat} {m : Mach} {tv kv sv jv ev dv : Value} (h : MachV w base M m tv kv sv jv ev dv) (g : w.grownBy w1 (some M)) {hi i o f c b cr : Int}
    (hb : w1.heap[M]? = some (.cells #[tv, kv, sv, .int .i64 hi, jv, ev, dv, .int .i64 i, .int .i64 o, .int .i64 f, .int .i64 c, .int .i64 b, .int .i64 cr, .slice none 0 0] 139 (0, 0))) :
    MachV w1 base M { m with high := hi, inn := i, out := o, filled := f, collected := c, box := b, credit := cr } tv kv sv jv ev dv :=
  ⟨hb, own_keep h.t g (.inr (own_ne h.t h.blk (by decide))), own_keep h.k g (.inr (own_ne h.k h.blk (by decide))), own_keep h.s g (.inr (own_ne h.s h.blk (by decide))), own_keep h.j g (.inr (own_ne h.j h.blk (by decide))), own_keep h.e g (.inr (own_ne h.e h.blk (by decide))), own_keep h.d g (.inr (own_ne h.d h.blk (by decide))), h.sep, h.low⟩
/-- What an operation of a machine may write. -/
def MachW (M : Nat) (tv sv ev dv : Value) (k : Nat) : Prop := k = M ∨ tv.ownBlock = some k ∨ sv.ownBlock = some k ∨ ev.ownBlock = some k ∨ dv.ownBlock = some k

def MInsPost (m : Mach) (x : Int) (base M : Nat) (tv kv sv jv ev dv : Value) (w : World) (e : Ending) (w' : World) : Prop :=
  (∃ r, e = .returned (.int .i64 r) ∧ ((m.takes.any (fun y => x == y) = false ∧ r = 8) ∨ (m.takes.any (fun y => x == y) = true ∧ m.high < m.credit + x ∧ r = 12)) ∧ w.grownBy w' none) ∨
  (e = .returned (.int .i64 0) ∧ m.takes.any (fun y => x == y) = true ∧ m.credit + x ≤ m.high ∧
    ∃ ev', MachV w' base M { m with esc := m.esc ++ [x], credit := m.credit + x } tv kv sv jv ev' dv ∧ grS w w' (MachW M tv sv ev dv) ∧ (∀ k, ev'.ownBlock = some k → ev.ownBlock = some k ∨ w.heap.size ≤ k))
set_option maxRecDepth 100000 in
set_option maxHeartbeats 2000000 in
theorem insert_any (m : Mach) (x : Int) (base M : Nat) (tv kv sv jv ev dv : Value) (w : World) (h : MachV w base M m tv kv sv jv ev dv) (hk : m.takes.length ≤ 1000) (hx0 : 0 ≤ x) (hx1 : x ≤ 1000000) (hc0 : 0 ≤ m.credit) (hc1 : m.credit ≤ 1000000000) (he : m.esc.length ≤ 1000000) :
    Calls Tryd.prog 17 #[.pointer (some ⟨M, 0, none⟩), .int .i64 x] w (MInsPost m x base M tv kv sv jv ev dv w) := by
  obtain ⟨ka, kc, rfl, _, _, hkc, _⟩ := own_shape h.k
  have H := Lib.hid h
  obtain ⟨c1, _⟩ := mb1 h.blk
  obtain ⟨c3, _⟩ := mb3 h.blk
  obtain ⟨c5, _⟩ := mb5 h.blk
  obtain ⟨c12, _⟩ := mb12 h.blk
  clear h
  go_enter Tryd.func17, Tryd.ntmps17
  go_wp2_with (fail)
  refine (contains_int ka m.takes kc x w hkc (by omega)).mono ?_
  rintro e w1 ⟨rfl, rfl⟩
  clear hkc
  cases hp : m.takes.any (fun y => x == y) with
  | false =>
    have HP := Lib.hid hp; clear hp
    go_wp2_with (fail)
    go_ret
    exact .inl ⟨_, rfl, .inl ⟨HP.out, rfl⟩, gr_refl _ _⟩
  | true =>
    have HP := Lib.hid hp; clear hp
    by_cases hf : m.high < m.credit + x
    · go_wp2_with (fail)
      go_quiet (fail)
      go_wp2_with (fail)
      go_ret
      exact .inl ⟨_, rfl, .inr ⟨HP.out, hf, rfl⟩, gr_drewN (gr_refl _ _) _⟩
    · go_wp2_with (fail)
      go_quiet (fail)
      have HF := Lib.hid hf
      go_wp2_with (at_builtin; refine wpList_app1F eInt rfl _ _ rfl base ev m.esc.length (ints m.esc) rfl (w.drewN _) #[.int .i64 x] rfl ?_ _ rfl rfl rfl rfl ?_ ?_ ?_; (· exact own_keep0 H.out.e (gr_drewN (gr_refl _ _) _)); (· omega); (· exact Nat.le_of_lt (Nat.lt_of_le_of_lt H.out.low (lt_of_block H.out.blk))); intro v6 w6 hown6 hg6 hlt6 hf6; have hM6 := (hg6.block M (lt_of_block H.out.blk) (fun e => own_ne H.out.e H.out.blk (by decide) e.symm)).trans H.out.blk; obtain ⟨e5, z5⟩ := mb5 hM6; obtain ⟨e12, z12⟩ := mb12 hM6; have HM6 := Lib.hid hM6; clear hM6; obtain ⟨g6, cg6, rfl, _, _, _, _⟩ := own_some hown6 (by omega))
      go_ret
      have gd := gr_drewN (gr_refl w none) nq
      have hE := own_keep0 H.out.e gd
      have hM := H.out.blk
      have hst1 := heap_setCell_same w6 M 5 _ _ (.slice (some ⟨g6, 0, none⟩) (m.esc.length + 1) cg6) HM6.out
      have hst2 := heap_setCell_same _ M 12 _ _ (.int .i64 (m.credit + x)) hst1
      have hgs : w6.grownBy _ (some M) := gr_set (q := ⟨M, 12, none⟩) (gr_set (q := ⟨M, 5, none⟩) (gr_refl w6 (some M)) rfl (.slice (some ⟨g6, 0, none⟩) (m.esc.length + 1) cg6)) rfl (.int .i64 (m.credit + x))
      have row : ∀ {e z n : Nat} {v : Value} {l : List Value}, w.ownsRow base e z v n l → (v.ownBlock = none ∨ v.ownBlock ≠ ev.ownBlock) → e ≠ 139 → ((w6.setCell ⟨M, 5, none⟩ (.slice (some ⟨g6, 0, none⟩) (m.esc.length + 1) cg6)).setCell ⟨M, 12, none⟩ (.int .i64 (m.credit + x))).ownsRow base e z v n l := by
        intro e z n v l h he he2
        exact own_keep (own_keep (own_keep0 h gd) hg6 he) hgs (.inr (own_ne h hM he2))
      have off : ∀ {e z n : Nat} {v : Value} {l : List Value}, w.ownsRow base e z v n l → e ≠ 3 → (v.ownBlock = none ∨ v.ownBlock ≠ ev.ownBlock) := by
        intro e z n v l h he
        cases hv : v.ownBlock with
        | none => exact .inl rfl
        | some q => exact .inr (fun e2 => own_apart h H.out.e he hv e2.symm)
      have hkeep : (Value.slice ka m.takes.length kc).ownBlock = none ∨ (Value.slice ka m.takes.length kc).ownBlock ≠ ev.ownBlock := by
        cases hv : (Value.slice ka m.takes.length kc).ownBlock with
        | none => exact .inl rfl
        | some q => exact .inr (fun e2 => H.out.sep q hv e2.symm)
      refine .inr ⟨rfl, HP.out, hf, _, ⟨hst2, row H.out.t (off H.out.t (by decide)) (by decide), row H.out.k hkeep (by decide), row H.out.s (off H.out.s (by decide)) (by decide), row H.out.j (off H.out.j (by decide)) (by decide), ?_, row H.out.d (off H.out.d (by decide)) (by decide), ?_, H.out.low⟩, ?_, hf6⟩
      · have := own_keep hown6 hgs (.inr (own_ne hown6 HM6.out (by decide)))
        simpa [ints] using this
      · intro q hq hq2
        rcases hf6 q hq2 with h1 | h1
        · exact H.out.sep q hq h1
        · obtain ⟨cs, hcs⟩ := own_blk H.out.k hq
          have := lt_of_block hcs
          exact absurd h1 (by simp only [World.heap_drewN]; omega)
      · refine grS.next (grS.next (grS.none gd) hg6 (fun k hk => .inl ?_)) hgs (fun k hk => .inl ?_)
        · exact .inr (.inr (.inr (.inl hk)))
        · injection hk with hk
          exact .inl hk.symm
def BackPost (m : Mach) (base M : Nat) (tv kv sv jv ev dv : Value) (w : World) (e : Ending) (w' : World) : Prop :=
  e = .returned ev ∧ MachV w' base M { m with esc := [], credit := 0 } tv kv sv jv (.slice none 0 0) dv ∧ w.grownBy w' (some M)
set_option maxRecDepth 100000 in
set_option maxHeartbeats 2000000 in
theorem back_any (m : Mach) (base M : Nat) (tv kv sv jv ev dv : Value) (w : World) (h : MachV w base M m tv kv sv jv ev dv) :
    Calls Tryd.prog 32 #[.pointer (some ⟨M, 0, none⟩)] w (BackPost m base M tv kv sv jv ev dv w) := by
  obtain ⟨c5, z5⟩ := mb5 h.blk
  obtain ⟨c12, z12⟩ := mb12 h.blk
  obtain ⟨ea, ec, rfl, _, _, _, _⟩ := own_shape h.e
  have H := Lib.hid h
  clear h
  go_enter Tryd.func32, Tryd.ntmps32
  go_wp2_with (fail)
  go_ret
  have hst1 := heap_setCell_same w M 5 _ _ (.slice none 0 0) H.out.blk
  have hst2 := heap_setCell_same _ M 12 _ _ (.int .i64 0) hst1
  have hgs : w.grownBy _ (some M) := gr_set (q := ⟨M, 12, none⟩) (gr_set (q := ⟨M, 5, none⟩) (gr_refl w (some M)) rfl (.slice none 0 0)) rfl (.int .i64 0)
  have hM := H.out.blk
  exact ⟨rfl, ⟨hst2, own_keep H.out.t hgs (.inr (own_ne H.out.t hM (by decide))), own_keep H.out.k hgs (.inr (own_ne H.out.k hM (by decide))), own_keep H.out.s hgs (.inr (own_ne H.out.s hM (by decide))), own_keep H.out.j hgs (.inr (own_ne H.out.j hM (by decide))), World.ownsRow_nil _ _ _ _, own_keep H.out.d hgs (.inr (own_ne H.out.d hM (by decide))), fun _ _ => by simp [Value.ownBlock], H.out.low⟩, hgs⟩
def CollectPost (m : Mach) (base M : Nat) (tv kv sv jv ev dv : Value) (w : World) (e : Ending) (w' : World) : Prop :=
  e = .returned (.int .i64 m.box) ∧ MachV w' base M { m with box := 0, collected := m.collected + m.box } tv kv sv jv ev dv ∧ w.grownBy w' (some M)
set_option maxRecDepth 100000 in
set_option maxHeartbeats 2000000 in
theorem collect_any (m : Mach) (base M : Nat) (tv kv sv jv ev dv : Value) (w : World) (h : MachV w base M m tv kv sv jv ev dv) (hb0 : 0 ≤ m.box) (hb1 : m.box ≤ 1000000000000000) (hc0 : 0 ≤ m.collected) (hc1 : m.collected ≤ 1000000000000000) :
    Calls Tryd.prog 35 #[.pointer (some ⟨M, 0, none⟩)] w (CollectPost m base M tv kv sv jv ev dv w) := by
  obtain ⟨c10, z10⟩ := mb10 h.blk
  obtain ⟨c11, z11⟩ := mb11 h.blk
  have H := Lib.hid h
  clear h
  go_enter Tryd.func35, Tryd.ntmps35
  go_wp2_with (fail)
  go_ret
  have hst1 := heap_setCell_same w M 11 _ _ (.int .i64 0) H.out.blk
  have hst2 := heap_setCell_same _ M 10 _ _ (.int .i64 (m.collected + m.box)) hst1
  have hgs : w.grownBy _ (some M) := gr_set (q := ⟨M, 10, none⟩) (gr_set (q := ⟨M, 11, none⟩) (gr_refl w (some M)) rfl (.int .i64 0)) rfl (.int .i64 (m.collected + m.box))
  exact ⟨rfl, H.out.own hgs hst2, hgs⟩
theorem machine_tube1_fn : ∀ (args : Array Value) (w : World), (callFunc 149 args).run Tryd.prog w = .ok (.enter 149 args) w := fun _ _ => by kernel_rfl
set_option maxRecDepth 100000 in
theorem machine_tube1_any (t : Tube) (x : Int) (q : Nat) (w : World) (hq : w.cell? ⟨q, 0, none⟩ = some (.int .i64 x)) :
    Calls Tryd.prog 149 #[.agg #[.int .i64 t.value, .int .i64 t.count, .int .i64 t.most], .pointer (some ⟨q, 0, none⟩)] w fun e w' => e = .returned (.bool (t.value == x)) ∧ w.grownBy w' none := by
  have hqlt := lt_of_cell hq
  go_enter Tryd.func149, Tryd.ntmps149
  go_wp2_with (fail)
  go_ret
  exact ⟨rfl, gr_alloc (gr_refl w none) _⟩
set_option maxRecDepth 100000 in
set_option maxHeartbeats 2000000 in
theorem tube_any (m : Mach) (x : Int) (base M : Nat) (tv kv sv jv ev dv : Value) (w : World) (h : MachV w base M m tv kv sv jv ev dv) (ht : m.tubes.length ≤ 1000) :
    Calls Tryd.prog 98 #[.pointer (some ⟨M, 0, none⟩), .int .i64 x] w fun e w' => e = .returned (.int .i64 (findA (fun t : Tube => t.value == x) m.tubes)) ∧ w.grownBy w' none := by
  obtain ⟨c0, z0⟩ := mb0 h.blk
  obtain ⟨ta, tc, rfl, _, _, hc, _⟩ := own_shape h.t
  have hl := lt_of_block h.blk
  have H := Lib.hid h
  clear h
  go_enter Tryd.func98, Tryd.ntmps98
  go_wp2_with (fail)
  have hg1 := gr_alloc (gr_refl w none) (.cells #[.int .i64 x] 3)
  refine (indexFunc_tube _ w.heap.size (fun t : Tube => t.value == x) m.tubes ta tc _ (hc.keep0 hg1) (by omega) machine_tube1_fn ?_).mono ?_
  · intro t _ w1 hg
    refine (machine_tube1_any t x w.heap.size w1 ((gr_cell hg (by simp)).trans (by rw [World.cell?_alloc_at _ _ _ _ rfl]; rfl)))
  rintro e w2 ⟨rfl, hg2⟩
  go_wp2_with (fail)
  go_ret
  exact ⟨rfl, gr_trans hg1 hg2⟩
theorem machine_slot1_fn : ∀ (args : Array Value) (w : World), (callFunc 146 args).run Tryd.prog w = .ok (.enter 146 args) w := fun _ _ => by kernel_rfl
set_option maxRecDepth 100000 in
theorem machine_slot1_any (t : Slot) (x : ByteArray) (q : Nat) (w : World) (hq : w.cell? ⟨q, 0, none⟩ = some (.string x)) :
    Calls Tryd.prog 146 #[.agg #[.string t.key, .string t.prod, .int .i64 t.price, .int .i64 t.most, .int .i64 t.count], .pointer (some ⟨q, 0, none⟩)] w fun e w' => e = .returned (.bool (t.key.toList == x.toList)) ∧ w.grownBy w' none := by
  have hqlt := lt_of_cell hq
  go_enter Tryd.func146, Tryd.ntmps146
  go_wp2_with (fail)
  go_ret
  exact ⟨rfl, gr_alloc (gr_refl w none) _⟩
set_option maxRecDepth 100000 in
set_option maxHeartbeats 2000000 in
theorem slot_any (m : Mach) (x : ByteArray) (base M : Nat) (tv kv sv jv ev dv : Value) (w : World) (h : MachV w base M m tv kv sv jv ev dv) (ht : m.slots.length ≤ 1000) :
    Calls Tryd.prog 95 #[.pointer (some ⟨M, 0, none⟩), .string x] w fun e w' => e = .returned (.int .i64 (findA (fun t : Slot => t.key.toList == x.toList) m.slots)) ∧ w.grownBy w' none := by
  obtain ⟨c2, z2⟩ := mb2 h.blk
  obtain ⟨sa, sc, rfl, _, _, hc, _⟩ := own_shape h.s
  have hl := lt_of_block h.blk
  have H := Lib.hid h
  clear h
  go_enter Tryd.func95, Tryd.ntmps95
  go_wp2_with (fail)
  have hg1 := gr_alloc (gr_refl w none) (.cells #[.string x] 9)
  refine (indexFunc_slot _ w.heap.size (fun t : Slot => t.key.toList == x.toList) m.slots sa sc _ (hc.keep0 hg1) (by omega) machine_slot1_fn ?_).mono ?_
  · intro t _ w1 hg
    refine (machine_slot1_any t x w.heap.size w1 ((gr_cell hg (by simp)).trans (by rw [World.cell?_alloc_at _ _ _ _ rfl]; rfl)))
  rintro e w2 ⟨rfl, hg2⟩
  go_wp2_with (fail)
  go_ret
  exact ⟨rfl, gr_trans hg1 hg2⟩

/-! Machine.Fill. -/
attribute [local go_sem ↓] Go.wp_at_zero Go.wp_at_succ

theorem findA_or {α : Type} (P : α → Bool) (xs : List α) : findA P xs = -1 ∨ ∃ (k : Nat) (hk : k < xs.length), findA P xs = k ∧ P xs[k] = true := by
  by_cases h : xs.findIdx P < xs.length
  · exact .inr ⟨xs.findIdx P, h, by simp [findA, h], List.findIdx_getElem⟩
  · exact .inl (by simp [findA, h])
theorem tubeAt_get {l : List Tube} {k : Nat} (h : k < l.length) : tubeAt l k = l[k] := getD_eq l k _ h
def addTo (l : List Tube) (k : Nat) (n : Int) : List Tube := l.set k ⟨(tubeAt l k).value, (tubeAt l k).count + n, (tubeAt l k).most⟩
theorem addTo_tubes {l : List Tube} {k : Nat} (hk : k < l.length) (n : Int) : (tubes l).set (k * 3 + 1) (.int .i64 ((tubeAt l k).count + n)) = tubes (addTo l k n) := by
  unfold addTo
  refine flat_set encTube_len _ k hk 1 (by omega) _ _ ?_
  rw [tubeAt_get hk]
  rfl
/-- The tubes' counts were written in their row. -/
theorem MachV.tubed {w w1 : World} {base M : Nat} {m : Mach} {tv kv sv jv ev dv : Value} (h : MachV w base M m tv kv sv jv ev dv) (l : List Tube) {n : Nat} (hl : l.length = n) (g : w.grownBy w1 tv.ownBlock) (ho : w1.ownsRow base 41 3 tv n (tubes l)) :
    MachV w1 base M { m with tubes := l } tv kv sv jv ev dv := by
  have off : ∀ {e z n : Nat} {v : Value} {xs : List Value}, w.ownsRow base e z v n xs → e ≠ 41 → w1.ownsRow base e z v n xs := by
    intro e z n v xs hh he
    exact own_keepU hh h.t he g
  exact ⟨(g.block M (lt_of_block h.blk) (fun e => own_ne h.t h.blk (by decide) e.symm)).trans h.blk, by rw [hl]; exact ho, off h.k (by decide), off h.s (by decide), off h.j (by decide), off h.e (by decide), off h.d (by decide), h.sep, h.low⟩
/-- A cell of an element of an owned row: what it holds, that it may be written, and the row behind that. -/
theorem own_cellE {α : Type} {enc : α → List Value} {m : Nat} (hm : ∀ a, (enc a).length = m) {w : World} {base e n cap g : Nat} {l : List α} (h : w.ownsRow base e m (.slice (some ⟨g, 0, none⟩) n cap) n (flat enc l)) (k : Nat) (hk : k < l.length) (j : Nat) (hj : j < m) (v : Value) (hv : (enc l[k])[j]? = some v) (hn : l.length = n) :
    w.cell? ⟨g, k * m + j, none⟩ = some v ∧ w.frozen? ⟨g, k * m + j, none⟩ = false ∧ ∀ u x, (enc l[k]).set j u = enc x → (w.setCell ⟨g, k * m + j, none⟩ u).ownsRow base e m (.slice (some ⟨g, 0, none⟩) n cap) n (flat enc (l.set k x)) := by
  have hlt : k * m + j < n * m := by
    have : (k + 1) * m ≤ n * m := Nat.mul_le_mul_right m (by omega)
    rw [Nat.add_mul] at this
    omega
  refine ⟨by rw [h.cellAt (k * m + j) hlt, flat_get hm _ k hk j hj]; exact hv, h.frozenAt _, fun u x hx => ?_⟩
  rw [← flat_set hm l k hk j hj u x hx]
  exact (h.stored _ _).1
def FillPost (m : Mach) (x n : Int) (base M : Nat) (tv kv sv jv ev dv : Value) (w : World) (e : Ending) (w' : World) : Prop :=
  (∃ r, e = .returned (.int .i64 r) ∧ r ≠ 0 ∧ w.grownBy w' none) ∨
  (e = .returned (.int .i64 0) ∧ 1 ≤ n ∧ ∃ k, k < m.tubes.length ∧ (tubeAt m.tubes k).value = x ∧ n ≤ (tubeAt m.tubes k).most - (tubeAt m.tubes k).count ∧
    MachV w' base M { m with tubes := addTo m.tubes k n, filled := m.filled + n * x } tv kv sv jv ev dv ∧ grS w w' (MachW M tv sv ev dv))
set_option maxRecDepth 100000 in
set_option maxHeartbeats 2000000 in
theorem fill_any (m : Mach) (x n : Int) (base M : Nat) (tv kv sv jv ev dv : Value) (w : World) (h : MachV w base M m tv kv sv jv ev dv) (ht : OkTubes m.tubes) (hx0 : 0 ≤ x) (hx1 : x ≤ 1000000) (hn0 : -1000000 ≤ n) (hn1 : n ≤ 1000000) (hf0 : 0 ≤ m.filled) (hf1 : m.filled ≤ 1000000000000000) :
    Calls Tryd.prog 34 #[.pointer (some ⟨M, 0, none⟩), .int .i64 x, .int .i64 n] w (FillPost m x n base M tv kv sv jv ev dv w) := by
  have htl := ht.len
  have H := Lib.hid h
  clear h
  go_enter Tryd.func34, Tryd.ntmps34
  go_wp2_with (fail)
  refine (tube_any m x base M tv kv sv jv ev dv w H.out (by omega)).mono ?_
  rintro e w1 ⟨rfl, hg1⟩
  rcases findA_or (fun t : Tube => t.value == x) m.tubes with hk | ⟨k, hk, hf, hp⟩
  · rw [hk]
    clear hk
    go_wp2_with (fail)
    go_ret
    exact .inl ⟨_, rfl, by decide, hg1⟩
  · rw [hf]
    clear hf
    rw [← tubeAt_get hk] at hp
    have hp : (tubeAt m.tubes k).value = x := by simpa using hp
    have HP := Lib.hid hp
    clear hp
    have ok := ht.ok k hk
    have t1 := ok.c0
    have t2 := ok.c1
    have t3 := ok.m1
    clear ok
    by_cases hn : n < 1
    · go_wp2_with (fail)
      go_ret
      exact .inl ⟨_, rfl, by decide, hg1⟩
    · have h1 := H.out.keep0 hg1
      have H1 := Lib.hid h1
      clear h1
      obtain ⟨g, cap, rfl, hgb, hgw, hgc, hgm⟩ := own_some H1.out.t (by omega)
      obtain ⟨c0, z0⟩ := mb0 H1.out.blk
      obtain ⟨c9, z9⟩ := mb9 H1.out.blk
      have hM1 := H1.out.blk
      have hMg : M ≠ g := fun e => own_ne H1.out.t hM1 (by decide) (by rw [e]; rfl)
      obtain ⟨d1, f1, st1⟩ := own_cellE encTube_len H1.out.t k hk 1 (by decide) (.int .i64 (tubeAt m.tubes k).count) (by rw [tubeAt_get hk]; rfl) rfl
      obtain ⟨d2, _, _⟩ := own_cellE encTube_len H1.out.t k hk 2 (by decide) (.int .i64 (tubeAt m.tubes k).most) (by rw [tubeAt_get hk]; rfl) rfl
      have HST := Lib.hid st1
      obtain ⟨t, ht⟩ : ∃ t, t = tubeAt m.tubes k := ⟨_, rfl⟩
      rw [← ht] at d1 d2 t1 t2 t3 HP
      have HTE := Lib.hid ht
      clear ht st1 hM1
      by_cases hmany : t.most - t.count < n
      · go_wp2_with (fail)
        go_quiet (fail)
        go_wp2_with (fail)
        go_ret
        exact .inl ⟨_, rfl, by decide, gr_drewN hg1 _⟩
      · have hmul0 : 0 ≤ n * x := Int.mul_nonneg (by omega) hx0
        have hmul1 : n * x ≤ 1000000 * 1000000 := Int.mul_le_mul hn1 hx1 hx0 (by decide)
        go_wp2_with (fail)
        go_quiet (fail)
        obtain ⟨w2, hw2⟩ : ∃ w2, w2 = w1.drewN nq := ⟨_, rfl⟩
        have g2 : w1.grownBy w2 none := hw2 ▸ gr_drewN (gr_refl _ _) _
        rw [← hw2]
        clear hw2 d1 d2 f1 c0 z0 c9 z9
        have h2 := H1.out.keep0 g2
        obtain ⟨d1, f1, st1⟩ := own_cellE encTube_len h2.t k hk 1 (by decide) (.int .i64 (tubeAt m.tubes k).count) (by rw [tubeAt_get hk]; rfl) rfl
        have st2 := st1 (.int .i64 (t.count + n)) ⟨t.value, t.count + n, t.most⟩ (by rw [← tubeAt_get hk, ← HTE.out]; rfl)
        rw [← HTE.out] at d1
        have gs : w2.grownBy (w2.setCell ⟨g, k * 3 + 1, none⟩ (.int .i64 (t.count + n))) (some g) := gr_set (q := ⟨g, k * 3 + 1, none⟩) (gr_refl w2 (some g)) rfl _
        have h3 : MachV (w2.setCell ⟨g, k * 3 + 1, none⟩ (.int .i64 (t.count + n))) base M { m with tubes := addTo m.tubes k n } (.slice (some ⟨g, 0, none⟩) m.tubes.length cap) kv sv jv ev dv :=
          MachV.tubed h2 (addTo m.tubes k n) (n := m.tubes.length) (by simp [addTo]) gs (by unfold addTo; rw [← HTE.out]; exact st2)
        obtain ⟨c9, z9⟩ := mb9 h3.blk
        have H3 := Lib.hid h3
        have GS := Lib.hid gs
        clear h2 h3 st1 st2 gs
        go_wp2_with (fail)
        go_ret
        have hs9 := heap_setCell_same _ M 9 _ _ (.int .i64 (m.filled + n * x)) H3.out.blk
        have hg9 := gr_set (q := ⟨M, 9, none⟩) (gr_refl (w2.setCell ⟨g, k * 3 + 1, none⟩ (.int .i64 (t.count + n))) (some M)) rfl (.int .i64 (m.filled + n * x))
        refine .inr ⟨rfl, by omega, k, hk, by rw [← HTE.out]; exact HP.out, by rw [← HTE.out]; omega, H3.out.own hg9 hs9, ?_⟩
        refine grS.next (grS.next (grS.none (gr_trans hg1 g2)) GS.out (fun z hz => .inl (.inr (.inl hz)))) hg9 (fun z hz => .inl (.inl ?_))
        injection hz with hz
        exact hz.symm
end Go.Proofs.YtdjnomeabadbnaaDoor
