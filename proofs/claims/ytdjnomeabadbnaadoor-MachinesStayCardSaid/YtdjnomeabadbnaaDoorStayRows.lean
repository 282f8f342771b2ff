/- Rows that are written by a caller; what stays beside them; one coin put into both machines. -/
import Derived.Test.YtdjnomeabadbnaaDoorRefInsert
import Derived.Test.YtdjnomeabadbnaaDoorRefAudit
import Derived.Test.YtdjnomeabadbnaaDoorMachAudit
namespace Go.Proofs.YtdjnomeabadbnaaDoor
open Go.RowKit

structure RowO (w : World) (a : Option Addr) (n size : Nat) (S : Nat → Prop) : Prop where
  ex : 0 < n → ∃ q off cs e, a = some ⟨q, off, none⟩ ∧ w.heap[q]? = some (.cells cs e (0, 0)) ∧ off + n * size ≤ cs.size ∧ S q
theorem RowO.set {w : World} {a : Option Addr} {n size : Nat} {S : Nat → Prop} (h : RowO w a n size S) (p i : Nat) (v : Value) : RowO (w.setCell ⟨p, i, none⟩ v) a n size S := by
  refine ⟨fun hn => ?_⟩
  obtain ⟨q, off, cs, e, rfl, hq, hs, hS⟩ := h.ex hn
  by_cases hpq : q = p
  · subst hpq
    exact ⟨q, off, _, e, rfl, heap_setCell_same w q i cs e v hq, by simpa using hs, hS⟩
  · exact ⟨q, off, cs, e, rfl, (heap_setCell_other w ⟨p, i, none⟩ q v hpq).trans hq, hs, hS⟩
theorem RowO.keep0 {w w1 : World} {a : Option Addr} {n size : Nat} {S : Nat → Prop} (h : RowO w a n size S) (g : w.grownBy w1 none) : RowO w1 a n size S := by
  refine ⟨fun hn => ?_⟩
  obtain ⟨q, off, cs, e, rfl, hq, hs, hS⟩ := h.ex hn
  exact ⟨q, off, cs, e, rfl, (g.block q (lt_of_block hq) (by simp)).trans hq, hs, hS⟩
theorem RowO.keepS {w w1 : World} {a : Option Addr} {n size : Nat} {S : Nat → Prop} {r : Option Nat} (h : RowO w a n size S) (g : w.grownBy w1 r) (hr : ∀ q, r = some q → ¬ S q) : RowO w1 a n size S := by
  refine ⟨fun hn => ?_⟩
  obtain ⟨q, off, cs, e, rfl, hq, hs, hS⟩ := h.ex hn
  exact ⟨q, off, cs, e, rfl, (g.block q (lt_of_block hq) (fun e => hr q e.symm hS)).trans hq, hs, hS⟩
theorem RowO.weak {w : World} {a : Option Addr} {n size : Nat} {S T : Nat → Prop} (h : RowO w a n size S) (hT : ∀ k, S k → T k) : RowO w a n size T := by
  refine ⟨fun hn => ?_⟩
  obtain ⟨q, off, cs, e, rfl, hq, hs, hS⟩ := h.ex hn
  exact ⟨q, off, cs, e, rfl, hq, hs, hT q hS⟩
theorem gr_ofSet {w w1 w2 : World} {S : Nat → Prop} (h : w.grownBy w1 none) (g : grS w1 w2 S) (hq : ∀ q, S q → w.heap.size ≤ q) : w.grownBy w2 none :=
  ⟨g.os.trans h.os, g.tape.trans h.tape, g.output.trans h.output, Nat.le_trans h.size g.size, fun k hk hr => (g.block k (Nat.lt_of_lt_of_le hk h.size) (fun e => by have := hq k e; omega)).trans (h.block k hk hr)⟩
theorem RowO.cell {w : World} {a : Option Addr} {n size : Nat} {S : Nat → Prop} (h : RowO w a n size S) (k : Nat) (hk : k < n) (j : Nat) (hj : j < size) :
    ∃ q off u, a = some ⟨q, off, none⟩ ∧ S q ∧ w.cell? ⟨q, off + k * size + j, none⟩ = some u ∧ w.frozen? ⟨q, off + k * size + j, none⟩ = false := by
  obtain ⟨q, off, cs, e, rfl, hq, hs, hS⟩ := h.ex (by omega)
  have hlt : off + k * size + j < cs.size := by
    have : (k + 1) * size ≤ n * size := Nat.mul_le_mul_right _ hk
    rw [Nat.add_mul] at this
    omega
  exact ⟨q, off, cs[off + k * size + j], rfl, hS, blkC hq _ (Array.getElem?_eq_getElem hlt), blkF hq _⟩
theorem RowO.of_own {w : World} {base e size n m cap : Nat} {a : Option Addr} {xs : List Value} {S : Nat → Prop} (h : w.ownsRow base e size (.slice a n cap) m xs) (hS : ∀ q, base ≤ q → q < w.heap.size → S q) : RowO w a m size S := by
  refine ⟨fun hn => ?_⟩
  rcases h.2 with ⟨hv, h0⟩ | ⟨g, cap', cur, hv, hb, hg, hnc, hcap, hs, ht⟩
  · omega
  · injection hv with hv _ _
    refine ⟨g, 0, cur, e, hv, hg, ?_, hS g hb (lt_of_block hg)⟩
    have : m * size ≤ cap' * size := Nat.mul_le_mul_right _ hnc
    omega
theorem grS.set {w w1 : World} {S : Nat → Prop} (h : grS w w1 S) {q : Nat} (hq : S q) (i : Nat) (v : Value) : grS w (w1.setCell ⟨q, i, Option.none⟩ v) S :=
  h.next (gr_set (q := ⟨q, i, Option.none⟩) (gr_refl w1 (some q)) rfl v) (fun k hk => by injection hk with hk; exact .inl (hk ▸ hq))
theorem grS.ownR {w w1 : World} {S : Nat → Prop} {base e size n : Nat} {v : Value} {xs : List Value} (h : w.ownsRow base e size v n xs) (g : grS w w1 S) (hr : ∀ q, base ≤ q → q < w.heap.size → ¬ S q) : w1.ownsRow base e size v n xs :=
  grS.own h g (fun k hk => hr k (own_ge h hk) (by obtain ⟨cs, hc⟩ := own_blk h hk; exact lt_of_block hc))
theorem MachV.keepR {w w1 : World} {base M : Nat} {m : Mach} {tv kv sv jv ev dv : Value} {S : Nat → Prop} (h : MachV w base M m tv kv sv jv ev dv) (g : grS w w1 S) (hr : ∀ q, base ≤ q → q < w.heap.size → ¬ S q) : MachV w1 base M m tv kv sv jv ev dv :=
  ⟨(g.block M (lt_of_block h.blk) (hr M h.low (lt_of_block h.blk))).trans h.blk, g.ownR h.t hr, g.ownR h.k hr, g.ownR h.s hr, g.ownR h.j hr, g.ownR h.e hr, g.ownR h.d hr, h.sep, h.low⟩
theorem RefV.keepM {w w1 : World} {base M : Nat} {c : Cfg} {esc : List Int} {tv kv sv ev : Value} {b1 b2 : Nat} {S : Nat → Prop} (h : RefV w base M c esc tv kv sv ev b1 b2) (g : grS w w1 S) (hr : ∀ q, base ≤ q → q < w.heap.size → ¬ S q) (hm : ∀ q, S q → q < w.heap.size → ∃ cs e, w.heap[q]? = some (.cells cs e (0, 0))) : RefV w1 base M c esc tv kv sv ev b1 b2 := by
  have hmap : ∀ b, w.heap[b]? = some (.map #[] 0) → ¬ S b := fun b hb hs => by
    obtain ⟨cs, e, hc⟩ := hm b hs (lt_of_block hb)
    rw [hb] at hc
    injection hc with hc
    cases hc
  exact ⟨(g.block M (lt_of_block h.blk) (hr M h.low (lt_of_block h.blk))).trans h.blk, g.ownR h.t hr, g.ownR h.k hr, g.ownR h.s hr, g.ownR h.e hr, (g.block b1 (lt_of_block h.m1) (hmap b1 h.m1)).trans h.m1, (g.block b2 (lt_of_block h.m2) (hmap b2 h.m2)).trans h.m2, h.low⟩
theorem MachW.cells {w : World} {base M : Nat} {m : Mach} {tv kv sv jv ev dv : Value} (h : MachV w base M m tv kv sv jv ev dv) {q : Nat} (hq : MachW M tv sv ev dv q) : ∃ cs e, w.heap[q]? = some (.cells cs e (0, 0)) := by
  rcases hq with rfl | h1 | h1 | h1 | h1
  · exact ⟨_, _, h.blk⟩
  · obtain ⟨cs, hc⟩ := own_blk h.t h1; exact ⟨_, _, hc⟩
  · obtain ⟨cs, hc⟩ := own_blk h.s h1; exact ⟨_, _, hc⟩
  · obtain ⟨cs, hc⟩ := own_blk h.e h1; exact ⟨_, _, hc⟩
  · obtain ⟨cs, hc⟩ := own_blk h.d h1; exact ⟨_, _, hc⟩
/-- A machine stays while a block of another type is written, and new memory. -/
theorem MachV.keepT {w w1 : World} {base M q : Nat} {m : Mach} {tv kv sv jv ev dv : Value} (h : MachV w base M m tv kv sv jv ev dv) (g : grS w w1 (fun k => k = q ∨ w.heap.size ≤ k)) {cs : Array Value} (hq : w.heap[q]? = some (.cells cs 148 (0, 0))) : MachV w1 base M m tv kv sv jv ev dv := by
  have row : ∀ {e z n : Nat} {v : Value} {l : List Value}, w.ownsRow base e z v n l → e ≠ 148 → w1.ownsRow base e z v n l := by
    intro e z n v l hr hne
    refine grS.own hr g (fun k hk hs => ?_)
    rcases hs with rfl | hs
    · exact own_ne hr hq hne hk
    · exact own_freshLe hr hs hk
  refine ⟨(g.block M (lt_of_block h.blk) (fun hs => ?_)).trans h.blk, row h.t (by decide), row h.k (by decide), row h.s (by decide), row h.j (by decide), row h.e (by decide), row h.d (by decide), h.sep, h.low⟩
  rcases hs with rfl | hs
  · have := h.blk
    rw [hq] at this
    injection this with this
    injection this with _ this
    exact absurd this (by decide)
  · have := lt_of_block h.blk
    omega
theorem TakesAt.keepR {w w1 : World} {base : Nat} {v : Value} {ks : List Int} {S : Nat → Prop} (h : TakesAt w base v ks) (g : grS w w1 S) (hr : ∀ q, base ≤ q → q < w.heap.size → ¬ S q) : TakesAt w1 base v ks := by
  obtain ⟨b, o, cap, cs, rfl, hb, hg, h1⟩ := h
  exact ⟨b, o, cap, cs, rfl, hb, (g.block b (lt_of_block hg) (hr b hb (lt_of_block hg))).trans hg, h1⟩
theorem RowO.of_takes {w : World} {base n cap : Nat} {a : Option Addr} {ks : List Int} {S : Nat → Prop} (h : TakesAt w base (.slice a n cap) ks) (hS : ∀ q, base ≤ q → q < w.heap.size → S q) : RowO w a ks.length 1 S := by
  obtain ⟨b, o, cap', cs, hv, hb, hg, h1, h2, h3, h4⟩ := h
  injection hv with hv _ _
  refine ⟨fun hn => ⟨b, o, cs, _, hv, hg, ?_, hS b hb (lt_of_block hg)⟩⟩
  omega
/-- What the caller writes, and that the rest stays. -/
structure StayR (wB wr : World) (S : Nat → Prop) (xa ta sa ka : Option Addr) (n m k : Nat) : Prop where
  gr : grS wB wr S
  x : RowO wr xa n 3 S
  t : RowO wr ta n 3 S
  s : RowO wr sa m 5 S
  k : RowO wr ka k 1 S
theorem StayR.set {wB wr : World} {S : Nat → Prop} {xa ta sa ka : Option Addr} {n m k : Nat} (h : StayR wB wr S xa ta sa ka n m k) {q : Nat} (hq : S q) (i : Nat) (v : Value) : StayR wB (wr.setCell ⟨q, i, none⟩ v) S xa ta sa ka n m k :=
  ⟨h.gr.set hq i v, h.x.set q i v, h.t.set q i v, h.s.set q i v, h.k.set q i v⟩
theorem StayR.keep0 {wB wr w1 : World} {S : Nat → Prop} {xa ta sa ka : Option Addr} {n m k : Nat} (h : StayR wB wr S xa ta sa ka n m k) (g : wr.grownBy w1 none) : StayR wB w1 S xa ta sa ka n m k :=
  ⟨h.gr.next g (fun _ e => by cases e), h.x.keep0 g, h.t.keep0 g, h.s.keep0 g, h.k.keep0 g⟩

/-- What one coin of 100 does to a machine of a configuration. -/
def insR (c : Cfg) : Int := if c.takes.any (fun y => (100 : Int) == y) = false then 8 else if c.high < 100 then 12 else 0
def insE (c : Cfg) : List Int := if insR c = 0 then [100] else []
theorem insE_small (c : Cfg) : (insE c).length ≤ 1 ∧ ∀ y ∈ insE c, 0 ≤ y ∧ y ≤ 1000000 := by
  unfold insE
  split
  · exact ⟨by simp, fun y hy => by simp at hy; omega⟩
  · exact ⟨by simp, fun y hy => by simp at hy⟩
theorem insert_one (c : Cfg) (n base M : Nat) (tv kv sv jv ev dv : Value) (w : World) (h : MachV w base M (machNew c n) tv kv sv jv ev dv) (hk : c.takes.length ≤ 1000) :
    Calls Tryd.prog 17 #[.pointer (some ⟨M, 0, none⟩), .int .i64 100] w fun e w' => e = .returned (.int .i64 (insR c)) ∧ ∃ ev', MachV w' base M { machNew c n with esc := insE c, credit := (insE c).sum } tv kv sv jv ev' dv ∧ grS w w' (MachW M tv sv ev dv) := by
  refine (insert_any (machNew c n) 100 base M tv kv sv jv ev dv w h hk (by decide) (by decide) (Int.le_refl 0) (by show (0 : Int) ≤ 1000000000; decide) (Nat.zero_le _)).mono ?_
  rintro e w' (⟨r, rfl, hr, g⟩ | ⟨rfl, hany, hle, ev', hv, g, _⟩)
  · have e1 : insR c = r := by
      unfold insR
      rcases hr with ⟨ha, rfl⟩ | ⟨ha, hh, rfl⟩
      · have ha : c.takes.any (fun y => (100 : Int) == y) = false := ha
        rw [if_pos ha]
      · have ha' : ¬ (c.takes.any (fun y => (100 : Int) == y) = false) := by intro h'; rw [show (machNew c n).takes = c.takes from rfl] at ha; rw [ha] at h'; cases h'
        rw [if_neg ha', if_pos (by simpa [machNew] using hh)]
    have e2 : insE c = [] := by
      unfold insE
      rw [if_neg]
      rw [e1]
      rcases hr with ⟨_, rfl⟩ | ⟨_, _, rfl⟩ <;> decide
    refine ⟨by rw [e1], ev, ?_, grS.none g⟩
    rw [e2]
    exact h.keep0 g
  · have e1 : insR c = 0 := by
      unfold insR
      have ha' : ¬ (c.takes.any (fun y => (100 : Int) == y) = false) := by intro h'; rw [show (machNew c n).takes = c.takes from rfl] at hany; rw [hany] at h'; cases h'
      rw [if_neg ha', if_neg]
      have : (0 : Int) + 100 ≤ c.high := hle
      omega
    have e2 : insE c = [100] := by unfold insE; rw [if_pos e1]
    refine ⟨by rw [e1], ev', ?_, g⟩
    rw [e2]
    exact hv
theorem refInsert_one (c : Cfg) (base M : Nat) (tv kv sv : Value) (b1 b2 : Nat) (w : World) (h : RefV w base M c [] tv kv sv (.slice none 0 0) b1 b2) (hk : c.takes.length ≤ 1000) :
    Calls Tryd.prog 18 #[.pointer (some ⟨M, 0, none⟩), .int .i64 100] w fun e w' => e = .returned (.int .i64 (insR c)) ∧ ∃ ev', RefV w' base M c (insE c) tv kv sv ev' b1 b2 ∧ grS w w' (fun k => k = M ∨ w.heap.size ≤ k) := by
  refine (refInsert_any c [] 100 base M tv kv sv _ b1 b2 w h (fun q _ => by simp [Value.ownBlock]) hk (by decide) (by decide) (by decide) (fun y hy => by simp at hy)).mono ?_
  rintro e w' (⟨r, rfl, hr, g⟩ | ⟨rfl, hany, hle, ev', hv, g⟩)
  · have e1 : insR c = r := by
      unfold insR
      rcases hr with ⟨ha, rfl⟩ | ⟨ha, hh, rfl⟩
      · rw [if_pos ha]
      · have ha' : ¬ (c.takes.any (fun y => (100 : Int) == y) = false) := by intro h'; rw [ha] at h'; cases h'
        rw [if_neg ha', if_pos (by simpa using hh)]
    have e2 : insE c = [] := by
      unfold insE
      rw [if_neg]
      rw [e1]
      rcases hr with ⟨_, rfl⟩ | ⟨_, _, rfl⟩ <;> decide
    refine ⟨by rw [e1], .slice none 0 0, ?_, grS.none g⟩
    rw [e2]
    exact h.keep0 g
  · have e1 : insR c = 0 := by
      unfold insR
      have ha' : ¬ (c.takes.any (fun y => (100 : Int) == y) = false) := by intro h'; rw [hany] at h'; cases h'
      rw [if_neg ha', if_neg]
      have : (0 : Int) + 100 ≤ c.high := hle
      omega
    have e2 : insE c = [100] := by unfold insE; rw [if_pos e1]
    refine ⟨by rw [e1], ev', ?_, g.weak ?_⟩
    · rw [e2]; exact hv
    · rintro k (h | h)
      · exact .inl h
      · simp [Value.ownBlock] at h
theorem MachW.lo {w : World} {base M : Nat} {m : Mach} {tv kv sv jv ev dv : Value} (h : MachV w base M m tv kv sv jv ev dv) {q : Nat} (hq : MachW M tv sv ev dv q) : base ≤ q := by
  rcases hq with h1 | h1 | h1 | h1 | h1
  · rw [h1]; exact h.low
  · exact own_ge h.t h1
  · exact own_ge h.s h1
  · exact own_ge h.e h1
  · exact own_ge h.d h1
theorem MachW.hi {w : World} {base M : Nat} {m : Mach} {tv kv sv jv ev dv : Value} (h : MachV w base M m tv kv sv jv ev dv) {q : Nat} (hq : MachW M tv sv ev dv q) : q < w.heap.size := by
  obtain ⟨cs, e, hc⟩ := MachW.cells h hq
  exact lt_of_block hc
theorem audit_one (c : Cfg) (base M : Nat) (tv kv sv jv ev dv : Value) (w : World) (h : MachV w base M { machNew c c.slots.length with esc := insE c, credit := (insE c).sum } tv kv sv jv ev dv) (ht : c.tubes.length ≤ 1000) (hs : c.slots.length ≤ 1000) :
    Calls Tryd.prog 15 #[.pointer (some ⟨M, 0, none⟩)] w fun e w' => ∃ v, e = .returned v ∧ AuditIs w' v (c.slots.map fun s => ⟨s.key, 0, 0⟩) c.tubes 0 0 0 0 0 (insE c).sum ∧ w.grownBy w' none := by
  have hsl : (machNew c c.slots.length).sold = c.slots.map fun s => (⟨s.key, 0, 0⟩ : Tally) := by
    show (c.slots.take c.slots.length).map _ = _
    rw [List.take_length]
  refine (audit_any _ base M tv kv sv jv ev dv w h ht (by show (machNew c c.slots.length).sold.length ≤ 1000; rw [hsl]; simpa using hs)).mono ?_
  rintro e w' ⟨s1, t1, rfl, ho1, ho2, g⟩
  have ho1 : w'.ownsRow w.heap.size 79 3 s1 (machNew c c.slots.length).sold.length (flat encTally (machNew c c.slots.length).sold) := ho1
  have ho2 : w'.ownsRow w.heap.size 41 3 t1 c.tubes.length (tubes c.tubes) := ho2
  rw [hsl] at ho1
  obtain ⟨sa, sc, rfl, _, _, h1, _⟩ := own_shape ho1
  obtain ⟨ta, tc, rfl, _, _, h2, _⟩ := own_shape ho2
  exact ⟨_, rfl, ⟨sa, sc, ta, tc, rfl, h1, h2⟩, g⟩
end Go.Proofs.YtdjnomeabadbnaaDoor
