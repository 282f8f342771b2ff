/- depot.owned: a copy of a wallet. -/
import Derived.Test.YtoiclngamaadgaaPkMBh
import Derived.Test.YtoiclngamaadgaaPkMAc
import Derived.Test.YtoiclngamaadgaaPkMAb
namespace Go.Proofs.Ytoiclngamaadgaa
open Go.RowKit

def siteVs : List Value := [siteV 0, siteV 1, siteV 2]
/-- A wallet that the call owns. -/
structure WalOwn (w : World) (base : Nat) (x y z : Value) (A : Wal) (vs : List Value) : Prop where
  s : w.ownsRow base 9 1 x 3 siteVs
  r : OwnRows w base y A.T vs
  u : w.ownsRow base 3 1 z 3 (ints A.U)
  f : WForm A
  ap : ∀ i, i < 3 → ∀ g, (vs.getD i undef).ownBlock = some g → z.ownBlock ≠ some g
theorem siteVs_at (i : Nat) (h : i < 3) : siteVs[i]? = some (siteV i) := by
  obtain rfl | rfl | rfl : i = 0 ∨ i = 1 ∨ i = 2 := by omega
  all_goals rfl
theorem WalOwn.at {w : World} {base : Nat} {x y z : Value} {A : Wal} {vs : List Value} (h : WalOwn w base x y z A vs) : WalAt w (fun b => base ≤ b) x y z A := by
  refine ⟨?_, ?_, ?_⟩
  · obtain ⟨g, c, rfl, h1, h2, h3, h4⟩ := own_some h.s (by omega)
    refine ⟨g, 0, c, rfl, h4, h1, fun i hi => ?_⟩
    rw [Nat.zero_add]
    exact (h.s.cellAt i (by simp; omega)).trans (siteVs_at i hi)
  · have hTl := h.f.lenT
    obtain ⟨g, c, he, h1, h2, h3, h4⟩ := own_some h.r.outer (by omega)
    have hr := h.r
    subst he
    refine ⟨g, 0, c, by rw [hTl], h4, h1, fun i hi => ?_⟩
    have hl := h.f.lenR i hi
    obtain ⟨_, g2, c2, he2, _, _, hvs, hb2, hw2⟩ := hr.shape i (by omega) (by omega)
    cases he2
    have hin := hr.inner i (by omega)
    rw [hvs] at hin
    obtain ⟨g6, c6, he6, hb6, hw6, hc6, hm6⟩ := own_some hin (by omega)
    cases he6
    have hvl := hr.vlen
    have ho := hr.outer.cellAt i (by omega)
    rw [List.getD_eq_getElem?_getD] at hvs
    have hvi : vs[i]? = some (Value.slice (some ⟨g2, 0, none⟩) (A.T.getD i []).length c2) := by
      rw [List.getElem?_eq_getElem (by omega)] at hvs ⊢
      simpa using hvs
    rw [hvi, hl] at ho
    refine ⟨g2, 0, c2, by rw [Nat.zero_add]; exact ho, hm6, hb2, fun j hj => ?_⟩
    rw [Nat.zero_add, hin.cellAt j (by omega)]
    exact ints_at _ j (by omega)
  · obtain ⟨g, c, rfl, h1, h2, h3, h4⟩ := own_some h.u (by omega)
    refine ⟨g, 0, c, rfl, h4, h1, fun i hi => ?_⟩
    have hl := h.f.lenU
    rw [Nat.zero_add, h.u.cellAt i (by simp; omega)]
    exact ints_at _ i (by omega)
theorem WalOwn.keepS {w w1 : World} {base p : Nat} {x y z : Value} {A : Wal} {vs : List Value} (h : WalOwn w base x y z A vs) (g : w.grownBy w1 (some p)) (hp : p < base) : WalOwn w1 base x y z A vs :=
  ⟨own_keepS h.s g hp, h.r.keepS g hp, own_keepS h.u g hp, h.f, h.ap⟩
theorem WalOwn.keep0 {w w1 : World} {base : Nat} {x y z : Value} {A : Wal} {vs : List Value} (h : WalOwn w base x y z A vs) (g : w.grownBy w1 none) : WalOwn w1 base x y z A vs :=
  ⟨own_keep0 h.s g, h.r.keep0 g, own_keep0 h.u g, h.f, h.ap⟩
theorem WalOwn.low {w : World} {base base' : Nat} {x y z : Value} {A : Wal} {vs : List Value} (h : WalOwn w base x y z A vs) (hb : base' ≤ base) : WalOwn w base' x y z A vs :=
  ⟨own_base h.s hb, h.r.low hb, own_base h.u hb, h.f, h.ap⟩
/-- An owned row lies in another block than one of another type. -/
theorem own_other {w : World} {base e size n g : Nat} {v : Value} {xs : List Value} {cs : Array Value} {t : Nat} (h : w.ownsRow base e size v n xs) (hg : w.heap[g]? = some (.cells cs t (0, 0))) (hne : e ≠ t) : v.ownBlock ≠ some g := by
  rcases h.2 with ⟨rfl, _⟩ | ⟨g', cap, cur, rfl, _, hh, _⟩
  · simp [Value.ownBlock]
  · intro he
    have : g' = g := by simpa [Value.ownBlock] using he
    subst this
    rw [hg] at hh
    injection hh with hh
    injection hh with _ ht
    exact hne ht.symm
theorem set3_heap {w : World} {g t : Nat} {a b c : Value} (h : w.heap[g]? = some (.cells #[a, b, c] t (0, 0))) (x y z : Value) : (((w.setCell ⟨g, 0, none⟩ x).setCell ⟨g, 1, none⟩ y).setCell ⟨g, 2, none⟩ z).heap[g]? = some (.cells #[x, y, z] t (0, 0)) := by
  have h1 := heap_setCell_same w g 0 _ t x h
  have h2 := heap_setCell_same _ g 1 _ t y h1
  exact heap_setCell_same _ g 2 _ t z h2
theorem set3_gr (w : World) (g : Nat) (x y z : Value) : w.grownBy (((w.setCell ⟨g, 0, none⟩ x).setCell ⟨g, 1, none⟩ y).setCell ⟨g, 2, none⟩ z) (some g) :=
  gr_set (q := ⟨g, 2, none⟩) (gr_set (q := ⟨g, 1, none⟩) (gr_set (q := ⟨g, 0, none⟩) (gr_refl w (some g)) rfl _) rfl _) rfl _
/-- A wallet's variable is filled: what is owned beside it stays. -/
theorem wal_fill {w0 w : World} {g : Nat} {a b c x z : Value} {xs zs : List Value} (hg : w.heap[g]? = some (.cells #[a, b, c] 131 (0, 0))) (hle : w0.heap.size ≤ g) (hx : w.ownsRow w0.heap.size 9 1 x 3 xs) (hz : w.ownsRow w0.heap.size 3 1 z 3 zs) (hgr : w0.grownBy w none) (y : Value) :
    (((w.setCell ⟨g, 0, none⟩ x).setCell ⟨g, 1, none⟩ y).setCell ⟨g, 2, none⟩ z).heap[g]? = some (.cells #[x, y, z] 131 (0, 0)) ∧
    (((w.setCell ⟨g, 0, none⟩ x).setCell ⟨g, 1, none⟩ y).setCell ⟨g, 2, none⟩ z).ownsRow w0.heap.size 9 1 x 3 xs ∧ (((w.setCell ⟨g, 0, none⟩ x).setCell ⟨g, 1, none⟩ y).setCell ⟨g, 2, none⟩ z).ownsRow w0.heap.size 3 1 z 3 zs ∧ w0.grownBy (((w.setCell ⟨g, 0, none⟩ x).setCell ⟨g, 1, none⟩ y).setCell ⟨g, 2, none⟩ z) none :=
  ⟨set3_heap hg x y z, own_keep hx (set3_gr w g x y z) (.inr (own_other hx hg (by decide))), own_keep hz (set3_gr w g x y z) (.inr (own_other hz hg (by decide))), gr_grown hgr (set3_gr w g x y z) (fun k hk => by cases hk; exact hle)⟩
theorem blk_cells {w : World} {g t : Nat} {a b c : Value} (h : w.heap[g]? = some (.cells #[a, b, c] t (0, 0))) : w.cell? ⟨g, 0, none⟩ = some a ∧ w.cell? ⟨g, 1, none⟩ = some b ∧ w.cell? ⟨g, 2, none⟩ = some c ∧ w.frozen? ⟨g, 0, none⟩ = false ∧ w.frozen? ⟨g, 1, none⟩ = false ∧ w.frozen? ⟨g, 2, none⟩ = false := by
  simp [World.cell?, World.frozen?, h]
theorem cell_set3 {w : World} {b o g : Nat} {v : Value} (h : w.cell? ⟨b, o, none⟩ = some v) (hn : b < g) (x y z : Value) : (((w.setCell ⟨g, 0, none⟩ x).setCell ⟨g, 1, none⟩ y).setCell ⟨g, 2, none⟩ z).cell? ⟨b, o, none⟩ = some v :=
  cell_set (cell_set (cell_set h (by omega) _) (by omega) _) (by omega) _
def OwnedPost (A : Wal) (w : World) (e : Ending) (w' : World) : Prop := ∃ x y z vs, e = .returned (.agg #[x, y, z]) ∧ WalOwn w' w.heap.size x y z A vs ∧ w.grownBy w' none

end Go.Proofs.Ytoiclngamaadgaa
