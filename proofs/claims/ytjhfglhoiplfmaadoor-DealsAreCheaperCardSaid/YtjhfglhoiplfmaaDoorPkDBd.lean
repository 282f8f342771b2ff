/- depot.owned: a copy of a wallet. -/
import Derived.Test.YtjhfglhoiplfmaaDoorPkDBc
import Derived.Test.YtjhfglhoiplfmaaDoorPkDAc
import Derived.Test.YtjhfglhoiplfmaaDoorPkDAb
import Derived.Test.YtjhfglhoiplfmaaDoorPkDAw
import Derived.Deep.CutRange
namespace Go.Proofs.YtjhfglhoiplfmaaDoor
open Go.RowKit

def siteVs : List Value := [siteV 0, siteV 1, siteV 2]
/-- A wallet that the call owns. -/
structure WalOwn (w : World) (base : Nat) (x y z : Value) (A : Wal) (vs : List Value) : Prop where
  s : w.ownsRow base 9 1 x 3 siteVs
  r : OwnRows w base y A.T vs
  u : w.ownsRow base 3 1 z 3 (ints A.U)
  f : WForm A
  ap : ∀ i, i < 3 → ∀ g, (vs.getD i undef).ownBlock = some g → z.ownBlock ≠ some g
theorem siteVs_at (i : Nat) (h : i < 3) : siteVs[i]? = some (siteV i) := by
  obtain rfl | rfl | rfl : i = 0 ∨ i = 1 ∨ i = 2 := by omega
  all_goals rfl
theorem WalOwn.at {w : World} {base : Nat} {x y z : Value} {A : Wal} {vs : List Value} (h : WalOwn w base x y z A vs) : WalAt w (fun b => base ≤ b) x y z A := by
  refine ⟨?_, ?_, ?_⟩
  · obtain ⟨g, c, rfl, h1, h2, h3, h4⟩ := own_some h.s (by omega)
    refine ⟨g, 0, c, rfl, h4, h1, fun i hi => ?_⟩
    rw [Nat.zero_add]
    exact (h.s.cellAt i (by simp; omega)).trans (siteVs_at i hi)
  · have hTl := h.f.lenT
    obtain ⟨g, c, he, h1, h2, h3, h4⟩ := own_some h.r.outer (by omega)
    have hr := h.r
    subst he
    refine ⟨g, 0, c, by rw [hTl], h4, h1, fun i hi => ?_⟩
    have hl := h.f.lenR i hi
    obtain ⟨_, g2, c2, he2, _, _, hvs, hb2, hw2⟩ := hr.shape i (by omega) (by omega)
    cases he2
    have hin := hr.inner i (by omega)
    rw [hvs] at hin
    obtain ⟨g6, c6, he6, hb6, hw6, hc6, hm6⟩ := own_some hin (by omega)
    cases he6
    have hvl := hr.vlen
    have ho := hr.outer.cellAt i (by omega)
    rw [List.getD_eq_getElem?_getD] at hvs
    have hvi : vs[i]? = some (Value.slice (some ⟨g2, 0, none⟩) (A.T.getD i []).length c2) := by
      rw [List.getElem?_eq_getElem (by omega)] at hvs ⊢
      simpa using hvs
    rw [hvi, hl] at ho
    refine ⟨g2, 0, c2, by rw [Nat.zero_add]; exact ho, hm6, hb2, fun j hj => ?_⟩
    rw [Nat.zero_add, hin.cellAt j (by omega)]
    exact ints_at _ j (by omega)
  · obtain ⟨g, c, rfl, h1, h2, h3, h4⟩ := own_some h.u (by omega)
    refine ⟨g, 0, c, rfl, h4, h1, fun i hi => ?_⟩
    have hl := h.f.lenU
    rw [Nat.zero_add, h.u.cellAt i (by simp; omega)]
    exact ints_at _ i (by omega)
theorem WalOwn.keepS {w w1 : World} {base p : Nat} {x y z : Value} {A : Wal} {vs : List Value} (h : WalOwn w base x y z A vs) (g : w.grownBy w1 (some p)) (hp : p < base) : WalOwn w1 base x y z A vs :=
  ⟨own_keepS h.s g hp, h.r.keepS g hp, own_keepS h.u g hp, h.f, h.ap⟩
theorem WalOwn.keep0 {w w1 : World} {base : Nat} {x y z : Value} {A : Wal} {vs : List Value} (h : WalOwn w base x y z A vs) (g : w.grownBy w1 none) : WalOwn w1 base x y z A vs :=
  ⟨own_keep0 h.s g, h.r.keep0 g, own_keep0 h.u g, h.f, h.ap⟩
theorem WalOwn.low {w : World} {base base' : Nat} {x y z : Value} {A : Wal} {vs : List Value} (h : WalOwn w base x y z A vs) (hb : base' ≤ base) : WalOwn w base' x y z A vs :=
  ⟨own_base h.s hb, h.r.low hb, own_base h.u hb, h.f, h.ap⟩
/-- An owned row lies in another block than one of another type. -/
theorem own_other {w : World} {base e size n g : Nat} {v : Value} {xs : List Value} {cs : Array Value} {t : Nat} (h : w.ownsRow base e size v n xs) (hg : w.heap[g]? = some (.cells cs t (0, 0))) (hne : e ≠ t) : v.ownBlock ≠ some g := by
  rcases h.2 with ⟨rfl, _⟩ | ⟨g', cap, cur, rfl, _, hh, _⟩
  · simp [Value.ownBlock]
  · intro he
    have : g' = g := by simpa [Value.ownBlock] using he
    subst this
    rw [hg] at hh
    injection hh with hh
    injection hh with _ ht
    exact hne ht.symm
theorem set3_heap {w : World} {g t : Nat} {a b c : Value} (h : w.heap[g]? = some (.cells #[a, b, c] t (0, 0))) (x y z : Value) : (((w.setCell ⟨g, 0, none⟩ x).setCell ⟨g, 1, none⟩ y).setCell ⟨g, 2, none⟩ z).heap[g]? = some (.cells #[x, y, z] t (0, 0)) := by
  have h1 := heap_setCell_same w g 0 _ t x h
  have h2 := heap_setCell_same _ g 1 _ t y h1
  exact heap_setCell_same _ g 2 _ t z h2
theorem set3_gr (w : World) (g : Nat) (x y z : Value) : w.grownBy (((w.setCell ⟨g, 0, none⟩ x).setCell ⟨g, 1, none⟩ y).setCell ⟨g, 2, none⟩ z) (some g) :=
  gr_set (q := ⟨g, 2, none⟩) (gr_set (q := ⟨g, 1, none⟩) (gr_set (q := ⟨g, 0, none⟩) (gr_refl w (some g)) rfl _) rfl _) rfl _
/-- A wallet's variable is filled: what is owned beside it stays. -/
theorem wal_fill {w0 w : World} {g : Nat} {a b c x z : Value} {xs zs : List Value} (hg : w.heap[g]? = some (.cells #[a, b, c] 107 (0, 0))) (hle : w0.heap.size ≤ g) (hx : w.ownsRow w0.heap.size 9 1 x 3 xs) (hz : w.ownsRow w0.heap.size 3 1 z 3 zs) (hgr : w0.grownBy w none) (y : Value) :
    (((w.setCell ⟨g, 0, none⟩ x).setCell ⟨g, 1, none⟩ y).setCell ⟨g, 2, none⟩ z).heap[g]? = some (.cells #[x, y, z] 107 (0, 0)) ∧
    (((w.setCell ⟨g, 0, none⟩ x).setCell ⟨g, 1, none⟩ y).setCell ⟨g, 2, none⟩ z).ownsRow w0.heap.size 9 1 x 3 xs ∧ (((w.setCell ⟨g, 0, none⟩ x).setCell ⟨g, 1, none⟩ y).setCell ⟨g, 2, none⟩ z).ownsRow w0.heap.size 3 1 z 3 zs ∧ w0.grownBy (((w.setCell ⟨g, 0, none⟩ x).setCell ⟨g, 1, none⟩ y).setCell ⟨g, 2, none⟩ z) none :=
  ⟨set3_heap hg x y z, own_keep hx (set3_gr w g x y z) (.inr (own_other hx hg (by decide))), own_keep hz (set3_gr w g x y z) (.inr (own_other hz hg (by decide))), gr_grown hgr (set3_gr w g x y z) (fun k hk => by cases hk; exact hle)⟩
theorem blk_cells {w : World} {g t : Nat} {a b c : Value} (h : w.heap[g]? = some (.cells #[a, b, c] t (0, 0))) : w.cell? ⟨g, 0, none⟩ = some a ∧ w.cell? ⟨g, 1, none⟩ = some b ∧ w.cell? ⟨g, 2, none⟩ = some c ∧ w.frozen? ⟨g, 0, none⟩ = false ∧ w.frozen? ⟨g, 1, none⟩ = false ∧ w.frozen? ⟨g, 2, none⟩ = false := by
  simp [World.cell?, World.frozen?, h]
theorem cell_set3 {w : World} {b o g : Nat} {v : Value} (h : w.cell? ⟨b, o, none⟩ = some v) (hn : b < g) (x y z : Value) : (((w.setCell ⟨g, 0, none⟩ x).setCell ⟨g, 1, none⟩ y).setCell ⟨g, 2, none⟩ z).cell? ⟨b, o, none⟩ = some v :=
  cell_set (cell_set (cell_set h (by omega) _) (by omega) _) (by omega) _
def OwnedPost (A : Wal) (w : World) (e : Ending) (w' : World) : Prop := ∃ x y z vs, e = .returned (.agg #[x, y, z]) ∧ WalOwn w' w.heap.size x y z A vs ∧ w.grownBy w' none

end Go.Proofs.YtjhfglhoiplfmaaDoor

/-! depot.Credit, Give and Spend of a right wallet. -/
namespace Go.Proofs.YtjhfglhoiplfmaaDoor
open Go.RowKit

def putR (A : Wal) (i j : Nat) (v : Int) : Wal := ⟨A.T.set i ((A.T.getD i []).set j v), A.U⟩
def putU (A : Wal) (i : Nat) (v : Int) : Wal := ⟨A.T, A.U.set i v⟩
theorem getD_set' {α : Type} (l : List α) (k j : Nat) (x d : α) (h : k < l.length) : (l.set k x).getD j d = if j = k then x else l.getD j d := by
  rw [List.getD_eq_getElem?_getD, List.getD_eq_getElem?_getD, List.getElem?_set]
  by_cases e : k = j
  · subst e; simp [h]
  · rw [if_neg e, if_neg (fun e2 => e e2.symm)]
theorem putR_form {A : Wal} (h : WForm A) (i j : Nat) (v : Int) (hi : i < 3) : WForm (putR A i j v) := by
  have hT := h.lenT
  refine ⟨by simp [putR, hT], fun k hk => ?_, h.lenU⟩
  show ((A.T.set i _).getD k []).length = 3
  rw [getD_set' _ _ _ _ _ (by omega)]
  split
  · rw [List.length_set]; exact h.lenR i hi
  · exact h.lenR k hk
theorem putR_r {A : Wal} (h : WForm A) (i j : Nat) (v : Int) (hi : i < 3) (hj : j < 3) (a b : Nat) : (putR A i j v).r a b = if a = i ∧ b = j then v else A.r a b := by
  have hT := h.lenT
  have hR := h.lenR i hi
  show ((A.T.set i _).getD a []).getD b 0 = _
  rw [getD_set' _ _ _ _ _ (by omega)]
  by_cases e : a = i
  · subst e
    rw [if_pos rfl, getD_set' _ _ _ _ _ (by omega)]
    by_cases e2 : b = j
    · simp [e2]
    · simp [e2]; rfl
  · simp [e]; rfl
theorem putR_u (A : Wal) (i j : Nat) (v : Int) (a : Nat) : (putR A i j v).u a = A.u a := rfl
theorem putU_form {A : Wal} (h : WForm A) (i : Nat) (v : Int) : WForm (putU A i v) := ⟨h.lenT, h.lenR, by simp [putU, h.lenU]⟩
theorem putU_r (A : Wal) (i : Nat) (v : Int) (a b : Nat) : (putU A i v).r a b = A.r a b := rfl
theorem putU_u {A : Wal} (h : WForm A) (i : Nat) (v : Int) (hi : i < 3) (a : Nat) : (putU A i v).u a = if a = i then v else A.u a := by
  have := h.lenU
  exact getD_set' _ _ _ _ _ (by omega)
/-- A number stored into a row of a wallet that the call owns. -/
theorem WalOwn.setR {w : World} {base : Nat} {x y z : Value} {A : Wal} {vs : List Value} (h : WalOwn w base x y z A vs) (i j : Nat) (hi : i < 3) (hj : j < 3) :
    ∃ g0 c0 g c, y = .slice (some ⟨g0, 0, none⟩) 3 c0 ∧ w.cell? ⟨g0, i, none⟩ = some (.slice (some ⟨g, 0, none⟩) 3 c) ∧ w.cell? ⟨g, j, none⟩ = some (.int .i64 (A.r i j)) ∧ w.frozen? ⟨g, j, none⟩ = false ∧ base ≤ g ∧ g0 ≠ g ∧
      ∀ v, WalOwn (w.setCell ⟨g, j, none⟩ (.int .i64 v)) base x y z (putR A i j v) vs := by
  have hTl := h.f.lenT
  have hl := h.f.lenR i hi
  obtain ⟨g0, c0, hy, h1, h2, h3, h4⟩ := own_some h.r.outer (by omega)
  have hr := h.r
  subst hy
  obtain ⟨_, g, c, he, _, _, hvs, hgb, hgw⟩ := hr.shape i (by omega) (by omega)
  cases he
  obtain ⟨q1, q2, q3, q4⟩ := hr.put i j (by omega) (by omega) hvs
  rw [hl] at q1
  have hin := hr.inner i (by omega)
  have hgo : g0 ≠ g := fun e => own_types hr.outer hin (by decide) g0 rfl (by rw [hvs, e]; rfl)
  refine ⟨g0, c0, g, c, by rw [hTl], q1, q2, q3, hgb, hgo, fun v => ⟨?_, ?_, ?_, putR_form h.f i j v hi, ?_⟩⟩
  · exact own_keep h.s (gr_set (q := ⟨g, j, none⟩) (gr_refl w (some g)) rfl _) (.inr (fun e => own_types h.s hin (by decide) g e (by rw [hvs]; rfl)))
  · exact q4 v
  · exact own_keep h.u (gr_set (q := ⟨g, j, none⟩) (gr_refl w (some g)) rfl _) (.inr (h.ap i hi g (by rw [hvs]; rfl)))
  · exact h.ap
theorem WalOwn.setU {w : World} {base : Nat} {x y z : Value} {A : Wal} {vs : List Value} (h : WalOwn w base x y z A vs) (i : Nat) (hi : i < 3) :
    ∃ g c, z = .slice (some ⟨g, 0, none⟩) 3 c ∧ w.cell? ⟨g, i, none⟩ = some (.int .i64 (A.u i)) ∧ w.frozen? ⟨g, i, none⟩ = false ∧ base ≤ g ∧
      ∀ v, WalOwn (w.setCell ⟨g, i, none⟩ (.int .i64 v)) base x y z (putU A i v) vs := by
  have hTl := h.f.lenT
  obtain ⟨g, c, hz, h1, h2, h3, h4⟩ := own_some h.u (by omega)
  have hu := h.u
  have hap := h.ap
  subst hz
  obtain ⟨d0, d1, d2⟩ := own_int hu i hi
  refine ⟨g, c, rfl, d0, d1, h1, fun v => ⟨?_, ?_, d2 v, putU_form h.f i v, h.ap⟩⟩
  · exact own_keep h.s (gr_set (q := ⟨g, i, none⟩) (gr_refl w (some g)) rfl _) (.inr (fun e => own_types h.s hu (by decide) g e rfl))
  · refine ⟨own_keep h.r.outer (gr_set (q := ⟨g, i, none⟩) (gr_refl w (some g)) rfl _) (.inr (fun e => own_types h.r.outer hu (by decide) g e rfl)), fun k hk => ?_, h.r.apart⟩
    have hk' : k < A.T.length := hk
    exact own_keep (h.r.inner k hk') (gr_set (q := ⟨g, i, none⟩) (gr_refl w (some g)) rfl _) (.inr (fun e => hap k (by omega) g e rfl))
theorem cell_set3' {w : World} {b o g : Nat} {v : Value} (h : w.cell? ⟨b, o, none⟩ = some v) (hn : b ≠ g) (x y z : Value) : (((w.setCell ⟨g, 0, none⟩ x).setCell ⟨g, 1, none⟩ y).setCell ⟨g, 2, none⟩ z).cell? ⟨b, o, none⟩ = some v :=
  cell_set (cell_set (cell_set h hn _) hn _) hn _
theorem siteV_str (i : Nat) : ∃ s, siteV i = .string s := by unfold siteV; split; exact ⟨_, rfl⟩; split <;> exact ⟨_, rfl⟩
def WalPost (A' : Wal) (w : World) (e : Ending) (w' : World) : Prop := ∃ x y z vs, e = .returned (.tuple #[.agg #[x, y, z], .int .i64 0]) ∧ WalOwn w' w.heap.size x y z A' vs ∧ w.grownBy w' none

end Go.Proofs.YtjhfglhoiplfmaaDoor

/-! depot.pairFault and Merge of right wallets. -/
namespace Go.Proofs.YtjhfglhoiplfmaaDoor
open Go.RowKit

def siteBs : List ByteArray := [{ data := #[97] }, { data := #[98] }, { data := #[99] }]
theorem WalAt.strs {w : World} {B : Nat → Prop} {x y z : Value} {A : Wal} (h : WalAt w B x y z A) : ∃ b o c, x = .slice (some ⟨b, o, none⟩) 3 c ∧ CellsAt w (some ⟨b, o, none⟩) (strs siteBs) := by
  obtain ⟨b, o, c, rfl, _, _, hs⟩ := h.s
  refine ⟨b, o, c, rfl, ?_⟩
  intro j v hj
  have hj3 : j < 3 := by have := (List.getElem?_eq_some_iff.1 hj).1; simpa [Go.Proofs.YtjhfglhoiplfmaaDoor.strs, siteBs] using this
  refine ⟨b, o, rfl, ?_⟩
  rw [hs j hj3, ← hj]
  obtain rfl | rfl | rfl : j = 0 ∨ j = 1 ∨ j = 2 := by omega
  all_goals rfl

end Go.Proofs.YtjhfglhoiplfmaaDoor

/-! depot.Merge of right wallets of which each row is known by one of them. -/
namespace Go.Proofs.YtjhfglhoiplfmaaDoor
open Go.RowKit

/-- A copy of A in which numbers up to a place are the greater ones of A and A'. -/
structure MxTo (A A' : Wal) (iu i j : Nat) (C : Wal) : Prop where
  r : ∀ a b, a < 3 → b < 3 → C.r a b = if a < i ∨ (a = i ∧ b < j) then max (A.r a b) (A'.r a b) else A.r a b
  u : ∀ a, a < 3 → C.u a = if a < iu then max (A.u a) (A'.u a) else A.u a
theorem MxTo.start (A A' : Wal) : MxTo A A' 0 0 0 A := ⟨fun a b _ _ => by rw [if_neg (by omega)], fun a _ => by rw [if_neg (by omega)]⟩
theorem MxTo.stepU {A A' C : Wal} {i : Nat} (h : MxTo A A' i i 0 C) (hf : WForm C) (hi : i < 3) : C.u i = A.u i ∧ MxTo A A' (i + 1) i 0 (putU C i (max (A.u i) (A'.u i))) := by
  have h1 := h.u i hi
  rw [if_neg (by omega)] at h1
  refine ⟨h1, fun a b ha hb => by rw [putU_r]; exact h.r a b ha hb, fun a ha => ?_⟩
  rw [putU_u hf i _ hi]
  by_cases e : a = i
  · subst e; rw [if_pos rfl, if_pos (by omega)]
  · rw [if_neg e, h.u a ha]
    by_cases e2 : a < i
    · rw [if_pos e2, if_pos (by omega)]
    · rw [if_neg e2, if_neg (by omega)]
theorem MxTo.stepR {A A' C : Wal} {iu i j : Nat} (h : MxTo A A' iu i j C) (hf : WForm C) (hi : i < 3) (hj : j < 3) : C.r i j = A.r i j ∧ MxTo A A' iu i (j + 1) (putR C i j (max (A.r i j) (A'.r i j))) := by
  have h1 := h.r i j hi hj
  rw [if_neg (by omega)] at h1
  refine ⟨h1, fun a b ha hb => ?_, fun a ha => by rw [putR_u]; exact h.u a ha⟩
  rw [putR_r hf i j _ hi hj]
  by_cases e : a = i ∧ b = j
  · obtain ⟨rfl, rfl⟩ := e
    rw [if_pos ⟨rfl, rfl⟩, if_pos (by omega)]
  · rw [if_neg e, h.r a b ha hb]
    by_cases e2 : a < i ∨ (a = i ∧ b < j)
    · rw [if_pos e2, if_pos (by omega)]
    · rw [if_neg e2, if_neg (by omega)]
theorem MxTo.row {A A' C : Wal} {i : Nat} (h : MxTo A A' (i + 1) i 3 C) : MxTo A A' (i + 1) (i + 1) 0 C := by
  refine ⟨fun a b ha hb => ?_, h.u⟩
  rw [h.r a b ha hb]
  by_cases e : a < i ∨ (a = i ∧ b < 3)
  · rw [if_pos e, if_pos (by omega)]
  · rw [if_neg e, if_neg (by omega)]
theorem MxTo.last {A A' C : Wal} (h : MxTo A A' 3 3 0 C) : IsMax A A' C := by
  intro i hi
  refine ⟨fun j hj => ?_, ?_⟩
  · rw [h.r i j hi hj, if_pos (by omega)]
  · rw [h.u i hi, if_pos hi]
theorem wal_block_ne {w : World} {g7 g j t : Nat} {a1 a2 a3 : Option Addr} {n1 n2 n3 c1 c2 c3 : Nat} {v : Int} (h : w.heap[g7]? = some (.cells #[.slice a1 n1 c1, .slice a2 n2 c2, .slice a3 n3 c3] t (0, 0))) (hj : j < 3) (hc : w.cell? ⟨g, j, none⟩ = some (.int .i64 v)) : g ≠ g7 := by
  rintro rfl
  obtain ⟨k0, k1, k2, _, _, _⟩ := blk_cells h
  obtain rfl | rfl | rfl : j = 0 ∨ j = 1 ∨ j = 2 := by omega
  · rw [k0] at hc; cases hc
  · rw [k1] at hc; cases hc
  · rw [k2] at hc; cases hc
def MergePost (A A' : Wal) (w : World) (e : Ending) (w' : World) : Prop := ∃ x y z vs C, e = .returned (.tuple #[.agg #[x, y, z], .int .i64 0]) ∧ WalOwn w' w.heap.size x y z C vs ∧ IsMax A A' C ∧ w.grownBy w' none

end Go.Proofs.YtjhfglhoiplfmaaDoor
