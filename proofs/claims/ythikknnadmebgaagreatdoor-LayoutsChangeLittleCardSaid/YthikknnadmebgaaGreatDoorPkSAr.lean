/- 'v.Layout = append(slices.Clone(v.Layout), s)[1-min(len(v.Layout), 1):]', in whatever order. Written by gen_versreg.py. -/
import Derived.Test.YthikknnadmebgaaGreatDoorPkSAo
import Derived.Test.YthikknnadmebgaaGreatDoorPkSAp
import Derived.Test.YthikknnadmebgaaGreatDoorPkSAq
import Derived.Test.YthikknnadmebgaaGreatDoorPkSAb
import Derived.Test.YthikknnadmebgaaGreatDoorPkSAe
namespace Go.Proofs.YthikknnadmebgaaGreatDoor
open Go.RowKit
attribute [local go_sem ↓] Go.wp_at_zero Go.wp_at_succ

structure VrC where
  W0 : World
  p : Nat
  lw : Nat
  k : Nat
  l : List Int
  g : Nat
  q : Nat
  cur : Array Value
  la : Option Addr
  lc : Nat
  lay : List ByteArray
  s : ByteArray
def VrC.F (X : VrC) : List ByteArray := if X.lay.length = 0 then [] else X.lay ++ [X.s]
structure VrP (X : VrC) (sz : Nat) (listed : Array Bool) (a : Act) (wx : World) : Prop where
  gr : X.W0.grownBy wx (some X.p)
  sz : a.tmps.size = sz
  str : StreamAt wx X.p X.lw X.l (X.k + if listed.getD 8 false = true then 1 else 0)
  i5 : listed.getD 5 false = true → listed.getD 10 false = false → wx.ownsRow X.W0.heap.size 9 1 (a.tmps.getD 60 undef) X.lay.length (strs X.lay)
  i7 : listed.getD 7 false = true → listed.getD 8 false = false → ∃ b, a.tmps.getD 62 undef = .slice (some ⟨b, 0, none⟩) 2 2 ∧ X.W0.heap.size ≤ b ∧ wx.heap[b]? = some (.cells #[.string ⟨#[]⟩, .string ⟨#[90]⟩] 9 (0, 0))
  i9 : listed.getD 9 false = true → listed.getD 10 false = false → ∃ b, a.tmps.getD 64 undef = .slice (some ⟨b, 0, none⟩) 1 1 ∧ X.W0.heap.size ≤ b ∧ wx.heap[b]? = some (.cells #[.string X.s] 9 (0, 0))
  i10 : listed.getD 10 false = true → wx.ownsRow X.W0.heap.size 9 1 (a.tmps.getD 65 undef) (X.lay.length + 1) (strs (X.lay ++ [X.s]))
  i18 : listed.getD 18 false = true → ∃ b off c, a.tmps.getD 73 undef = .slice (some ⟨b, off, none⟩) X.F.length c ∧ X.W0.heap.size ≤ b ∧ CellsAt wx (some ⟨b, off, none⟩) (strs X.F)
structure VrF (X : VrC) (wx : World) : Prop where
  ex : ∃ wy b off c, wx = wy.setCell ⟨X.g, X.q * 2 + 1, none⟩ (.slice (some ⟨b, off, none⟩) X.F.length c) ∧ X.W0.grownBy wy (some X.p) ∧ StreamAt wy X.p X.lw X.l (X.k + 1) ∧ X.W0.heap.size ≤ b ∧ CellsAt wy (some ⟨b, off, none⟩) (strs X.F)
structure VrS (X : VrC) (sz : Nat) (listed : Array Bool) (a : Act) (wx : World) : Prop where
  pre : listed.getD 21 false = false → VrP X sz listed a wx
  fin : listed.getD 21 false = true → VrF X wx
/-- An operation that makes new memory, or writes the stream, and whose value nobody keeps. -/
theorem VrP.skip {X : VrC} {sz : Nat} {listed : Array Bool} {a : Act} {wx wy : World} (h : VrP X sz listed a wx) {i d : Nat} (v : Value) (hi : i ≠ 5 ∧ i ≠ 7 ∧ i ≠ 8 ∧ i ≠ 9 ∧ i ≠ 10 ∧ i ≠ 18) (hd : d ≠ 60 ∧ d ≠ 62 ∧ d ≠ 64 ∧ d ≠ 65 ∧ d ≠ 73) (g : wx.grownBy wy none) :
    VrP X sz (listed.setIfInBounds i true) (a.put (some d) v) wy := by
  have e : ∀ j, i ≠ j → (listed.setIfInBounds i true).getD j false = listed.getD j false := fun j hj => getD_set_off (fun e => hj e.symm)
  have ed : ∀ t, d ≠ t → (a.put (some d) v).tmps.getD t undef = a.tmps.getD t undef := fun t ht => by rw [put_get, if_neg (fun e => ht e.1.symm)]
  obtain ⟨h5, h7, h8, h9, h10, h18⟩ := hi
  obtain ⟨d60, d62, d64, d65, d73⟩ := hd
  refine ⟨gr_trans h.gr (gr_weak g _), (put_size _ _ _).trans h.sz, ?_, ?_, ?_, ?_, ?_, ?_⟩
  · rw [e 8 h8]; exact h.str.keep0 g
  · rw [e 5 h5, e 10 h10, ed 60 d60]; exact fun x y => own_keep0 (h.i5 x y) g
  · rw [e 7 h7, e 8 h8, ed 62 d62]
    intro x y
    obtain ⟨b, h1, h2, h3⟩ := h.i7 x y
    exact ⟨b, h1, h2, (g.block b (lt_of_block h3) (by simp)).trans h3⟩
  · rw [e 9 h9, e 10 h10, ed 64 d64]
    intro x y
    obtain ⟨b, h1, h2, h3⟩ := h.i9 x y
    exact ⟨b, h1, h2, (g.block b (lt_of_block h3) (by simp)).trans h3⟩
  · rw [e 10 h10, ed 65 d65]; exact fun x => own_keep0 (h.i10 x) g
  · rw [e 18 h18, ed 73 d73]
    intro x
    obtain ⟨b, off, c, h1, h2, h3⟩ := h.i18 x
    exact ⟨b, off, c, h1, h2, h3.keep0 g⟩
def VrV (X : VrC) (j : Nat) (v : Value) : Prop :=
  match j with
  | 0 => v = .pointer (some ⟨X.g, X.q * 2, none⟩)
  | 1 => v = .pointer (some ⟨X.g, X.q * 2, none⟩)
  | 2 => v = .pointer (some ⟨X.g, X.q * 2, none⟩)
  | 3 => v = .pointer (some ⟨X.g, X.q * 2 + 1, none⟩)
  | 4 => v = .slice X.la X.lay.length X.lc
  | 6 => v = .pointer (some ⟨X.p, 0, none⟩)
  | 8 => v = .string X.s
  | 11 => v = .pointer (some ⟨X.g, X.q * 2, none⟩)
  | 12 => v = .pointer (some ⟨X.g, X.q * 2, none⟩)
  | 13 => v = .pointer (some ⟨X.g, X.q * 2 + 1, none⟩)
  | 14 => v = .slice X.la X.lay.length X.lc
  | 15 => v = .int .i64 X.lay.length
  | 16 => v = .int .i64 (if X.lay.length = 0 then 0 else 1)
  | 17 => v = .int .i64 (if X.lay.length = 0 then 1 else 0)
  | 19 => v = .pointer (some ⟨X.g, X.q * 2, none⟩)
  | 20 => v = .pointer (some ⟨X.g, X.q * 2 + 1, none⟩)
  | _ => True
theorem VrP.clone {X : VrC} {sz : Nat} {listed : Array Bool} {a : Act} {wx wy : World} (h : VrP X sz listed a wx) (hls : listed.size = 22) (hsz : 75 < sz) (v : Value) (g : wx.grownBy wy none) (ho : wy.ownsRow wx.heap.size 9 1 v X.lay.length (strs X.lay)) : VrP X sz (listed.setIfInBounds 5 true) (a.put (some 60) v) wy := by
  have e : ∀ j, 5 ≠ j → (listed.setIfInBounds 5 true).getD j false = listed.getD j false := fun j hj => getD_set_off (fun e => hj e.symm)
  have es : (listed.setIfInBounds 5 true).getD 5 false = true := getD_set_eq (by rw [hls]; decide)
  have ed : ∀ t, 60 ≠ t → (a.put (some 60) v).tmps.getD t undef = a.tmps.getD t undef := fun t ht => by rw [put_get, if_neg (fun e => ht e.1.symm)]
  have ev : (a.put (some 60) v).tmps.getD 60 undef = v := by rw [put_get, if_pos ⟨rfl, by rw [h.sz]; exact Nat.lt_of_le_of_lt (by decide) hsz⟩]
  refine ⟨gr_trans h.gr (gr_weak g _), (put_size _ _ _).trans h.sz, ?_, ?_, ?_, ?_, ?_, ?_⟩
  · rw [e 8 (by decide)]; exact h.str.keep0 g
  · intro _ _; rw [ev]; exact own_base ho h.gr.size
  · rw [e 7 (by decide), e 8 (by decide), ed 62 (by decide)]
    intro x y
    obtain ⟨b, h1, h2, h3⟩ := h.i7 x y
    exact ⟨b, h1, h2, (g.block b (lt_of_block h3) (by simp)).trans h3⟩
  · rw [e 9 (by decide), e 10 (by decide), ed 64 (by decide)]
    intro x y
    obtain ⟨b, h1, h2, h3⟩ := h.i9 x y
    exact ⟨b, h1, h2, (g.block b (lt_of_block h3) (by simp)).trans h3⟩
  · rw [e 10 (by decide), ed 65 (by decide)]; exact fun x => own_keep0 (h.i10 x) g
  · rw [e 18 (by decide), ed 73 (by decide)]
    intro x
    obtain ⟨b, off, c, h1, h2, h3⟩ := h.i18 x
    exact ⟨b, off, c, h1, h2, h3.keep0 g⟩
theorem VrP.bs {X : VrC} {sz : Nat} {listed : Array Bool} {a : Act} {wx wy : World} (h : VrP X sz listed a wx) (hls : listed.size = 22) (hsz : 75 < sz) (c : Array Value) (hc : c = #[.string ⟨#[]⟩, .string ⟨#[90]⟩]) (g : wx.grownBy wy none) (hb : wy.heap[wx.heap.size]? = some (.cells c 9 (0, 0))) : VrP X sz (listed.setIfInBounds 7 true) (a.put (some 62) (.slice (some ⟨wx.heap.size, 0, none⟩) 2 2)) wy := by
  obtain ⟨v, hv⟩ : ∃ v, v = Value.slice (some ⟨wx.heap.size, 0, none⟩) 2 2 := ⟨_, rfl⟩
  rw [← hv]
  have e : ∀ j, 7 ≠ j → (listed.setIfInBounds 7 true).getD j false = listed.getD j false := fun j hj => getD_set_off (fun e => hj e.symm)
  have es : (listed.setIfInBounds 7 true).getD 7 false = true := getD_set_eq (by rw [hls]; decide)
  have ed : ∀ t, 62 ≠ t → (a.put (some 62) v).tmps.getD t undef = a.tmps.getD t undef := fun t ht => by rw [put_get, if_neg (fun e => ht e.1.symm)]
  have ev : (a.put (some 62) v).tmps.getD 62 undef = v := by rw [put_get, if_pos ⟨rfl, by rw [h.sz]; exact Nat.lt_of_le_of_lt (by decide) hsz⟩]
  refine ⟨gr_trans h.gr (gr_weak g _), (put_size _ _ _).trans h.sz, ?_, ?_, ?_, ?_, ?_, ?_⟩
  · rw [e 8 (by decide)]; exact h.str.keep0 g
  · rw [e 5 (by decide), e 10 (by decide), ed 60 (by decide)]; exact fun x y => own_keep0 (h.i5 x y) g
  · intro _ _; rw [ev]; exact ⟨_, hv, h.gr.size, by rw [← hc]; exact hb⟩
  · rw [e 9 (by decide), e 10 (by decide), ed 64 (by decide)]
    intro x y
    obtain ⟨b, h1, h2, h3⟩ := h.i9 x y
    exact ⟨b, h1, h2, (g.block b (lt_of_block h3) (by simp)).trans h3⟩
  · rw [e 10 (by decide), ed 65 (by decide)]; exact fun x => own_keep0 (h.i10 x) g
  · rw [e 18 (by decide), ed 73 (by decide)]
    intro x
    obtain ⟨b, off, c, h1, h2, h3⟩ := h.i18 x
    exact ⟨b, off, c, h1, h2, h3.keep0 g⟩
theorem VrP.one {X : VrC} {sz : Nat} {listed : Array Bool} {a : Act} {wx wy : World} (h : VrP X sz listed a wx) (hls : listed.size = 22) (hsz : 75 < sz) (hp : X.p < X.W0.heap.size) (v : Value) (g : wx.grownBy wy (some X.p)) (hs : StreamAt wy X.p X.lw X.l (X.k + 1)) : VrP X sz (listed.setIfInBounds 8 true) (a.put (some 63) v) wy := by
  have e : ∀ j, 8 ≠ j → (listed.setIfInBounds 8 true).getD j false = listed.getD j false := fun j hj => getD_set_off (fun e => hj e.symm)
  have es : (listed.setIfInBounds 8 true).getD 8 false = true := getD_set_eq (by rw [hls]; decide)
  have ed : ∀ t, 63 ≠ t → (a.put (some 63) v).tmps.getD t undef = a.tmps.getD t undef := fun t ht => by rw [put_get, if_neg (fun e => ht e.1.symm)]
  have ev : (a.put (some 63) v).tmps.getD 63 undef = v := by rw [put_get, if_pos ⟨rfl, by rw [h.sz]; exact Nat.lt_of_le_of_lt (by decide) hsz⟩]
  refine ⟨gr_trans h.gr g, (put_size _ _ _).trans h.sz, ?_, ?_, ?_, ?_, ?_, ?_⟩
  · rw [es]; exact hs
  · rw [e 5 (by decide), e 10 (by decide), ed 60 (by decide)]; exact fun x y => own_keepS (h.i5 x y) g hp
  · rw [es]; intro _ y; cases y
  · rw [e 9 (by decide), e 10 (by decide), ed 64 (by decide)]
    intro x y
    obtain ⟨b, h1, h2, h3⟩ := h.i9 x y
    exact ⟨b, h1, h2, (g.block b (lt_of_block h3) (by simp; omega)).trans h3⟩
  · rw [e 10 (by decide), ed 65 (by decide)]; exact fun x => own_keepS (h.i10 x) g hp
  · rw [e 18 (by decide), ed 73 (by decide)]
    intro x
    obtain ⟨b, off, c, h1, h2, h3⟩ := h.i18 x
    exact ⟨b, off, c, h1, h2, h3.keep g (fun b off e e2 => by cases e; cases e2; omega)⟩
theorem VrP.bs2 {X : VrC} {sz : Nat} {listed : Array Bool} {a : Act} {wx wy : World} (h : VrP X sz listed a wx) (hls : listed.size = 22) (hsz : 75 < sz) (g : wx.grownBy wy none) (hb : wy.heap[wx.heap.size]? = some (.cells #[.string X.s] 9 (0, 0))) : VrP X sz (listed.setIfInBounds 9 true) (a.put (some 64) (.slice (some ⟨wx.heap.size, 0, none⟩) 1 1)) wy := by
  obtain ⟨v, hv⟩ : ∃ v, v = Value.slice (some ⟨wx.heap.size, 0, none⟩) 1 1 := ⟨_, rfl⟩
  rw [← hv]
  have e : ∀ j, 9 ≠ j → (listed.setIfInBounds 9 true).getD j false = listed.getD j false := fun j hj => getD_set_off (fun e => hj e.symm)
  have es : (listed.setIfInBounds 9 true).getD 9 false = true := getD_set_eq (by rw [hls]; decide)
  have ed : ∀ t, 64 ≠ t → (a.put (some 64) v).tmps.getD t undef = a.tmps.getD t undef := fun t ht => by rw [put_get, if_neg (fun e => ht e.1.symm)]
  have ev : (a.put (some 64) v).tmps.getD 64 undef = v := by rw [put_get, if_pos ⟨rfl, by rw [h.sz]; exact Nat.lt_of_le_of_lt (by decide) hsz⟩]
  refine ⟨gr_trans h.gr (gr_weak g _), (put_size _ _ _).trans h.sz, ?_, ?_, ?_, ?_, ?_, ?_⟩
  · rw [e 8 (by decide)]; exact h.str.keep0 g
  · rw [e 5 (by decide), e 10 (by decide), ed 60 (by decide)]; exact fun x y => own_keep0 (h.i5 x y) g
  · rw [e 7 (by decide), e 8 (by decide), ed 62 (by decide)]
    intro x y
    obtain ⟨b, h1, h2, h3⟩ := h.i7 x y
    exact ⟨b, h1, h2, (g.block b (lt_of_block h3) (by simp)).trans h3⟩
  · intro _ _; rw [ev]; exact ⟨_, hv, h.gr.size, hb⟩
  · rw [e 10 (by decide), ed 65 (by decide)]; exact fun x => own_keep0 (h.i10 x) g
  · rw [e 18 (by decide), ed 73 (by decide)]
    intro x
    obtain ⟨b, off, c, h1, h2, h3⟩ := h.i18 x
    exact ⟨b, off, c, h1, h2, h3.keep0 g⟩
theorem VrP.app {X : VrC} {sz : Nat} {listed : Array Bool} {a : Act} {wx wy : World} (h : VrP X sz listed a wx) (hls : listed.size = 22) (hsz : 75 < sz) (hp : X.p < X.W0.heap.size) (v u : Value) (h8 : listed.getD 8 false = true) (h18 : listed.getD 18 false = false) (hu : ∀ q, u.ownBlock = some q → X.W0.heap.size ≤ q) (g : wx.grownBy wy u.ownBlock) (ho : wy.ownsRow X.W0.heap.size 9 1 v (X.lay.length + 1) (strs (X.lay ++ [X.s]))) : VrP X sz (listed.setIfInBounds 10 true) (a.put (some 65) v) wy := by
  have e : ∀ j, 10 ≠ j → (listed.setIfInBounds 10 true).getD j false = listed.getD j false := fun j hj => getD_set_off (fun e => hj e.symm)
  have es : (listed.setIfInBounds 10 true).getD 10 false = true := getD_set_eq (by rw [hls]; decide)
  have ed : ∀ t, 65 ≠ t → (a.put (some 65) v).tmps.getD t undef = a.tmps.getD t undef := fun t ht => by rw [put_get, if_neg (fun e => ht e.1.symm)]
  have ev : (a.put (some 65) v).tmps.getD 65 undef = v := by rw [put_get, if_pos ⟨rfl, by rw [h.sz]; exact Nat.lt_of_le_of_lt (by decide) hsz⟩]
  have hpl := h.gr.size
  refine ⟨gr_grown h.gr g hu, (put_size _ _ _).trans h.sz, ?_, ?_, ?_, ?_, ?_, ?_⟩
  · rw [e 8 (by decide)]; exact h.str.keep g (fun q hq => Nat.lt_of_lt_of_le hp (hu q hq))
  · rw [es]; intro _ y; cases y
  · rw [e 8 (by decide), h8]; intro _ y; cases y
  · rw [es]; intro _ y; cases y
  · intro _; rw [ev]; exact ho
  · rw [e 18 (by decide), h18]; intro x; cases x
theorem VrP.cut {X : VrC} {sz : Nat} {listed : Array Bool} {a : Act} {wx : World} (h : VrP X sz listed a wx) (hls : listed.size = 22) (hsz : 75 < sz) (b off c : Nat) (v : Value) (hv : v = .slice (some ⟨b, off, none⟩) X.F.length c) (hb : X.W0.heap.size ≤ b) (hc : CellsAt wx (some ⟨b, off, none⟩) (strs X.F)) : VrP X sz (listed.setIfInBounds 18 true) (a.put (some 73) v) wx := by
  have g := gr_refl wx none
  have e : ∀ j, 18 ≠ j → (listed.setIfInBounds 18 true).getD j false = listed.getD j false := fun j hj => getD_set_off (fun e => hj e.symm)
  have es : (listed.setIfInBounds 18 true).getD 18 false = true := getD_set_eq (by rw [hls]; decide)
  have ed : ∀ t, 73 ≠ t → (a.put (some 73) v).tmps.getD t undef = a.tmps.getD t undef := fun t ht => by rw [put_get, if_neg (fun e => ht e.1.symm)]
  have ev : (a.put (some 73) v).tmps.getD 73 undef = v := by rw [put_get, if_pos ⟨rfl, by rw [h.sz]; exact Nat.lt_of_le_of_lt (by decide) hsz⟩]
  refine ⟨h.gr, (put_size _ _ _).trans h.sz, ?_, ?_, ?_, ?_, ?_, ?_⟩
  · rw [e 8 (by decide)]; exact h.str.keep0 g
  · rw [e 5 (by decide), e 10 (by decide), ed 60 (by decide)]; exact fun x y => own_keep0 (h.i5 x y) g
  · rw [e 7 (by decide), e 8 (by decide), ed 62 (by decide)]
    intro x y
    obtain ⟨b, h1, h2, h3⟩ := h.i7 x y
    exact ⟨b, h1, h2, (g.block b (lt_of_block h3) (by simp)).trans h3⟩
  · rw [e 9 (by decide), e 10 (by decide), ed 64 (by decide)]
    intro x y
    obtain ⟨b, h1, h2, h3⟩ := h.i9 x y
    exact ⟨b, h1, h2, (g.block b (lt_of_block h3) (by simp)).trans h3⟩
  · rw [e 10 (by decide), ed 65 (by decide)]; exact fun x => own_keep0 (h.i10 x) g
  · intro _; rw [ev]; exact ⟨b, off, c, hv, hb, hc⟩
theorem getD_tf2 {l : Array Bool} {i : Nat} (h : i < l.size) (ht : l.getD i true = true) : l.getD i false = true := by
  rw [Array.getD_eq_getD_getElem?, Array.getElem?_eq_getElem h] at ht ⊢
  exact ht
end Go.Proofs.YthikknnadmebgaaGreatDoor

/-! Versions, as the stream makes them: the walk. -/
namespace Go.Proofs.YthikknnadmebgaaGreatDoor
open Go.RowKit
variable {lw : Nat}
attribute [local go_sem ↓] Go.wp_at_zero Go.wp_at_succ

theorem blk2C {w : World} {g t : Nat} {a b : Value} (h : w.heap[g]? = some (.cells #[a, b] t (0, 0))) : w.cell? ⟨g, 0, none⟩ = some a ∧ w.cell? ⟨g, 1, none⟩ = some b := ⟨blkC h 0 rfl, blkC h 1 rfl⟩
def VersPost (l : List Int) (k p lw : Nat) (w : World) (e : Ending) (w' : World) : Prop :=
  ∃ v, e = .returned v ∧ VersAt w' w.heap.size v (versM l k) ∧ StreamAt w' p lw l (versK l k) ∧ w.grownBy w' (some p)
end Go.Proofs.YthikknnadmebgaaGreatDoor
