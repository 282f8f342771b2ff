/- The drawn region of DepotsStay: what holds of the world and of the slots, by what has been done. -/
import Derived.Test.YtakabckmiodjaaaDoorPkDAx
import Derived.Test.YtakabckmiodjaaaDoorPkDAy
namespace Go.Proofs.YtakabckmiodjaaaDoor
open Go.RowKit

def TwoBlk (w : World) (r : Nat) : Prop := ∃ (u0 u1 : Value) (t : Nat), w.heap[r]? = some (.cells #[u0, u1] t (0, 0))
theorem StreamAt.two {w : World} {p lw k : Nat} {l : List Int} (h : StreamAt w p lw l k) : TwoBlk w p := by
  obtain ⟨a, cap, hb, _⟩ := h.blk
  exact ⟨_, _, _, hb⟩
theorem TwoBlk.ne {w : World} {r P : Nat} (h : TwoBlk w r) (hP : NilBlk w P) : P ≠ r := by
  rintro rfl
  obtain ⟨u0, u1, t, hb⟩ := h
  unfold NilBlk at hP
  rw [hb] at hP
  simp at hP
abbrev W3 := Value × Value × Value
def Shp (u : W3) : Prop := ∃ b1 o1 c1 b2 o2 c2 b3 o3 c3, u = (.slice (some ⟨b1, o1, none⟩) 3 c1, .slice (some ⟨b2, o2, none⟩) 3 c2, .slice (some ⟨b3, o3, none⟩) 3 c3)
theorem keepW {w w1 : World} {r : Nat} {x y z : Value} {A : Wal} (h : WalAt w (fun _ => True) x y z A) (g : w.grownBy w1 (some r)) (hr : TwoBlk w r ∨ NilBlk w r) : WalAt w1 (fun _ => True) x y z A := by
  rcases hr with ⟨u0, u1, t, hb⟩ | hb
  · exact ((h.notTwo hb).keep g (fun q e hB => by cases e; exact hB.2 rfl)).weak (fun _ _ _ => trivial)
  · exact ((h.notNil hb).keep g (fun q e hB => by cases e; exact hB.2 rfl)).weak (fun _ _ _ => trivial)
theorem keepB {w w1 : World} {r b : Nat} {u : W3} (h : BoxAt w b u) (hs : Shp u) (g : w.grownBy w1 (some r)) (hr : TwoBlk w r ∨ NilBlk w r) : BoxAt w1 b u := by
  refine h.keep g (fun q e => ?_)
  cases e
  rintro rfl
  rcases hr with ⟨u0, u1, t, hb⟩ | hb
  · have := two_cells hb h.c2; omega
  · have h1 := nil_cells hb h.c0
    obtain ⟨b1, o1, c1, b2, o2, c2, b3, o3, c3, rfl⟩ := hs
    simp at h1
/-- One of the two wallets, by what has been done of it. -/
def Pc (T : Nat → Value) (wr : World) (A : Wal) (c d e : Bool) (t1 t2 t3 t4 : Nat) : Prop :=
  ∃ (wb : Nat) (u : W3), T t1 = .slice (some ⟨wb, 0, none⟩) 3 3 ∧ BoxAt wr wb u ∧ WalAt wr (fun _ => True) u.1 u.2.1 u.2.2 A ∧ Shp u ∧ (c = true → T t2 = .pointer (some ⟨wb, 0, none⟩)) ∧ (d = true → T t3 = .agg #[u.1, u.2.1, u.2.2]) ∧ (e = true → ∃ P, T t4 = .pointer (some ⟨P, 0, none⟩) ∧ BoxAt wr P u)
theorem Pc.keep {T : Nat → Value} {wr w1 : World} {A : Wal} {c d e : Bool} {t1 t2 t3 t4 r : Nat} (h : Pc T wr A c d e t1 t2 t3 t4) (g : wr.grownBy w1 (some r)) (hr : TwoBlk wr r ∨ NilBlk wr r) : Pc T w1 A c d e t1 t2 t3 t4 := by
  obtain ⟨wb, u, h1, h2, h3, h4, h5, h6, h7⟩ := h
  exact ⟨wb, u, h1, keepB h2 h4 g hr, keepW h3 g hr, h4, h5, h6, fun he => by obtain ⟨P, k1, k2⟩ := h7 he; exact ⟨P, k1, keepB k2 h4 g hr⟩⟩
theorem Pc.keep0 {T : Nat → Value} {wr w1 : World} {A : Wal} {c d e : Bool} {t1 t2 t3 t4 : Nat} (h : Pc T wr A c d e t1 t2 t3 t4) (g : wr.grownBy w1 none) : Pc T w1 A c d e t1 t2 t3 t4 := by
  obtain ⟨wb, u, h1, h2, h3, h4, h5, h6, h7⟩ := h
  exact ⟨wb, u, h1, h2.keep g (fun q e => by cases e), h3.keep0 g, h4, h5, h6, fun he => by obtain ⟨P, k1, k2⟩ := h7 he; exact ⟨P, k1, k2.keep g (fun q e => by cases e)⟩⟩
/-- A variable that was made. -/
def Al (T : Nat → Value) (wr w : World) (t : Nat) (e : Bool) : Prop := ∃ P, T t = .pointer (some ⟨P, 0, none⟩) ∧ w.heap.size + 2 ≤ P ∧ P < wr.heap.size ∧ (e = false → NilBlk wr P)
theorem Al.keep0 {T : Nat → Value} {wr w1 w : World} {t : Nat} {e : Bool} (h : Al T wr w t e) (g : wr.grownBy w1 none) : Al T w1 w t e := by
  obtain ⟨P, h1, h2, h3, h4⟩ := h
  exact ⟨P, h1, h2, Nat.lt_of_lt_of_le h3 g.size, fun he => (h4 he).keep0 g⟩
theorem Al.keep {T : Nat → Value} {wr w1 w : World} {t r : Nat} {e : Bool} (h : Al T wr w t e) (g : wr.grownBy w1 (some r)) (hr : TwoBlk wr r ∨ T t ≠ .pointer (some ⟨r, 0, none⟩)) : Al T w1 w t e := by
  obtain ⟨P, h1, h2, h3, h4⟩ := h
  refine ⟨P, h1, h2, Nat.lt_of_lt_of_le h3 g.size, fun he => (h4 he).keepS g ?_⟩
  rcases hr with hr | hr
  · exact hr.ne (h4 he)
  · rintro rfl; exact hr h1
def ub (b : Nat → Bool) (i : Nat) : Nat → Bool := fun j => if j = i then true else b j
def ut (T : Nat → Value) (d : Nat) (v : Value) : Nat → Value := fun t => if t = d then v else T t
structure RS (w : World) (p p2 lw : Nat) (l : List Int) (q : Nat) (A : Wal) (b : Nat → Bool) (T : Nat → Value) (wr : World) : Prop where
  fx : lw ≤ w.heap.size ∧ w.heap.size ≤ p ∧ p < p2 ∧ p2 < w.heap.size + 2
  sA : StreamAt wr p lw l (if b 1 = true then q else 0)
  sB : StreamAt wr p2 lw l (if b 5 = true then q else 0)
  gr : w.grownBy wr none
  sz : w.heap.size + 2 ≤ wr.heap.size
  one : b 1 = true → Pc T wr A (b 2) (b 3) (b 10) 28 29 30 5
  two : b 5 = true → Pc T wr A (b 6) (b 7) (b 11) 32 33 34 6
  al1 : b 8 = true → Al T wr w 5 (b 10)
  al2 : b 9 = true → Al T wr w 6 (b 11)
  ne : b 8 = true → b 9 = true → T 5 ≠ T 6
  ok : b 1 = true → WOk A 1600 ∧ q ≤ 100
variable {w wr w1 : World} {p p2 lw q : Nat} {l : List Int} {A : Wal} {b : Nat → Bool} {T : Nat → Value}
theorem RS.move (h : RS w p p2 lw l q A b T wr) (v : Value) : RS w p p2 lw l q A (ub b 0) (ut T 27 v) wr ∧ RS w p p2 lw l q A (ub b 4) (ut T 31 v) wr :=
  ⟨⟨h.fx, h.sA, h.sB, h.gr, h.sz, h.one, h.two, h.al1, h.al2, h.ne, h.ok⟩, ⟨h.fx, h.sA, h.sB, h.gr, h.sz, h.one, h.two, h.al1, h.al2, h.ne, h.ok⟩⟩
theorem RS.drew (h : RS w p p2 lw l q A b T wr) : RS w p p2 lw l q A b T wr.drew :=
  ⟨h.fx, h.sA.keep0 (gr_drew (gr_refl _ _)), h.sB.keep0 (gr_drew (gr_refl _ _)), gr_drew h.gr, h.sz, fun e => (h.one e).keep0 (gr_drew (gr_refl _ _)), fun e => (h.two e).keep0 (gr_drew (gr_refl _ _)), fun e => (h.al1 e).keep0 (gr_drew (gr_refl _ _)), fun e => (h.al2 e).keep0 (gr_drew (gr_refl _ _)), h.ne, h.ok⟩
theorem shp_of {w : World} {p wb : Nat} {V : Nat → W3} {W : Nat → Wal} (K : Kiosks w p wb V W) : Shp (V 0) := by
  obtain ⟨b1, o1, c1, b2, o2, c2, b3, o3, c3, h⟩ := K.shape0
  exact ⟨b1, o1, c1, b2, o2, c2, b3, o3, c3, h⟩
theorem RS.callA (h : RS w p p2 lw l q A b T wr) (h2 : b 2 = false) (h3 : b 3 = false) (h5 : b 5 = false) (h10 : b 10 = false) {wb : Nat} {V : Nat → W3} {W : Nat → Wal} (g : wr.grownBy w1 (some p)) (hs : StreamAt w1 p lw l q) (K : Kiosks w1 p wb V W) (hW : W 0 = A) (hok : WOk A 1600 ∧ q ≤ 100) :
    RS w p p2 lw l q A (ub b 1) (ut T 28 (.slice (some ⟨wb, 0, none⟩) 3 3)) w1 := by
  have hf := h.fx
  have h2' : ub b 1 2 = false := h2
  have h3' : ub b 1 3 = false := h3
  have h5' : ub b 1 5 = false := h5
  have h10' : ub b 1 10 = false := h10
  refine ⟨hf, hs, h.sB.keepNe g (fun q e => by cases e; omega), gr_grown h.gr g (fun q e => by cases e; omega), Nat.le_trans h.sz g.size, fun _ => ?_, fun e => (by rw [h5'] at e; cases e), fun e => (h.al1 e).keep g (.inl h.sA.two), fun e => (h.al2 e).keep g (.inl h.sA.two), h.ne, fun _ => hok⟩
  rw [h2', h3', h10']
  obtain ⟨c0, c1, c2⟩ := K.cells0 (x := (V 0).1) (y := (V 0).2.1) (z := (V 0).2.2) rfl
  exact ⟨wb, V 0, rfl, ⟨c0, c1, c2⟩, by rw [← hW]; exact (K.wal 0 (by omega)).weak (fun _ _ _ => trivial), shp_of K, fun e => (by cases e), fun e => (by cases e), fun e => (by cases e)⟩
theorem RS.callB (h : RS w p p2 lw l q A b T wr) (h6 : b 6 = false) (h7 : b 7 = false) (h11 : b 11 = false) {wb : Nat} {V : Nat → W3} {W : Nat → Wal} (g : wr.grownBy w1 (some p2)) (hs : StreamAt w1 p2 lw l q) (K : Kiosks w1 p2 wb V W) (hW : W 0 = A) :
    RS w p p2 lw l q A (ub b 5) (ut T 32 (.slice (some ⟨wb, 0, none⟩) 3 3)) w1 := by
  have hf := h.fx
  have h6' : ub b 5 6 = false := h6
  have h7' : ub b 5 7 = false := h7
  have h11' : ub b 5 11 = false := h11
  refine ⟨hf, h.sA.keepNe g (fun q e => by cases e; omega), hs, gr_grown h.gr g (fun q e => by cases e; omega), Nat.le_trans h.sz g.size, fun e => (h.one e).keep g (.inl h.sB.two), fun _ => ?_, fun e => (h.al1 e).keep g (.inl h.sB.two), fun e => (h.al2 e).keep g (.inl h.sB.two), h.ne, h.ok⟩
  rw [h6', h7', h11']
  obtain ⟨c0, c1, c2⟩ := K.cells0 (x := (V 0).1) (y := (V 0).2.1) (z := (V 0).2.2) rfl
  exact ⟨wb, V 0, rfl, ⟨c0, c1, c2⟩, by rw [← hW]; exact (K.wal 0 (by omega)).weak (fun _ _ _ => trivial), shp_of K, fun e => (by cases e), fun e => (by cases e), fun e => (by cases e)⟩
theorem RS.ixA (h : RS w p p2 lw l q A b T wr) {wb : Nat} (h1 : b 1 = true) (hT : T 28 = .slice (some ⟨wb, 0, none⟩) 3 3) : RS w p p2 lw l q A (ub b 2) (ut T 29 (.pointer (some ⟨wb, 0, none⟩))) wr := by
  refine ⟨h.fx, h.sA, h.sB, h.gr, h.sz, fun e => ?_, h.two, h.al1, h.al2, h.ne, h.ok⟩
  obtain ⟨wb', u, k1, k2, k3, k4, k5, k6, k7⟩ := h.one h1
  rw [hT] at k1
  cases k1
  exact ⟨wb, u, hT, k2, k3, k4, fun _ => rfl, k6, k7⟩
theorem RS.ixB (h : RS w p p2 lw l q A b T wr) {wb : Nat} (h1 : b 5 = true) (hT : T 32 = .slice (some ⟨wb, 0, none⟩) 3 3) : RS w p p2 lw l q A (ub b 6) (ut T 33 (.pointer (some ⟨wb, 0, none⟩))) wr := by
  refine ⟨h.fx, h.sA, h.sB, h.gr, h.sz, h.one, fun e => ?_, h.al1, h.al2, h.ne, h.ok⟩
  obtain ⟨wb', u, k1, k2, k3, k4, k5, k6, k7⟩ := h.two h1
  rw [hT] at k1
  cases k1
  exact ⟨wb, u, hT, k2, k3, k4, fun _ => rfl, k6, k7⟩
theorem RS.ldA (h : RS w p p2 lw l q A b T wr) {u : W3} {wb : Nat} (h1 : b 1 = true) (h10 : b 10 = false) (hT : T 28 = .slice (some ⟨wb, 0, none⟩) 3 3) (hu : BoxAt wr wb u) : RS w p p2 lw l q A (ub b 3) (ut T 30 (.agg #[u.1, u.2.1, u.2.2])) wr := by
  have h10' : ub b 3 10 = false := h10
  refine ⟨h.fx, h.sA, h.sB, h.gr, h.sz, fun e => ?_, h.two, h.al1, h.al2, h.ne, h.ok⟩
  obtain ⟨wb', u', k1, k2, k3, k4, k5, k6, k7⟩ := h.one h1
  rw [hT] at k1
  cases k1
  have e0 := Option.some.inj (k2.c0.symm.trans hu.c0)
  have e1 := Option.some.inj (k2.c1.symm.trans hu.c1)
  have e2 := Option.some.inj (k2.c2.symm.trans hu.c2)
  rw [h10']
  exact ⟨wb, u', hT, k2, k3, k4, k5, fun _ => by rw [e0, e1, e2]; rfl, fun e => (by cases e)⟩
theorem RS.ldB (h : RS w p p2 lw l q A b T wr) {u : W3} {wb : Nat} (h1 : b 5 = true) (h11 : b 11 = false) (hT : T 32 = .slice (some ⟨wb, 0, none⟩) 3 3) (hu : BoxAt wr wb u) : RS w p p2 lw l q A (ub b 7) (ut T 34 (.agg #[u.1, u.2.1, u.2.2])) wr := by
  have h11' : ub b 7 11 = false := h11
  refine ⟨h.fx, h.sA, h.sB, h.gr, h.sz, h.one, fun e => ?_, h.al1, h.al2, h.ne, h.ok⟩
  obtain ⟨wb', u', k1, k2, k3, k4, k5, k6, k7⟩ := h.two h1
  rw [hT] at k1
  cases k1
  have e0 := Option.some.inj (k2.c0.symm.trans hu.c0)
  have e1 := Option.some.inj (k2.c1.symm.trans hu.c1)
  have e2 := Option.some.inj (k2.c2.symm.trans hu.c2)
  rw [h11']
  exact ⟨wb, u', hT, k2, k3, k4, k5, fun _ => by rw [e0, e1, e2]; rfl, fun e => (by cases e)⟩
def nilO : Obj := .cells #[.slice none 0 0, .slice none 0 0, .slice none 0 0] 29
theorem RS.alA (h : RS w p p2 lw l q A b T wr) (h10 : b 10 = false) : RS w p p2 lw l q A (ub b 8) (ut T 5 (.pointer (some ⟨wr.heap.size, 0, none⟩))) (wr.alloc nilO) := by
  have g := gr_alloc (gr_refl wr none) nilO
  have h10' : ub b 8 10 = false := h10
  have hz := h.sz
  refine ⟨h.fx, h.sA.keep0 g, h.sB.keep0 g, gr_trans h.gr g, Nat.le_trans h.sz g.size, fun e => ?_, fun e => (h.two e).keep0 g, fun _ => ⟨wr.heap.size, rfl, hz, by simp, fun _ => nil_alloc wr⟩, fun e => (h.al2 e).keep0 g, fun _ e9 => ?_, h.ok⟩
  · have k := (h.one e).keep0 g
    rw [h10] at k
    rw [h10']
    obtain ⟨wb, u, k1, k2, k3, k4, k5, k6, k7⟩ := k
    exact ⟨wb, u, k1, k2, k3, k4, k5, k6, fun e => (by cases e)⟩
  · obtain ⟨Q, k1, _, k3, _⟩ := h.al2 e9
    show Value.pointer _ ≠ T 6
    rw [k1]
    intro e
    injection e with e; injection e with e; injection e with e
    omega
theorem RS.alB (h : RS w p p2 lw l q A b T wr) (h11 : b 11 = false) : RS w p p2 lw l q A (ub b 9) (ut T 6 (.pointer (some ⟨wr.heap.size, 0, none⟩))) (wr.alloc nilO) := by
  have g := gr_alloc (gr_refl wr none) nilO
  have h11' : ub b 9 11 = false := h11
  have hz := h.sz
  refine ⟨h.fx, h.sA.keep0 g, h.sB.keep0 g, gr_trans h.gr g, Nat.le_trans h.sz g.size, fun e => (h.one e).keep0 g, fun e => ?_, fun e => (h.al1 e).keep0 g, fun _ => ⟨wr.heap.size, rfl, hz, by simp, fun _ => nil_alloc wr⟩, fun e8 _ => ?_, h.ok⟩
  · have k := (h.two e).keep0 g
    rw [h11] at k
    rw [h11']
    obtain ⟨wb, u, k1, k2, k3, k4, k5, k6, k7⟩ := k
    exact ⟨wb, u, k1, k2, k3, k4, k5, k6, fun e => (by cases e)⟩
  · obtain ⟨Q, k1, _, k3, _⟩ := h.al1 e8
    show T 5 ≠ Value.pointer _
    rw [k1]
    intro e
    injection e with e; injection e with e; injection e with e
    omega
def setW (w : World) (P : Nat) (u : W3) : World := ((w.setCell ⟨P, 0, none⟩ u.1).setCell ⟨P, 1, none⟩ u.2.1).setCell ⟨P, 2, none⟩ u.2.2
theorem setW_box {w : World} {P : Nat} (h : NilBlk w P) (u : W3) : BoxAt (setW w P u) P u := by
  have hb := set3R_heap (w := w) (g := P) h u.1 u.2.1 u.2.2
  exact ⟨blkC hb 0 rfl, blkC hb 1 rfl, blkC hb 2 rfl⟩
theorem setW_gr (w : World) (P : Nat) (u : W3) : w.grownBy (setW w P u) (some P) := set3R_gr w P u.1 u.2.1 u.2.2
theorem RS.stA (h : RS w p p2 lw l q A b T wr) {u : W3} {P : Nat} (h1 : b 1 = true) (h3 : b 3 = true) (h8 : b 8 = true) (h9 : b 9 = true) (h10 : b 10 = false) (hT : T 30 = .agg #[u.1, u.2.1, u.2.2]) (hP : T 5 = .pointer (some ⟨P, 0, none⟩)) : RS w p p2 lw l q A (ub b 10) T (setW wr P u) := by
  have hf := h.fx
  have g := setW_gr wr P u
  obtain ⟨P', k1, k2, k3, k4⟩ := h.al1 h8
  rw [hP] at k1
  cases k1
  have hn := k4 h10
  have hpA : p ≠ P := fun e => h.sA.two.ne hn e.symm
  have hpB : p2 ≠ P := fun e => h.sB.two.ne hn e.symm
  refine ⟨hf, h.sA.keepNe g (fun q e => by cases e; omega), h.sB.keepNe g (fun q e => by cases e; omega), gr_grown h.gr g (fun q e => by cases e; omega), Nat.le_trans h.sz g.size, fun _ => ?_, fun e => (h.two e).keep g (.inr hn), fun _ => ⟨P, hP, k2, Nat.lt_of_lt_of_le k3 g.size, fun e => (by cases e)⟩, fun e => (h.al2 e).keep g (.inr (fun e6 => h.ne h8 h9 (hP.trans e6.symm))), h.ne, h.ok⟩
  obtain ⟨wb, u', m1, m2, m3, m4, m5, m6, m7⟩ := (h.one h1).keep g (.inr hn)
  have e3 := m6 h3
  rw [hT] at e3
  have e4 : u = u' := by
    injection e3 with e3
    injection e3 with e3
    injection e3 with a1 e3
    injection e3 with a2 e3
    injection e3 with a3 _
    obtain ⟨x, y, z⟩ := u
    obtain ⟨x', y', z'⟩ := u'
    simp only at a1 a2 a3
    rw [a1, a2, a3]
  subst e4
  exact ⟨wb, u, m1, m2, m3, m4, m5, m6, fun _ => ⟨P, hP, setW_box hn u⟩⟩
theorem RS.stB (h : RS w p p2 lw l q A b T wr) {u : W3} {P : Nat} (h1 : b 5 = true) (h3 : b 7 = true) (h8 : b 8 = true) (h9 : b 9 = true) (h10 : b 11 = false) (hT : T 34 = .agg #[u.1, u.2.1, u.2.2]) (hP : T 6 = .pointer (some ⟨P, 0, none⟩)) : RS w p p2 lw l q A (ub b 11) T (setW wr P u) := by
  have hf := h.fx
  have g := setW_gr wr P u
  obtain ⟨P', k1, k2, k3, k4⟩ := h.al2 h9
  rw [hP] at k1
  cases k1
  have hn := k4 h10
  have hpA : p ≠ P := fun e => h.sA.two.ne hn e.symm
  have hpB : p2 ≠ P := fun e => h.sB.two.ne hn e.symm
  refine ⟨hf, h.sA.keepNe g (fun q e => by cases e; omega), h.sB.keepNe g (fun q e => by cases e; omega), gr_grown h.gr g (fun q e => by cases e; omega), Nat.le_trans h.sz g.size, fun e => (h.one e).keep g (.inr hn), fun _ => ?_, fun e => (h.al1 e).keep g (.inr (fun e5 => h.ne h8 h9 (e5.trans hP.symm))), fun _ => ⟨P, hP, k2, Nat.lt_of_lt_of_le k3 g.size, fun e => (by cases e)⟩, h.ne, h.ok⟩
  obtain ⟨wb, u', m1, m2, m3, m4, m5, m6, m7⟩ := (h.two h1).keep g (.inr hn)
  have e3 := m6 h3
  rw [hT] at e3
  have e4 : u = u' := by
    injection e3 with e3
    injection e3 with e3
    injection e3 with a1 e3
    injection e3 with a2 e3
    injection e3 with a3 _
    obtain ⟨x, y, z⟩ := u
    obtain ⟨x', y', z'⟩ := u'
    simp only at a1 a2 a3
    rw [a1, a2, a3]
  subst e4
  exact ⟨wb, u, m1, m2, m3, m4, m5, m6, fun _ => ⟨P, hP, setW_box hn u⟩⟩
theorem RS.box (h : RS w p p2 lw l q A b T wr) (hb : ∀ i, i < 12 → b i = true) : BoxPost l p p2 lw w (T 5) (T 6) wr := by
  obtain ⟨hok, hq⟩ := h.ok (hb 1 (by decide))
  obtain ⟨wb, u, m1, m2, m3, m4, m5, m6, m7⟩ := h.one (hb 1 (by decide))
  obtain ⟨wb', v, n1, n2, n3, n4, n5, n6, n7⟩ := h.two (hb 5 (by decide))
  obtain ⟨P, hP, hbP⟩ := m7 (hb 10 (by decide))
  obtain ⟨Q, hQ, hbQ⟩ := n7 (hb 11 (by decide))
  obtain ⟨P', k1, k2, -⟩ := h.al1 (hb 8 (by decide))
  obtain ⟨Q', j1, j2, -⟩ := h.al2 (hb 9 (by decide))
  rw [hP] at k1; cases k1
  rw [hQ] at j1; cases j1
  have sA := h.sA
  have sB := h.sB
  rw [hb 1 (by decide), if_pos rfl] at sA
  rw [hb 5 (by decide), if_pos rfl] at sB
  obtain ⟨a0, a1, at_, hA⟩ := sA.two
  obtain ⟨b0, b1, bt, hB⟩ := sB.two
  exact ⟨P, Q, q, u, v, A, hP, hQ, hbP, hbQ, ⟨sA, sB, ((m3.notTwo hA).notTwo hB).weak (fun _ _ h => ⟨h.1.2, h.2⟩), ((n3.notTwo hA).notTwo hB).weak (fun _ _ h => ⟨h.1.2, h.2⟩)⟩, hok, hq, h.gr, k2, j2⟩
/-- The same, of the region's own record. -/
structure DS (w : World) (p p2 lw : Nat) (l : List Int) (q : Nat) (A : Wal) (sz : Nat) (listed : Array Bool) (a : Act) (wr : World) : Prop where
  sz : a.tmps.size = sz
  rs : RS w p p2 lw l q A (fun i => listed.getD i false) (fun t => a.tmps.getD t undef) wr
theorem DS.step {listed : Array Bool} {a : Act} {i d sz : Nat} {v : Value} (h : a.tmps.size = sz) (hl : i < listed.size) (hd : d < sz) (hr : RS w p p2 lw l q A (ub (fun i => listed.getD i false) i) (ut (fun t => a.tmps.getD t undef) d v) wr) : DS w p p2 lw l q A sz (listed.setIfInBounds i true) (a.put (some d) v) wr := by
  refine ⟨by rw [put_size]; exact h, ?_⟩
  have e1 : (fun j => (listed.setIfInBounds i true).getD j false) = ub (fun i => listed.getD i false) i := by
    funext j
    unfold ub
    rw [Array.getD_eq_getD_getElem?, Array.getElem?_setIfInBounds]
    by_cases e : j = i
    · subst e; simp [hl]
    · rw [if_neg (fun e2 => e e2.symm), if_neg e, ← Array.getD_eq_getD_getElem?]
  have e2 : (fun t => (a.put (some d) v).tmps.getD t undef) = ut (fun t => a.tmps.getD t undef) d v := by
    funext t
    rw [put_get]
    unfold ut
    by_cases e : t = d
    · rw [if_pos ⟨e, by rw [h]; exact hd⟩, if_pos e]
    · rw [if_neg (fun k => e k.1), if_neg e]
  rw [e1, e2]; exact hr
theorem DS.stepN {listed : Array Bool} {a : Act} {i sz : Nat} {v : Value} (h : a.tmps.size = sz) (hl : i < listed.size) (hr : RS w p p2 lw l q A (ub (fun i => listed.getD i false) i) (fun t => a.tmps.getD t undef) wr) : DS w p p2 lw l q A sz (listed.setIfInBounds i true) (a.put none v) wr := by
  refine ⟨by rw [put_size]; exact h, ?_⟩
  have e1 : (fun j => (listed.setIfInBounds i true).getD j false) = ub (fun i => listed.getD i false) i := by
    funext j
    unfold ub
    rw [Array.getD_eq_getD_getElem?, Array.getElem?_setIfInBounds]
    by_cases e : j = i
    · subst e; simp [hl]
    · rw [if_neg (fun e2 => e e2.symm), if_neg e, ← Array.getD_eq_getD_getElem?]
  rw [e1]; exact hr
theorem rep_false (n : Nat) : (fun i => (Array.replicate n false).getD i false) = fun _ => false := by
  funext i
  rw [Array.getD_eq_getD_getElem?, Array.getElem?_replicate]
  split <;> rfl
theorem DS.init {a : Act} {sz : Nat} (n : Nat) (h : a.tmps.size = sz) (fx : lw ≤ w.heap.size ∧ w.heap.size ≤ p ∧ p < p2 ∧ p2 < w.heap.size + 2) (sA : StreamAt wr p lw l 0) (sB : StreamAt wr p2 lw l 0) (gr : w.grownBy wr none) (hz : w.heap.size + 2 ≤ wr.heap.size) : DS w p p2 lw l q A sz (Array.replicate n false) a wr := by
  refine ⟨h, ?_⟩
  rw [rep_false]
  exact ⟨fx, sA, sB, gr, hz, fun e => (by cases e), fun e => (by cases e), fun e => (by cases e), fun e => (by cases e), fun e => (by cases e), fun e => (by cases e)⟩
theorem getD_tt {l : Array Bool} {i : Nat} (h : i < l.size) (ht : l.getD i true = true) : l.getD i false = true := by
  rw [Array.getD_eq_getD_getElem?, Array.getElem?_eq_getElem h] at ht ⊢
  exact ht
theorem getD_ff {l : Array Bool} {i : Nat} (h : l.getD i true = false) : l.getD i false = false := by
  rw [Array.getD_eq_getD_getElem?] at h ⊢
  cases hh : l[i]? with
  | none => rfl
  | some b => rw [hh] at h; exact h
def DpV (p p2 : Nat) (j : Nat) (v : Value) : Prop := match j with
  | 0 => v = .pointer (some ⟨p, 0, none⟩)
  | 4 => v = .pointer (some ⟨p2, 0, none⟩)
  | _ => True
end Go.Proofs.YtakabckmiodjaaaDoor
