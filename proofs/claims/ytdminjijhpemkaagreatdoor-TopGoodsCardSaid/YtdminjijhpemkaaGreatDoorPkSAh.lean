/- A coil, as the stream makes it. Written by gen_coil.py. -/
import Derived.Test.YtdminjijhpemkaaGreatDoorPkSAd
import Derived.Test.YtdminjijhpemkaaGreatDoorPkSAg
import Derived.Test.YtdminjijhpemkaaGreatDoorPkSAc
import Derived.Deep.DrawnRows
import Derived.IntWalk
import Derived.WalkLawsBesides
import Derived.Deep.DeepCutAuto
import Derived.Deep.CutBlock
namespace Go.Proofs.YtdminjijhpemkaaGreatDoor
open Go.RowKit
variable {lw : Nat}
attribute [local go_sem ↓] Go.wp_at_zero Go.wp_at_succ

structure Coil where
  prod : ByteArray
  most : Int
  ps : List Piece
structure CoilSt where
  ps : List Piece
  room : Int
  last : ByteArray
  k : Nat
def coilTo (l : List Int) (k : Nat) (most : Int) : Nat → CoilSt
  | 0 => ⟨[], most, ⟨#[]⟩, k⟩
  | i + 1 =>
    if (oneS l (coilTo l k most i).k pcKeys).toList == (coilTo l k most i).last.toList || decide ((coilTo l k most i).room < pickM l ((coilTo l k most i).k + 1) [1, 2, 4]) then ⟨(coilTo l k most i).ps, (coilTo l k most i).room, (coilTo l k most i).last, (coilTo l k most i).k + 1 + 1⟩
    else ⟨(coilTo l k most i).ps ++ [⟨oneS l (coilTo l k most i).k pcKeys, pickM l ((coilTo l k most i).k + 1) [1, 2, 4]⟩], (coilTo l k most i).room - pickM l ((coilTo l k most i).k + 1) [1, 2, 4], oneS l (coilTo l k most i).k pcKeys, (coilTo l k most i).k + 1 + 1⟩
theorem coilTo_bd (l : List Int) (k : Nat) (most : Int) (h : 0 ≤ most) (i : Nat) : (coilTo l k most i).ps.length ≤ i ∧ (coilTo l k most i).k = k + 2 * i ∧ 0 ≤ (coilTo l k most i).room ∧ (coilTo l k most i).room ≤ most := by
  induction i with
  | zero => simp [coilTo]; exact h
  | succ i ih =>
    have hp := pickM_mem l ((coilTo l k most i).k + 1) [1, 2, 4] (by decide)
    simp only [List.mem_cons, List.not_mem_nil, or_false] at hp
    simp only [coilTo]
    split
    · simp only; omega
    · rename_i hc
      simp only [Bool.or_eq_true, decide_eq_true_eq, not_or] at hc
      simp; omega
def coilMost (l : List Int) (k : Nat) : Int := pickM l k [5, 10, 15, 30]
def coilN (l : List Int) (k : Nat) : Nat := (nxt l (k + 1) 4).toNat
def coilS (l : List Int) (k : Nat) : CoilSt := coilTo l (k + 1 + 1) (coilMost l k) (coilN l k)
def coilEnd (l : List Int) (m : Int) (s : CoilSt) : Coil × Nat :=
  if flipM l s.k 15 then
    if nxt l (s.k + 1) 4 = 0 then (⟨oneS l (s.k + 1 + 1) [⟨#[]⟩, ⟨#[67]⟩, ⟨#[98, 97, 114]⟩], m, s.ps⟩, s.k + 1 + 1 + 1)
    else if nxt l (s.k + 1) 4 = 1 then (⟨⟨#[99, 97, 110]⟩, pickM l (s.k + 1 + 1) [-1, 0, 1001], s.ps⟩, s.k + 1 + 1 + 1)
    else if nxt l (s.k + 1) 4 = 2 then (⟨⟨#[99, 97, 110]⟩, m, s.ps ++ [⟨oneS l (s.k + 1 + 1) [⟨#[]⟩, s.last, ⟨#[122, 122]⟩], pickM l (s.k + 1 + 1 + 1) [0, 1, 1001]⟩]⟩, s.k + 1 + 1 + 1 + 1)
    else (⟨⟨#[99, 97, 110]⟩, m, s.ps ++ s.ps⟩, s.k + 1 + 1)
  else (⟨⟨#[99, 97, 110]⟩, m, s.ps⟩, s.k + 1)
def coilM (l : List Int) (k : Nat) : Coil × Nat := coilEnd l (coilMost l k) (coilS l k)
def CoilPost (l : List Int) (k p lw : Nat) (w : World) (e : Ending) (w' : World) : Prop :=
  ∃ v, e = .returned (.agg #[.string (coilM l k).1.prod, .int .i64 (coilM l k).1.most, v]) ∧ w'.ownsRow w.heap.size 53 2 v (coilM l k).1.ps.length (flat encPc (coilM l k).1.ps) ∧ StreamAt w' p lw l (coilM l k).2 ∧ w.grownBy w' (some p)
/-- What stands while the coil is made. -/
structure CoilW (wx w : World) (p lw R C : Nat) (l : List Int) (q : Nat) (P : ByteArray) (m : Int) (v : Value) (S : List Piece) : Prop where
  own : wx.ownsRow R 53 2 v S.length (flat encPc S)
  bC : wx.heap[C]? = some (.cells #[.string P, .int .i64 m, v] 44 (0, 0))
  bR : wx.heap[R]? = some (.cells #[.string ⟨#[]⟩, .int .i64 0, .slice none 0 0] 44 (0, 0))
  str : StreamAt wx p lw l q
  gr : w.grownBy wx (some p)
theorem CoilW.keepS {wx wy w : World} {p R C : Nat} {l : List Int} {q q' : Nat} {P : ByteArray} {m : Int} {v : Value} {S : List Piece} (h : CoilW wx w p lw R C l q P m v S) (g : wx.grownBy wy (some p)) (hs : StreamAt wy p lw l q') (hpR : p < R) (hRC : R < C) : CoilW wy w p lw R C l q' P m v S :=
  ⟨own_keepS h.own g hpR, (g.block C (lt_of_block h.bC) (by simp; omega)).trans h.bC, (g.block R (lt_of_block h.bR) (by simp; omega)).trans h.bR, hs, gr_trans h.gr g⟩
theorem CoilW.set {wx w : World} {p R C : Nat} {l : List Int} {q : Nat} {P P' : ByteArray} {m m' : Int} {v v' : Value} {S S' : List Piece} {wy wz : World} (h : CoilW wx w p lw R C l q P m v S) (hpR : p < R) (hRC : R < C) (hw : w.heap.size ≤ R)
    (g : wx.grownBy wy v.ownBlock) (ho : wy.ownsRow R 53 2 v' S'.length (flat encPc S')) (g2 : wy.grownBy wz (some C)) (hb : wz.heap[C]? = some (.cells #[.string P', .int .i64 m', v'] 44 (0, 0))) (hC : wy.heap[C]? = some (.cells #[.string P, .int .i64 m, v] 44 (0, 0))) : CoilW wz w p lw R C l q P' m' v' S' := by
  have nR : v.ownBlock ≠ some R := own_ne h.own h.bR (by decide)
  have hge : ∀ b, v.ownBlock = some b → R ≤ b := fun b e => (h.own.lt b e).1
  refine ⟨own_keep ho g2 (.inr (own_ne ho hC (by decide))), hb, ?_, ?_, ?_⟩
  · have h1 := (g.block R (lt_of_block h.bR) (fun e => nR e.symm)).trans h.bR
    exact (g2.block R (lt_of_block h1) (by simp; omega)).trans h1
  · exact (h.str.keep g (fun b e => by have := hge b e; omega)).keep g2 (fun b e => by cases e; omega)
  · exact gr_grown (gr_grown h.gr g (fun b e => by have := hge b e; omega)) g2 (fun b e => by cases e; omega)
theorem own_nilV {w : World} {base e size n : Nat} {v : Value} {xs : List Value} (h : w.ownsRow base e size v n xs) : ∀ a m c, v = .slice a m c → a = none → n = 0 ∧ c = 0 := by
  intro a m c hv ha
  rcases h.2 with ⟨rfl, rfl⟩ | ⟨g, cap, cur, rfl, _⟩
  · cases hv; exact ⟨rfl, rfl⟩
  · cases hv; cases ha
theorem KeepN (w w7 : World) (p R C : Nat) (sv : Value) (hp : p < R) (hRC : R < C) (hw : w.heap.size ≤ R) (hRl : R < w7.heap.size) (hs : ∀ q, sv.ownBlock = some q → R < q) :
    ∀ wx wy r, KeepC w w7 p R 0 0 (.slice none 0 0) 0 [] 0 0 (.slice none 0 0) 0 [] wx → wx.grownBy wy r → (∀ q, r = some q → q = p ∨ q = C ∨ sv.ownBlock = some q) → KeepC w w7 p R 0 0 (.slice none 0 0) 0 [] 0 0 (.slice none 0 0) 0 [] wy :=
  KeepC.keep hp hRC hw hRl hs (by simp [Value.ownBlock]) (by simp [Value.ownBlock]) (fun q h => by simp [Value.ownBlock] at h) (fun q h => by simp [Value.ownBlock] at h)
end Go.Proofs.YtdminjijhpemkaaGreatDoor
