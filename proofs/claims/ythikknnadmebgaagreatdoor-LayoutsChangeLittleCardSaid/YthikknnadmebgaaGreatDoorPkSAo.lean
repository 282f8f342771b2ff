/- Versions, as the stream makes them: what they are, and how they lie. -/
import Derived.Test.YthikknnadmebgaaGreatDoorPkSAd
import Derived.Test.YthikknnadmebgaaGreatDoorPkSAc
import Derived.Test.YthikknnadmebgaaGreatDoorPkSAe
import Derived.Deep.RegionLaw
import Derived.Deep.DeepFit
import Derived.Deep.DrawnRows
import Derived.Deep.CutBlock
import Derived.Deep.CutRange
import Derived.IntWalk
import Derived.Laws.Cover4
namespace Go.Proofs.YthikknnadmebgaaGreatDoor
open Go.RowKit
variable {lw : Nat}

structure Ver where
  day : Int
  lay : List ByteArray
def VerR (base : Nat) (w : World) (o : Ver) (c : List Value) : Prop :=
  ∃ v1, c = [.int .i64 o.day, v1] ∧ w.ownsRow base 9 1 v1 o.lay.length (strs o.lay)
theorem VerR.keep0 {base : Nat} {w w1 : World} (g : w.grownBy w1 none) (o : Ver) (c : List Value) (h : VerR base w o c) : VerR base w1 o c := by
  obtain ⟨v1, rfl, h1⟩ := h
  exact ⟨v1, rfl, own_keep0 h1 g⟩
theorem VerR.keepS {base p : Nat} {w w1 : World} (g : w.grownBy w1 (some p)) (hp : p < base) (o : Ver) (c : List Value) (h : VerR base w o c) : VerR base w1 o c := by
  obtain ⟨v1, rfl, h1⟩ := h
  exact ⟨v1, rfl, own_keepS h1 g hp⟩
theorem VerR.keepU {base b2 e z n : Nat} {w w1 : World} {u : Value} {us : List Value} (hu : w.ownsRow b2 e z u n us) (hs : 9 ≠ e) (g : w.grownBy w1 u.ownBlock) (o : Ver) (c : List Value) (h : VerR base w o c) : VerR base w1 o c := by
  obtain ⟨v1, rfl, q1⟩ := h
  exact ⟨v1, rfl, own_keepU q1 hu hs g⟩
theorem VerR.lt {base : Nat} {w : World} {o : Ver} {c : List Value} (h : VerR base w o c) : ∀ u ∈ c, ∀ q, u.ownBlock = some q → q < w.heap.size := by
  obtain ⟨v1, rfl, h1⟩ := h
  intro u hu q hq
  simp only [List.mem_cons, List.not_mem_nil, or_false] at hu
  rcases hu with rfl | rfl
  · simp [Value.ownBlock] at hq
  · exact (h1.lt q hq).2
theorem VerR.base {base base' : Nat} {w : World} (hb : base' ≤ base) (o : Ver) (c : List Value) (h : VerR base w o c) : VerR base' w o c := by
  obtain ⟨v1, rfl, h1⟩ := h
  exact ⟨v1, rfl, own_base h1 hb⟩
def verOne : List ByteArray := [⟨#[]⟩, ⟨#[97]⟩, ⟨#[98]⟩]
def verTo (l : List Int) (k : Nat) : Nat → List ByteArray
  | 0 => []
  | n + 1 => verTo l k n ++ [oneS l (k + n) verOne]
theorem verTo_len (l : List Int) (k n : Nat) : (verTo l k n).length = n := by
  induction n with
  | zero => rfl
  | succ n ih => simp [verTo, ih]
structure VerSt where
  vs : List Ver
  j : Nat
  day : Int
def versTo (l : List Int) (k n : Nat) (d : Int) : Nat → VerSt
  | 0 => ⟨[], k, d⟩
  | i + 1 => ⟨(versTo l k n d i).vs ++ [⟨(versTo l k n d i).day, verTo l (versTo l k n d i).j n⟩], (versTo l k n d i).j + n + 1, (versTo l k n d i).day + pickM l ((versTo l k n d i).j + n) [1, 2, 5]⟩
theorem versTo_len (l : List Int) (k n : Nat) (d : Int) (i : Nat) : (versTo l k n d i).vs.length = i := by
  induction i with
  | zero => rfl
  | succ i ih => simp [versTo, ih]
theorem versTo_lay (l : List Int) (k n : Nat) (d : Int) (i : Nat) : ∀ v ∈ (versTo l k n d i).vs, v.lay.length = n := by
  induction i with
  | zero => intro v hv; simp [versTo] at hv
  | succ i ih =>
    intro v hv
    simp only [versTo, List.mem_append, List.mem_cons, List.not_mem_nil, or_false] at hv
    rcases hv with hv | rfl
    · exact ih v hv
    · exact verTo_len _ _ _
theorem versTo_j (l : List Int) (k n : Nat) (d : Int) (i : Nat) : (versTo l k n d i).j = k + (n + 1) * i := by
  induction i with
  | zero => simp [versTo]
  | succ i ih => simp only [versTo, ih, Nat.mul_add]; omega
theorem versTo_day (l : List Int) (k n : Nat) (d : Int) (i : Nat) : d ≤ (versTo l k n d i).day ∧ (versTo l k n d i).day ≤ d + 5 * i := by
  induction i with
  | zero => simp [versTo]
  | succ i ih =>
    have := pickM_mem l ((versTo l k n d i).j + n) [1, 2, 5] (by decide)
    simp only [List.mem_cons, List.not_mem_nil, or_false] at this
    simp only [versTo]
    omega
def vN (l : List Int) (k : Nat) : Nat := (nxt l k 4).toNat
def vM (l : List Int) (k : Nat) : Nat := (nxt l (k + 2) 5).toNat
def vD (l : List Int) (k : Nat) : Int := nxt l (k + 1) 4
def versH (l : List Int) (k : Nat) : VerSt := versTo l (k + 3) (vN l k) (vD l k) (vM l k)
def verLast : List ByteArray := [⟨#[]⟩, ⟨#[90]⟩]
def verTurn (l : List Int) (j : Nat) (v : Ver) : Ver × Nat :=
  if nxt l (j + 2) 3 = 0 then (⟨pickM l (j + 3) [-1, 0, 4001], v.lay⟩, j + 4)
  else if nxt l (j + 2) 3 = 1 then (⟨v.day, v.lay ++ [⟨#[97]⟩]⟩, j + 3)
  else (⟨v.day, if v.lay.length = 0 then [] else v.lay ++ [oneS l (j + 3) verLast]⟩, j + 4)
def versF (l : List Int) (s : VerSt) : List Ver × Nat :=
  if flipM l s.j 12 then
    if s.vs.length = 0 then (s.vs, s.j + 1)
    else (s.vs.set (nxt l (s.j + 1) s.vs.length).toNat (verTurn l s.j (s.vs.getD (nxt l (s.j + 1) s.vs.length).toNat ⟨0, []⟩)).1, (verTurn l s.j ⟨0, []⟩).2)
  else (s.vs, s.j + 1)
def versM (l : List Int) (k : Nat) : List Ver := (versF l (versH l k)).1
def versK (l : List Int) (k : Nat) : Nat := (versF l (versH l k)).2
theorem own_nil' {w : World} {base e size n : Nat} {v : Value} {xs : List Value} (h : w.ownsRow base e size v n xs) : ∀ a m c, v = .slice a m c → a = none → n = 0 ∧ c = 0 := by
  intro a m c hv ha
  rcases h.2 with ⟨rfl, rfl⟩ | ⟨g, cap, cur, rfl, _⟩
  · cases hv; exact ⟨rfl, rfl⟩
  · cases hv; cases ha
/-- The same, for reading: what is made of one of them may begin anywhere. -/
def VerC (base : Nat) (w : World) (o : Ver) (c : List Value) : Prop :=
  ∃ la lc, c = [.int .i64 o.day, .slice la o.lay.length lc] ∧ CellsAt w la (strs o.lay) ∧ (∀ b off, la = some ⟨b, off, none⟩ → base ≤ b) ∧ (la = none → o.lay.length = 0 ∧ lc = 0)
theorem VerC.keepS {base p : Nat} {w w1 : World} (g : w.grownBy w1 (some p)) (hp : p < base) (o : Ver) (c : List Value) (h : VerC base w o c) : VerC base w1 o c := by
  obtain ⟨la, lc, rfl, h1, h2, h3⟩ := h
  exact ⟨la, lc, rfl, h1.keep g (fun b off e e2 => by have := h2 b off e; cases e2; omega), h2, h3⟩
theorem VerC.keep0 {base : Nat} {w w1 : World} (g : w.grownBy w1 none) (o : Ver) (c : List Value) (h : VerC base w o c) : VerC base w1 o c := by
  obtain ⟨la, lc, rfl, h1, h2, h3⟩ := h
  exact ⟨la, lc, rfl, h1.keep0 g, h2, h3⟩
structure VersAt (w : World) (base : Nat) (v : Value) (vs : List Ver) : Prop where
  ex : ∃ a cap, v = .slice a vs.length cap ∧ NestAt (VerC base) w 2 a vs ∧ (∀ b off, a = some ⟨b, off, none⟩ → base ≤ b)
theorem VersAt.keepS {w w1 : World} {base p : Nat} {v : Value} {vs : List Ver} (h : VersAt w base v vs) (g : w.grownBy w1 (some p)) (hp : p < base) : VersAt w1 base v vs := by
  obtain ⟨a, cap, rfl, h1, h2⟩ := h.ex
  exact ⟨a, cap, rfl, h1.keepW g (fun b off e e2 => by have := h2 b off e; cases e2; omega) (fun x c hx => VerC.keepS g hp x c hx), h2⟩
theorem VersAt.keep0 {w w1 : World} {base : Nat} {v : Value} {vs : List Ver} (h : VersAt w base v vs) (g : w.grownBy w1 none) : VersAt w1 base v vs := by
  obtain ⟨a, cap, rfl, h1, h2⟩ := h.ex
  exact ⟨a, cap, rfl, h1.keep0 g (fun x c hx => VerC.keep0 g x c hx), h2⟩
theorem VerR.c {base : Nat} {w : World} {o : Ver} {c : List Value} (h : VerR base w o c) : VerC base w o c := by
  obtain ⟨v1, rfl, h1⟩ := h
  have hn := own_nil' h1
  obtain ⟨la, lc, rfl, _, _, h2, h3⟩ := own_shape h1
  exact ⟨la, lc, rfl, h2, fun b off e => (h3 b off e).1, hn la _ lc rfl⟩
theorem VersAt.of {w : World} {base e : Nat} {v : Value} {vs : List Ver} (h : OwnNest (VerR base) w base e 2 v vs) : VersAt w base v vs := by
  obtain ⟨a, cap, rfl, _, _, h1, h2⟩ := h.shape
  refine ⟨a, cap, rfl, ⟨fun i x hx => ?_⟩, fun b off e => (h2 b off e).1⟩
  obtain ⟨b, off, c, rfl, hl, hc, hu⟩ := h1.ex i x hx
  exact ⟨b, off, c, rfl, hl, hc.c, hu⟩
end Go.Proofs.YthikknnadmebgaaGreatDoor
