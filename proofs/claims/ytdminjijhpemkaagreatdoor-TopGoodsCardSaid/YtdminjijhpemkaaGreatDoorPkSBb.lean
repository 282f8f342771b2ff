/- Kits: how they lie in memory, and what their parts keep. -/
import Derived.Test.YtdminjijhpemkaaGreatDoorPkSAx
import Derived.Test.YtdminjijhpemkaaGreatDoorPkSBa
import Derived.Test.YtdminjijhpemkaaGreatDoorPkSAn
import Derived.Test.YtdminjijhpemkaaGreatDoorPkSAb
namespace Go.Proofs.YtdminjijhpemkaaGreatDoor
open Go.RowKit

structure KitV where
  place : ByteArray
  prod : ByteArray
  pv : Value
  ps : List Piece
def encKit (x : KitV) : List Value := [.string x.place, .string x.prod, x.pv]
theorem encKit_len (x : KitV) : (encKit x).length = 3 := rfl
theorem eKit : ElemT Tryz.prog 33 42 (.agg #[.string ⟨#[]⟩, .string ⟨#[]⟩, .slice none 0 0]) 3 56 := ⟨by kernel_rfl, by kernel_rfl, by decide, by decide, by decide⟩
def allPs (ks : List KitV) : List Piece := ks.flatMap (·.ps)
theorem allPs_app (ks : List KitV) (x : KitV) : allPs (ks ++ [x]) = allPs ks ++ x.ps := by simp [allPs]
/-- What stands while the kits are picked. -/
structure KitW (wr w : World) (Gb gg n Rb Kb : Nat) (gl : List Int) (rv kv : Value) (xs L : List Lot) (ks : List KitV) : Prop where
  gets : wr.ownsRow Gb 3 1 (.slice (some ⟨gg, 0, none⟩) n n) n (ints gl)
  rest : wr.ownsRow Rb 39 4 rv xs.length (flat encLot L)
  kits : wr.ownsRow Kb 42 3 kv ks.length (flat encKit ks)
  pcs : ∀ k ∈ ks, ∃ b, wr.ownsRow b 53 2 k.pv k.ps.length (flat encPc k.ps)
  keeps : Keeps xs L (allPs ks) 100000
  gr : w.grownBy wr none
  hR : w.heap.size ≤ Rb
  hK : w.heap.size ≤ Kb
  zK : Kb ≤ wr.heap.size
theorem KitW.keep0 {wr w1 w : World} {Gb gg n Rb Kb : Nat} {gl : List Int} {rv kv : Value} {xs L : List Lot} {ks : List KitV} (h : KitW wr w Gb gg n Rb Kb gl rv kv xs L ks) (g : wr.grownBy w1 none) : KitW w1 w Gb gg n Rb Kb gl rv kv xs L ks :=
  ⟨own_keep0 h.gets g, own_keep0 h.rest g, own_keep0 h.kits g, fun k hk => by obtain ⟨b, o⟩ := h.pcs k hk; exact ⟨b, own_keep0 o g⟩, h.keeps, gr_trans h.gr g, h.hR, h.hK, Nat.le_trans h.zK g.size⟩
/-- Lots were picked: what that leaves. -/
theorem KitW.pick {wr w1 w : World} {Gb gg n Rb Kb : Nat} {gl : List Int} {rv kv : Value} {xs L : List Lot} {ks : List KitV} (h : KitW wr w Gb gg n Rb Kb gl rv kv xs L ks) (g : wr.grownBy w1 rv.ownBlock) :
    w1.ownsRow Gb 3 1 (.slice (some ⟨gg, 0, none⟩) n n) n (ints gl) ∧ w1.ownsRow Kb 42 3 kv ks.length (flat encKit ks) ∧ (∀ k ∈ ks, ∃ b, w1.ownsRow b 53 2 k.pv k.ps.length (flat encPc k.ps)) ∧ w.grownBy w1 none :=
  ⟨own_keepU h.gets h.rest (by decide) g, own_keepU h.kits h.rest (by decide) g, fun k hk => by obtain ⟨b, o⟩ := h.pcs k hk; exact ⟨b, own_keepU o h.rest (by decide) g⟩, gr_grown h.gr g (fun q hq => Nat.le_trans h.hR (h.rest.lt q hq).1)⟩
/-- .. and the kit was put behind the others. -/
theorem KitW.app {wr w1 w2 w : World} {Gb gg n Rb Kb : Nat} {gl : List Int} {rv kv kv2 : Value} {xs L L2 : List Lot} {ks : List KitV} {P R : ByteArray} {pv : Value} {ps : List Piece} {b : Nat} (h : KitW wr w Gb gg n Rb Kb gl rv kv xs L ks) (g : wr.grownBy w1 rv.ownBlock) (o : w1.ownsRow Rb 39 4 rv xs.length (flat encLot L2))
    (op : w1.ownsRow b 53 2 pv ps.length (flat encPc ps)) (ok : w2.ownsRow Kb 42 3 kv2 (ks.length + 1) (flat encKit ks ++ [.string P, .string R, pv])) (g2 : w1.grownBy w2 kv.ownBlock) (hk : Keeps xs L2 (allPs ks ++ ps) 100000) : KitW w2 w Gb gg n Rb Kb gl rv kv2 xs L2 (ks ++ [⟨P, R, pv, ps⟩]) := by
  obtain ⟨k1, k2, k3, k4⟩ := h.pick g
  refine ⟨own_keepU k1 k2 (by decide) g2, own_keepU o k2 (by decide) g2, ?_, fun k hkm => ?_, by rw [allPs_app]; exact hk, gr_grown k4 g2 (fun q hq => Nat.le_trans h.hK (k2.lt q hq).1), h.hR, h.hK, Nat.le_trans h.zK (Nat.le_trans g.size g2.size)⟩
  · rw [List.length_append, flat_append, flat_one]; exact ok
  · rcases List.mem_append.1 hkm with hkm | hkm
    · obtain ⟨b, o⟩ := k3 k hkm; exact ⟨b, own_keepU o k2 (by decide) g2⟩
    · have : k = ⟨P, R, pv, ps⟩ := by simpa using hkm
      subst this
      exact ⟨b, own_keepU op k2 (by decide) g2⟩
theorem cellUp {w : World} {b o : Nat} {v : Value} (h : w.cell? ⟨b, o, none⟩ = some v) (ob : Obj) : (w.alloc ob).cell? ⟨b, o, none⟩ = some v := (gr_cell (gr_alloc (gr_refl w none) ob) (lt_of_cell h)).trans h
/-- Two rows of ints that grow side by side. -/
structure TwoI (wr : World) (base : Nat) (u v : Value) (A B : List Int) : Prop where
  a : wr.ownsRow base 3 1 u A.length (ints A)
  b : wr.ownsRow base 3 1 v B.length (ints B)
  ne : ∀ k, u.ownBlock = some k → v.ownBlock ≠ some k
theorem TwoI.keep0 {wr w1 : World} {base : Nat} {u v : Value} {A B : List Int} (h : TwoI wr base u v A B) (g : wr.grownBy w1 none) : TwoI w1 base u v A B := ⟨own_keep0 h.a g, own_keep0 h.b g, h.ne⟩
theorem TwoI.app1 {wr w6 : World} {base : Nat} {u v u6 : Value} {A B : List Int} {x : Int} (h : TwoI wr base u v A B) (o6 : w6.ownsRow base 3 1 u6 (A.length + 1) (ints A ++ [.int .i64 x])) (g6 : wr.grownBy w6 u.ownBlock) (hf : ∀ k, u6.ownBlock = some k → u.ownBlock = some k ∨ wr.heap.size ≤ k) : TwoI w6 base u6 v (A ++ [x]) B := by
  refine ⟨by simpa [ints] using o6, own_keep h.b g6 ?_, fun k hk e => ?_⟩
  · cases hv : v.ownBlock with
    | none => exact .inl rfl
    | some k => exact .inr (fun e => h.ne k e.symm hv)
  · rcases hf k hk with h1 | h1
    · exact h.ne k h1 e
    · have := (h.b.lt k e).2; omega
theorem TwoI.app2 {wr w6 : World} {base : Nat} {u v v6 : Value} {A B : List Int} {x : Int} (h : TwoI wr base u v A B) (o6 : w6.ownsRow base 3 1 v6 (B.length + 1) (ints B ++ [.int .i64 x])) (g6 : wr.grownBy w6 v.ownBlock) (hf : ∀ k, v6.ownBlock = some k → v.ownBlock = some k ∨ wr.heap.size ≤ k) : TwoI w6 base u v6 A (B ++ [x]) := by
  refine ⟨own_keep h.a g6 ?_, by simpa [ints] using o6, fun k hk e => ?_⟩
  · cases hu : u.ownBlock with
    | none => exact .inl rfl
    | some k => exact .inr (fun e => h.ne k hu e.symm)
  · rcases hf k e with h1 | h1
    · exact h.ne k hk h1
    · have := (h.a.lt k hk).2; omega
theorem TwoI.step1 {w3 Wc w6 : World} {base q : Nat} {u v u6 : Value} {A B : List Int} {x : Int} {cs : Array Value} {t : TypeId} (h : TwoI w3 base u v A B) (gW : w3.grownBy Wc none) (o6 : w6.ownsRow base 3 1 u6 (A.length + 1) (ints A ++ [.int .i64 x])) (g6 : Wc.grownBy w6 u.ownBlock) (hf : ∀ k, u6.ownBlock = some k → u.ownBlock = some k ∨ Wc.heap.size ≤ k) (hV : w3.heap[q]? = some (.cells cs t (0, 0))) (ht : 3 ≠ t) :
    TwoI w6 base u6 v (A ++ [x]) B ∧ w6.heap[q]? = some (.cells cs t (0, 0)) ∧ ∀ w0 : World, w0.heap.size ≤ base → w0.grownBy w3 none → w0.grownBy w6 none := by
  have hc := h.keep0 gW
  exact ⟨hc.app1 o6 g6 hf, held_own hc.a ((gW.block q (lt_of_block hV) (by simp)).trans hV) g6 ht, fun w0 hz g0 => gr_grown (gr_trans g0 gW) g6 (fun k hk => Nat.le_trans hz (hc.a.lt k hk).1)⟩
theorem TwoI.step2 {w3 Wc w6 : World} {base q : Nat} {u v v6 : Value} {A B : List Int} {x : Int} {cs : Array Value} {t : TypeId} (h : TwoI w3 base u v A B) (gW : w3.grownBy Wc none) (o6 : w6.ownsRow base 3 1 v6 (B.length + 1) (ints B ++ [.int .i64 x])) (g6 : Wc.grownBy w6 v.ownBlock) (hf : ∀ k, v6.ownBlock = some k → v.ownBlock = some k ∨ Wc.heap.size ≤ k) (hV : w3.heap[q]? = some (.cells cs t (0, 0))) (ht : 3 ≠ t) :
    TwoI w6 base u v6 A (B ++ [x]) ∧ w6.heap[q]? = some (.cells cs t (0, 0)) ∧ ∀ w0 : World, w0.heap.size ≤ base → w0.grownBy w3 none → w0.grownBy w6 none := by
  have hc := h.keep0 gW
  exact ⟨hc.app2 o6 g6 hf, held_own hc.b ((gW.block q (lt_of_block hV) (by simp)).trans hV) g6 ht, fun w0 hz g0 => gr_grown (gr_trans g0 gW) g6 (fun k hk => Nat.le_trans hz (hc.b.lt k hk).1)⟩
end Go.Proofs.YtdminjijhpemkaaGreatDoor
