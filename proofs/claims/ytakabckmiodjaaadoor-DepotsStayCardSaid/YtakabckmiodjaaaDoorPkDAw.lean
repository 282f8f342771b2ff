/- Three kiosks' wallets in one slice. -/
import Derived.Test.YtakabckmiodjaaaDoorPkDAu
import Derived.Test.YtakabckmiodjaaaDoorPkDAk
import Derived.Test.YtakabckmiodjaaaDoorPkDAv
namespace Go.Proofs.YtakabckmiodjaaaDoor
open Go.RowKit

/-- Blocks other than the stream's and the slice's. -/
def Av (p wb : Nat) (b : Nat) : Prop := b ≠ p ∧ b ≠ wb
/-- Between two worlds only blocks p, q and new ones were written. -/
structure Fr (a w : World) (p q : Nat) : Prop where
  size : a.heap.size ≤ w.heap.size
  blk : ∀ b, b < a.heap.size → b ≠ p → b ≠ q → w.heap[b]? = a.heap[b]?
theorem Fr.refl (a : World) (p q : Nat) : Fr a a p q := ⟨Nat.le_refl _, fun _ _ _ _ => rfl⟩
theorem Fr.step {a w w1 : World} {p q : Nat} {r : Option Nat} (h : Fr a w p q) (g : w.grownBy w1 r) (hr : ∀ k, r = some k → k = p ∨ k = q ∨ a.heap.size ≤ k) : Fr a w1 p q := by
  refine ⟨Nat.le_trans h.size g.size, fun b hb h1 h2 => ?_⟩
  rw [g.block b (Nat.lt_of_lt_of_le hb h.size) (fun e => by have := hr b e.symm; omega)]
  exact h.blk b hb h1 h2
theorem Fr.step0 {a w w1 : World} {p q : Nat} (h : Fr a w p q) (g : w.grownBy w1 none) : Fr a w1 p q := h.step g (fun k e => by cases e)
theorem Fr.cell {a w : World} {p q b o : Nat} {v : Value} (h : Fr a w p q) (hc : a.cell? ⟨b, o, none⟩ = some v) (h1 : b ≠ p) (h2 : b ≠ q) : w.cell? ⟨b, o, none⟩ = some v :=
  (World.cell?_of_block (w := a) (h.blk b (lt_of_cell hc) h1 h2)).trans hc
theorem Fr.wal {a w : World} {p q : Nat} {x y z : Value} {A : Wal} (h : Fr a w p q) (ha : WalAt a (Av p q) x y z A) : WalAt w (Av p q) x y z A := by
  obtain ⟨⟨b1, o1, c1, e1, m1, k1, h1⟩, ⟨b2, o2, c2, e2, m2, k2, h2⟩, ⟨b3, o3, c3, e3, m3, k3, h3⟩⟩ := ha
  refine ⟨⟨b1, o1, c1, e1, m1, k1, fun i hi => h.cell (h1 i hi) k1.1 k1.2⟩, ⟨b2, o2, c2, e2, m2, k2, fun i hi => ?_⟩, ⟨b3, o3, c3, e3, m3, k3, fun i hi => h.cell (h3 i hi) k3.1 k3.2⟩⟩
  obtain ⟨b4, o4, c4, h4, m4, k4, h5⟩ := h2 i hi
  exact ⟨b4, o4, c4, h.cell h4 k2.1 k2.2, m4, k4, fun j hj => h.cell (h5 j hj) k4.1 k4.2⟩
structure Kiosks (w : World) (p wb : Nat) (V : Nat → Value × Value × Value) (W : Nat → Wal) : Prop where
  blk : ∃ cs : Array Value, w.heap[wb]? = some (.cells cs 29 (0, 0)) ∧ cs.size = 9 ∧ ∀ k, k < 3 → cs[k * 3]? = some (V k).1 ∧ cs[k * 3 + 1]? = some (V k).2.1 ∧ cs[k * 3 + 2]? = some (V k).2.2
  wal : ∀ k, k < 3 → WalAt w (Av p wb) (V k).1 (V k).2.1 (V k).2.2 (W k)
theorem Kiosks.cells {w : World} {p wb : Nat} {V : Nat → Value × Value × Value} {W : Nat → Wal} (h : Kiosks w p wb V W) (k : Nat) (hk : k < 3) :
    w.cell? ⟨wb, k * 3, none⟩ = some (V k).1 ∧ w.cell? ⟨wb, k * 3 + 1, none⟩ = some (V k).2.1 ∧ w.cell? ⟨wb, k * 3 + 2, none⟩ = some (V k).2.2 ∧ w.frozen? ⟨wb, k * 3, none⟩ = false ∧ w.frozen? ⟨wb, k * 3 + 1, none⟩ = false ∧ w.frozen? ⟨wb, k * 3 + 2, none⟩ = false := by
  obtain ⟨cs, hb, _, hc⟩ := h.blk
  obtain ⟨h1, h2, h3⟩ := hc k hk
  refine ⟨?_, ?_, ?_, ?_, ?_, ?_⟩
  · simp only [World.cell?, hb]; exact h1
  · simp only [World.cell?, hb]; exact h2
  · simp only [World.cell?, hb]; exact h3
  all_goals simp [World.frozen?, hb]
theorem Kiosks.keep {w w1 : World} {p wb : Nat} {V : Nat → Value × Value × Value} {W : Nat → Wal} {r : Option Nat} (h : Kiosks w p wb V W) (g : w.grownBy w1 r) (hr : ∀ q, r = some q → q = p) (hp : p ≠ wb) : Kiosks w1 p wb V W := by
  obtain ⟨cs, hb, hs, hc⟩ := h.blk
  refine ⟨⟨cs, by rw [g.block wb (lt_of_block hb) (fun e => hp (hr wb e.symm).symm)]; exact hb, hs, hc⟩, fun k hk => (h.wal k hk).keep g (fun q e hq => hq.1 (hr q e))⟩
def updV (V : Nat → Value × Value × Value) (k : Nat) (v : Value × Value × Value) : Nat → Value × Value × Value := fun i => if i = k then v else V i
/-- Another wallet is stored at a place. -/
theorem Kiosks.put {w : World} {p wb : Nat} {V : Nat → Value × Value × Value} {W : Nat → Wal} (h : Kiosks w p wb V W) (k : Nat) (hk : k < 3) (x y z : Value) (A : Wal) (ha : WalAt w (Av p wb) x y z A) :
    Kiosks (((w.setCell ⟨wb, k * 3, none⟩ x).setCell ⟨wb, k * 3 + 1, none⟩ y).setCell ⟨wb, k * 3 + 2, none⟩ z) p wb (updV V k (x, y, z)) (upd W k A) ∧
    w.grownBy (((w.setCell ⟨wb, k * 3, none⟩ x).setCell ⟨wb, k * 3 + 1, none⟩ y).setCell ⟨wb, k * 3 + 2, none⟩ z) (some wb) := by
  have g : w.grownBy (((w.setCell ⟨wb, k * 3, none⟩ x).setCell ⟨wb, k * 3 + 1, none⟩ y).setCell ⟨wb, k * 3 + 2, none⟩ z) (some wb) :=
    gr_set (q := ⟨wb, k * 3 + 2, none⟩) (gr_set (q := ⟨wb, k * 3 + 1, none⟩) (gr_set (q := ⟨wb, k * 3, none⟩) (gr_refl w (some wb)) rfl _) rfl _) rfl _
  refine ⟨⟨?_, ?_⟩, g⟩
  · obtain ⟨cs, hb, hs, hc⟩ := h.blk
    refine ⟨((cs.setIfInBounds (k * 3) x).setIfInBounds (k * 3 + 1) y).setIfInBounds (k * 3 + 2) z, heap_setCell_same _ wb _ _ _ z (heap_setCell_same _ wb _ _ _ y (heap_setCell_same w wb _ _ _ x hb)), by simp [hs], fun i hi => ?_⟩
    by_cases e : i = k
    · subst e
      simp only [updV, if_true]
      refine ⟨?_, ?_, ?_⟩
      · rw [Array.getElem?_setIfInBounds_ne (by omega), Array.getElem?_setIfInBounds_ne (by omega), Array.getElem?_setIfInBounds_self_of_lt (by omega)]
      · rw [Array.getElem?_setIfInBounds_ne (by omega), Array.getElem?_setIfInBounds_self_of_lt (by simp; omega)]
      · rw [Array.getElem?_setIfInBounds_self_of_lt (by simp; omega)]
    · simp only [updV, if_neg e]
      obtain ⟨h1, h2, h3⟩ := hc i hi
      refine ⟨?_, ?_, ?_⟩
      · rw [Array.getElem?_setIfInBounds_ne (by omega), Array.getElem?_setIfInBounds_ne (by omega), Array.getElem?_setIfInBounds_ne (by omega)]; exact h1
      · rw [Array.getElem?_setIfInBounds_ne (by omega), Array.getElem?_setIfInBounds_ne (by omega), Array.getElem?_setIfInBounds_ne (by omega)]; exact h2
      · rw [Array.getElem?_setIfInBounds_ne (by omega), Array.getElem?_setIfInBounds_ne (by omega), Array.getElem?_setIfInBounds_ne (by omega)]; exact h3
  · intro i hi
    by_cases e : i = k
    · subst e
      simp only [updV, if_true, upd_self]
      exact ha.keep g (fun q e hq => by cases e; exact hq.2 rfl)
    · simp only [updV, if_neg e, upd_ne _ _ _ e]
      exact (h.wal i hi).keep g (fun q e hq => by cases e; exact hq.2 rfl)
/-- The plain steps: paying in, giving, spending. -/
theorem sys_credit {W : Nat → Wal} {B pd sp : Int} {k : Nat} {n : Int} (h : Sys W B pd sp) (hk : k < 3) (h0 : 0 ≤ n) (h1 : n ≤ 100) : Sys (upd W k (putR (W k) k k ((W k).r k k + n))) (B + 100) (pd + n) sp := by
  have ho := h.ok k hk
  have hf := ho.form
  have hr := fun a b => putR_r hf k k ((W k).r k k + n) hk hk a b
  have hok : WOk (putR (W k) k k ((W k).r k k + n)) (B + 100) := by
    refine ⟨putR_form hf k k _ hk, fun i j hi hj => ?_, fun i hi => ?_, fun i hi => ?_⟩
    · rw [hr]; have := ho.r0 i j hi hj; have := ho.r0 k k hk hk; split <;> omega
    · rw [putR_u]; have := ho.u0 i hi; omega
    · have hg := ho.ge i hi
      obtain rfl | rfl | rfl : i = 0 ∨ i = 1 ∨ i = 2 := by omega
      all_goals (obtain rfl | rfl | rfl : k = 0 ∨ k = 1 ∨ k = 2 := by omega)
      all_goals (first | rw [rights0] at hg ⊢ | rw [rights1] at hg ⊢ | rw [rights2] at hg ⊢)
      all_goals (simp [hr, putR_u]; omega)
  have := sys_local h hk hok (by omega) (fun i hi e => ⟨fun j hj => by rw [hr, if_neg (by omega)], putR_u _ _ _ _ _⟩) ⟨fun j hj => by rw [hr]; split; rename_i e; rw [e.2]; omega; exact Int.le_refl _, Int.le_refl _⟩
  rw [hr, if_pos ⟨rfl, rfl⟩, putR_u] at this
  have e1 : pd + ((W k).r k k + n - (W k).r k k) = pd + n := by omega
  have e2 : sp + ((W k).u k - (W k).u k) = sp := by omega
  rw [e1, e2] at this
  exact this
theorem sys_give {W : Nat → Wal} {B pd sp : Int} {k m : Nat} {n : Int} (h : Sys W B pd sp) (hk : k < 3) (hm : m < 3) (hkm : k ≠ m) (h0 : 0 ≤ n) (h1 : n ≤ 100) (hc : n ≤ rightsTo (W k) k 3) : Sys (upd W k (putR (W k) k m ((W k).r k m + n))) (B + 100) pd sp := by
  have ho := h.ok k hk
  have hf := ho.form
  have hr := fun a b => putR_r hf k m ((W k).r k m + n) hk hm a b
  have hok : WOk (putR (W k) k m ((W k).r k m + n)) (B + 100) := by
    refine ⟨putR_form hf k m _ hk, fun i j hi hj => ?_, fun i hi => ?_, fun i hi => ?_⟩
    · rw [hr]; have := ho.r0 i j hi hj; have := ho.r0 k m hk hm; split <;> omega
    · rw [putR_u]; have := ho.u0 i hi; omega
    · have hg := ho.ge i hi
      obtain rfl | rfl | rfl : i = 0 ∨ i = 1 ∨ i = 2 := by omega
      all_goals (obtain rfl | rfl | rfl : k = 0 ∨ k = 1 ∨ k = 2 := by omega)
      all_goals (obtain rfl | rfl | rfl : m = 0 ∨ m = 1 ∨ m = 2 := by omega)
      all_goals first
        | exact absurd rfl hkm
        | ((first | rw [rights0] at hg ⊢ | rw [rights1] at hg ⊢ | rw [rights2] at hg ⊢); (first | rw [rights0] at hc | rw [rights1] at hc | rw [rights2] at hc); simp [hr, putR_u]; omega)
  have := sys_local h hk hok (by omega) (fun i hi e => ⟨fun j hj => by rw [hr, if_neg (by omega)], putR_u _ _ _ _ _⟩) ⟨fun j hj => by rw [hr]; split; rename_i e; rw [e.2]; omega; exact Int.le_refl _, Int.le_refl _⟩
  rw [hr, if_neg (by omega), putR_u] at this
  have e1 : pd + ((W k).r k k - (W k).r k k) = pd := by omega
  have e2 : sp + ((W k).u k - (W k).u k) = sp := by omega
  rw [e1, e2] at this
  exact this
theorem sys_spend {W : Nat → Wal} {B pd sp : Int} {k : Nat} {n : Int} (h : Sys W B pd sp) (hk : k < 3) (h0 : 0 ≤ n) (h1 : n ≤ 100) (hc : n ≤ rightsTo (W k) k 3) : Sys (upd W k (putU (W k) k ((W k).u k + n))) (B + 100) pd (sp + n) := by
  have ho := h.ok k hk
  have hf := ho.form
  have hu := fun a => putU_u hf k ((W k).u k + n) hk a
  have hok : WOk (putU (W k) k ((W k).u k + n)) (B + 100) := by
    refine ⟨putU_form hf k _, fun i j hi hj => ?_, fun i hi => ?_, fun i hi => ?_⟩
    · rw [putU_r]; have := ho.r0 i j hi hj; omega
    · rw [hu]; have := ho.u0 i hi; have := ho.u0 k hk; split <;> omega
    · have hg := ho.ge i hi
      obtain rfl | rfl | rfl : i = 0 ∨ i = 1 ∨ i = 2 := by omega
      all_goals (obtain rfl | rfl | rfl : k = 0 ∨ k = 1 ∨ k = 2 := by omega)
      all_goals ((first | rw [rights0] at hg ⊢ | rw [rights1] at hg ⊢ | rw [rights2] at hg ⊢); (first | rw [rights0] at hc | rw [rights1] at hc | rw [rights2] at hc); simp [hu, putU_r]; omega)
  have := sys_local h hk hok (by omega) (fun i hi e => ⟨fun j hj => putU_r _ _ _ _ _, by rw [hu, if_neg e]⟩) ⟨fun j hj => Int.le_refl _, by rw [hu, if_pos rfl]; omega⟩
  rw [hu, if_pos rfl, putU_r] at this
  have e1 : pd + ((W k).r k k - (W k).r k k) = pd := by omega
  have e2 : sp + ((W k).u k + n - (W k).u k) = sp + n := by omega
  rw [e1, e2] at this
  exact this
theorem Sys.more {W : Nat → Wal} {B B' pd sp : Int} (h : Sys W B pd sp) (hb : B ≤ B') : Sys W B' pd sp := ⟨fun k hk => (h.ok k hk).more hb, h.cmp, h.own, h.paid, h.spent⟩
end Go.Proofs.YtakabckmiodjaaaDoor
