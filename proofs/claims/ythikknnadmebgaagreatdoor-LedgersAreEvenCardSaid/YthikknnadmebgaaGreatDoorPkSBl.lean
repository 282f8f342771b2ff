/- What LedgersAreEven leaves out of the later balances: its two function values. -/
import Derived.Test.YthikknnadmebgaaGreatDoorPkSBk
import Derived.Test.YthikknnadmebgaaGreatDoorPkSBc
namespace Go.Proofs.YthikknnadmebgaaGreatDoor
open Go.RowKit
attribute [local go_sem ↓] Go.wp_at_zero Go.wp_at_succ

theorem even11_fn : ∀ (args : Array Value) (w : World), (callFunc 15 args).run Tryz.prog w = .ok (.enter 15 args) w := fun _ _ => by kernel_rfl
theorem even1_fn : ∀ (args : Array Value) (w : World), (callFunc 13 args).run Tryz.prog w = .ok (.enter 13 args) w := fun _ _ => by kernel_rfl
theorem even11_any (x : Nm) (K : ByteArray) (q0 : Nat) (w : World) (h : w.cell? ⟨q0, 0, none⟩ = some (.string K)) : Calls Tryz.prog 15 #[.agg #[.string x.key, .int .i64 x.many], .pointer (some ⟨q0, 0, none⟩)] w fun e w' => e = .returned (.bool (x.key.toList == K.toList)) ∧ w.grownBy w' none := by
  have hqlt := lt_of_cell h
  go_enter Tryz.func15, Tryz.ntmps15
  go_wp2_with (fail)
  go_ret
  exact ⟨rfl, gr_alloc (gr_refl w none) _⟩
def leftOut (A : List Nm) (x : Nm) : Bool := x.many == 0 && !(A.any fun b => b.key.toList == x.key.toList)
theorem leftOut_stays (A : List Nm) (C : List Nm) : C.filter (fun x => !leftOut A x) = C.filter (staysIn A) := rfl
set_option maxRecDepth 100000 in
theorem even1_any (A : List Nm) (va : Option Addr) (vc : Nat) (x : Nm) (q0 : Nat) (w : World) (h : w.cell? ⟨q0, 0, none⟩ = some (.slice va A.length vc)) (hA : CellsAt w va (flat encNm A)) (hl : A.length ≤ 100) :
    Calls Tryz.prog 13 #[.agg #[.string x.key, .int .i64 x.many], .pointer (some ⟨q0, 0, none⟩)] w fun e w' => e = .returned (.bool (leftOut A x)) ∧ w.grownBy w' none := by
  obtain ⟨K, Y⟩ := x
  simp only
  have hqlt := lt_of_cell h
  have hX := heap_alloc_new w (.cells #[.string K, .int .i64 Y] 42)
  have ga := gr_alloc (gr_refl w none) (.cells #[.string K, .int .i64 Y] 42)
  obtain ⟨w1, hw1⟩ : ∃ w1, w1 = w.alloc (.cells #[.string K, .int .i64 Y] 42) := ⟨_, rfl⟩
  rw [← hw1] at hX ga
  obtain ⟨X, hXe⟩ : ∃ X, X = w.heap.size := ⟨_, rfl⟩
  rw [← hXe] at hX
  have y0 : w1.cell? ⟨X, 0, none⟩ = some (.string K) := blkC hX 0 rfl
  have y1 : w1.cell? ⟨X, 1, none⟩ = some (.int .i64 Y) := blkC hX 1 rfl
  have h1 := (gr_cell ga hqlt).trans h
  have CF := Lib.hid (containsFunc_NmQ 15 X (fun b => b.key.toList == K.toList) A va vc w1 (hA.keep0 ga) (by omega) even11_fn (fun b _ W gW => even11_any b K X W ((gr_cell gW (lt_of_cell y0)).trans y0)))
  have HG := Lib.hid ga
  have HW := Lib.hid hw1
  have HXE := Lib.hid hXe
  clear hX ga hw1 hXe hA y0 h
  by_cases hY : Y = 0
  · have hd : (Y == 0) = true := by rw [hY]; rfl
    have hlo : Hid (leftOut A ⟨K, Y⟩ = !(A.any fun b => b.key.toList == K.toList)) := by
      show ((Y == 0) && _) = _
      rw [hd, Bool.true_and]
    clear hY
    go_enter Tryz.func13, Tryz.ntmps13
    go_upto_region 1 with (fail)
    rw [← HW.out, ← HXE.out]
    go_wp2_with (fail)
    refine CF.out.mono ?_
    rintro e w2 ⟨rfl, g2⟩
    have HG2 := Lib.hid (gr_trans HG.out g2)
    clear g2 CF
    go_wp2_with (fail)
    go_ret
    exact ⟨by rw [hlo.out]; rfl, HG2.out⟩
  · have hd : (Y == 0) = false := beq_eq_false_iff_ne.2 hY
    have hlo : Hid (leftOut A ⟨K, Y⟩ = false) := by
      show ((Y == 0) && _) = _
      rw [hd, Bool.false_and]
    clear hY
    go_enter Tryz.func13, Tryz.ntmps13
    go_upto_region 1 with (fail)
    rw [← HW.out, ← HXE.out]
    go_wp2_with (fail)
    go_ret
    exact ⟨by rw [hlo.out]; rfl, HG.out⟩
end Go.Proofs.YthikknnadmebgaaGreatDoor
