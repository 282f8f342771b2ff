/- The console's forms, and a line that has none of them. -/
import Derived.Test.YtdminjijhpemkaaGreatDoorPkSBp
import Derived.Test.YtdminjijhpemkaaGreatDoorPkSBs
import Derived.Test.YtdminjijhpemkaaGreatDoorPkSBj
namespace Go.Proofs.YtdminjijhpemkaaGreatDoor
open Go.RowKit
attribute [local go_sem ↓] Go.wp_at_zero Go.wp_at_succ

/-- What a command's line holds. -/
def formF : ByteArray → Option ByteArray := fun t => if t = ⟨#[97, 117, 100, 105, 116]⟩ then some ⟨#[]⟩ else if t = ⟨#[108, 111, 97, 100]⟩ then some ⟨#[119, 110]⟩ else if t = ⟨#[98, 97, 99, 107]⟩ then some ⟨#[]⟩ else if t = ⟨#[112, 114, 101, 115, 115]⟩ then some ⟨#[119]⟩ else if t = ⟨#[99, 111, 105, 110]⟩ then some ⟨#[110]⟩ else if t = ⟨#[109, 97, 99, 104, 105, 110, 101]⟩ then some ⟨#[110, 110]⟩ else if t = ⟨#[114, 105, 103, 104, 116, 115]⟩ then some ⟨#[119, 119]⟩ else if t = ⟨#[109, 101, 114, 103, 101]⟩ then some ⟨#[119, 119]⟩ else if t = ⟨#[115, 112, 101, 110, 100]⟩ then some ⟨#[119, 110]⟩ else if t = ⟨#[103, 105, 118, 101]⟩ then some ⟨#[119, 119, 110]⟩ else if t = ⟨#[99, 114, 101, 100, 105, 116]⟩ then some ⟨#[119, 110]⟩ else none
def bHello : ByteArray := ⟨#[104, 101, 108, 108, 111]⟩
theorem formF_hello : formF bHello = none := by decide
set_option maxRecDepth 100000 in
set_option maxHeartbeats 2000000 in
theorem run_hello (C : Nat) (w : World) (E : w.ShapedOpen Tryz.prog) :
    Calls Tryz.prog 91 #[.pointer (some ⟨C, 0, none⟩), .string bHello] w fun e w' => e = .returned (.tuple #[.string ⟨#[]⟩, .int .i64 9]) ∧ w.grownBy w' none := by
  have SP := Lib.hid (splitC_any bHello 32 w E (by decide) [[104, 101, 108, 108, 111]] (splitL_miss 32 _ (by decide)) (by rw [show bHello.data.toList = [104, 101, 108, 108, 111] from rfl, count_no 32 _ (by decide)]; rfl))
  have hA := heap_alloc_new w (.cells #[.string bHello] 9)
  have gA := gr_alloc (gr_refl w none) (.cells #[.string bHello] 9)
  obtain ⟨w1, hw1⟩ : ∃ w1, w1 = w.alloc (.cells #[.string bHello] 9) := ⟨_, rfl⟩
  rw [← hw1] at hA gA
  have e1 : w.alloc (.cells ((([[104, 101, 108, 108, 111]] : List (List UInt8)).map (fun l => Value.string ⟨l.toArray⟩)).toArray) 9) = w1 := by rw [hw1]; rfl
  rw [e1] at SP
  have cA := CellsAt.new w #[.string bHello] 9
  rw [← hw1] at cA
  obtain ⟨V, hV⟩ : ∃ V, V = w.heap.size := ⟨_, rfl⟩
  rw [← hV] at SP hA cA
  have HA := Lib.hid hA
  have HC := Lib.hid cA
  have HG := Lib.hid gA
  have hmm := @run_makeMap Tryz.prog
  have b1 : (bHello.toList == [119, 97, 108, 108, 101, 116]) = false := by rw [ByteArray.toList_eq]; rfl
  clear hw1 e1 hA cA gA hV
  go_enter Tryz.func91, Tryz.ntmps91
  go_wp2_with (fail)
  refine SP.out.mono ?_
  rintro e w2 ⟨rfl, rfl⟩
  have CS := containsStr_any [bHello] ⟨#[]⟩ (some ⟨V, 0, none⟩) 1 w2 HC.out (by decide)
  have e2 : [bHello].any (fun s => (ByteArray.toList ⟨#[]⟩) == s.toList) = false := by
    simp only [List.any_cons, List.any_nil, Bool.or_false, ByteArray.toList_eq]
    rfl
  rw [e2] at CS
  clear SP e2
  go_wp2_with (fail)
  refine CS.mono ?_
  rintro e w3 ⟨rfl, g3⟩
  have HG3 := Lib.hid (gr_trans HG.out g3)
  have hA3 := (g3.block V (lt_of_block HA.out) (by simp)).trans HA.out
  have d0 : w3.cell? ⟨V, 0, none⟩ = some (.string bHello) := blkC hA3 0 rfl
  have HA3 := Lib.hid hA3
  clear CS g3 hA3
  have hm0 := MapSS.made w3
  have G0 := Lib.hid (gr_alloc (gr_refl w3 none) (.map #[] 0))
  go_wp2_with (first
    | (refine wpList_insSS rfl _ _ _ rfl w3.heap.size 0 _ rfl hm0 (by decide) ⟨#[99, 114, 101, 100, 105, 116]⟩ rfl (by decide) ⟨#[119, 110]⟩ rfl (by decide) ?_; intro v1 hm1 g1; have G1 := Lib.hid (gr_grown G0.out g1 (fun q e => by cases e; exact Nat.le_refl _)); clear hm0 g1)
    | (refine wpList_insSS rfl _ _ _ rfl w3.heap.size 1 _ rfl hm1 (by decide) ⟨#[103, 105, 118, 101]⟩ rfl (by decide) ⟨#[119, 119, 110]⟩ rfl (by decide) ?_; intro v2 hm2 g2; have G2 := Lib.hid (gr_grown G1.out g2 (fun q e => by cases e; exact Nat.le_refl _)); clear hm1 g2)
    | (refine wpList_insSS rfl _ _ _ rfl w3.heap.size 2 _ rfl hm2 (by decide) ⟨#[115, 112, 101, 110, 100]⟩ rfl (by decide) ⟨#[119, 110]⟩ rfl (by decide) ?_; intro v3 hm3 g3; have G3 := Lib.hid (gr_grown G2.out g3 (fun q e => by cases e; exact Nat.le_refl _)); clear hm2 g3)
    | (refine wpList_insSS rfl _ _ _ rfl w3.heap.size 3 _ rfl hm3 (by decide) ⟨#[109, 101, 114, 103, 101]⟩ rfl (by decide) ⟨#[119, 119]⟩ rfl (by decide) ?_; intro v4 hm4 g4; have G4 := Lib.hid (gr_grown G3.out g4 (fun q e => by cases e; exact Nat.le_refl _)); clear hm3 g4)
    | (refine wpList_insSS rfl _ _ _ rfl w3.heap.size 4 _ rfl hm4 (by decide) ⟨#[114, 105, 103, 104, 116, 115]⟩ rfl (by decide) ⟨#[119, 119]⟩ rfl (by decide) ?_; intro v5 hm5 g5; have G5 := Lib.hid (gr_grown G4.out g5 (fun q e => by cases e; exact Nat.le_refl _)); clear hm4 g5)
    | (refine wpList_insSS rfl _ _ _ rfl w3.heap.size 5 _ rfl hm5 (by decide) ⟨#[109, 97, 99, 104, 105, 110, 101]⟩ rfl (by decide) ⟨#[110, 110]⟩ rfl (by decide) ?_; intro v6 hm6 g6; have G6 := Lib.hid (gr_grown G5.out g6 (fun q e => by cases e; exact Nat.le_refl _)); clear hm5 g6)
    | (refine wpList_insSS rfl _ _ _ rfl w3.heap.size 6 _ rfl hm6 (by decide) ⟨#[99, 111, 105, 110]⟩ rfl (by decide) ⟨#[110]⟩ rfl (by decide) ?_; intro v7 hm7 g7; have G7 := Lib.hid (gr_grown G6.out g7 (fun q e => by cases e; exact Nat.le_refl _)); clear hm6 g7)
    | (refine wpList_insSS rfl _ _ _ rfl w3.heap.size 7 _ rfl hm7 (by decide) ⟨#[112, 114, 101, 115, 115]⟩ rfl (by decide) ⟨#[119]⟩ rfl (by decide) ?_; intro v8 hm8 g8; have G8 := Lib.hid (gr_grown G7.out g8 (fun q e => by cases e; exact Nat.le_refl _)); clear hm7 g8)
    | (refine wpList_insSS rfl _ _ _ rfl w3.heap.size 8 _ rfl hm8 (by decide) ⟨#[98, 97, 99, 107]⟩ rfl (by decide) ⟨#[]⟩ rfl (by decide) ?_; intro v9 hm9 g9; have G9 := Lib.hid (gr_grown G8.out g9 (fun q e => by cases e; exact Nat.le_refl _)); clear hm8 g9)
    | (refine wpList_insSS rfl _ _ _ rfl w3.heap.size 9 _ rfl hm9 (by decide) ⟨#[108, 111, 97, 100]⟩ rfl (by decide) ⟨#[119, 110]⟩ rfl (by decide) ?_; intro v10 hm10 g10; have G10 := Lib.hid (gr_grown G9.out g10 (fun q e => by cases e; exact Nat.le_refl _)); clear hm9 g10)
    | (refine wpList_insSS rfl _ _ _ rfl w3.heap.size 10 _ rfl hm10 (by decide) ⟨#[97, 117, 100, 105, 116]⟩ rfl (by decide) ⟨#[]⟩ rfl (by decide) ?_; intro v11 hm11 g11; have G11 := Lib.hid (gr_grown G10.out g11 (fun q e => by cases e; exact Nat.le_refl _)); have d11 : v11.cell? ⟨V, 0, none⟩ = some (.string bHello) := (gr_cell G11.out (lt_of_cell d0)).trans d0; have hmF : MapSS v11 w3.heap.size 11 formF := hm11; clear hm10 hm11 g11)
    | (refine wpList_lookSS rfl _ _ rfl w3.heap.size 11 formF rfl hmF bHello rfl (by decide) ?_; rw [formF_hello]; clear hmF)
    | fail)
  go_ret2
  exact ⟨rfl, gr_trans HG3.out G11.out⟩
end Go.Proofs.YtdminjijhpemkaaGreatDoor
