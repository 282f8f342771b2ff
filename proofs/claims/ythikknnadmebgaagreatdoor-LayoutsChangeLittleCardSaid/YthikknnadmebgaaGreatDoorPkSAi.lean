/- Package shelf and its reference: where an offer is; what is unknown; small tests. -/
import Derived.Test.YthikknnadmebgaaGreatDoorPkSAf
import Derived.Test.YthikknnadmebgaaGreatDoorPkSAe
import Derived.Test.YthikknnadmebgaaGreatDoorPkSAh
import Derived.Test.YthikknnadmebgaaGreatDoorPkSAc
import Derived.WalkLawsBesides
namespace Go.Proofs.YthikknnadmebgaaGreatDoor
open Go.RowKit

theorem ret_i {a b : Int} (h : a = b) : Ending.returned (.int .i64 a) = .returned (.int .i64 b) := by rw [h]
theorem offer1_fn : ∀ (args : Array Value) (w : World), (callFunc 110 args).run Tryz.prog w = .ok (.enter 110 args) w := fun _ _ => by kernel_rfl
set_option maxRecDepth 100000 in
theorem offer1_any (t : OV) (x : ByteArray) (q : Nat) (w : World) (hq : w.cell? ⟨q, 0, none⟩ = some (.string x)) :
    Calls Tryz.prog 110 #[.agg #[.string t.key, .string t.group, .slice t.pa t.pn t.pc, .slice t.ha t.hn t.hc, .slice t.ta t.tn t.tc], .pointer (some ⟨q, 0, none⟩)] w fun e w' => e = .returned (.bool (t.key.toList == x.toList)) ∧ w.grownBy w' none := by
  have hqlt := lt_of_cell hq
  go_enter Tryz.func110, Tryz.ntmps110
  go_wp2_with (fail)
  go_ret
  exact ⟨rfl, gr_alloc (gr_refl w none) _⟩
set_option maxRecDepth 100000 in
theorem offer_any (key : ByteArray) (os : List Offer) (a : Option Addr) (vs : List OV) (c : Nat) (w : World) (h : OffsAt w a vs os) (hl : os.length ≤ 100000) :
    Calls Tryz.prog 70 #[.slice a os.length c, .string key] w fun e w' => e = .returned (.int .i64 (offIx os key)) ∧ w.grownBy w' none := by
  have hlen := Lib.hid h.len
  have hix := Lib.hid (h.ix key)
  have H := Lib.hid h
  clear h
  go_enter Tryz.func70, Tryz.ntmps70
  go_wp2_with (fail)
  have hg1 := gr_alloc (gr_refl w none) (.cells #[.string key] 9)
  have hl2 : vs.length ≤ 137438953472 := by rw [hlen.out]; omega
  rw [← hlen.out]
  refine (indexFunc_Offer _ ⟨w.heap.size, 0, none⟩ (fun t : OV => t.key.toList == key.toList) vs a c _ (H.out.cells.keep0 hg1) hl2 offer1_fn ?_).mono ?_
  · intro t _ w1 hg
    exact offer1_any t key w.heap.size w1 ((gr_cell hg (by simp)).trans (by rw [World.cell?_alloc_at _ _ _ _ rfl]; rfl))
  rintro e w2 ⟨rfl, hg2⟩
  rw [hix.out]
  go_wp2_with (fail)
  go_ret
  exact ⟨rfl, gr_trans hg1 hg2⟩
/-- A product that is no offer. -/
def strangeB (os : List Offer) (k : ByteArray) : Bool := !k.toList.isEmpty && decide (offIx os k < 0)
theorem unknown1_fn : ∀ (args : Array Value) (w : World), (callFunc 113 args).run Tryz.prog w = .ok (.enter 113 args) w := fun _ _ => by kernel_rfl
set_option maxRecDepth 100000 in
theorem unknown1_any (k : ByteArray) (os : List Offer) (a : Option Addr) (vs : List OV) (c q : Nat) (w : World) (h : OffsAt w a vs os) (hl : os.length ≤ 100000) (hq : w.cell? ⟨q, 0, none⟩ = some (.slice a os.length c)) :
    Calls Tryz.prog 113 #[.string k, .pointer (some ⟨q, 0, none⟩)] w fun e w' => e = .returned (.bool (strangeB os k)) ∧ w.grownBy w' none := by
  have H := Lib.hid h
  clear h
  have HS : Hid (strangeB os k = (!k.toList.isEmpty && decide (offIx os k < 0))) := rfl
  cases he : k.toList.isEmpty with
  | true =>
    have he2 : k.toList = [] := by simpa using he
    have HE : Hid (strangeB os k = false) := by show _ = _; rw [HS.out, he]; rfl
    go_enter Tryz.func113, Tryz.ntmps113
    go_wp2_with (fail)
    go_ret
    exact ⟨ret_bool HE.out.symm, gr_refl _ _⟩
  | false =>
    have he2 : (!k.toList.isEmpty) = true := by rw [he]; rfl
    have he3 : ¬ k.toList = [] := by intro e; rw [e] at he; cases he
    have HE : Hid (strangeB os k = decide (offIx os k < 0)) := by show _ = _; rw [HS.out, he]; rfl
    go_enter Tryz.func113, Tryz.ntmps113
    go_wp2_with (fail)
    refine (offer_any k os a vs c w H.out hl).mono ?_
    rintro e w2 ⟨rfl, g2⟩
    go_wp2_with (fail)
    go_ret
    exact ⟨ret_bool HE.out.symm, g2⟩
theorem strs_flat (xs : List ByteArray) : flat (fun s => [Value.string s]) xs = strs xs := by
  induction xs with
  | nil => rfl
  | cons x xs ih => show [Value.string x] ++ flat _ xs = _; rw [ih]; rfl
set_option maxRecDepth 100000 in
theorem unknown_any (xs : List ByteArray) (os : List Offer) (a xa : Option Addr) (vs : List OV) (c xc : Nat) (w : World) (h : OffsAt w a vs os) (hl : os.length ≤ 100000) (hx : CellsAt w xa (strs xs)) (hxl : xs.length ≤ 100000) :
    Calls Tryz.prog 72 #[.slice a os.length c, .slice xa xs.length xc] w fun e w' => e = .returned (.bool (xs.any (strangeB os))) ∧ w.grownBy w' none := by
  have H := Lib.hid h
  have HX := Lib.hid hx
  clear h hx
  go_enter Tryz.func72, Tryz.ntmps72
  go_wp2_with (fail)
  have hg1 := gr_alloc (gr_refl w none) (.cells #[.slice a os.length c] 55)
  refine (containsFunc_StrC _ ⟨w.heap.size, 0, none⟩ (strangeB os) xs xa xc _ (by rw [strs_flat]; exact HX.out.keep0 hg1) (by omega) unknown1_fn ?_).mono ?_
  · intro k _ w1 hg
    exact unknown1_any k os a vs c w.heap.size w1 (H.out.keep0 (gr_trans hg1 hg)) hl ((gr_cell hg (by simp)).trans (by rw [World.cell?_alloc_at _ _ _ _ rfl]; rfl))
  rintro e w2 ⟨rfl, hg2⟩
  go_wp2_with (fail)
  go_ret
  exact ⟨rfl, gr_trans hg1 hg2⟩
def oddB (k : ByteArray) : Bool := !k.toList.isEmpty && !keyB k
set_option maxRecDepth 100000 in
theorem odd_any (k : ByteArray) (w : World) (hs : k.size ≤ 9223372036854775807) : Calls Tryz.prog 74 #[.string k] w fun e w' => e = .returned (.bool (oddB k)) ∧ w.grownBy w' none := by
  have HS : Hid (oddB k = (!k.toList.isEmpty && !keyB k)) := rfl
  cases he : k.toList.isEmpty with
  | true =>
    have he2 : k.toList = [] := by simpa using he
    have HE : Hid (oddB k = false) := by show _ = _; rw [HS.out, he]; rfl
    go_enter Tryz.func74, Tryz.ntmps74
    go_wp2_with (fail)
    go_ret
    exact ⟨ret_bool HE.out.symm, gr_refl _ _⟩
  | false =>
    have he2 : (!k.toList.isEmpty) = true := by rw [he]; rfl
    have he3 : ¬ k.toList = [] := by intro e; rw [e] at he; cases he
    have HE : Hid (oddB k = !keyB k) := by show _ = _; rw [HS.out, he]; rfl
    go_enter Tryz.func74, Tryz.ntmps74
    go_wp2_with (fail)
    refine (key_any k w hs).mono ?_
    rintro e w2 ⟨rfl, rfl⟩
    go_wp2_with (fail)
    go_ret
    exact ⟨ret_bool HE.out.symm, gr_refl _ _⟩
set_option maxRecDepth 100000 in
theorem day_any (n : Int) (w : World) : Calls Tryz.prog 86 #[.int .i64 n] w fun e w' => e = .returned (.bool (!(decide (n < 0) || decide (4000 < n)))) ∧ w = w' := by
  go_enter Tryz.func86, Tryz.ntmps86
  go_wp2_with (fail)
  refine (out_any n 0 4000 w).mono ?_
  rintro e w2 ⟨rfl, rfl⟩
  obtain ⟨b, hb⟩ : ∃ b, b = (decide (n < 0) || decide (4000 < n)) := ⟨_, rfl⟩
  rw [← hb]
  have HB := Lib.hid hb
  clear hb
  go_wp2_with (fail)
  go_ret
  exact ⟨ret_bool (by rw [HB.out]), rfl⟩
end Go.Proofs.YthikknnadmebgaaGreatDoor
