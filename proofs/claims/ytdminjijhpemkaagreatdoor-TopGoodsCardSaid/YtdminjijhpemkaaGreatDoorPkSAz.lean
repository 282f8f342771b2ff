/- slices.Clone at []coilrack/api.Lot. Written by mkclone.py. -/
import Derived.Test.YtdminjijhpemkaaGreatDoorPkSAl
import Derived.Test.YtdminjijhpemkaaGreatDoorPkSAa
namespace Go.Proofs.YtdminjijhpemkaaGreatDoor
open Go.RowKit

theorem cloneLot_any (a : Option Addr) (n c : Nat) (xs : List Value) (w : World) (hn : xs.length = n * 4) (hc : CellsAt w a xs) (hnil : a = none → n = 0 ∧ c = 0) (h1 : ∀ u ∈ xs, u.oneCell' = true) (hb : n ≤ 137438953472) :
    Calls Tryz.prog 43 #[.slice a n c] w fun e w' => ∃ v, e = .returned v ∧ w'.ownsRow w.heap.size 39 4 v n xs ∧ w.grownBy w' none := by
  have q22 : ∀ (w : World) (a : Option Addr) (n c n' c' : Nat), (binOp .eql 26 (.slice a n c) (.slice none n' c')).run Tryz.prog w = .ok (.bool a.isNone) w := fun w a n c n' c' => Lib.run_eql_slice_nil w _ _ a n c n' c' Tryz.underlying26
  cases a with
  | none =>
    obtain ⟨hn0, hc0⟩ := hnil rfl
    subst hn0 hc0
    have hx : xs = [] := List.eq_nil_of_length_eq_zero (by omega)
    subst hx
    clear hnil hn
    go_enter Tryz.func43, Tryz.ntmps43
    go_wp2
    go_ret
    exact ⟨_, rfl, World.ownsRow_nil _ _ _ _, gr_refl _ _⟩
  | some ad =>
    have HN := Lib.hid hn
    clear hnil hn
    go_enter Tryz.func43, Tryz.ntmps43
    go_wp2_with (at_builtin; refine wpList_app eLot rfl _ _ rfl w.heap.size _ _ _ rfl (World.ownsRow_made w #[] 0 (Nat.le_refl _) (Nat.zero_le _) rfl) (some ad) n c xs rfl ?c1 ?c2 ?c3 ?c4 ?c5 ?c6 ?_)
    case c1 => rw [HN.out]
    case c2 => exact hc.alloc _
    case c3 => intro h; cases h
    case c4 => exact h1
    case c5 => omega
    case c6 => simp
    intro v' w1 hown hg
    go_wp2
    go_ret
    refine ⟨v', rfl, by simpa using hown, ?_⟩
    exact gr_grown (gr_alloc (gr_refl _ _) _) hg (by intro k hk; simp [Value.ownBlock] at hk; omega)
end Go.Proofs.YtdminjijhpemkaaGreatDoor

/-! What can be sold no more is taken out of lots. -/
namespace Go.Proofs.YtdminjijhpemkaaGreatDoor
open Go.RowKit
attribute [local go_sem ↓] Go.wp_at_zero Go.wp_at_succ

theorem encLot_one : ∀ x, (encLot x).all (fun u => u.oneCell') = true := fun _ => rfl
def spoil1 (day : Int) (x : Lot) : Lot := if day ≤ x.exp then x else ⟨x.id, x.prod, x.exp, 0⟩
def spoilTo (day : Int) (xs : List Lot) (k : Nat) : List Lot := (xs.take k).map (spoil1 day) ++ xs.drop k
theorem spoilTo_len (day : Int) (xs : List Lot) (k : Nat) : (spoilTo day xs k).length = xs.length := by simp [spoilTo]; omega
theorem spoilTo_zero (day : Int) (xs : List Lot) : spoilTo day xs 0 = xs := by simp [spoilTo]
theorem spoilTo_at (day : Int) (xs : List Lot) (k : Nat) (hk : k < xs.length) : (spoilTo day xs k)[k]'(by rw [spoilTo_len]; exact hk) = xs[k] := by
  simp only [spoilTo]
  rw [List.getElem_append_right (by simp; omega)]
  simp [Nat.min_eq_left (Nat.le_of_lt hk)]
theorem spoilTo_next (day : Int) (xs : List Lot) (k : Nat) (hk : k < xs.length) : spoilTo day xs (k + 1) = (spoilTo day xs k).set k (spoil1 day xs[k]) := by
  simp only [spoilTo]
  rw [take_next xs k hk, List.map_append, List.set_append_right _ _ (by simp; omega)]
  simp only [List.length_map, List.length_take, Nat.min_eq_left (Nat.le_of_lt hk), Nat.sub_self, List.map_cons, List.map_nil]
  rw [List.drop_eq_getElem_cons hk, List.set_cons_zero]
  simp
theorem nil_of_lots {w : World} {a : Option Addr} {xs : List Lot} (h : CellsAt w a (flat encLot xs)) (e : a = none) : xs.length = 0 := by
  subst e
  cases xs with
  | nil => rfl
  | cons x xs => obtain ⟨_, _, e, _⟩ := h 0 (.string x.id) rfl; cases e
end Go.Proofs.YtdminjijhpemkaaGreatDoor
