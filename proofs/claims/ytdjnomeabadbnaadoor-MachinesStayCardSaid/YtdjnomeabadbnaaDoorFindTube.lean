/- Package slices at elements coilrack/api.Tube: with a function value. Written by mkfind.py. -/
import Derived.Test.YtdjnomeabadbnaaDoorTubes
import Derived.Test.YtdjnomeabadbnaaDoorKitB
import Derived.Test.YtdjnomeabadbnaaDoorConfig
namespace Go.Proofs.YtdjnomeabadbnaaDoor
open Go.RowKit

set_option maxRecDepth 100000 in
set_option maxHeartbeats 1000000 in
theorem indexFunc_tube (F : FuncId) (p : Nat) (P : Tube → Bool) (xs : List (Tube)) (a : Option Addr) (c : Nat) (w : World) (hc : CellsAt w a (flat encTube xs)) (hl : xs.length ≤ 137438953472)
    (hE : ∀ (args : Array Value) (w : World), (callFunc F args).run Tryd.prog w = .ok (.enter F args) w)
    (hF : ∀ x ∈ xs, ∀ w1, w.grownBy w1 none → Calls Tryd.prog F #[.agg #[.int .i64 x.value, .int .i64 x.count, .int .i64 x.most], .pointer (some ⟨p, 0, none⟩)] w1 fun e w2 => e = .returned (.bool (P x)) ∧ w1.grownBy w2 none) :
    Calls Tryd.prog 148 #[.slice a xs.length c, Value.func (.func F) #[] #[.pointer (some ⟨p, 0, none⟩)]] w fun e w' => e = .returned (.int .i64 (findA P xs)) ∧ w.grownBy w' none := by
  have HF := Lib.hid hF; clear hF
  go_enter Tryd.func148, Tryd.ntmps148
  go_wp2_with (fail)
  go_loopw [8] (fun i wr => ∃ k : Nat, k ≤ xs.length ∧ i = .int .i64 k ∧ (∀ j (hj : j < xs.length), j < k → P xs[j] = false) ∧ w.grownBy wr none) (fun i _ => xs.length - (intOf i).toNat)
  case atStart => exact ⟨0, Nat.zero_le _, rfl, fun j _ hj => absurd hj (Nat.not_lt_zero _), gr_refl _ _⟩
  case round =>
    obtain ⟨k, hk, rfl, hno, hgr⟩ := hrel
    obtain ⟨wo, rfl⟩ : ∃ wo : World, wo = wr := ⟨_, rfl⟩
    have HNO := Lib.hid hno; clear hno
    by_cases hlt : k < xs.length
    · obtain ⟨b, off, rfl, hcs⟩ := flat_cells (enc := encTube) (m := 3) (fun _ => rfl) (by decide) (hc.keep0 hgr) (by omega)
      have hmem : xs[k] ∈ xs := List.getElem_mem hlt
      obtain ⟨x, hx⟩ : ∃ x, x = xs[k] := ⟨_, rfl⟩
      have HX := Lib.hid hx
      have d0 : wo.cell? ⟨b, off + k * 3, none⟩ = some (.int .i64 x.value) := by have := hcs k hlt 0 _ rfl; simpa [← HX.out] using this
      have d1 : wo.cell? ⟨b, off + k * 3 + 1, none⟩ = some (.int .i64 x.count) := by have := hcs k hlt 1 _ rfl; simpa [← HX.out] using this
      have d2 : wo.cell? ⟨b, off + k * 3 + 2, none⟩ = some (.int .i64 x.most) := by have := hcs k hlt 2 _ rfl; simpa [← HX.out] using this
      rw [← hx] at hmem
      clear hx
      have HM := Lib.hid hmem; clear hmem hcs
      go_wp2_with (fail)
      refine (HF.out x HM.out wo hgr).mono ?_
      rintro e w1 ⟨rfl, hg1⟩
      cases hp : P x with
      | true =>
        have HP := Lib.hid hp; clear hp
        go_wp2_with (fail)
        go_ret
        refine ⟨ret_int (findA_at hlt (by rw [← HX.out]; exact HP.out) (fun j hj => HNO.out j (by omega) hj)).symm, gr_trans hgr hg1⟩
      | false =>
        have HP := Lib.hid hp; clear hp
        go_wp2_with (fail)
        go_roundw
        case rel =>
          refine ⟨k + 1, by omega, by go_num, fun j hjl hj => ?_, gr_trans hgr hg1⟩
          by_cases hjk : j = k
          · subst hjk; rw [← HX.out]; exact HP.out
          · exact HNO.out j hjl (by omega)
        case measure => simp [intOf]; omega
    · have hkl : k = xs.length := by omega
      have HK := Lib.hid hkl; clear hkl
      go_wp2_with (fail)
      go_ret
      exact ⟨ret_int (findA_none (fun j hj => HNO.out j hj (by rw [HK.out]; exact hj))).symm, hgr⟩

theorem containsFunc_tube (F : FuncId) (p : Nat) (P : Tube → Bool) (xs : List (Tube)) (a : Option Addr) (c : Nat) (w : World) (hc : CellsAt w a (flat encTube xs)) (hl : xs.length ≤ 137438953472)
    (hE : ∀ (args : Array Value) (w : World), (callFunc F args).run Tryd.prog w = .ok (.enter F args) w)
    (hF : ∀ x ∈ xs, ∀ w1, w.grownBy w1 none → Calls Tryd.prog F #[.agg #[.int .i64 x.value, .int .i64 x.count, .int .i64 x.most], .pointer (some ⟨p, 0, none⟩)] w1 fun e w2 => e = .returned (.bool (P x)) ∧ w1.grownBy w2 none) :
    Calls Tryd.prog 134 #[.slice a xs.length c, Value.func (.func F) #[] #[.pointer (some ⟨p, 0, none⟩)]] w fun e w' => e = .returned (.bool (xs.any P)) ∧ w.grownBy w' none := by
  have HA := Lib.hid (any_findA P xs)
  go_enter Tryd.func134, Tryd.ntmps134
  go_wp2_with (fail)
  refine (indexFunc_tube F p P xs a c _ hc hl hE hF).mono ?_
  rintro e w1 ⟨rfl, hg1⟩
  go_wp2_with (fail)
  go_ret
  exact ⟨ret_bool (by rw [HA.out]), hg1⟩

/-! Package slices at elements coilrack/api.Slot: with a function value. Written by mkfind.py. -/

set_option maxRecDepth 100000 in
set_option maxHeartbeats 1000000 in
theorem indexFunc_slot (F : FuncId) (p : Nat) (P : Slot → Bool) (xs : List (Slot)) (a : Option Addr) (c : Nat) (w : World) (hc : CellsAt w a (flat encSlot xs)) (hl : xs.length ≤ 137438953472)
    (hE : ∀ (args : Array Value) (w : World), (callFunc F args).run Tryd.prog w = .ok (.enter F args) w)
    (hF : ∀ x ∈ xs, ∀ w1, w.grownBy w1 none → Calls Tryd.prog F #[.agg #[.string x.key, .string x.prod, .int .i64 x.price, .int .i64 x.most, .int .i64 x.count], .pointer (some ⟨p, 0, none⟩)] w1 fun e w2 => e = .returned (.bool (P x)) ∧ w1.grownBy w2 none) :
    Calls Tryd.prog 145 #[.slice a xs.length c, Value.func (.func F) #[] #[.pointer (some ⟨p, 0, none⟩)]] w fun e w' => e = .returned (.int .i64 (findA P xs)) ∧ w.grownBy w' none := by
  have HF := Lib.hid hF; clear hF
  go_enter Tryd.func145, Tryd.ntmps145
  go_wp2_with (fail)
  go_loopw [8] (fun i wr => ∃ k : Nat, k ≤ xs.length ∧ i = .int .i64 k ∧ (∀ j (hj : j < xs.length), j < k → P xs[j] = false) ∧ w.grownBy wr none) (fun i _ => xs.length - (intOf i).toNat)
  case atStart => exact ⟨0, Nat.zero_le _, rfl, fun j _ hj => absurd hj (Nat.not_lt_zero _), gr_refl _ _⟩
  case round =>
    obtain ⟨k, hk, rfl, hno, hgr⟩ := hrel
    obtain ⟨wo, rfl⟩ : ∃ wo : World, wo = wr := ⟨_, rfl⟩
    have HNO := Lib.hid hno; clear hno
    by_cases hlt : k < xs.length
    · obtain ⟨b, off, rfl, hcs⟩ := flat_cells (enc := encSlot) (m := 5) (fun _ => rfl) (by decide) (hc.keep0 hgr) (by omega)
      have hmem : xs[k] ∈ xs := List.getElem_mem hlt
      obtain ⟨x, hx⟩ : ∃ x, x = xs[k] := ⟨_, rfl⟩
      have HX := Lib.hid hx
      have d0 : wo.cell? ⟨b, off + k * 5, none⟩ = some (.string x.key) := by have := hcs k hlt 0 _ rfl; simpa [← HX.out] using this
      have d1 : wo.cell? ⟨b, off + k * 5 + 1, none⟩ = some (.string x.prod) := by have := hcs k hlt 1 _ rfl; simpa [← HX.out] using this
      have d2 : wo.cell? ⟨b, off + k * 5 + 2, none⟩ = some (.int .i64 x.price) := by have := hcs k hlt 2 _ rfl; simpa [← HX.out] using this
      have d3 : wo.cell? ⟨b, off + k * 5 + 3, none⟩ = some (.int .i64 x.most) := by have := hcs k hlt 3 _ rfl; simpa [← HX.out] using this
      have d4 : wo.cell? ⟨b, off + k * 5 + 4, none⟩ = some (.int .i64 x.count) := by have := hcs k hlt 4 _ rfl; simpa [← HX.out] using this
      rw [← hx] at hmem
      clear hx
      have HM := Lib.hid hmem; clear hmem hcs
      go_wp2_with (fail)
      refine (HF.out x HM.out wo hgr).mono ?_
      rintro e w1 ⟨rfl, hg1⟩
      cases hp : P x with
      | true =>
        have HP := Lib.hid hp; clear hp
        go_wp2_with (fail)
        go_ret
        refine ⟨ret_int (findA_at hlt (by rw [← HX.out]; exact HP.out) (fun j hj => HNO.out j (by omega) hj)).symm, gr_trans hgr hg1⟩
      | false =>
        have HP := Lib.hid hp; clear hp
        go_wp2_with (fail)
        go_roundw
        case rel =>
          refine ⟨k + 1, by omega, by go_num, fun j hjl hj => ?_, gr_trans hgr hg1⟩
          by_cases hjk : j = k
          · subst hjk; rw [← HX.out]; exact HP.out
          · exact HNO.out j hjl (by omega)
        case measure => simp [intOf]; omega
    · have hkl : k = xs.length := by omega
      have HK := Lib.hid hkl; clear hkl
      go_wp2_with (fail)
      go_ret
      exact ⟨ret_int (findA_none (fun j hj => HNO.out j hj (by rw [HK.out]; exact hj))).symm, hgr⟩

end Go.Proofs.YtdjnomeabadbnaaDoor
