/- Package slices at elements coilrack/api.Lot: with a function value. Written by mkfind.py. -/
import Derived.Test.YtoiclngamaadgaaLotsF
import Derived.Test.YtoiclngamaadgaaKitB
namespace Go.Proofs.Ytoiclngamaadgaa
open Go.RowKit

set_option maxRecDepth 100000 in
set_option maxHeartbeats 1000000 in
theorem indexFunc_Lot (F : FuncId) (ad : Addr) (P : Lot → Bool) (xs : List (Lot)) (a : Option Addr) (c : Nat) (w : World) (hc : CellsAt w a (flat encLot xs)) (hl : xs.length ≤ 137438953472)
    (hE : ∀ (args : Array Value) (w : World), (callFunc F args).run Try.prog w = .ok (.enter F args) w)
    (hF : ∀ x ∈ xs, ∀ w1, w.grownBy w1 none → Calls Try.prog F #[.agg #[.string x.id, .string x.prod, .int .i64 x.exp, .int .i64 x.many], .pointer (some ad)] w1 fun e w2 => e = .returned (.bool (P x)) ∧ w1.grownBy w2 none) :
    Calls Try.prog 130 #[.slice a xs.length c, Value.func (.func F) #[] #[.pointer (some ad)]] w fun e w' => e = .returned (.int .i64 (findA P xs)) ∧ w.grownBy w' none := by
  have HF := Lib.hid hF; clear hF
  go_enter Try.func130, Try.ntmps130
  go_wp2_with (fail)
  go_loopw [8] (fun i wr => ∃ k : Nat, k ≤ xs.length ∧ i = .int .i64 k ∧ (∀ j (hj : j < xs.length), j < k → P xs[j] = false) ∧ w.grownBy wr none) (fun i _ => xs.length - (intOf i).toNat)
  case atStart => exact ⟨0, Nat.zero_le _, rfl, fun j _ hj => absurd hj (Nat.not_lt_zero _), gr_refl _ _⟩
  case round =>
    obtain ⟨k, hk, rfl, hno, hgr⟩ := hrel
    obtain ⟨wo, rfl⟩ : ∃ wo : World, wo = wr := ⟨_, rfl⟩
    have HNO := Lib.hid hno; clear hno
    by_cases hlt : k < xs.length
    · obtain ⟨b, off, rfl, hcs⟩ := flat_cells (enc := encLot) (m := 4) (fun _ => rfl) (by decide) (hc.keep0 hgr) (by omega)
      have hmem : xs[k] ∈ xs := List.getElem_mem hlt
      obtain ⟨x, hx⟩ : ∃ x, x = xs[k] := ⟨_, rfl⟩
      have HX := Lib.hid hx
      have d0 : wo.cell? ⟨b, off + k * 4, none⟩ = some (.string x.id) := by have := hcs k hlt 0 _ rfl; simpa [← HX.out] using this
      have d1 : wo.cell? ⟨b, off + k * 4 + 1, none⟩ = some (.string x.prod) := by have := hcs k hlt 1 _ rfl; simpa [← HX.out] using this
      have d2 : wo.cell? ⟨b, off + k * 4 + 2, none⟩ = some (.int .i64 x.exp) := by have := hcs k hlt 2 _ rfl; simpa [← HX.out] using this
      have d3 : wo.cell? ⟨b, off + k * 4 + 3, none⟩ = some (.int .i64 x.many) := by have := hcs k hlt 3 _ rfl; simpa [← HX.out] using this
      rw [← hx] at hmem
      clear hx
      have HM := Lib.hid hmem; clear hmem hcs
      go_wp2_with (fail)
      refine (HF.out x HM.out wo hgr).mono ?_
      rintro e w1 ⟨rfl, hg1⟩
      cases hp : P x with
      | true =>
        have HP := Lib.hid hp; clear hp
        go_wp2_with (fail)
        go_ret
        refine ⟨ret_int (findA_at hlt (by rw [← HX.out]; exact HP.out) (fun j hj => HNO.out j (by omega) hj)).symm, gr_trans hgr hg1⟩
      | false =>
        have HP := Lib.hid hp; clear hp
        go_wp2_with (fail)
        go_roundw
        case rel =>
          refine ⟨k + 1, by omega, by go_num, fun j hjl hj => ?_, gr_trans hgr hg1⟩
          by_cases hjk : j = k
          · subst hjk; rw [← HX.out]; exact HP.out
          · exact HNO.out j hjl (by omega)
        case measure => simp [intOf]; omega
    · have hkl : k = xs.length := by omega
      have HK := Lib.hid hkl; clear hkl
      go_wp2_with (fail)
      go_ret
      exact ⟨ret_int (findA_none (fun j hj => HNO.out j hj (by rw [HK.out]; exact hj))).symm, hgr⟩

end Go.Proofs.Ytoiclngamaadgaa
