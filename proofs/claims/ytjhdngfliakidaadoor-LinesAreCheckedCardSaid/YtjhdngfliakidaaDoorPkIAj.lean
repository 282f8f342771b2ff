/- meter.folded: the exclusive or of all bytes, as two digits. -/
import Derived.Test.YtjhdngfliakidaaDoorPkIAc
import Derived.Test.YtjhdngfliakidaaDoorPkIAg
import Derived.Test.YtjhdngfliakidaaDoorPkIAh
import Derived.Test.YtjhdngfliakidaaDoorPkIAi
import Derived.Deep.DeepCutAuto
import Derived.Deep.RegionLaw
import Derived.WalkLawsBesides
import Derived.Laws.IdiomStrings
import Derived.Deep.DrawnRows
namespace Go.Proofs.YtjhdngfliakidaaDoor
open Go.RowKit
attribute [local go_sem ↓] Go.wp_at_zero Go.wp_at_succ

def hexT : ByteArray := { data := #[48, 49, 50, 51, 52, 53, 54, 55, 56, 57, 97, 98, 99, 100, 101, 102] }
def hexL (x : UInt8) : List UInt8 := [hexT.data.toList.getD (x.toNat / 16) 0, hexT.data.toList.getD (x.toNat % 16) 0]
theorem bits_xor8 (a b : UInt8) : bits .xor .u8 (a.toNat : Int) (b.toNat : Int) = ((a ^^^ b).toNat : Int) := by
  unfold bits
  have e : ∀ x : UInt8, BitVec.ofInt IntKind.u8.bits (x.toNat : Int) = x.toBitVec := fun x => by
    show BitVec.ofInt 8 (x.toNat : Int) = _
    rw [BitVec.ofInt_natCast]
    exact BitVec.ofNat_toNat 8 x.toBitVec ▸ rfl
  simp only [e]
  show IntKind.u8.wrap ((a ^^^ b).toNat : Int) = _
  exact IntWalk.u8_in _ (by have := (a ^^^ b).toNat_lt; omega)
theorem bits_and15 (a : UInt8) : bits .and .u8 (a.toNat : Int) 15 = ((a.toNat % 16 : Nat) : Int) := by
  have h := all_bytes (fun a => bits .and .u8 (a.toNat : Int) 15 == ((a.toNat % 16 : Nat) : Int)) (by kernel_rfl) a
  simpa using h
set_option maxRecDepth 100000 in
set_option maxHeartbeats 1000000 in
theorem folded_any (s : ByteArray) (w : World) (hs : s.size ≤ 1000000) : Calls Tryd.prog 73 #[.string s] w fun e w' => e = .returned (.string ⟨(hexL (foldX s.data.toList)).toArray⟩) ∧ w.grownBy w' none := by
  go_enter Tryd.func73, Tryd.ntmps73
  go_wp2_with (fail)
  go_loop [3, 7] (fun x i => ∃ k : Nat, k ≤ s.size ∧ i = .int .i64 k ∧ x = .int .u8 ((foldX (s.data.toList.take k)).toNat : Int)) (fun _ i => s.size - (intOf i).toNat)
  case atStart => exact ⟨0, Nat.zero_le _, rfl, rfl⟩
  case round =>
    obtain ⟨k, hk, rfl, rfl⟩ := hrel
    by_cases hkn : k < s.size
    · have hkl : k < s.data.toList.length := by simpa using hkn
      have hb := bits_xor8 (foldX (s.data.toList.take k)) s[k]
      have e1 : foldX (s.data.toList.take (k + 1)) = foldX (s.data.toList.take k) ^^^ s[k] := by
        rw [key_take s k hkn, foldX_app]
        congr 1
        show 0 ^^^ s[k] = _
        exact UInt8.zero_xor
      have E1 := Lib.hid e1
      clear e1
      go_wp2_with (fail)
      go_round
      case rel => exact ⟨k + 1, by omega, by go_num, by rw [E1.out, UInt8.toNat_xor]⟩
      case measure => simp [intOf]; omega
    · obtain rfl : k = s.size := by omega
      have e0 : s.data.toList.take s.size = s.data.toList := List.take_of_length_le (by simp)
      rw [e0]
      obtain ⟨x, hx⟩ : ∃ x, x = foldX s.data.toList := ⟨_, rfl⟩
      rw [← hx]
      have HX := Lib.hid hx
      clear hx e0
      obtain ⟨q, hq⟩ : ∃ q, q = x.toNat / 16 := ⟨_, rfl⟩
      obtain ⟨r, hr⟩ : ∃ r, r = x.toNat % 16 := ⟨_, rfl⟩
      have hx1 := x.toNat_lt
      have hq1 : ((x.toNat : Int) / 16) = (q : Int) := by omega
      have hr1 := bits_and15 x
      rw [← hr] at hr1
      have HH : Hid (∃ H : ByteArray, H = (ByteArray.mk #[48, 49, 50, 51, 52, 53, 54, 55, 56, 57, 97, 98, 99, 100, 101, 102])) := ⟨_, rfl⟩
      go_upto_region 7 with (fail)
      obtain ⟨H, hH⟩ := HH.out
      rw [← hH]
      have hHs : H.size = 16 := by rw [hH]; rfl
      have hq2 : q < H.size := by omega
      have hr2 : r < H.size := by omega
      have hq3 : (q : Int) < 16 := by omega
      have hr3 : (r : Int) < 16 := by omega
      have HHE := Lib.hid hH
      have HQ := Lib.hid hq
      have HR := Lib.hid hr
      clear hH HH hq hr
      have hex_at : ∀ (i : Nat) (hi : i < H.size), H[i] = hexT.data.toList.getD i 0 := fun i hi => by
        rw [List.getD_eq_getElem?_getD, List.getElem?_eq_getElem (by rw [← HHE.out.trans (show _ = hexT from rfl)]; simpa using hi), Option.getD_some]
        simp only [HHE.out, hexT]
        rfl
      have HRES : Hid (Value.string (⟨#[H[q], H[r]]⟩ : ByteArray) = .string ⟨(hexL (foldX s.data.toList)).toArray⟩) := by
        show _ = _
        unfold hexL
        rw [← HX.out, ← HQ.out, ← HR.out, hex_at q hq2, hex_at r hr2]
      clear hex_at
      have hcv : (convert 81 9 (.slice (some ⟨w.heap.size, 0, none⟩) 2 2)).run Tryd.prog ((w.alloc (.cells #[.int .u8 H[q].toNat, .int .u8 H[r].toNat] 5)).drew) = .ok (.string ⟨#[H[q], H[r]]⟩) ((w.alloc (.cells #[.int .u8 H[q].toNat, .int .u8 H[r].toNat] 5)).drew) := run_convert_bytes_back (P := Tryd.prog) ((w.alloc (.cells #[.int .u8 H[q].toNat, .int .u8 H[r].toNat] 5)).drew) 81 9 5 ⟨w.heap.size, 0, none⟩ 2 [H[q], H[r]] Tryd.underlying81 Tryd.underlying5 Tryd.underlying9 (fun j hj => by
        have hN := heap_alloc_new w (.cells #[.int .u8 H[q].toNat, .int .u8 H[r].toNat] 5)
        have : j = 0 ∨ j = 1 := by simp at hj; omega
        rcases this with rfl | rfl
        · exact blkC hN 0 rfl
        · exact blkC hN 1 rfl)
      go_region_law (fail)
      all_goals (go_wp2_with (fail))
      all_goals go_ret
      all_goals exact ⟨congrArg Ending.returned HRES.out, gr_drew (gr_alloc (gr_refl w none) _)⟩
end Go.Proofs.YtjhdngfliakidaaDoor
