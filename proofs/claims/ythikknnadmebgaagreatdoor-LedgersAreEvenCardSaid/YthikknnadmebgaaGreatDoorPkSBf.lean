/- meter.folded: the exclusive or of all bytes, as two digits. -/
import Derived.Test.YthikknnadmebgaaGreatDoorPkSBd
import Derived.Test.YthikknnadmebgaaGreatDoorPkSAk
import Derived.Test.YthikknnadmebgaaGreatDoorPkSAn
import Derived.Test.YthikknnadmebgaaGreatDoorPkSAb
import Derived.Deep.DeepCutAuto
import Derived.Deep.RegionLaw
import Derived.WalkLawsBesides
import Derived.Laws.IdiomStrings
import Derived.Deep.DrawnRows
namespace Go.Proofs.YthikknnadmebgaaGreatDoor
open Go.RowKit
attribute [local go_sem ↓] Go.wp_at_zero Go.wp_at_succ

def hexT : ByteArray := { data := #[48, 49, 50, 51, 52, 53, 54, 55, 56, 57, 97, 98, 99, 100, 101, 102] }
def hexL (x : UInt8) : List UInt8 := [hexT.data.toList.getD (x.toNat / 16) 0, hexT.data.toList.getD (x.toNat % 16) 0]
theorem bits_xor8 (a b : UInt8) : bits .xor .u8 (a.toNat : Int) (b.toNat : Int) = ((a ^^^ b).toNat : Int) := by
  unfold bits
  have e : ∀ x : UInt8, BitVec.ofInt IntKind.u8.bits (x.toNat : Int) = x.toBitVec := fun x => by
    show BitVec.ofInt 8 (x.toNat : Int) = _
    rw [BitVec.ofInt_natCast]
    exact BitVec.ofNat_toNat 8 x.toBitVec ▸ rfl
  simp only [e]
  show IntKind.u8.wrap ((a ^^^ b).toNat : Int) = _
  exact IntWalk.u8_in _ (by have := (a ^^^ b).toNat_lt; omega)
theorem bits_and15 (a : UInt8) : bits .and .u8 (a.toNat : Int) 15 = ((a.toNat % 16 : Nat) : Int) := by
  have h := all_bytes (fun a => bits .and .u8 (a.toNat : Int) 15 == ((a.toNat % 16 : Nat) : Int)) (by kernel_rfl) a
  simpa using h
end Go.Proofs.YthikknnadmebgaaGreatDoor
