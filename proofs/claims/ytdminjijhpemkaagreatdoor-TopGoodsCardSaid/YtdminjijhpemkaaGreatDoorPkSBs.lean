/- strings.Cut and strings.Split at one byte, over the world's shape. -/
import Derived.Test.YtdminjijhpemkaaGreatDoorPkSBq
import Derived.Test.YtdminjijhpemkaaGreatDoorPkSBr
import Derived.Test.YtdminjijhpemkaaGreatDoorPkSBn
import Derived.ShapedOpen
import Derived.ChangeAgain
namespace Go.Proofs.YtdminjijhpemkaaGreatDoor
open Go.RowKit Go.Sort

theorem splitC_any (s : ByteArray) (c : UInt8) (w : World) (E : w.ShapedOpen Tryz.prog) (hs : s.size < 4294967281) (ps : List (List UInt8)) (hp : splitL c s.data.toList = ps) (hn : Lib.count s.data.toList [c] + 1 = ps.length) :
    Calls Tryz.prog 133 #[.string s, .string ⟨#[c]⟩] w fun e w' => e = .returned (.slice (some ⟨w.heap.size, 0, none⟩) ps.length ps.length) ∧ w' = w.alloc (.cells (ps.map (fun l => Value.string ⟨l.toArray⟩)).toArray 9) :=
  (Any.strings_Split_shaped laysM146 s ⟨#[c]⟩ w E hs (Nat.le_refl 1)).mono fun e w' h => by
    obtain ⟨rfl, rfl⟩ := h
    have hc : Lib.countB s ⟨#[c]⟩ + 1 = ps.length := hn
    rw [hc, splitB_list, hp, List.map_map]
    exact ⟨rfl, rfl⟩
end Go.Proofs.YtdminjijhpemkaaGreatDoor
