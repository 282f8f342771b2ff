/- The world's shape and the table of the powers of ten; strconv.Itoa and strings.Split at it. -/
import Derived.Test.YtdminjijhpemkaaGreatDoorPkSBq
import Derived.Test.YtdminjijhpemkaaGreatDoorPkSBn
import Derived.ShapedOpen
import Derived.ChangeAgain
namespace Go.Proofs.YtdminjijhpemkaaGreatDoor
open Go.RowKit Go.Sort

structure EnvP (w : World) : Prop where
  shp : w.ShapedOpen Tryz.prog
  tab : Lib.TabIs Tryz.prog w "internal/strconv.uint64pow10" .u64 Lib.pow10Tab
theorem keptP {w w1 : World} (g : w.grownBy w1 none) : w.keptBut w1 (fun _ => False) := by
  refine ⟨g.os, g.output, fun i hi => ?_⟩
  rw [g.block i hi (by simp)]
  cases h : w.heap[i]? with
  | none => rfl
  | some o => cases o <;> simp
theorem tab_keep {w w1 : World} {n : String} {g : Nat} {k : IntKind} {zs : List Int} (hg : Tryz.prog.globalNamed n = some g) (h : Lib.TabIs Tryz.prog w n k zs) (gr : w.grownBy w1 none) : Lib.TabIs Tryz.prog w1 n k zs := by
  unfold Lib.TabIs World.var? at h ⊢
  rw [hg] at h ⊢
  simp only [Option.bind_some] at h ⊢
  have hlt : g < w.heap.size := by
    rcases Nat.lt_or_ge g w.heap.size with h' | h'
    · exact h'
    · rw [Array.getElem?_eq_none h'] at h; cases h
  rw [gr.block g hlt (by simp)]
  exact h
theorem EnvP.keep {w w1 : World} (h : EnvP w) (g : w.grownBy w1 none) : EnvP w1 :=
  ⟨h.shp.keptBut (keptP g) (fun p hp => hp.elim), tab_keep (g := 3) (by kernel_rfl) h.tab g⟩
theorem gr_grow (w : World) (k : Nat) (os : Array Obj) : w.grownBy (grow (w.drewN k) os) none := by
  refine ⟨rfl, by simp [grow], rfl, by simp [grow], fun b hb _ => ?_⟩
  simp [grow]
  rw [Array.getElem?_append_left (by simpa using hb)]
def itoaB (n : Int) : ByteArray := ⟨(Lib.itoa n).toArray⟩
theorem itoa_any (n : Int) (h0 : 0 ≤ n) (h1 : n ≤ 1000000000) (w : World) (E : EnvP w) : Calls Tryz.prog 89 #[.int .i64 n] w fun e w' => e = .returned (.string (itoaB n)) ∧ w.grownBy w' none :=
  (Any.strconv_Itoa laysM171 n (by omega) (by omega) w E.tab).mono fun e w' h => by
    obtain ⟨rfl, k, os, rfl⟩ := h
    exact ⟨rfl, gr_grow w k os⟩
theorem split_any (s : ByteArray) (c : UInt8) (w : World) (E : EnvP w) (hs : s.size < 4294967281) (ps : List (List UInt8)) (hp : splitL c s.data.toList = ps) (hn : Lib.count s.data.toList [c] + 1 = ps.length) :
    Calls Tryz.prog 133 #[.string s, .string ⟨#[c]⟩] w fun e w' => e = .returned (.slice (some ⟨w.heap.size, 0, none⟩) ps.length ps.length) ∧ w' = w.alloc (.cells (ps.map (fun l => Value.string ⟨l.toArray⟩)).toArray 9) :=
  (Any.strings_Split_shaped laysM146 s ⟨#[c]⟩ w E.shp hs (Nat.le_refl 1)).mono fun e w' h => by
    obtain ⟨rfl, rfl⟩ := h
    have hc : Lib.countB s ⟨#[c]⟩ + 1 = ps.length := hn
    rw [hc, splitB_list, hp, List.map_map]
    exact ⟨rfl, rfl⟩
end Go.Proofs.YtdminjijhpemkaaGreatDoor
