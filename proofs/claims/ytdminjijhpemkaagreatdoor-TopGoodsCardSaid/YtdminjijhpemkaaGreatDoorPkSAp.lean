/- slices.Grow of nil and slices.Concat of two slices of pieces (after XConcat). -/
import Derived.Test.YtdminjijhpemkaaGreatDoorPkSAl
import Derived.Test.YtdminjijhpemkaaGreatDoorPkSAc
import Derived.Lib.AppendZeros
namespace Go.Proofs.YtdminjijhpemkaaGreatDoor
open Go.RowKit

theorem encPc_one : ∀ a, (encPc a).all (fun u => u.oneCell') = true := fun _ => rfl
set_option maxRecDepth 100000 in
theorem growPc_nil (n : Nat) (w : World) (hn : n ≤ 1000000) :
    Calls Tryz.prog 101 #[.slice none 0 0, .int .i64 n] w fun e w' => ∃ v, e = .returned v ∧ w'.ownsRow w.heap.size 53 2 v 0 [] ∧ w.grownBy w' none := by
  by_cases h0 : n = 0
  · subst h0
    go_enter Tryz.func101, Tryz.ntmps101
    go_wp2_with (fail)
    go_ret
    exact ⟨_, rfl, World.ownsRow_nil _ _ _ _, gr_refl _ _⟩
  · obtain ⟨i, hi, hz, hz1, hz2⟩ := info_parts ePc.info
    have htn : Tryz.prog.underlying 3 = some (.int .i64) := by kernel_rfl
    have hpos : 0 < n := by omega
    have hposI : (0 : Int) < (n : Int) := by omega
    obtain ⟨cp, hcp⟩ : ∃ cp, cp = grownCap w n 0 53 := ⟨_, rfl⟩
    obtain ⟨cur, hcur⟩ : ∃ cur, cur = Builtin.zeroCells (Value.agg #[.string ⟨#[]⟩, .int .i64 0]).cells n ++ Builtin.zeroCells (Value.agg #[.string ⟨#[]⟩, .int .i64 0]).cells (grownCap w n 0 53 - n) := ⟨_, rfl⟩
    have hr : (Builtin.append_ #[40, 3] 40 #[.slice none 0 0, .int .i64 n]).run Tryz.prog w = .ok (.slice (some ⟨w.heap.size, 0, none⟩) n cp) (w.drew.alloc (.cells cur 53)) := by
      rw [hcp, hcur]
      refine Lib.run_append_nil_zeros w 40 3 40 53 i (.agg #[.string ⟨#[]⟩, .int .i64 0]) .i64 .i64 ePc.und htn hi hz n hpos ?_ ?_ ?_
      · omega
      · omega
      · rw [hz2]; omega
    have h1 := grownCap_ge w n 0 53
    have h2 := grownCap_le_maxLen w n 0 53 (by unfold maxLen; omega)
    rw [← hcp] at h1 h2
    have hs : cur.size = cp * 2 := by
      rw [hcur, Array.size_append, size_zeroCells, size_zeroCells, ← hcp]
      show n * 2 + (cp - n) * 2 = cp * 2
      omega
    have HR := Lib.hid hr
    have HS := Lib.hid hs
    have H2 := Lib.hid h2
    clear hr hs h2 hcp hcur hi hz hz1 hz2 htn
    go_enter Tryz.func101, Tryz.ntmps101
    go_wp2_with (at_builtin; refine Lib.wpList_append_run _ rfl _ _ _ _ rfl _ _ rfl rfl _ _ HR.out ?_)
    go_ret
    refine ⟨_, rfl, ⟨rfl, .inr ⟨w.heap.size, cp, cur, rfl, Nat.le_refl _, heap_alloc_new w.drew _, Nat.zero_le _, H2.out, HS.out, by simp⟩⟩, ?_⟩
    exact gr_alloc (gr_drew (gr_refl w none)) _

set_option maxRecDepth 100000 in
set_option maxHeartbeats 1000000 in
theorem concatPc (X Y : List Piece) (b c : Nat) (a1 a2 : Option Addr) (c1 c2 : Nat) (w : World) (d0 : w.cell? ⟨b, 0, none⟩ = some (.slice a1 X.length c1)) (d1 : w.cell? ⟨b, 1, none⟩ = some (.slice a2 Y.length c2))
    (hX : CellsAt w a1 (flat encPc X)) (hY : CellsAt w a2 (flat encPc Y)) (hn1 : a1 = none → c1 = 0) (hn2 : a2 = none → c2 = 0) (hl1 : X.length ≤ 100000) (hl2 : Y.length ≤ 100000) :
    Calls Tryz.prog 47 #[.slice (some ⟨b, 0, none⟩) 2 c] w fun e w' => ∃ v, e = .returned v ∧ w'.ownsRow w.heap.size 53 2 v (X ++ Y).length (flat encPc (X ++ Y)) ∧ w.grownBy w' none := by
  go_enter Tryz.func47, Tryz.ntmps47
  go_wp2_with (fail)
  go_loopw [3, 11] (fun sz i wr => wr = w ∧ ((i = .int .i64 0 ∧ sz = .int .i64 0) ∨ (i = .int .i64 1 ∧ sz = .int .i64 X.length) ∨ (i = .int .i64 2 ∧ sz = .int .i64 (X.length + Y.length : Nat)))) (fun _ i _ => 2 - (intOf i).toNat)
  case atStart => exact ⟨rfl, .inl ⟨rfl, rfl⟩⟩
  case round =>
    obtain ⟨hwe, hcase⟩ := hrel
    subst hwe
    obtain ⟨wo, rfl⟩ : ∃ wo : World, wo = wr := ⟨_, rfl⟩
    rcases hcase with ⟨rfl, rfl⟩ | ⟨rfl, rfl⟩ | ⟨rfl, rfl⟩
    · go_wp2_with (fail)
      go_roundw
      case rel => exact ⟨trivial, .inr (.inl ⟨by go_num, by go_num⟩)⟩
      case measure => simp [intOf]
    · go_wp2_with (fail)
      go_roundw
      case rel => exact ⟨trivial, .inr (.inr ⟨by go_num, by go_num⟩)⟩
      case measure => simp [intOf]
    · go_wp2_with (fail)
      refine (growPc_nil (X.length + Y.length) wo (by omega)).mono ?_
      rintro e w1 ⟨v1, rfl, hown1, hg1⟩
      go_wp2_with (fail)
      have hb := lt_of_cell d0
      go_loopw [6, 27] (fun v i wr => wo.grownBy wr none ∧ ((i = .int .i64 0 ∧ wr.ownsRow wo.heap.size 53 2 v 0 []) ∨ (i = .int .i64 1 ∧ wr.ownsRow wo.heap.size 53 2 v X.length (flat encPc X)) ∨ (i = .int .i64 2 ∧ wr.ownsRow wo.heap.size 53 2 v (X.length + Y.length) (flat encPc X ++ flat encPc Y)))) (fun _ i _ => 2 - (intOf i).toNat)
      case atStart => exact ⟨hg1, .inl ⟨rfl, hown1⟩⟩
      case round =>
        obtain ⟨hgr, hcase⟩ := hrel
        obtain ⟨wi, rfl⟩ : ∃ wi : World, wi = wr := ⟨_, rfl⟩
        have e0 := (gr_cell hgr hb (o := 0)).trans d0
        have e1 := (gr_cell hgr hb (o := 1)).trans d1
        have hX2 := hX.keep0 hgr
        have hY2 := hY.keep0 hgr
        have hsz := hgr.size
        rcases hcase with ⟨rfl, hown⟩ | ⟨rfl, hown⟩ | ⟨rfl, hown⟩
        · go_wp2_with (at_builtin; refine wpList_app ePc rfl _ _ rfl wo.heap.size _ _ _ rfl hown _ X.length c1 (flat encPc X) rfl ?_ hX2 hn1 (flat_ones encPc_one X) ?_ hsz ?_; (· exact flat_length encPc_len _); (· omega); intro v6 w6 hown6 hg6)
          go_wp2_with (fail)
          go_roundw
          case rel => exact ⟨gr_grown hgr hg6 (fun r hr => (hown.lt r hr).1), .inr (.inl ⟨by go_num, by simpa using hown6⟩)⟩
          case measure => simp [intOf]
        · go_wp2_with (at_builtin; refine wpList_app ePc rfl _ _ rfl wo.heap.size _ _ _ rfl hown _ Y.length c2 (flat encPc Y) rfl ?_ hY2 hn2 (flat_ones encPc_one Y) ?_ hsz ?_; (· exact flat_length encPc_len _); (· omega); intro v6 w6 hown6 hg6)
          go_wp2_with (fail)
          go_roundw
          case rel => exact ⟨gr_grown hgr hg6 (fun r hr => (hown.lt r hr).1), .inr (.inr ⟨by go_num, hown6⟩)⟩
          case measure => simp [intOf]
        · go_wp2_with (fail)
          go_ret
          refine ⟨_, rfl, ?_, hgr⟩
          rw [List.length_append, show flat encPc (X ++ Y) = flat encPc X ++ flat encPc Y from flat_append X Y]
          exact hown
end Go.Proofs.YtdminjijhpemkaaGreatDoor
