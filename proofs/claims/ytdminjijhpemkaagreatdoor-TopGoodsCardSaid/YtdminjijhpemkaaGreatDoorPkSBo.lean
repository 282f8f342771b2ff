/- strings.SplitSeq at a line without the separator: it hands out the line, once. -/
import Derived.Test.YtdminjijhpemkaaGreatDoorPkSBm
import Derived.Test.YtdminjijhpemkaaGreatDoorPkSBn
import Derived.Test.YtdminjijhpemkaaGreatDoorPkSAb
import Derived.RangeFuncNested
import Derived.RangeFuncBound
import Derived.RangeFuncCalls
import Derived.RangeFuncLeaves
import Derived.RangeFuncBox
import Derived.Shelf.Abstract
import Derived.Shelf.RegionOpen
import Derived.OwnWalkIn
import Derived.TacticsInMore
import Derived.LoopNIn
import Derived.LoopIn
namespace Go.Proofs.YtdminjijhpemkaaGreatDoor
open Go.RowKit Go.Shelf
attribute [local go_sem] Oper.semAt_some

theorem indexByte_no (c : UInt8) : ∀ (l : List UInt8), c ∉ l → Lib.indexByte l c = -1
  | [], _ => rfl
  | b :: l, h => by
    have hb : (b == c) = false := beq_eq_false_iff_ne.2 (fun e => h (by rw [e]; exact List.mem_cons_self ..))
    have ih := indexByte_no c l (fun hm => h (List.mem_cons_of_mem _ hm))
    unfold Lib.indexByte
    rw [hb, ih]
    rfl
set_option maxRecDepth 100000 in
set_option maxHeartbeats 2000000 in
theorem split1_in (n : Nat) (hn : 1 ≤ n) (l Bp Bs Bn : Nat) (s : ByteArray) (hs : (10 : UInt8) ∉ s.data.toList) (J Jx : List Unit → World → Prop)
    (hY : ∀ pre x W, J pre W → pre.length < 1 → YieldAt Fence.wide (n - 1) Tryz.prog l #[.string s] W fun e W' =>
      (e = .returned (.bool true) ∧ J (pre ++ [x]) W' ∧ True) ∨ (e = .returned (.bool false) ∧ Jx (pre ++ [x]) W'))
    (W : World) (hBp : W.cell? ⟨Bp, 0, none⟩ = some (.string ⟨#[10]⟩)) (hBs : W.cell? ⟨Bs, 0, none⟩ = some (.string s)) (h0 : J [] W) :
    CallsIn Fence.wide n Tryz.prog 164 #[.func (.yield l) #[] #[], .pointer (some ⟨Bp, 0, none⟩), .pointer (some ⟨Bs, 0, none⟩), .pointer (some ⟨Bn, 0, none⟩)] W fun e W' => (∃ v, e = .returned v) ∧
      ((∃ ys, ys = [()] ∧ J ys W') ∨ (∃ pre, pre = [()] ∧ Jx pre W')) := by
  have HY := Lib.hid (hY [] () W h0 (by simp))
  have IX := Lib.hid (Any.strings_Index_one lays143 s 10 W)
  rw [indexByte_no 10 _ hs] at IX
  clear hY h0 hs
  refine callsIn_of_wp Tryz.func164 rfl trivial ?_ rfl
  simp only [Tryz.ntmps164, List.size_toArray, List.length_cons, List.length_nil, Nat.reduceAdd, Nat.reduceSub, Array.replicate_succ, Array.replicate_zero, List.push_toArray, List.append_toArray, List.nil_append, List.cons_append]
  gi_wp2
  gi_loopw [7] (fun _ wr => wr = W) (fun _ _ => 0)
  case atStart => rfl
  case round =>
    obtain rfl := hrel
    gi_wp2
    refine ⟨trivial, (callsIn_wide.2 IX.out).mono ?_⟩
    rintro e w2 ⟨rfl, rfl⟩
    obtain ⟨fn, tmps, assign, body, hy, hR⟩ := HY.out
    have HR := Lib.hid hR
    clear hR
    gi_wp2
    refine HR.out.mono ?_
    rintro e W3 (⟨rfl, hJ3, -⟩ | ⟨rfl, hJx3⟩)
    · have HJ3 := Lib.hid hJ3
      clear hJ3
      gi_wp2
      first | go_end0 | refine bodyPost_ret (results_none rfl _ _ _) rfl ?_
      exact ⟨⟨_, rfl⟩, .inl ⟨_, rfl, HJ3.out⟩⟩
    · have HJ3 := Lib.hid hJx3
      clear hJx3
      gi_wp2
      first | go_end0 | refine bodyPost_ret (results_none rfl _ _ _) rfl ?_
      exact ⟨⟨_, rfl⟩, .inr ⟨_, rfl, HJ3.out⟩⟩
theorem split1_stops (n : Nat) (hn : 1 ≤ n) (Bp Bs Bn : Nat) (s : ByteArray) (hs : (10 : UInt8) ∉ s.data.toList) (w : World) (hBp : w.heap[Bp]? = some (.cells #[.string ⟨#[10]⟩] 9 (0, 0))) (hBs : w.heap[Bs]? = some (.cells #[.string s] 9 (0, 0))) :
    SeqStopsK Fence.wide n Tryz.prog 164 #[.pointer (some ⟨Bp, 0, none⟩), .pointer (some ⟨Bs, 0, none⟩), .pointer (some ⟨Bn, 0, none⟩)] (fun (_ : Unit) => #[.string s]) (fun _ _ => True) (fun ys => ys = [()]) (fun pre => pre = [()]) 1 w := fun l J Jx W hW _ _ hY h0 => by
  have h1 := (hW.block Bp (lt_of_block hBp)).trans hBp
  have h2 := (hW.block Bs (lt_of_block hBs)).trans hBs
  exact split1_in n hn l Bp Bs Bn s hs J Jx hY W (blkC h1 0 rfl) (blkC h2 0 rfl) h0
theorem splitSeq0_any (s p : ByteArray) (w : World) :
    Calls Tryz.prog 132 #[.string s, .string p, .int .i64 0] w fun e w' => e = .returned (.func (.func 164) #[] #[.pointer (some ⟨w.heap.size + 1, 0, none⟩), .pointer (some ⟨w.heap.size, 0, none⟩), .pointer (some ⟨w.heap.size + 1 + 1, 0, none⟩)]) ∧ w' = ((w.alloc (.cells #[.string s] 9)).alloc (.cells #[.string p] 9)).alloc (.cells #[.int .i64 0] 3) := by
  go_enter Tryz.func132, Tryz.ntmps132
  go_wp2_with (fail)
  go_ret
  exact ⟨rfl, rfl⟩
set_option maxHeartbeats 1000000 in
theorem splitSeq_any (s p : ByteArray) (w : World) :
    Calls Tryz.prog 90 #[.string s, .string p] w fun e w' => e = .returned (.func (.func 164) #[] #[.pointer (some ⟨w.heap.size + 1, 0, none⟩), .pointer (some ⟨w.heap.size, 0, none⟩), .pointer (some ⟨w.heap.size + 1 + 1, 0, none⟩)]) ∧ w' = ((w.alloc (.cells #[.string s] 9)).alloc (.cells #[.string p] 9)).alloc (.cells #[.int .i64 0] 3) := by
  go_enter Tryz.func90, Tryz.ntmps90
  go_wp2_with (fail)
  refine (splitSeq0_any s p w).mono ?_
  rintro e w2 ⟨rfl, rfl⟩
  go_wp2_with (fail)
  go_ret
  exact ⟨rfl, rfl⟩
end Go.Proofs.YtdminjijhpemkaaGreatDoor
