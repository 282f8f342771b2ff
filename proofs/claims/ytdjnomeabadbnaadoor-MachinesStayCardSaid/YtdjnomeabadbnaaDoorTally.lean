/- Tallies; a machine and its block. -/
import Derived.Test.YtdjnomeabadbnaaDoorCfgFault
namespace Go.Proofs.YtdjnomeabadbnaaDoor
open Go.RowKit

structure Tally where
  key : ByteArray
  many : Int
  value : Int
def encTally (t : Tally) : List Value := [.string t.key, .int .i64 t.many, .int .i64 t.value]
theorem encTally_len (t : Tally) : (encTally t).length = 3 := rfl
theorem encTally_one (t : Tally) : (encTally t).all (fun u => u.oneCell') = true := rfl
theorem eTally : ElemT Tryd.prog 44 79 (.agg #[.string ⟨#[]⟩, .int .i64 0, .int .i64 0]) 3 32 := ⟨by kernel_rfl, by kernel_rfl, by decide, by decide, by decide⟩
/-- What a machine holds: the configuration, which slots are jammed, what lies in escrow, and the counts. -/
structure Mach where
  tubes : List Tube
  takes : List Int
  slots : List Slot
  high : Int
  jam : List Bool
  esc : List Int
  sold : List Tally
  inn : Int
  out : Int
  filled : Int
  collected : Int
  box : Int
  credit : Int
structure MachAt (w : World) (base M : Nat) (m : Mach) : Prop where
  ex : ∃ tv kv sv jv ev dv, w.heap[M]? = some (.cells #[tv, kv, sv, .int .i64 m.high, jv, ev, dv, .int .i64 m.inn, .int .i64 m.out, .int .i64 m.filled, .int .i64 m.collected, .int .i64 m.box, .int .i64 m.credit, .slice none 0 0] 139 (0, 0)) ∧
    w.ownsRow base 41 3 tv m.tubes.length (tubes m.tubes) ∧ w.ownsRow base 3 1 kv m.takes.length (ints m.takes) ∧ w.ownsRow base 43 5 sv m.slots.length (flat encSlot m.slots) ∧
    w.ownsRow base 4 1 jv m.jam.length (bools m.jam) ∧ w.ownsRow base 3 1 ev m.esc.length (ints m.esc) ∧ w.ownsRow base 79 3 dv m.sold.length (flat encTally m.sold) ∧ (∀ q, kv.ownBlock = some q → ev.ownBlock ≠ some q)
end Go.Proofs.YtdjnomeabadbnaaDoor
