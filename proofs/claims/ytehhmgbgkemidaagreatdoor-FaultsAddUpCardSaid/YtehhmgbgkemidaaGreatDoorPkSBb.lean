/- Findings in memory. -/
import Derived.Test.YtehhmgbgkemidaaGreatDoorPkSAe
import Derived.Test.YtehhmgbgkemidaaGreatDoorPkSAd
namespace Go.Proofs.YtehhmgbgkemidaaGreatDoor
open Go.RowKit

def encFd (x : Fd) : List Value := [.string x.fault, .int .i64 x.fr, .int .i64 x.to]
theorem encFd_len (x : Fd) : (encFd x).length = 3 := rfl
theorem eFd : ElemT Tryz.prog 40 44 (.agg #[.string ⟨#[]⟩, .int .i64 0, .int .i64 0]) 3 32 := ⟨by kernel_rfl, by kernel_rfl, by decide, by decide, by decide⟩
theorem fd_cells {w : World} {a : Option Addr} {L : List Fd} (h : CellsAt w a (flat encFd L)) (k : Nat) (hk : k < L.length) : ∃ b off, a = some ⟨b, off, none⟩ ∧ w.cell? ⟨b, off + k * 3, none⟩ = some (.string L[k].fault) ∧ w.cell? ⟨b, off + k * 3 + 1, none⟩ = some (.int .i64 L[k].fr) ∧ w.cell? ⟨b, off + k * 3 + 2, none⟩ = some (.int .i64 L[k].to) := by
  obtain ⟨b, off, e, hcs⟩ := flat_cells (enc := encFd) (m := 3) (fun _ => rfl) (by decide) h (by omega)
  exact ⟨b, off, e, hcs k hk 0 _ rfl, hcs k hk 1 _ rfl, hcs k hk 2 _ rfl⟩
theorem flatFd_snoc (N : List Fd) (x : Fd) : flat encFd (N ++ [x]) = flat encFd N ++ [.string x.fault, .int .i64 x.fr, .int .i64 x.to] := by rw [flat_append, flat_one]; rfl
end Go.Proofs.YtehhmgbgkemidaaGreatDoor
