/- Tubes: as the stream makes them. -/
import Derived.Test.YtdjnomeabadbnaaMake
import Derived.Test.YtdjnomeabadbnaaFlat
namespace Go.Proofs.Ytdjnomeabadbnaa
open Go.RowKit
variable {lw : Nat}

structure Tube where
  value : Int
  count : Int
  most : Int
def encTube (t : Tube) : List Value := [.int .i64 t.value, .int .i64 t.count, .int .i64 t.most]
theorem encTube_len (t : Tube) : (encTube t).length = 3 := rfl
theorem encTube_one (t : Tube) : (encTube t).all (fun u => u.oneCell') = true := rfl
def tubes (l : List Tube) : List Value := flat encTube l
def tubeAt (l : List Tube) (i : Nat) : Tube := l.getD i ⟨0, 0, 0⟩
theorem tubes_cells {w : World} {a : Option Addr} {l : List Tube} (hc : CellsAt w a (tubes l)) (i : Nat) (h : i < l.length) : ∃ b off, a = some ⟨b, off, none⟩ ∧ ∀ j, j < l.length →
    w.cell? ⟨b, off + j * 3, none⟩ = some (.int .i64 (tubeAt l j).value) ∧ w.cell? ⟨b, off + j * 3 + 1, none⟩ = some (.int .i64 (tubeAt l j).count) ∧ w.cell? ⟨b, off + j * 3 + 2, none⟩ = some (.int .i64 (tubeAt l j).most) := by
  obtain ⟨b, off, rfl, hcs⟩ := flat_cells encTube_len (by decide) hc (by omega)
  refine ⟨b, off, rfl, fun j hj => ?_⟩
  unfold tubeAt
  rw [getD_eq l j _ hj]
  exact ⟨hcs j hj 0 _ rfl, hcs j hj 1 _ rfl, hcs j hj 2 _ rfl⟩

def coinValues : List Int := [5, 10, 25, 50, 100]
/-- The tubes that are there behind i of the five values, and the stream's place. -/
def tubesTo (l : List Int) (k : Nat) : Nat → List Tube × Nat
  | 0 => ([], k)
  | i + 1 =>
    let p := tubesTo l k i
    if flipM l p.2 3 then (p.1, p.2 + 1)
    else (p.1 ++ [⟨coinValues.getD i 0, nxt l (p.2 + 2) (pickM l (p.2 + 1) [0, 1, 3, 8, 20] + 1), pickM l (p.2 + 1) [0, 1, 3, 8, 20]⟩], p.2 + 3)
def tubesM (l : List Int) (k : Nat) : List Tube := (tubesTo l k 5).1
def tubesK (l : List Int) (k : Nat) : Nat := (tubesTo l k 5).2
theorem tubesTo_len (l : List Int) (k i : Nat) : (tubesTo l k i).1.length ≤ i := by
  induction i with
  | zero => exact Nat.le_refl _
  | succ i ih => simp only [tubesTo]; split <;> simp <;> omega
theorem tubesTo_k (l : List Int) (k i : Nat) : (tubesTo l k i).2 ≤ k + 3 * i := by
  induction i with
  | zero => exact Nat.le_refl _
  | succ i ih => simp only [tubesTo]; split <;> simp <;> omega

end Go.Proofs.Ytdjnomeabadbnaa
