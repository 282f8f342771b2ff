/- The reference's part of shelves; doing nothing; versions that are checked. -/
import Derived.Test.YtjhdngfliakidaaDoorPkCBc
import Derived.Test.YtjhdngfliakidaaDoorPkCBd
import Derived.Test.YtjhdngfliakidaaDoorPkCBf
namespace Go.Proofs.YtjhdngfliakidaaDoor
open Go.RowKit
attribute [local go_sem ↓] Go.wp_at_zero Go.wp_at_succ

/-- No tasks: a copy, unless there is too much. -/
def DoPost (xs : List ByteArray) (w : World) (e : Ending) (w' : World) : Prop :=
  ∃ v n L, e = .returned (.tuple #[v, .int .i64 (if 60 < xs.length then 2 else 0)]) ∧ n ≤ 60 ∧ w'.ownsRow w.heap.size 9 1 v n (strs L) ∧ w.grownBy w' none
/-! Versions that are checked. -/
def vDay (vs : List Ver) (k : Nat) : Int := (vs.getD k ⟨0, []⟩).day
def vLay (vs : List Ver) (k : Nat) : List ByteArray := (vs.getD k ⟨0, []⟩).lay
structure VerOkAt (vs : List Ver) (k : Nat) : Prop where
  lo : 0 ≤ vDay vs k
  hi : vDay vs k ≤ 4000
  up : 0 < k → vDay vs (k - 1) < vDay vs k
  few : (vLay vs k).length ≤ 60
  like : (vLay vs k).length = (vLay vs 0).length
  keys : (vLay vs k).any oddB = false
structure VersOk (vs : List Ver) : Prop where
  len : vs.length ≤ 200
  all : ∀ k, k < vs.length → VerOkAt vs k
theorem vers_cells {base : Nat} {w : World} {a : Option Addr} {vs : List Ver} (h : NestAt (VerC base) w 2 a vs) (k : Nat) (hk : k < vs.length) :
    ∃ b off la lc, a = some ⟨b, off, none⟩ ∧ w.cell? ⟨b, off + k * 2, none⟩ = some (.int .i64 (vDay vs k)) ∧ w.cell? ⟨b, off + k * 2 + 1, none⟩ = some (.slice la (vLay vs k).length lc) ∧ CellsAt w la (strs (vLay vs k)) ∧ (la = none → (vLay vs k).length = 0 ∧ lc = 0) := by
  obtain ⟨b, off, c, rfl, _, ⟨la, lc, rfl, h1, _, h3⟩, hu⟩ := h.at k hk
  have e : vs.getD k ⟨0, []⟩ = vs[k] := getD_eq vs k _ hk
  refine ⟨b, off, la, lc, rfl, ?_, ?_, ?_, ?_⟩
  · unfold vDay; rw [e]; exact hu 0 _ rfl
  · unfold vLay; rw [e]; exact hu 1 _ rfl
  · unfold vLay; rw [e]; exact h1
  · unfold vLay; rw [e]; exact h3
def ChkPost (vs : List Ver) (w : World) (e : Ending) (w' : World) : Prop := ∃ r : Int, e = .returned (.int .i64 r) ∧ (r = 0 ↔ VersOk vs) ∧ w.grownBy w' none
theorem chk_no {vs : List Ver} {w w' : World} (r : Int) (hr : r ≠ 0) (h : ¬ VersOk vs) (g : w.grownBy w' none) : ChkPost vs w (.returned (.int .i64 r)) w' := ⟨r, rfl, ⟨fun e => absurd e hr, fun e => absurd e h⟩, g⟩
end Go.Proofs.YtjhdngfliakidaaDoor
