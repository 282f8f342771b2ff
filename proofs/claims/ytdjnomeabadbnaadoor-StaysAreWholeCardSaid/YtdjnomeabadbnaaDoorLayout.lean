/- Layouts, as the stream makes them. -/
import Derived.Test.YtdjnomeabadbnaaDoorOffers
namespace Go.Proofs.YtdjnomeabadbnaaDoor
open Go.RowKit
variable {lw : Nat}

theorem offKey {B : Nat} {w : World} {a : Option Addr} {os : List Offer} (h : NestAt (OffR B) w 5 a os) (i : Nat) (hi : i < os.length) : ∃ b off, a = some ⟨b, off, none⟩ ∧ w.cell? ⟨b, off + i * 5, none⟩ = some (.string os[i].key) := by
  obtain ⟨b, off, c, rfl, _, ⟨v1, v2, v3, rfl, _⟩, hc⟩ := h.at i hi
  exact ⟨b, off, rfl, hc 0 _ rfl⟩
def layE (l : List Int) (k : Nat) (ks : List ByteArray) : ByteArray × Nat :=
  if ks.length = 0 then (⟨#[]⟩, k) else if flipM l k 4 then (⟨#[]⟩, k + 1) else (ks.getD (nxt l (k + 1) ks.length).toNat ⟨#[]⟩, k + 2)
def layTo (l : List Int) (k : Nat) (ks : List ByteArray) : Nat → List ByteArray × Nat
  | 0 => ([], k)
  | i + 1 => ((layTo l k ks i).1 ++ [(layE l (layTo l k ks i).2 ks).1], (layE l (layTo l k ks i).2 ks).2)
theorem layE_k (l : List Int) (k : Nat) (ks : List ByteArray) : (layE l k ks).2 ≤ k + 2 := by
  unfold layE
  split
  · omega
  · split <;> simp
theorem layTo_k (l : List Int) (k : Nat) (ks : List ByteArray) (i : Nat) : (layTo l k ks i).2 ≤ k + 2 * i := by
  induction i with
  | zero => simp [layTo]
  | succ i ih => have := layE_k l (layTo l k ks i).2 ks; simp only [layTo]; omega
theorem layTo_len (l : List Int) (k : Nat) (ks : List ByteArray) (i : Nat) : (layTo l k ks i).1.length = i := by
  induction i with
  | zero => rfl
  | succ i ih => simp [layTo, ih]
def layOne : List ByteArray := [⟨#[]⟩, ⟨#[97]⟩, ⟨#[122, 122]⟩, ⟨#[90]⟩]
def laySet : List ByteArray := [⟨#[122, 122]⟩, ⟨#[90]⟩, ⟨#[97]⟩]
def layA (l : List Int) (x : List ByteArray × Nat) : List ByteArray × Nat := if flipM l x.2 15 then (x.1 ++ [oneS l (x.2 + 1) layOne], x.2 + 2) else (x.1, x.2 + 1)
def layB (l : List Int) (x : List ByteArray × Nat) : List ByteArray × Nat :=
  if flipM l x.2 15 then (if x.1.length = 0 then (x.1, x.2 + 1) else (x.1.set (nxt l (x.2 + 1) x.1.length).toNat (oneS l (x.2 + 2) laySet), x.2 + 3)) else (x.1, x.2 + 1)
def layM (l : List Int) (k n : Nat) (ks : List ByteArray) : List ByteArray := (layB l (layA l (layTo l k ks n))).1
def layK (l : List Int) (k n : Nat) (ks : List ByteArray) : Nat := (layB l (layA l (layTo l k ks n))).2
theorem layA_k (l : List Int) (x : List ByteArray × Nat) : (layA l x).2 ≤ x.2 + 2 ∧ (layA l x).1.length ≤ x.1.length + 1 := by
  unfold layA
  split <;> simp
theorem layB_k (l : List Int) (x : List ByteArray × Nat) : (layB l x).2 ≤ x.2 + 3 ∧ (layB l x).1.length = x.1.length := by
  unfold layB
  split
  · split <;> simp
  · simp
theorem layM_len (l : List Int) (k n : Nat) (ks : List ByteArray) : (layM l k n ks).length ≤ n + 1 := by
  have h1 := layB_k l (layA l (layTo l k ks n))
  have h2 := layA_k l (layTo l k ks n)
  have h3 := layTo_len l k ks n
  unfold layM
  omega
theorem layK_le (l : List Int) (k n : Nat) (ks : List ByteArray) : layK l k n ks ≤ k + 2 * n + 5 := by
  have h1 := layB_k l (layA l (layTo l k ks n))
  have h2 := layA_k l (layTo l k ks n)
  have h3 := layTo_k l k ks n
  unfold layK
  omega
def keysOf (os : List Offer) : List ByteArray := os.map Offer.key
def LayoutPost (l : List Int) (k n p lw : Nat) (ks : List ByteArray) (w : World) (e : Ending) (w' : World) : Prop :=
  ∃ v, e = .returned v ∧ w'.ownsRow w.heap.size 9 1 v (layM l k n ks).length (strs (layM l k n ks)) ∧ StreamAt w' p lw l (layK l k n ks) ∧ w.grownBy w' (some p)
end Go.Proofs.YtdjnomeabadbnaaDoor
