/- Tubes: as the stream makes them. -/
import Derived.Test.YtdjnomeabadbnaaDoorMake
import Derived.Test.YtdjnomeabadbnaaDoorFlat
namespace Go.Proofs.YtdjnomeabadbnaaDoor
open Go.RowKit
variable {lw : Nat}

structure Tube where
  value : Int
  count : Int
  most : Int
def encTube (t : Tube) : List Value := [.int .i64 t.value, .int .i64 t.count, .int .i64 t.most]
theorem encTube_len (t : Tube) : (encTube t).length = 3 := rfl
theorem encTube_one (t : Tube) : (encTube t).all (fun u => u.oneCell') = true := rfl
def tubes (l : List Tube) : List Value := flat encTube l
theorem eTubes : ElemT Tryd.prog 26 41 (.agg #[.int .i64 0, .int .i64 0, .int .i64 0]) 3 24 := ⟨by kernel_rfl, by kernel_rfl, by decide, by decide, by decide⟩
def tubeAt (l : List Tube) (i : Nat) : Tube := l.getD i ⟨0, 0, 0⟩
theorem tubes_cells {w : World} {a : Option Addr} {l : List Tube} (hc : CellsAt w a (tubes l)) (i : Nat) (h : i < l.length) : ∃ b off, a = some ⟨b, off, none⟩ ∧ ∀ j, j < l.length →
    w.cell? ⟨b, off + j * 3, none⟩ = some (.int .i64 (tubeAt l j).value) ∧ w.cell? ⟨b, off + j * 3 + 1, none⟩ = some (.int .i64 (tubeAt l j).count) ∧ w.cell? ⟨b, off + j * 3 + 2, none⟩ = some (.int .i64 (tubeAt l j).most) := by
  obtain ⟨b, off, rfl, hcs⟩ := flat_cells encTube_len (by decide) hc (by omega)
  refine ⟨b, off, rfl, fun j hj => ?_⟩
  unfold tubeAt
  rw [getD_eq l j _ hj]
  exact ⟨hcs j hj 0 _ rfl, hcs j hj 1 _ rfl, hcs j hj 2 _ rfl⟩

def coinValues : List Int := [5, 10, 25, 50, 100]
/-- The tubes that are there behind i of the five values, and the stream's place. -/
def tubesTo (l : List Int) (k : Nat) : Nat → List Tube × Nat
  | 0 => ([], k)
  | i + 1 =>
    let p := tubesTo l k i
    if flipM l p.2 3 then (p.1, p.2 + 1)
    else (p.1 ++ [⟨coinValues.getD i 0, nxt l (p.2 + 2) (pickM l (p.2 + 1) [0, 1, 3, 8, 20] + 1), pickM l (p.2 + 1) [0, 1, 3, 8, 20]⟩], p.2 + 3)
def tubesM (l : List Int) (k : Nat) : List Tube := (tubesTo l k 5).1
def tubesK (l : List Int) (k : Nat) : Nat := (tubesTo l k 5).2
theorem tubesTo_len (l : List Int) (k i : Nat) : (tubesTo l k i).1.length ≤ i := by
  induction i with
  | zero => exact Nat.le_refl _
  | succ i ih => simp only [tubesTo]; split <;> simp <;> omega
theorem tubesTo_k (l : List Int) (k i : Nat) : (tubesTo l k i).2 ≤ k + 3 * i := by
  induction i with
  | zero => exact Nat.le_refl _
  | succ i ih => simp only [tubesTo]; split <;> simp <;> omega

set_option maxRecDepth 100000 in
set_option maxHeartbeats 1000000 in
theorem rightTubes_any (l : List Int) (k : Nat) (p : Nat) (w : World) (hs : StreamAt w p lw l k) (hk : k < 999999000) :
    Calls Tryd.prog 68 #[.pointer (some ⟨p, 0, none⟩)] w
      fun e w' => ∃ v, e = .returned v ∧ w'.ownsRow w.heap.size 41 3 v (tubesM l k).length (tubes (tubesM l k)) ∧ StreamAt w' p lw l (tubesK l k) ∧ w.grownBy w' (some p) := by
  have hlt := hs.lt
  go_enter Tryd.func68, Tryd.ntmps68
  go_wp2_with (fail)
  have hg0 : w.grownBy (w.alloc (.cells (ints coinValues).toArray 3)) none := gr_alloc (gr_refl _ _) _
  have hv0 : ∀ j, j < 5 → (w.alloc (.cells (ints coinValues).toArray 3)).cell? ⟨w.heap.size, j, none⟩ = some (.int .i64 (coinValues.getD j 0)) := by
    intro j hj
    rw [World.cell?_alloc_at _ _ _ _ rfl]
    simpa using ints_get coinValues j hj
  have HV := Lib.hid hv0; clear hv0
  go_loopw [3, 9] (fun v c wr => ∃ i : Nat, i ≤ 5 ∧ c = .int .i64 i ∧ wr.ownsRow (w.heap.size + 1) 41 3 v (tubesTo l k i).1.length (tubes (tubesTo l k i).1) ∧ StreamAt wr p lw l (tubesTo l k i).2 ∧ w.grownBy wr (some p) ∧ (w.alloc (.cells (ints coinValues).toArray 3)).grownBy wr (some p))
    (fun _ c _ => 5 - (intOf c).toNat)
  case atStart => exact ⟨0, Nat.zero_le _, rfl, World.ownsRow_nil _ _ _ _, hs.keep0 hg0, gr_weak hg0 _, gr_refl _ _⟩
  case round =>
    obtain ⟨i, hi, rfl, hown, hsr, hgr, hgr0⟩ := hrel
    obtain ⟨wo, rfl⟩ : ∃ wo : World, wo = wr := ⟨_, rfl⟩
    by_cases hlt2 : i < 5
    · have c0 := hgr0.cell (HV.out i hlt2) (by simp; omega)
      obtain ⟨x, hx⟩ : ∃ x, x = coinValues.getD i 0 := ⟨_, rfl⟩
      have hkb := tubesTo_k l k i
      have hlb := tubesTo_len l k i
      have hsz := hgr0.size
      simp at hsz
      rw [← hx] at c0
      obtain ⟨q, hq⟩ : ∃ q, q = (tubesTo l k i).2 := ⟨_, rfl⟩
      obtain ⟨T, hT⟩ : ∃ T, T = (tubesTo l k i).1 := ⟨_, rfl⟩
      rw [← hq] at hsr hkb
      rw [← hT] at hown hlb
      have HX := Lib.hid hx; clear hx
      have HQ := Lib.hid hq; clear hq
      have HT := Lib.hid hT; clear hT
      go_wp2_with (fail)
      refine (flip_any l _ 3 p wo hsr (by omega) (by omega)).mono ?_
      rintro e w3 ⟨rfl, hs3, hg3⟩
      have hown3 := own_keepS hown hg3 (by omega)
      cases hf : flipM l q 3 with
      | true =>
        have hnx : tubesTo l k (i + 1) = (T, q + 1) := by simp only [tubesTo]; rw [← HQ.out, hf, HT.out]; rfl
        have HNX := Lib.hid hnx; clear hnx hf
        go_wp2_with (fail)
        go_roundw
        case rel => exact ⟨i + 1, by omega, by go_num, by rw [HNX.out]; exact hown3, by rw [HNX.out]; exact hs3, gr_trans hgr hg3, gr_trans hgr0 hg3⟩
        case measure => simp [intOf]; omega
      | false =>
        have hnx : tubesTo l k (i + 1) = (T ++ [⟨x, nxt l (q + 2) (pickM l (q + 1) [0, 1, 3, 8, 20] + 1), pickM l (q + 1) [0, 1, 3, 8, 20]⟩], q + 3) := by simp only [tubesTo]; rw [← HQ.out, hf, ← HT.out, HX.out]; rfl
        have HNX := Lib.hid hnx; clear hnx hf
        go_wp2_with (fail)
        refine (pick_any l _ [0, 1, 3, 8, 20] p w3 hs3 (by omega) (by decide) (by decide)).mono ?_
        rintro e w4 ⟨rfl, hs4, hg4⟩
        have hpm := pickM_mem l (q + 1) [0, 1, 3, 8, 20] (by decide)
        obtain ⟨m, hm⟩ : ∃ m, m = pickM l (q + 1) [0, 1, 3, 8, 20] := ⟨_, rfl⟩
        rw [← hm] at hpm
        rw [← hm]
        have hm0 : 0 ≤ m := by simp only [List.mem_cons, List.not_mem_nil, or_false] at hpm; omega
        have hm1 : m ≤ 20 := by simp only [List.mem_cons, List.not_mem_nil, or_false] at hpm; omega
        have HM := Lib.hid hm; clear hm hpm
        go_wp2_with (fail)
        refine (next_any l _ _ p w4 hs4 (by omega) (by omega)).mono ?_
        rintro e w5 ⟨rfl, hs5, hg5⟩
        have hg45 := gr_trans (gr_trans hg3 hg4) hg5
        have hown5 := own_keepS hown hg45 (by omega)
        have hgr5 := gr_trans hgr hg45
        have hgr05 := gr_trans hgr0 hg45
        have hsz5 := hg45.size
        go_wp2_with (at_builtin; refine wpList_app1 eTubes rfl _ _ rfl (w.heap.size + 1) _ _ _ rfl _ _ rfl hown5 _ rfl (by simp) rfl rfl (by omega) (by omega) ?_; intro v6 w6 hown6 hg6 hlt6)
        go_wp2_with (fail)
        go_roundw
        case rel =>
          refine ⟨i + 1, by omega, by go_num, ?_, ?_, gr_grown hgr5 hg6 (fun r hr => by have := hlt6 r hr; omega), gr_grown hgr05 hg6 (fun r hr => by have := hlt6 r hr; simp; omega)⟩
          · rw [HNX.out, ← HM.out]
            simp only [List.length_append, List.length_cons, List.length_nil, tubes, flat_append, flat_one]
            exact hown6
          · rw [HNX.out]
            exact hs5.keep hg6 (fun r hr => by have := hlt6 r hr; omega)
        case measure => simp [intOf]; omega
    · have hi5 : i = 5 := by omega
      subst hi5
      clear hlt2
      go_wp2_with (fail)
      go_ret
      exact ⟨u3, rfl, own_base hown (by omega), hsr, hgr⟩
end Go.Proofs.YtdjnomeabadbnaaDoor
