/- Fractions in lowest terms. -/
import Derived.Test.YtdminjijhpemkaaGreatDoorPkSBe
import Derived.Test.YtdminjijhpemkaaGreatDoorPkSAc
import Derived.Test.YtdminjijhpemkaaGreatDoorPkSAa
import Derived.Test.YtdminjijhpemkaaGreatDoorPkSAk
namespace Go.Proofs.YtdminjijhpemkaaGreatDoor
open Go.RowKit

/-- A fraction in lowest terms. -/
structure IsFrac (a b H P : Int) : Prop where
  a0 : 0 ≤ a
  b1 : 1 ≤ b
  aH : a ≤ H
  bP : b ≤ P
  eq : a * P = H * b
  one : H = P → a = 1 ∧ b = 1

theorem isFrac_gcd (H P : Int) (h0 : 0 ≤ H) (hP : 1 ≤ P) : IsFrac (H / Int.gcd H P) (P / Int.gcd H P) H P := by
  obtain ⟨g, hg⟩ : ∃ g : Int, g = Int.gcd H P := ⟨_, rfl⟩
  have hgp : 1 ≤ g := by
    have : 0 < Int.gcd H P := Int.gcd_pos_of_ne_zero_right _ (by omega)
    omega
  obtain ⟨x, hx⟩ : g ∣ H := by rw [hg]; exact Int.gcd_dvd_left ..
  obtain ⟨y, hy⟩ : g ∣ P := by rw [hg]; exact Int.gcd_dvd_right ..
  rw [← hg]
  have e1 : H / g = x := by rw [hx]; exact Int.mul_ediv_cancel_left _ (by omega)
  have e2 : P / g = y := by rw [hy]; exact Int.mul_ediv_cancel_left _ (by omega)
  rw [e1, e2]
  have hy1 : 1 ≤ y := by
    rcases Int.lt_or_le y 1 with h | h
    · have : g * y ≤ 0 := Int.mul_nonpos_of_nonneg_of_nonpos (by omega) (by omega)
      omega
    · exact h
  have hx0 : 0 ≤ x := by
    rcases Int.lt_or_le x 0 with h | h
    · have : g * x < 0 := Int.mul_neg_of_pos_of_neg (by omega) h
      omega
    · exact h
  have m1 : 1 * x ≤ g * x := Int.mul_le_mul_of_nonneg_right hgp hx0
  have m2 : 1 * y ≤ g * y := Int.mul_le_mul_of_nonneg_right hgp (by omega)
  refine ⟨hx0, hy1, by omega, by omega, ?_, ?_⟩
  · rw [hx, hy]; grind
  · intro e
    have hgH : g = H := by
      rw [hg, ← e, Int.gcd_self]
      omega
    have hH1 : 1 ≤ H := by omega
    have : H * x = H * 1 := by rw [Int.mul_one, ← hgH]; rw [hgH]; rw [hgH] at hx; omega
    have hx1 : x = 1 := Int.eq_of_mul_eq_mul_left (by omega) this
    have : H * y = H * 1 := by rw [Int.mul_one]; rw [hgH] at hy; omega
    exact ⟨hx1, Int.eq_of_mul_eq_mul_left (by omega) this⟩

theorem frac_any (H P : Int) (w : World) (h0 : 0 ≤ H) (h1 : H ≤ 9223372036854775807) (hP : 1 ≤ P) (hP1 : P ≤ 9223372036854775807) :
    Calls Tryz.prog 109 #[.int .i64 H, .int .i64 P] w fun e w' => ∃ a b : Int, e = .returned (.agg #[.int .i64 a, .int .i64 b]) ∧ IsFrac a b H P ∧ w.grownBy w' none := by
  refine (fraction_any H P w (by omega) h1 hP hP1).mono ?_
  rintro e w' ⟨rfl, hg⟩
  exact ⟨_, _, rfl, isFrac_gcd _ _ h0 hP, hg⟩
end Go.Proofs.YtdminjijhpemkaaGreatDoor

/-! Package demand on days: rates. -/
namespace Go.Proofs.YtdminjijhpemkaaGreatDoor
open Go.RowKit

set_option maxRecDepth 100000 in
theorem rate_none (l : List Sale) (a : Option Addr) (c : Nat) (w : World) (hc : CellsAt w a (sales l)) (ho : OkDays l) (h0 : cnt allP l = 0) :
    Calls Tryz.prog 59 #[.slice a l.length c] w fun e w' => e = .returned (.tuple #[.agg #[.int .i64 0, .int .i64 0], .int .i64 8]) ∧ w.grownBy w' none := by
  have hl := ho.len
  go_enter Tryz.func59, Tryz.ntmps59
  go_wp2_with (fail)
  refine (checkDays_any l a c _ (hc.alloc _) (by omega)).mono ?_
  rintro e w1 ⟨r, rfl, hr, hg1⟩
  have hr0 := hr.2 ho
  subst hr0; clear hr
  go_wp2_with (fail)
  refine (sumAll_any l a c _ ((hc.alloc _).keep0 hg1) ho).mono ?_
  rintro e w2 ⟨rfl, hg2⟩
  rw [h0, show ((0 : Nat) : Int) = 0 from rfl]
  have hg := gr_trans hg1 hg2
  have c0 : w2.cell? ⟨w.heap.size, 0, none⟩ = some (.int .i64 0) := made_cell hg 0 rfl
  have c1 : w2.cell? ⟨w.heap.size, 1, none⟩ = some (.int .i64 0) := made_cell hg 1 rfl
  have f0 : w2.frozen? ⟨w.heap.size, 0, none⟩ = false := made_free hg 0
  have f1 : w2.frozen? ⟨w.heap.size, 1, none⟩ = false := made_free hg 1
  go_wp2_with (fail)
  refine bodyPost_ret (v := .tuple #[.agg #[.int .i64 0, .int .i64 0], .int .i64 8]) ?_ rfl ⟨rfl, ?_⟩
  · simp [results, Tryz.results59, go_sem, c0, c1]
  · exact gr_new (gr_new (gr_trans (gr_alloc (gr_refl _ _) _) hg) (by simp) _) (by simp) _

set_option maxRecDepth 100000 in
theorem rate_some (l : List Sale) (a : Option Addr) (c : Nat) (w : World) (hc : CellsAt w a (sales l)) (ho : OkDays l) (h0 : 0 < cnt allP l) :
    Calls Tryz.prog 59 #[.slice a l.length c] w fun e w' => ∃ x y : Int, e = .returned (.tuple #[.agg #[.int .i64 x, .int .i64 y], .int .i64 0]) ∧ IsFrac x y (tot allP l) (cnt allP l) ∧ w.grownBy w' none := by
  have hl := ho.len
  have hcl := cnt_le allP l
  have htb := tot_bound allP l ho l.length (Nat.le_refl _)
  rw [List.take_length] at htb
  have hz : ((cnt allP l : Int) == 0) = false := by simp; omega
  go_enter Tryz.func59, Tryz.ntmps59
  go_wp2_with (fail)
  refine (checkDays_any l a c _ (hc.alloc _) (by omega)).mono ?_
  rintro e w1 ⟨r, rfl, hr, hg1⟩
  have hr0 := hr.2 ho
  subst hr0; clear hr
  go_wp2_with (fail)
  refine (sumAll_any l a c _ ((hc.alloc _).keep0 hg1) ho).mono ?_
  rintro e w2 ⟨rfl, hg2⟩
  go_wp2_with (fail)
  refine (frac_any (tot allP l) (cnt allP l) _ htb.1 (by omega) (by omega) (by omega)).mono ?_
  rintro e w3 ⟨x, y, rfl, hf, hg3⟩
  have hg := gr_trans (gr_trans hg1 hg2) hg3
  have c0 : w3.cell? ⟨w.heap.size, 0, none⟩ = some (.int .i64 0) := made_cell hg 0 rfl
  have c1 : w3.cell? ⟨w.heap.size, 1, none⟩ = some (.int .i64 0) := made_cell hg 1 rfl
  have f0 : w3.frozen? ⟨w.heap.size, 0, none⟩ = false := made_free hg 0
  have f1 : w3.frozen? ⟨w.heap.size, 1, none⟩ = false := made_free hg 1
  have HF := Lib.hid hf; clear hf
  go_wp2_with (fail)
  refine bodyPost_ret (v := .tuple #[.agg #[.int .i64 x, .int .i64 y], .int .i64 0]) ?_ rfl ⟨x, y, rfl, HF.out, ?_⟩
  · simp [results, Tryz.results59, go_sem, c0, c1]
  · exact gr_new (gr_new (gr_trans (gr_alloc (gr_refl _ _) _) hg) (by simp) _) (by simp) _
end Go.Proofs.YtdminjijhpemkaaGreatDoor

/-! Tubes: as the stream makes them. -/
namespace Go.Proofs.YtdminjijhpemkaaGreatDoor
open Go.RowKit
variable {lw : Nat}

structure Tube where
  value : Int
  count : Int
  most : Int
def encTube (t : Tube) : List Value := [.int .i64 t.value, .int .i64 t.count, .int .i64 t.most]
theorem encTube_len (t : Tube) : (encTube t).length = 3 := rfl
theorem encTube_one (t : Tube) : (encTube t).all (fun u => u.oneCell') = true := rfl
def tubes (l : List Tube) : List Value := flat encTube l
theorem eTubes : ElemT Tryz.prog 58 121 (.agg #[.int .i64 0, .int .i64 0, .int .i64 0]) 3 24 := ⟨by kernel_rfl, by kernel_rfl, by decide, by decide, by decide⟩
def tubeAt (l : List Tube) (i : Nat) : Tube := l.getD i ⟨0, 0, 0⟩
theorem tubes_cells {w : World} {a : Option Addr} {l : List Tube} (hc : CellsAt w a (tubes l)) (i : Nat) (h : i < l.length) : ∃ b off, a = some ⟨b, off, none⟩ ∧ ∀ j, j < l.length →
    w.cell? ⟨b, off + j * 3, none⟩ = some (.int .i64 (tubeAt l j).value) ∧ w.cell? ⟨b, off + j * 3 + 1, none⟩ = some (.int .i64 (tubeAt l j).count) ∧ w.cell? ⟨b, off + j * 3 + 2, none⟩ = some (.int .i64 (tubeAt l j).most) := by
  obtain ⟨b, off, rfl, hcs⟩ := flat_cells encTube_len (by decide) hc (by omega)
  refine ⟨b, off, rfl, fun j hj => ?_⟩
  unfold tubeAt
  rw [getD_eq l j _ hj]
  exact ⟨hcs j hj 0 _ rfl, hcs j hj 1 _ rfl, hcs j hj 2 _ rfl⟩

def coinValues : List Int := [5, 10, 25, 50, 100]
/-- The tubes that are there behind i of the five values, and the stream's place. -/
def tubesTo (l : List Int) (k : Nat) : Nat → List Tube × Nat
  | 0 => ([], k)
  | i + 1 =>
    let p := tubesTo l k i
    if flipM l p.2 3 then (p.1, p.2 + 1)
    else (p.1 ++ [⟨coinValues.getD i 0, nxt l (p.2 + 2) (pickM l (p.2 + 1) [0, 1, 3, 8, 20] + 1), pickM l (p.2 + 1) [0, 1, 3, 8, 20]⟩], p.2 + 3)
def tubesM (l : List Int) (k : Nat) : List Tube := (tubesTo l k 5).1
def tubesK (l : List Int) (k : Nat) : Nat := (tubesTo l k 5).2
theorem tubesTo_len (l : List Int) (k i : Nat) : (tubesTo l k i).1.length ≤ i := by
  induction i with
  | zero => exact Nat.le_refl _
  | succ i ih => simp only [tubesTo]; split <;> simp <;> omega
theorem tubesTo_k (l : List Int) (k i : Nat) : (tubesTo l k i).2 ≤ k + 3 * i := by
  induction i with
  | zero => exact Nat.le_refl _
  | succ i ih => simp only [tubesTo]; split <;> simp <;> omega

set_option maxRecDepth 100000 in
set_option maxHeartbeats 1000000 in
theorem rightTubes_any (l : List Int) (k : Nat) (p : Nat) (w : World) (hs : StreamAt w p lw l k) (hk : k < 999999000) :
    Calls Tryz.prog 65 #[.pointer (some ⟨p, 0, none⟩)] w
      fun e w' => ∃ v, e = .returned v ∧ w'.ownsRow w.heap.size 121 3 v (tubesM l k).length (tubes (tubesM l k)) ∧ StreamAt w' p lw l (tubesK l k) ∧ w.grownBy w' (some p) := by
  have hlt := hs.lt
  go_enter Tryz.func65, Tryz.ntmps65
  go_wp2_with (fail)
  have hg0 : w.grownBy (w.alloc (.cells (ints coinValues).toArray 3)) none := gr_alloc (gr_refl _ _) _
  have hv0 : ∀ j, j < 5 → (w.alloc (.cells (ints coinValues).toArray 3)).cell? ⟨w.heap.size, j, none⟩ = some (.int .i64 (coinValues.getD j 0)) := by
    intro j hj
    rw [World.cell?_alloc_at _ _ _ _ rfl]
    simpa using ints_get coinValues j hj
  have HV := Lib.hid hv0; clear hv0
  go_loopw [3, 9] (fun v c wr => ∃ i : Nat, i ≤ 5 ∧ c = .int .i64 i ∧ wr.ownsRow (w.heap.size + 1) 121 3 v (tubesTo l k i).1.length (tubes (tubesTo l k i).1) ∧ StreamAt wr p lw l (tubesTo l k i).2 ∧ w.grownBy wr (some p) ∧ (w.alloc (.cells (ints coinValues).toArray 3)).grownBy wr (some p))
    (fun _ c _ => 5 - (intOf c).toNat)
  case atStart => exact ⟨0, Nat.zero_le _, rfl, World.ownsRow_nil _ _ _ _, hs.keep0 hg0, gr_weak hg0 _, gr_refl _ _⟩
  case round =>
    obtain ⟨i, hi, rfl, hown, hsr, hgr, hgr0⟩ := hrel
    obtain ⟨wo, rfl⟩ : ∃ wo : World, wo = wr := ⟨_, rfl⟩
    by_cases hlt2 : i < 5
    · have c0 := hgr0.cell (HV.out i hlt2) (by simp; omega)
      obtain ⟨x, hx⟩ : ∃ x, x = coinValues.getD i 0 := ⟨_, rfl⟩
      have hkb := tubesTo_k l k i
      have hlb := tubesTo_len l k i
      have hsz := hgr0.size
      simp at hsz
      rw [← hx] at c0
      obtain ⟨q, hq⟩ : ∃ q, q = (tubesTo l k i).2 := ⟨_, rfl⟩
      obtain ⟨T, hT⟩ : ∃ T, T = (tubesTo l k i).1 := ⟨_, rfl⟩
      rw [← hq] at hsr hkb
      rw [← hT] at hown hlb
      have HX := Lib.hid hx; clear hx
      have HQ := Lib.hid hq; clear hq
      have HT := Lib.hid hT; clear hT
      go_wp2_with (fail)
      refine (flip_any l _ 3 p wo hsr (by omega) (by omega)).mono ?_
      rintro e w3 ⟨rfl, hs3, hg3⟩
      have hown3 := own_keepS hown hg3 (by omega)
      cases hf : flipM l q 3 with
      | true =>
        have hnx : tubesTo l k (i + 1) = (T, q + 1) := by simp only [tubesTo]; rw [← HQ.out, hf, HT.out]; rfl
        have HNX := Lib.hid hnx; clear hnx hf
        go_wp2_with (fail)
        go_roundw
        case rel => exact ⟨i + 1, by omega, by go_num, by rw [HNX.out]; exact hown3, by rw [HNX.out]; exact hs3, gr_trans hgr hg3, gr_trans hgr0 hg3⟩
        case measure => simp [intOf]; omega
      | false =>
        have hnx : tubesTo l k (i + 1) = (T ++ [⟨x, nxt l (q + 2) (pickM l (q + 1) [0, 1, 3, 8, 20] + 1), pickM l (q + 1) [0, 1, 3, 8, 20]⟩], q + 3) := by simp only [tubesTo]; rw [← HQ.out, hf, ← HT.out, HX.out]; rfl
        have HNX := Lib.hid hnx; clear hnx hf
        go_wp2_with (fail)
        refine (pick_any l _ [0, 1, 3, 8, 20] p w3 hs3 (by omega) (by decide) (by decide)).mono ?_
        rintro e w4 ⟨rfl, hs4, hg4⟩
        have hpm := pickM_mem l (q + 1) [0, 1, 3, 8, 20] (by decide)
        obtain ⟨m, hm⟩ : ∃ m, m = pickM l (q + 1) [0, 1, 3, 8, 20] := ⟨_, rfl⟩
        rw [← hm] at hpm
        rw [← hm]
        have hm0 : 0 ≤ m := by simp only [List.mem_cons, List.not_mem_nil, or_false] at hpm; omega
        have hm1 : m ≤ 20 := by simp only [List.mem_cons, List.not_mem_nil, or_false] at hpm; omega
        have HM := Lib.hid hm; clear hm hpm
        go_wp2_with (fail)
        refine (next_any l _ _ p w4 hs4 (by omega) (by omega)).mono ?_
        rintro e w5 ⟨rfl, hs5, hg5⟩
        have hg45 := gr_trans (gr_trans hg3 hg4) hg5
        have hown5 := own_keepS hown hg45 (by omega)
        have hgr5 := gr_trans hgr hg45
        have hgr05 := gr_trans hgr0 hg45
        have hsz5 := hg45.size
        go_wp2_with (at_builtin; refine wpList_app1 eTubes rfl _ _ rfl (w.heap.size + 1) _ _ _ rfl _ _ rfl hown5 _ rfl (by simp) rfl rfl (by omega) (by omega) ?_; intro v6 w6 hown6 hg6 hlt6)
        go_wp2_with (fail)
        go_roundw
        case rel =>
          refine ⟨i + 1, by omega, by go_num, ?_, ?_, gr_grown hgr5 hg6 (fun r hr => by have := hlt6 r hr; omega), gr_grown hgr05 hg6 (fun r hr => by have := hlt6 r hr; simp; omega)⟩
          · rw [HNX.out, ← HM.out]
            simp only [List.length_append, List.length_cons, List.length_nil, tubes, flat_append, flat_one]
            exact hown6
          · rw [HNX.out]
            exact hs5.keep hg6 (fun r hr => by have := hlt6 r hr; omega)
        case measure => simp [intOf]; omega
    · have hi5 : i = 5 := by omega
      subst hi5
      clear hlt2
      go_wp2_with (fail)
      go_ret
      exact ⟨u3, rfl, own_base hown (by omega), hsr, hgr⟩
end Go.Proofs.YtdminjijhpemkaaGreatDoor

/-! Package vend: tubes are checked, and counted. -/
namespace Go.Proofs.YtdminjijhpemkaaGreatDoor
open Go.RowKit

structure OkTube (l : List Tube) (i : Nat) : Prop where
  v0 : 1 ≤ (tubeAt l i).value
  v1 : (tubeAt l i).value ≤ 10000
  up : 0 < i → (tubeAt l (i - 1)).value < (tubeAt l i).value
  m0 : 0 ≤ (tubeAt l i).most
  m1 : (tubeAt l i).most ≤ 1000
  c0 : 0 ≤ (tubeAt l i).count
  c1 : (tubeAt l i).count ≤ (tubeAt l i).most
structure OkTubes (l : List Tube) : Prop where
  len : l.length ≤ 10
  ok : ∀ i, i < l.length → OkTube l i
theorem not_tubes {l : List Tube} {k : Nat} (hk : k < l.length) (h : ¬ OkTube l k) : ¬ OkTubes l := fun o => h (o.ok k hk)

set_option maxRecDepth 100000 in
set_option maxHeartbeats 3000000 in
theorem checkTubes_any (l : List Tube) (a : Option Addr) (c : Nat) (w : World) (hc : CellsAt w a (tubes l)) (hl : l.length ≤ 1000000) :
    Calls Tryz.prog 73 #[.slice a l.length c] w (FaultPost (OkTubes l) w) := by
  by_cases h4 : 10 < l.length
  · go_enter Tryz.func73, Tryz.ntmps73
    go_wp2_with (fail)
    go_ret
    exact fault_bad 2 (by decide) (fun h => by have := h.len; omega) (gr_refl _ _)
  · have h4' : l.length ≤ 10 := by omega
    go_enter Tryz.func73, Tryz.ntmps73
    go_wp2_with (fail)
    go_loopw [10] (fun i wr => ∃ k : Nat, k ≤ l.length ∧ i = .int .i64 k ∧ (∀ j, j < k → OkTube l j) ∧ w.grownBy wr none) (fun i _ => l.length - (intOf i).toNat)
    case atStart => exact ⟨0, Nat.zero_le _, rfl, fun j hj => by omega, gr_refl _ _⟩
    case round =>
      obtain ⟨k, hk, rfl, hok, hgr⟩ := hrel
      have HOK := Lib.hid hok; clear hok
      obtain ⟨wo, rfl⟩ : ∃ wo : World, wo = wr := ⟨_, rfl⟩
      by_cases hlt : k < l.length
      · obtain ⟨b, off, rfl, hcs⟩ := tubes_cells (hc.keep0 hgr) k hlt
        obtain ⟨c0, c1, c2⟩ := hcs k hlt
        have hbl := lt_of_cell c0
        have hin : wo.cell? ⟨b, off + (k - 1) * 3, none⟩ = some (.int .i64 (tubeAt l (k - 1)).value) := (hcs (k - 1) (by omega)).1
        obtain ⟨x, hx⟩ : ∃ x, x = tubeAt l k := ⟨_, rfl⟩
        rw [← hx] at c0 c1 c2
        have HX := Lib.hid hx; clear hx hcs
        obtain ⟨y, hy⟩ : ∃ y, y = (tubeAt l (k - 1)).value := ⟨_, rfl⟩
        rw [← hy] at hin
        have HY := Lib.hid hy; clear hy
        by_cases hd0 : x.value < 1
        · go_wp2
          go_ret
          exact fault_bad 1 (by decide) (not_tubes hlt fun o => by have := o.v0; rw [← HX.out] at this; omega) (gr_alloc hgr _)
        by_cases hd1 : 10000 < x.value
        · go_wp2
          go_ret
          exact fault_bad 1 (by decide) (not_tubes hlt fun o => by have := o.v1; rw [← HX.out] at this; omega) (gr_alloc hgr _)
        by_cases hk0 : k = 0
        · have hkb : decide (0 < k) = false := by simp; omega
          have HK := Lib.hid hk0; clear hk0
          by_cases hm0 : x.most < 0
          · go_wp2
            go_quiet (fail)
            go_wp2
            go_ret
            exact fault_bad 1 (by decide) (not_tubes hlt fun o => by have := o.m0; rw [← HX.out] at this; omega) (gr_drewN (gr_alloc hgr _) _)
          by_cases hm1 : 1000 < x.most
          · go_wp2
            go_quiet (fail)
            go_wp2
            go_ret
            exact fault_bad 1 (by decide) (not_tubes hlt fun o => by have := o.m1; rw [← HX.out] at this; omega) (gr_drewN (gr_alloc hgr _) _)
          by_cases hc0 : x.count < 0
          · go_wp2
            go_quiet (fail)
            go_wp2
            go_ret
            exact fault_bad 1 (by decide) (not_tubes hlt fun o => by have := o.c0; rw [← HX.out] at this; omega) (gr_drewN (gr_alloc hgr _) _)
          by_cases hc1 : x.most < x.count
          · go_wp2
            go_quiet (fail)
            go_wp2
            go_ret
            exact fault_bad 1 (by decide) (not_tubes hlt fun o => by have := o.c1; rw [← HX.out] at this; omega) (gr_drewN (gr_alloc hgr _) _)
          go_wp2
          go_quiet (fail)
          go_wp2
          go_roundw
          case rel =>
            refine ⟨k + 1, by omega, by go_num, ?_, gr_drewN (gr_alloc hgr _) _⟩
            intro j hj
            by_cases hjk : j = k
            · subst hjk
              exact ⟨by rw [← HX.out]; omega, by rw [← HX.out]; omega, by intro h; exact absurd HK.out (by omega), by rw [← HX.out]; omega, by rw [← HX.out]; omega, by rw [← HX.out]; omega, by rw [← HX.out]; omega⟩
            · exact HOK.out j (by omega)
          case measure => simp [intOf]; omega
        · obtain ⟨k', rfl⟩ : ∃ k', k = k' + 1 := ⟨k - 1, by omega⟩
          rw [show k' + 1 - 1 = k' by omega] at hin HY
          by_cases hle : x.value ≤ y
          · go_wp2
            go_quiet (fail)
            go_wp2
            go_ret
            exact fault_bad 7 (by decide) (not_tubes hlt fun o => by have := o.up (by omega); rw [← HX.out, show k' + 1 - 1 = k' by omega, ← HY.out] at this; omega) (gr_drewN (gr_alloc hgr _) _)
          by_cases hm0 : x.most < 0
          · go_wp2
            go_quiet (fail)
            go_wp2
            go_ret
            exact fault_bad 1 (by decide) (not_tubes hlt fun o => by have := o.m0; rw [← HX.out] at this; omega) (gr_drewN (gr_alloc hgr _) _)
          by_cases hm1 : 1000 < x.most
          · go_wp2
            go_quiet (fail)
            go_wp2
            go_ret
            exact fault_bad 1 (by decide) (not_tubes hlt fun o => by have := o.m1; rw [← HX.out] at this; omega) (gr_drewN (gr_alloc hgr _) _)
          by_cases hc0 : x.count < 0
          · go_wp2
            go_quiet (fail)
            go_wp2
            go_ret
            exact fault_bad 1 (by decide) (not_tubes hlt fun o => by have := o.c0; rw [← HX.out] at this; omega) (gr_drewN (gr_alloc hgr _) _)
          by_cases hc1 : x.most < x.count
          · go_wp2
            go_quiet (fail)
            go_wp2
            go_ret
            exact fault_bad 1 (by decide) (not_tubes hlt fun o => by have := o.c1; rw [← HX.out] at this; omega) (gr_drewN (gr_alloc hgr _) _)
          go_wp2
          go_quiet (fail)
          go_wp2
          go_roundw
          case rel =>
            refine ⟨(k' + 1) + 1, by omega, by go_num, ?_, gr_drewN (gr_alloc hgr _) _⟩
            intro j hj
            by_cases hjk : j = (k' + 1)
            · subst hjk
              exact ⟨by rw [← HX.out]; omega, by rw [← HX.out]; omega, by intro h; rw [← HX.out, show k' + 1 - 1 = k' by omega, ← HY.out]; omega, by rw [← HX.out]; omega, by rw [← HX.out]; omega, by rw [← HX.out]; omega, by rw [← HX.out]; omega⟩
            · exact HOK.out j (by omega)
          case measure => simp [intOf]; omega
      · have hkl : k = l.length := by omega
        have HK := Lib.hid hkl; clear hkl
        go_wp2
        go_ret
        exact fault_good ⟨h4', fun j hj => HOK.out j (by have := HK.out; omega)⟩ hgr
end Go.Proofs.YtdminjijhpemkaaGreatDoor

/-! Package vend: totals. -/
namespace Go.Proofs.YtdminjijhpemkaaGreatDoor
open Go.RowKit

def totL (l : List Tube) : List Int := l.map fun t => t.value * t.count
def totT (l : List Tube) : Int := (totL l).sum
theorem tube_prod {l : List Tube} (h : OkTubes l) (k : Nat) (hk : k < l.length) (c : Int) (hc0 : 0 ≤ c) (hc1 : c ≤ 1000000) : 0 ≤ (tubeAt l k).value * c ∧ (tubeAt l k).value * c ≤ 10000000000 := by
  have o := h.ok k hk
  have := o.v0
  have := o.v1
  have h1 := Int.mul_nonneg (show 0 ≤ (tubeAt l k).value by omega) hc0
  have h2 := Int.mul_le_mul o.v1 hc1 hc0 (by decide)
  omega
theorem totL_get {l : List Tube} (k : Nat) (hk : k < l.length) : (totL l).getD k 0 = (tubeAt l k).value * (tubeAt l k).count := by
  rw [totL, tubeAt, List.getD_eq_getElem?_getD, List.getD_eq_getElem?_getD, List.getElem?_map, List.getElem?_eq_getElem hk]; rfl
theorem totL_mem {l : List Tube} (h : OkTubes l) : ∀ x ∈ totL l, 0 ≤ x ∧ x ≤ 10000000000 := by
  intro x hx
  obtain ⟨k, hk, rfl⟩ := List.getElem_of_mem hx
  have hkl : k < l.length := by simpa [totL] using hk
  have := totL_get k hkl
  rw [List.getD_eq_getElem?_getD, List.getElem?_eq_getElem hk] at this
  have o := h.ok k hkl
  have h3 := tube_prod h k hkl _ o.c0 (by have := o.c1; have := o.m1; omega)
  rw [← this] at h3
  exact h3

set_option maxRecDepth 100000 in
theorem total_any (l : List Tube) (a : Option Addr) (c : Nat) (w : World) (hc : CellsAt w a (tubes l)) (ho : OkTubes l) :
    Calls Tryz.prog 74 #[.slice a l.length c] w fun e w' => e = .returned (.int .i64 (totT l)) ∧ w.grownBy w' none := by
  have hl := ho.len
  have hT : (totL l).length = l.length := by simp [totL]
  have hB := Lib.hid (sum_bound (totL l) 0 10000000000 (by decide) (by decide) (totL_mem ho))
  have hN := Lib.hid (sum_next (totL l))
  go_enter Tryz.func74, Tryz.ntmps74
  go_wp2_with (fail)
  go_loopw [3, 8] (fun s i wr => ∃ k : Nat, k ≤ l.length ∧ i = .int .i64 k ∧ s = .int .i64 ((totL l).take k).sum ∧ w.grownBy wr none) (fun _ i _ => l.length - (intOf i).toNat)
  case atStart => exact ⟨0, Nat.zero_le _, rfl, rfl, gr_refl _ _⟩
  case round =>
    obtain ⟨k, hk, rfl, rfl, hgr⟩ := hrel
    obtain ⟨wo, rfl⟩ : ∃ wo : World, wo = wr := ⟨_, rfl⟩
    have hb := hB.out k
    obtain ⟨s, hs⟩ : ∃ s, s = ((totL l).take k).sum := ⟨_, rfl⟩
    rw [← hs] at hb
    rw [← hs]
    obtain ⟨hb0, hb1⟩ := hb
    have HS := Lib.hid hs; clear hs
    by_cases hlt : k < l.length
    · obtain ⟨b, off, rfl, hcs⟩ := tubes_cells (hc.keep0 hgr) k hlt
      obtain ⟨c0, c1, c2⟩ := hcs k hlt
      have hbl := lt_of_cell c0
      have o := ho.ok k hlt
      obtain ⟨p0, p1⟩ := tube_prod ho k hlt _ o.c0 (by have := o.c1; have := o.m1; omega)
      have hg := totL_get k hlt
      have hnx := hN.out k (by omega)
      rw [hg, ← HS.out] at hnx
      obtain ⟨x, hx⟩ : ∃ x, x = tubeAt l k := ⟨_, rfl⟩
      rw [← hx] at c0 c1 c2 p0 p1 hnx
      have HNX := Lib.hid hnx
      clear hcs o hg hnx
      have HX := Lib.hid hx; clear hx
      go_wp2_with (fail)
      go_roundw
      case rel => exact ⟨k + 1, by omega, by go_num, by rw [HNX.out], gr_alloc hgr _⟩
      case measure => simp [intOf]; omega
    · have hkl : k = l.length := by omega
      have HK := Lib.hid hkl; clear hkl
      go_wp2_with (fail)
      go_ret
      exact ⟨ret_int (by rw [HS.out, totT, HK.out, ← hT, List.take_length]), hgr⟩

theorem total_ok (l : List Tube) (a : Option Addr) (c : Nat) (w : World) (hc : CellsAt w a (tubes l)) (ho : OkTubes l) :
    Calls Tryz.prog 20 #[.slice a l.length c] w fun e w' => e = .returned (.tuple #[.int .i64 (totT l), .int .i64 0]) ∧ w.grownBy w' none := by
  have hl := ho.len
  go_enter Tryz.func20, Tryz.ntmps20
  go_wp2_with (fail)
  refine (checkTubes_any l a c _ hc (by omega)).mono ?_
  rintro e w1 ⟨r, rfl, hr, hg1⟩
  have hr0 := hr.2 ho
  subst hr0; clear hr
  go_wp2_with (fail)
  refine (total_any l a c _ (hc.keep0 hg1) ho).mono ?_
  rintro e w2 ⟨rfl, hg2⟩
  go_wp2_with (fail)
  go_ret2
  exact ⟨rfl, gr_trans hg1 hg2⟩

def oneTube : List Tube := [⟨10, 3, 5⟩]
theorem oneTube_ok : OkTubes oneTube := by
  refine ⟨by decide, fun i hi => ?_⟩
  obtain rfl : i = 0 := by simp [oneTube] at hi; omega
  constructor <;> simp [oneTube, tubeAt]
/-- What coins are worth. -/
def worthL (t : List Tube) (xs : List Int) : List Int := List.zipWith (fun x (t : Tube) => x * t.value) xs t
def worthM (t : List Tube) (xs : List Int) : Int := (worthL t xs).sum
theorem worthL_len (t : List Tube) (xs : List Int) (h : xs.length ≤ t.length) : (worthL t xs).length = xs.length := by simp [worthL]; omega
theorem worthL_get (t : List Tube) (xs : List Int) (k : Nat) (h : xs.length ≤ t.length) (hk : k < xs.length) : (worthL t xs).getD k 0 = xs.getD k 0 * (tubeAt t k).value := by
  have hk2 : k < t.length := by omega
  rw [worthL, tubeAt, List.getD_eq_getElem?_getD, List.getD_eq_getElem?_getD, List.getD_eq_getElem?_getD, List.getElem?_zipWith, List.getElem?_eq_getElem hk, List.getElem?_eq_getElem hk2]
  rfl
theorem worthL_mem (t : List Tube) (xs : List Int) (h : xs.length ≤ t.length) (ho : OkTubes t) (hx : ∀ x ∈ xs, -1000000 ≤ x ∧ x ≤ 1000000) : ∀ x ∈ worthL t xs, -10000000000 ≤ x ∧ x ≤ 10000000000 := by
  intro x hm
  obtain ⟨k, hk, rfl⟩ := List.getElem_of_mem hm
  rw [worthL_len t xs h] at hk
  have hg := worthL_get t xs k h hk
  rw [getD_eq _ _ _ (by rw [worthL_len t xs h]; exact hk)] at hg
  rw [hg]
  have o := ho.ok k (by omega)
  have := o.v0
  have := o.v1
  have hb := hx _ (show xs.getD k 0 ∈ xs by rw [getD_eq _ _ _ hk]; exact List.getElem_mem hk)
  have h1 : xs.getD k 0 * (tubeAt t k).value ≤ 1000000 * (tubeAt t k).value := Int.mul_le_mul_of_nonneg_right hb.2 (by omega)
  have h2 : -1000000 * (tubeAt t k).value ≤ xs.getD k 0 * (tubeAt t k).value := Int.mul_le_mul_of_nonneg_right hb.1 (by omega)
  omega

end Go.Proofs.YtdminjijhpemkaaGreatDoor
