/- A meter, as the stream makes it. -/
import Derived.Test.YtjhfglhoiplfmaaPkSAb
import Derived.Test.YtjhfglhoiplfmaaPkSAc
namespace Go.Proofs.Ytjhfglhoiplfmaa
open Go.RowKit
variable {lw : Nat}

structure Mtr where
  cnt : Int
  turn : Int
  fast : Int
def mtrM (l : List Int) (k : Nat) : Mtr := if flipM l (k + 1 + 1 + 1) 15 then ⟨pickM l (k + 1 + 1 + 1 + 1) [0, 1, 61], pickM l (k + 1 + 1 + 1 + 1 + 1) [9, 10, 1000001], pickM l (k + 1 + 1 + 1 + 1 + 1 + 1) [0, 1, 10]⟩ else ⟨1 + nxt l k 3, pickM l (k + 1) [100, 1000], pickM l (k + 1 + 1) [1, 5, 20, 90]⟩
def mtrK (l : List Int) (k : Nat) : Nat := if flipM l (k + 1 + 1 + 1) 15 then k + 7 else k + 4
def mtrV (m : Mtr) : Value := .agg #[.int .i64 m.cnt, .int .i64 m.turn, .int .i64 m.fast]
def MtrPost (l : List Int) (k p lw : Nat) (w : World) (e : Ending) (w' : World) : Prop :=
  e = .returned (mtrV (mtrM l k)) ∧ StreamAt w' p lw l (mtrK l k) ∧ w.grownBy w' (some p)
theorem blk3M {w : World} {g t : Nat} {a b c : Value} (h : w.heap[g]? = some (.cells #[a, b, c] t (0, 0))) : w.cell? ⟨g, 0, none⟩ = some a ∧ w.cell? ⟨g, 1, none⟩ = some b ∧ w.cell? ⟨g, 2, none⟩ = some c ∧ w.frozen? ⟨g, 0, none⟩ = false ∧ w.frozen? ⟨g, 1, none⟩ = false ∧ w.frozen? ⟨g, 2, none⟩ = false := by
  simp [World.cell?, World.frozen?, h]
theorem set3M_heap {w : World} {g t : Nat} {a b c : Value} (h : w.heap[g]? = some (.cells #[a, b, c] t (0, 0))) (x y z : Value) : (((w.setCell ⟨g, 0, none⟩ x).setCell ⟨g, 1, none⟩ y).setCell ⟨g, 2, none⟩ z).heap[g]? = some (.cells #[x, y, z] t (0, 0)) := set3R_heap h x y z
set_option maxRecDepth 100000 in
set_option maxHeartbeats 1000000 in
theorem meter_any (l : List Int) (k : Nat) (p : Nat) (w : World) (hs : StreamAt w p lw l k) (hk : k < 900000000) :
    Calls Try.prog 9 #[.pointer (some ⟨p, 0, none⟩)] w (MtrPost l k p lw w) := by
  have hlt := hs.lt
  obtain ⟨dt, hd1⟩ := und_struct (P := Try.prog) (t := 34) (by kernel_rfl)
  obtain ⟨w1, hw1⟩ : ∃ w1, w1 = w.alloc (.cells #[.int .i64 0, .int .i64 0, .int .i64 0] 34) := ⟨_, rfl⟩
  have hg1 : w.grownBy w1 none := by rw [hw1]; exact gr_alloc (gr_refl w none) _
  have hR1 : w1.heap[w.heap.size]? = some (.cells #[.int .i64 0, .int .i64 0, .int .i64 0] 34 (0, 0)) := by rw [hw1]; exact heap_alloc_new w _
  have hs1 := hs.keep0 hg1
  have HW1 := Lib.hid hw1
  clear hw1 hs
  go_enter Try.func9, Try.ntmps9
  go_wp2_with (fail)
  rw [← HW1.out]
  refine (range_any l k 1 3 p w1 hs1 (by omega) (by decide) (by decide) (by decide)).mono ?_
  rintro e w2 ⟨rfl, hs2, hg2⟩
  obtain ⟨c0, hc0⟩ : ∃ c0, c0 = 1 + nxt l k (3 - 1 + 1) := ⟨_, rfl⟩
  rw [← hc0]
  have HC0 := Lib.hid hc0
  clear hc0
  go_wp2_with (fail)
  refine (pick_any l (k + 1) [100, 1000] p w2 hs2 (by omega) (by decide) (by decide)).mono ?_
  rintro e w3 ⟨rfl, hs3, hg3⟩
  obtain ⟨t0, ht0⟩ : ∃ t0, t0 = pickM l (k + 1) [100, 1000] := ⟨_, rfl⟩
  rw [← ht0]
  have HT0 := Lib.hid ht0
  clear ht0
  go_wp2_with (fail)
  refine (pick_any l (k + 1 + 1) [1, 5, 20, 90] p w3 hs3 (by omega) (by decide) (by decide)).mono ?_
  rintro e w4 ⟨rfl, hs4, hg4⟩
  obtain ⟨f0, hf0⟩ : ∃ f0, f0 = pickM l (k + 1 + 1) [1, 5, 20, 90] := ⟨_, rfl⟩
  rw [← hf0]
  have HF0 := Lib.hid hf0
  have hgr4 := gr_trans (gr_trans (gr_trans (gr_weak hg1 _) hg2) hg3) hg4
  have hR4 := (hg4.block _ (lt_of_block ((hg3.block _ (lt_of_block ((hg2.block _ (lt_of_block hR1) (by simp; omega)).trans hR1)) (by simp; omega)).trans ((hg2.block _ (lt_of_block hR1) (by simp; omega)).trans hR1))) (by simp; omega)).trans ((hg3.block _ (lt_of_block ((hg2.block _ (lt_of_block hR1) (by simp; omega)).trans hR1)) (by simp; omega)).trans ((hg2.block _ (lt_of_block hR1) (by simp; omega)).trans hR1))
  clear hf0 hs2 hs3 hg1 hg2 hg3 hg4 hR1 hs1
  go_wp2_with (fail)
  have hV5 := heap_alloc_new w4 (.cells #[.int .i64 c0, .int .i64 t0, .int .i64 f0] 34)
  have g5 := gr_alloc (gr_refl w4 none) (.cells #[.int .i64 c0, .int .i64 t0, .int .i64 f0] 34)
  obtain ⟨w5, hw5⟩ : ∃ w5, w5 = w4.alloc (.cells #[.int .i64 c0, .int .i64 t0, .int .i64 f0] 34) := ⟨_, rfl⟩
  rw [← hw5] at hV5 g5
  rw [← hw5]
  obtain ⟨V, hV⟩ : ∃ V, V = w4.heap.size := ⟨_, rfl⟩
  rw [← hV] at hV5
  rw [← hV]
  have hRV : w.heap.size < V := by have := lt_of_block hR4; omega
  have hR5 := (g5.block _ (lt_of_block hR4) (by simp)).trans hR4
  have hgr5 := gr_trans hgr4 (gr_weak g5 (some p))
  refine (flip_any l (k + 1 + 1 + 1) 15 p w5 (hs4.keep0 g5) (by omega) (by decide)).mono ?_
  rintro e w6 ⟨rfl, hs6, hg6⟩
  have hV6 := (hg6.block V (lt_of_block hV5) (by simp; omega)).trans hV5
  have hR6 := (hg6.block _ (lt_of_block hR5) (by simp; omega)).trans hR5
  have hgr6 := gr_trans hgr5 hg6
  clear hs4 hgr4 hR4 hV5 g5 hw5 hV hR5 hgr5 hg6
  have HM : Hid (mtrM l k = if flipM l (k + 1 + 1 + 1) 15 then ⟨pickM l (k + 1 + 1 + 1 + 1) [0, 1, 61], pickM l (k + 1 + 1 + 1 + 1 + 1) [9, 10, 1000001], pickM l (k + 1 + 1 + 1 + 1 + 1 + 1) [0, 1, 10]⟩ else ⟨1 + nxt l k 3, pickM l (k + 1) [100, 1000], pickM l (k + 1 + 1) [1, 5, 20, 90]⟩) := rfl
  have HK : Hid (mtrK l k = if flipM l (k + 1 + 1 + 1) 15 then k + 7 else k + 4) := rfl
  obtain ⟨fl, hfl⟩ : ∃ fl, fl = flipM l (k + 1 + 1 + 1) 15 := ⟨_, rfl⟩
  rw [← hfl] at HM HK
  rw [← hfl]
  clear hfl
  cases fl with
  | false =>
    obtain ⟨v0, v1, v2, -, -, -⟩ := blk3M hV6
    obtain ⟨r0, r1, r2, f0', f1', f2'⟩ := blk3M hR6
    have HV6 := Lib.hid hV6
    have HR6 := Lib.hid hR6
    have hme : mtrM l k = ⟨c0, t0, f0⟩ := by rw [HM.out, HC0.out, HT0.out, HF0.out]; rfl
    have hke : mtrK l k = k + 4 := HK.out
    have HME := Lib.hid hme
    have HKE := Lib.hid hke
    clear hV6 hR6 hme hke
    go_wp2_with (fail)
    refine bodyPost_ret (results_cell_row (p := 2) (by kernel_rfl) _ _ w.heap.size _ #[.int .i64 c0, .int .i64 t0, .int .i64 f0] _ (.struct dt) rfl (set3M_heap HR6.out _ _ _) hd1 rfl (by kernel_rfl)) rfl ⟨?_, ?_, ?_⟩
    · rw [HME.out]; rfl
    · rw [HKE.out]; exact hs6.keepNe (set3R_gr w6 w.heap.size _ _ _) (fun q e => by cases e; have := hs6.low; omega)
    · exact gr_grown hgr6 (set3R_gr w6 w.heap.size _ _ _) (fun q e => by cases e; omega)
  | true =>
    have hme0 := HM.out
    have hke : mtrK l k = k + 7 := HK.out
    obtain ⟨a1, ha1⟩ : ∃ a, a = pickM l (k + 1 + 1 + 1 + 1) [0, 1, 61] := ⟨_, rfl⟩
    obtain ⟨a2, ha2⟩ : ∃ a, a = pickM l (k + 1 + 1 + 1 + 1 + 1) [9, 10, 1000001] := ⟨_, rfl⟩
    obtain ⟨a3, ha3⟩ : ∃ a, a = pickM l (k + 1 + 1 + 1 + 1 + 1 + 1) [0, 1, 10] := ⟨_, rfl⟩
    rw [← ha1, ← ha2, ← ha3] at hme0
    have hme : mtrM l k = ⟨a1, a2, a3⟩ := hme0
    have HME := Lib.hid hme
    have HKE := Lib.hid hke
    have P1 := Lib.hid (pick_any l (k + 1 + 1 + 1 + 1) [0, 1, 61] p w6 hs6 (by omega) (by decide) (by decide))
    rw [← ha1] at P1
    have P2 := Lib.hid (fun (W : World) (h : StreamAt W p lw l _) => pick_any l (k + 1 + 1 + 1 + 1 + 1) [9, 10, 1000001] p W h (by omega) (by decide) (by decide))
    rw [← ha2] at P2
    have P3 := Lib.hid (fun (W : World) (h : StreamAt W p lw l _) => pick_any l (k + 1 + 1 + 1 + 1 + 1 + 1) [0, 1, 10] p W h (by omega) (by decide) (by decide))
    rw [← ha3] at P3
    clear hme0 hme hke ha1 ha2 ha3 HM HK
    go_wp2_with (fail)
    refine P1.out.mono ?_
    rintro e w7 ⟨rfl, hs7, hg7⟩
    have hV7 := (hg7.block V (lt_of_block hV6) (by simp; omega)).trans hV6
    have hR7 := (hg7.block _ (lt_of_block hR6) (by simp; omega)).trans hR6
    clear hV6 hR6 hs6
    go_wp2_with (fail)
    refine (P2.out w7 hs7).mono ?_
    rintro e w8 ⟨rfl, hs8, hg8⟩
    have hV8 := (hg8.block V (lt_of_block hV7) (by simp; omega)).trans hV7
    have hR8 := (hg8.block _ (lt_of_block hR7) (by simp; omega)).trans hR7
    clear hV7 hR7 hs7
    go_wp2_with (fail)
    refine (P3.out w8 hs8).mono ?_
    rintro e w9 ⟨rfl, hs9, hg9⟩
    have hV9 := (hg9.block V (lt_of_block hV8) (by simp; omega)).trans hV8
    have hR9 := (hg9.block _ (lt_of_block hR8) (by simp; omega)).trans hR8
    have hgr9 := gr_trans (gr_trans (gr_trans hgr6 hg7) hg8) hg9
    obtain ⟨v0, v1, v2, x0, x1, x2⟩ := blk3M hV9
    obtain ⟨r0, r1, r2, y0, y1, y2⟩ := blk3M hR9
    have HV9 := Lib.hid hV9
    have HR9 := Lib.hid hR9
    clear hV8 hR8 hs8 hV9 hR9 hg7 hg8 hg9 hgr6
    go_wp2_with (fail)
    have hg9a := set3R_gr w9 V (.int .i64 a1) (.int .i64 a2) (.int .i64 a3)
    obtain ⟨wa, hwa⟩ : ∃ wa, wa = ((w9.setCell ⟨V, 0, none⟩ (.int .i64 a1)).setCell ⟨V, 1, none⟩ (.int .i64 a2)).setCell ⟨V, 2, none⟩ (.int .i64 a3) := ⟨_, rfl⟩
    rw [← hwa] at hg9a
    have hRa := (hg9a.block w.heap.size (lt_of_block HR9.out) (by simp; omega)).trans HR9.out
    have hlow := hs9.low
    have hplt := hs9.lt
    refine bodyPost_ret (results_cell_row (p := 2) (by kernel_rfl) _ _ w.heap.size _ #[.int .i64 a1, .int .i64 a2, .int .i64 a3] _ (.struct dt) rfl (by rw [← hwa]; exact set3M_heap hRa _ _ _) hd1 rfl (by kernel_rfl)) rfl ⟨?_, ?_, ?_⟩
    · rw [HME.out]; rfl
    · rw [HKE.out, ← hwa]; exact (hs9.keepNe hg9a (fun q e => by cases e; omega)).keepNe (set3R_gr wa w.heap.size _ _ _) (fun q e => by cases e; omega)
    · rw [← hwa]; exact gr_grown (gr_grown hgr9 hg9a (fun q e => by cases e; omega)) (set3R_gr wa w.heap.size _ _ _) (fun q e => by cases e; omega)
end Go.Proofs.Ytjhfglhoiplfmaa

/-! What is wrong with a meter: the document's answer and the program's. -/
namespace Go.Proofs.Ytjhfglhoiplfmaa
open Go.RowKit

structure MtrOk (m : Mtr) : Prop where
  c1 : 1 ≤ m.cnt
  c2 : m.cnt ≤ 60
  t1 : 10 ≤ m.turn
  t2 : m.turn ≤ 1000000
  f1 : 1 ≤ m.fast
  f2 : m.fast ≤ m.turn - 1
def MtrF (m : Mtr) (w : World) (e : Ending) (w' : World) : Prop := ∃ r : Int, e = .returned (.int .i64 r) ∧ ((r = 0 ∧ MtrOk m) ∨ (r = 1 ∧ ¬ MtrOk m)) ∧ w.grownBy w' none
theorem mtrM_turn (l : List Int) (k : Nat) : 0 ≤ (mtrM l k).turn ∧ (mtrM l k).turn ≤ 1000001 := by
  unfold mtrM
  split
  · have := pickM_mem l (k + 1 + 1 + 1 + 1 + 1) [9, 10, 1000001] (by decide)
    simp only [List.mem_cons, List.not_mem_nil, or_false] at this
    simp only; omega
  · have := pickM_mem l (k + 1) [100, 1000] (by decide)
    simp only [List.mem_cons, List.not_mem_nil, or_false] at this
    simp only; omega
set_option maxRecDepth 100000 in
theorem meterFault_any (m : Mtr) (w : World) (hb : -1000000000 ≤ m.turn ∧ m.turn ≤ 1000000000) : Calls Try.prog 24 #[mtrV m] w (MtrF m w) := by
  obtain ⟨c, t, f⟩ := m
  simp only at hb
  unfold mtrV
  have g1 := gr_alloc (gr_refl w none) (.cells #[.int .i64 c, .int .i64 t, .int .i64 f] 34)
  go_enter Try.func24, Try.ntmps24
  by_cases h1 : c < 1
  · go_wp2_with (fail)
    go_ret
    exact ⟨1, rfl, .inr ⟨rfl, fun h => by have := h.c1; simp only at this; omega⟩, g1⟩
  by_cases h2 : 60 < c
  · go_wp2_with (fail)
    go_ret
    exact ⟨1, rfl, .inr ⟨rfl, fun h => by have := h.c2; simp only at this; omega⟩, g1⟩
  by_cases h3 : t < 10
  · go_wp2_with (fail)
    go_ret
    exact ⟨1, rfl, .inr ⟨rfl, fun h => by have := h.t1; simp only at this; omega⟩, g1⟩
  by_cases h4 : 1000000 < t
  · go_wp2_with (fail)
    go_ret
    exact ⟨1, rfl, .inr ⟨rfl, fun h => by have := h.t2; simp only at this; omega⟩, g1⟩
  by_cases h5 : f < 1
  · go_wp2_with (fail)
    go_ret
    exact ⟨1, rfl, .inr ⟨rfl, fun h => by have := h.f1; simp only at this; omega⟩, g1⟩
  by_cases h6 : t - 1 < f
  · go_wp2_with (fail)
    go_ret
    exact ⟨1, rfl, .inr ⟨rfl, fun h => by have := h.f2; simp only at this; omega⟩, g1⟩
  go_wp2_with (fail)
  go_ret
  exact ⟨0, rfl, .inl ⟨rfl, ⟨by simp only; omega, by simp only; omega, by simp only; omega, by simp only; omega, by simp only; omega, by simp only; omega⟩⟩, g1⟩
set_option maxRecDepth 100000 in
theorem checkMeter_any (m : Mtr) (w : World) (hok : MtrOk m) : Calls Try.prog 60 #[mtrV m] w fun e w' => e = .returned (.int .i64 0) ∧ w.grownBy w' none := by
  obtain ⟨c, t, f⟩ := m
  obtain ⟨h1, h2, h3, h4, h5, h6⟩ := hok
  simp only at h1 h2 h3 h4 h5 h6
  unfold mtrV
  have g1 := gr_alloc (gr_refl w none) (.cells #[.int .i64 c, .int .i64 t, .int .i64 f] 34)
  have d1 : (decide (c < 1) || decide (60 < c)) = false := by simp; omega
  have d2 : (decide (t < 10) || decide (1000000 < t)) = false := by simp; omega
  have d3 : (decide (f < 1) || decide (t - 1 < f)) = false := by simp; omega
  have HW : Hid (w = w) := rfl
  go_enter Try.func60, Try.ntmps60
  go_wp2_with (fail)
  refine (out_any c 1 60 _).mono ?_
  rintro e w1 ⟨rfl, rfl⟩
  rw [d1]
  go_wp2_with (fail)
  refine (out_any t 10 1000000 _).mono ?_
  rintro e w1 ⟨rfl, rfl⟩
  rw [d2]
  go_wp2_with (fail)
  refine (out_any f 1 (t - 1) _).mono ?_
  rintro e w1 ⟨rfl, rfl⟩
  rw [d3]
  go_wp2_with (fail)
  go_ret
  exact ⟨rfl, g1⟩
end Go.Proofs.Ytjhfglhoiplfmaa

/-! What is wrong with a reading: the document's answer and the program's. -/
namespace Go.Proofs.Ytjhfglhoiplfmaa
open Go.RowKit

structure Rd where
  at_ : Int
  vs : List Int
structure RdOk (m : Mtr) (x : Rd) : Prop where
  a0 : 0 ≤ x.at_
  a1 : x.at_ < 5761440
  len : (x.vs.length : Int) = m.cnt
  all : ∀ n ∈ x.vs, 0 ≤ n ∧ n < m.turn
theorem moment_any (n : Int) (w : World) : Calls Try.prog 41 #[.int .i64 n] w fun e w' => e = .returned (.bool (decide (0 ≤ n) && decide (n < 5761440))) ∧ w = w' := by
  go_enter Try.func41, Try.ntmps41
  by_cases h : 0 ≤ n
  · have hd : decide (0 ≤ n) = true := decide_eq_true h
    go_wp2_with (fail)
    go_ret
    exact ⟨by simp [h], rfl⟩
  · have hd : decide (0 ≤ n) = false := decide_eq_false h
    go_wp2_with (fail)
    go_ret
    exact ⟨by simp, rfl⟩
theorem momentB_any (n : Int) (w : World) : Calls Try.prog 80 #[.int .i64 n] w fun e w' => e = .returned (.bool (!decide (n < 0) && !decide (5761439 < n))) ∧ w = w' := by
  go_enter Try.func80, Try.ntmps80
  go_wp2_with (fail)
  refine (out_any n 0 5761439 w).mono ?_
  rintro e w2 ⟨rfl, rfl⟩
  go_wp2_with (fail)
  go_ret
  exact ⟨rfl, rfl⟩
theorem readF1_fn : IsFn 42 := fun _ _ => by kernel_rfl
theorem checkR1_fn : IsFn 81 := fun _ _ => by kernel_rfl
def badV (t n : Int) : Bool := decide (n < 0) || decide (t ≤ n)
theorem readF1_any (n t : Int) (q : Nat) (w : World) (h : w.cell? ⟨q, 1, none⟩ = some (.int .i64 t)) : Calls Try.prog 42 #[.int .i64 n, .pointer (some ⟨q, 0, none⟩)] w fun e w' => e = .returned (.bool (badV t n)) ∧ w.grownBy w' none := by
  go_enter Try.func42, Try.ntmps42
  by_cases h1 : n < 0
  · have hd : decide (n < 0) = true := decide_eq_true h1
    go_wp2_with (fail)
    go_ret
    exact ⟨by simp [badV, h1], gr_refl _ _⟩
  · have hd : decide (n < 0) = false := decide_eq_false h1
    go_wp2_with (fail)
    go_ret
    exact ⟨by simp [badV, hd], gr_refl _ _⟩
theorem checkR1_any (n t : Int) (q : Nat) (w : World) (ht : 10 ≤ t ∧ t ≤ 1000000) (h : w.cell? ⟨q, 1, none⟩ = some (.int .i64 t)) : Calls Try.prog 81 #[.int .i64 n, .pointer (some ⟨q, 0, none⟩)] w fun e w' => e = .returned (.bool (decide (n < 0) || decide (t - 1 < n))) ∧ w.grownBy w' none := by
  go_enter Try.func81, Try.ntmps81
  go_wp2_with (fail)
  refine (out_any n 0 (t - 1) w).mono ?_
  rintro e w2 ⟨rfl, rfl⟩
  go_wp2_with (fail)
  go_ret
  exact ⟨rfl, gr_refl _ _⟩
set_option maxRecDepth 100000 in
theorem readingFault_any (m : Mtr) (x : Rd) (a : Option Addr) (cp : Nat) (w : World) (hok : MtrOk m) (hc : CellsAt w a (ints x.vs)) (hl : x.vs.length ≤ 1000000) :
    Calls Try.prog 28 #[mtrV m, .agg #[.int .i64 x.at_, .slice a x.vs.length cp]] w fun e w' => ∃ r : Int, e = .returned (.int .i64 r) ∧ (r = 0 → RdOk m x) ∧ w.grownBy w' none := by
  have MF := Lib.hid (fun W => meterFault_any m W (by have := hok.t1; have := hok.t2; omega))
  have HOK := Lib.hid hok
  obtain ⟨C, T, F⟩ := m
  obtain ⟨A, vs⟩ := x
  unfold mtrV at MF ⊢
  simp only at hc hl MF ⊢
  obtain ⟨hP, hQ⟩ := heap_2 w (.cells #[.int .i64 C, .int .i64 T, .int .i64 F] 34) (.cells #[.int .i64 A, .slice a vs.length cp] 56)
  have g2 := gr_alloc (gr_alloc (gr_refl w none) (.cells #[.int .i64 C, .int .i64 T, .int .i64 F] 34)) (.cells #[.int .i64 A, .slice a vs.length cp] 56)
  obtain ⟨w2, hw2⟩ : ∃ w2, w2 = (w.alloc (.cells #[.int .i64 C, .int .i64 T, .int .i64 F] 34)).alloc (.cells #[.int .i64 A, .slice a vs.length cp] 56) := ⟨_, rfl⟩
  rw [← hw2] at hP hQ g2
  have HP := Lib.hid hP
  have HQ := Lib.hid hQ
  have HG := Lib.hid g2
  have HC := Lib.hid hc
  have HW := Lib.hid hw2
  obtain ⟨p0, p1, p2, -⟩ := blk3M hP
  clear hok hc hP hQ g2 hw2
  go_enter Try.func28, Try.ntmps28
  go_wp2_with (fail)
  rw [← HW.out]
  go_wp2_with (fail)
  refine (MF.out w2).mono ?_
  rintro e w3 ⟨r, rfl, hr, g3⟩
  have hr0 : r = 0 := by
    rcases hr with ⟨h, _⟩ | ⟨_, h⟩
    · exact h
    · exact (h HOK.out).elim
  subst hr0
  have HP3 := Lib.hid ((g3.block _ (lt_of_block HP.out) (by simp)).trans HP.out)
  have HQ3 := Lib.hid ((g3.block _ (lt_of_block HQ.out) (by simp)).trans HQ.out)
  have HG3 := Lib.hid (gr_trans HG.out g3)
  obtain ⟨q0, q1, q2, -⟩ := blk3M HP3.out
  have y0 : w3.cell? ⟨w.heap.size + 1, 0, none⟩ = some (.int .i64 A) := blkC HQ3.out 0 rfl
  have y1 : w3.cell? ⟨w.heap.size + 1, 1, none⟩ = some (.slice a vs.length cp) := blkC HQ3.out 1 rfl
  clear hr g3 p0 p1 p2 HP HQ HG MF
  go_wp2_with (fail)
  refine (moment_any A w3).mono ?_
  rintro e w4 ⟨rfl, rfl⟩
  by_cases hA : 0 ≤ A ∧ A < 5761440
  · have hd : (decide (0 ≤ A) && decide (A < 5761440)) = true := by simp; omega
    rw [hd]
    by_cases hn : (vs.length : Int) = C
    · have hne : ((vs.length : Int) != C) = false := by simp [hn]
      have CF := Lib.hid (containsFuncP_int 42 w.heap.size (badV T) vs a cp w3 (HC.out.keep0 HG3.out) (by omega) readF1_fn (fun n _ W g => readF1_any n T w.heap.size W ((gr_cell g (lt_of_cell q1)).trans q1)))
      obtain ⟨bb, hbb⟩ : ∃ bb, bb = vs.any (badV T) := ⟨_, rfl⟩
      rw [← hbb] at CF
      have HBB := Lib.hid hbb
      have HN := Lib.hid hn
      clear hbb hn
      go_wp2_with (fail)
      refine CF.out.mono ?_
      rintro e w5 ⟨rfl, g5⟩
      have HG5 := Lib.hid (gr_trans HG3.out g5)
      cases bb with
      | true =>
        go_wp2_with (fail)
        go_ret
        exact ⟨1, rfl, fun e => (by cases e), HG5.out⟩
      | false =>
        go_wp2_with (fail)
        go_ret
        refine ⟨0, rfl, fun _ => ⟨hA.1, hA.2, HN.out, fun n hn => ?_⟩, HG5.out⟩
        have h1 := List.any_eq_false.1 HBB.out.symm n hn
        simp only [badV, Bool.or_eq_true, decide_eq_true_eq] at h1
        simp only; omega
    · have hne : ((vs.length : Int) != C) = true := by simp [hn]
      go_wp2_with (fail)
      go_ret
      exact ⟨3, rfl, fun e => (by cases e), HG3.out⟩
  · have hd : (decide (0 ≤ A) && decide (A < 5761440)) = false := by simp; omega
    rw [hd]
    go_wp2_with (fail)
    go_ret
    exact ⟨1, rfl, fun e => (by cases e), HG3.out⟩
set_option maxRecDepth 100000 in
theorem checkReading_ok (m : Mtr) (x : Rd) (a : Option Addr) (cp : Nat) (w : World) (hok : MtrOk m) (hx : RdOk m x) (hc : CellsAt w a (ints x.vs)) :
    Calls Try.prog 61 #[mtrV m, .agg #[.int .i64 x.at_, .slice a x.vs.length cp]] w fun e w' => e = .returned (.int .i64 0) ∧ w.grownBy w' none := by
  have MF := Lib.hid (fun W => checkMeter_any m W hok)
  have HOK := Lib.hid hok
  obtain ⟨C, T, F⟩ := m
  obtain ⟨A, vs⟩ := x
  obtain ⟨ha0, ha1, hlen, hall⟩ := hx
  have hc60 := hok.c2
  have ht1 := hok.t1
  have ht2 := hok.t2
  unfold mtrV at MF ⊢
  simp only at hc MF ha0 ha1 hlen hall hc60 ht1 ht2 ⊢
  obtain ⟨hP, hQ⟩ := heap_2 w (.cells #[.int .i64 C, .int .i64 T, .int .i64 F] 34) (.cells #[.int .i64 A, .slice a vs.length cp] 56)
  have g2 := gr_alloc (gr_alloc (gr_refl w none) (.cells #[.int .i64 C, .int .i64 T, .int .i64 F] 34)) (.cells #[.int .i64 A, .slice a vs.length cp] 56)
  obtain ⟨w2, hw2⟩ : ∃ w2, w2 = (w.alloc (.cells #[.int .i64 C, .int .i64 T, .int .i64 F] 34)).alloc (.cells #[.int .i64 A, .slice a vs.length cp] 56) := ⟨_, rfl⟩
  rw [← hw2] at hP hQ g2
  have HP := Lib.hid hP
  have HQ := Lib.hid hQ
  have HG := Lib.hid g2
  have HC := Lib.hid hc
  have HW := Lib.hid hw2
  have HALL := Lib.hid hall
  have hl : vs.length ≤ 60 := by omega
  have hne : ((vs.length : Int) != C) = false := by simp [hlen]
  have hd : (!decide (A < 0) && !decide (5761439 < A)) = true := by simp; omega
  obtain ⟨p0, p1, p2, -⟩ := blk3M hP
  clear hok hc hP hQ g2 hw2 hall hlen
  go_enter Try.func61, Try.ntmps61
  go_wp2_with (fail)
  rw [← HW.out]
  go_wp2_with (fail)
  refine (MF.out w2).mono ?_
  rintro e w3 ⟨rfl, g3⟩
  have HP3 := Lib.hid ((g3.block _ (lt_of_block HP.out) (by simp)).trans HP.out)
  have HQ3 := Lib.hid ((g3.block _ (lt_of_block HQ.out) (by simp)).trans HQ.out)
  have HG3 := Lib.hid (gr_trans HG.out g3)
  obtain ⟨q0, q1, q2, -⟩ := blk3M HP3.out
  have y0 : w3.cell? ⟨w.heap.size + 1, 0, none⟩ = some (.int .i64 A) := blkC HQ3.out 0 rfl
  have y1 : w3.cell? ⟨w.heap.size + 1, 1, none⟩ = some (.slice a vs.length cp) := blkC HQ3.out 1 rfl
  clear g3 p0 p1 p2 HP HQ HG MF
  go_wp2_with (fail)
  refine (momentB_any A w3).mono ?_
  rintro e w4 ⟨rfl, rfl⟩
  rw [hd]
  have hany : vs.any (fun n => decide (n < 0) || decide (T - 1 < n)) = false := by
    rw [List.any_eq_false]
    intro n hn
    have := HALL.out n hn
    simp; omega
  have CF := containsFuncP_int 81 w.heap.size (fun n => decide (n < 0) || decide (T - 1 < n)) vs a cp w3 (HC.out.keep0 HG3.out) (by omega) checkR1_fn (fun n _ W g => checkR1_any n T w.heap.size W ⟨ht1, ht2⟩ ((gr_cell g (lt_of_cell q1)).trans q1))
  rw [hany] at CF
  have CF := Lib.hid CF
  clear hany
  go_wp2_with (fail)
  refine CF.out.mono ?_
  rintro e w5 ⟨rfl, g5⟩
  have HG5 := Lib.hid (gr_trans HG3.out g5)
  go_wp2_with (fail)
  go_ret
  exact ⟨rfl, HG5.out⟩
end Go.Proofs.Ytjhfglhoiplfmaa

/-! A reading, as the stream makes it: as a function. -/
namespace Go.Proofs.Ytjhfglhoiplfmaa
open Go.RowKit

def rdC (m : Mtr) : Nat := (max (min m.cnt 5) 0).toNat
def rdT (m : Mtr) : Int := max (min m.turn 1000) 1
def rdAts : List Int := [0, 60, 1439, 1440, 3000, 5000, 20000]
def rdV0 (l : List Int) (k : Nat) (t : Int) (c : Nat) : List Int := (List.range c).map fun i => nxt l (k + i) t
theorem rdV0_next (l : List Int) (k c : Nat) (t : Int) : rdV0 l k t (c + 1) = rdV0 l k t c ++ [nxt l (k + c) t] := by simp [rdV0, List.range_succ]
theorem rdV0_len (l : List Int) (k c : Nat) (t : Int) : (rdV0 l k t c).length = c := by simp [rdV0]
def rdK0 (k : Nat) (m : Mtr) : Nat := k + 1 + rdC m
def rdAt (l : List Int) (k : Nat) (m : Mtr) : Int := if flipM l (rdK0 k m) 30 then pickM l (rdK0 k m + 1) [-1, 5761440, 5761439] else pickM l k rdAts
def rdK1 (l : List Int) (k : Nat) (m : Mtr) : Nat := if flipM l (rdK0 k m) 30 then rdK0 k m + 1 + 1 else rdK0 k m + 1
def rdV1 (l : List Int) (k : Nat) (m : Mtr) : List Int := if flipM l (rdK1 l k m) 30 then rdV0 l (k + 1) (rdT m) (rdC m) ++ [pickM l (rdK1 l k m + 1) [0, -1]] else rdV0 l (k + 1) (rdT m) (rdC m)
def rdK2 (l : List Int) (k : Nat) (m : Mtr) : Nat := if flipM l (rdK1 l k m) 30 then rdK1 l k m + 1 + 1 else rdK1 l k m + 1
def rdV2 (l : List Int) (k : Nat) (m : Mtr) : List Int := if flipM l (rdK2 l k m) 30 && decide (0 < (rdV1 l k m).length) then (rdV1 l k m).set 0 (pickM l (rdK2 l k m + 1) [-1, m.turn, 999999, 1000000]) else rdV1 l k m
def rdK3 (l : List Int) (k : Nat) (m : Mtr) : Nat := if flipM l (rdK2 l k m) 30 && decide (0 < (rdV1 l k m).length) then rdK2 l k m + 1 + 1 else rdK2 l k m + 1
def rdOne (l : List Int) (k : Nat) (m : Mtr) : Rd := ⟨rdAt l k m, rdV2 l k m⟩
theorem rdC_le (m : Mtr) : rdC m ≤ 5 := by unfold rdC; omega
theorem rdK3_le (l : List Int) (k : Nat) (m : Mtr) : k ≤ rdK3 l k m ∧ rdK3 l k m ≤ k + 20 := by
  have := rdC_le m
  unfold rdK3 rdK2 rdK1 rdK0
  split <;> split <;> split <;> omega
theorem rdV2_len (l : List Int) (k : Nat) (m : Mtr) : (rdV2 l k m).length ≤ 6 := by
  have := rdC_le m
  have h1 : (rdV1 l k m).length ≤ 6 := by
    unfold rdV1
    split
    · rw [List.length_append, rdV0_len]; simp; omega
    · rw [rdV0_len]; omega
  unfold rdV2
  split
  · rw [List.length_set]; exact h1
  · exact h1
end Go.Proofs.Ytjhfglhoiplfmaa
