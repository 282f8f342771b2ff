/- vend.Greedy of right tubes. -/
import Derived.Test.YtbgfflbddflokaaFloat
import Derived.Test.YtbgfflbddflokaaInstPure
import Derived.Deep.CutRange
namespace Go.Proofs.Ytbgfflbddflokaa
open Go.RowKit

theorem worth_put (l : List Tube) (f : List Int) (k : Nat) (y : Int) (h : f.length = l.length) (hk : k < l.length) : worthM l (f.set k y) = worthM l f + (y - f.getD k 0) * (tubeAt l k).value := by
  have key : ∀ (l : List Tube) (f : List Int) (k : Nat), f.length = l.length → k < l.length → (List.zipWith (fun x (t : Tube) => x * t.value) (f.set k y) l).sum = (List.zipWith (fun x (t : Tube) => x * t.value) f l).sum + (y - f.getD k 0) * (l.getD k ⟨0, 0, 0⟩).value := by
    intro l
    induction l with
    | nil => intro f k _ hk; simp at hk
    | cons t l ih =>
      intro f k h hk
      cases f with
      | nil => simp at h
      | cons x f =>
        cases k with
        | zero => simp [Int.sub_mul]; omega
        | succ k =>
          have := ih f k (by simpa using h) (by simpa using hk)
          simp at this
          simp [this]; omega
  exact key l f k h hk
def GreedyPost (l : List Tube) (amount : Int) (w : World) (e : Ending) (w' : World) : Prop :=
  ∃ v f rest, e = .returned (.tuple #[v, .int .i64 rest, .int .i64 0]) ∧ w'.ownsRow w.heap.size 3 1 v l.length (ints f) ∧ w.grownBy w' none ∧ f.length = l.length ∧ (∀ k, k < l.length → 0 ≤ f.getD k 0 ∧ f.getD k 0 ≤ (tubeAt l k).count) ∧ 0 ≤ rest ∧ worthM l f + rest = amount

set_option maxRecDepth 100000 in
set_option maxHeartbeats 1000000 in
theorem greedy_any (l : List Tube) (amount : Int) (a : Option Addr) (c : Nat) (w : World) (hc : CellsAt w a (tubes l)) (ho : OkTubes l) (hw0 : 0 ≤ amount) (hw1 : amount ≤ 20000) :
    Calls Try.prog 11 #[.slice a l.length c, .int .i64 amount] w (GreedyPost l amount w) := by
  have hl := ho.len
  have d1 : Hid ((decide (amount < 0) || decide (20000 < amount)) = false) := by show _ = _; simp; omega
  go_enter Try.func11, Try.ntmps11
  go_wp2_with (fail)
  refine (checkTubes_any l a c _ hc (by omega)).mono ?_
  rintro e w1 ⟨r, rfl, hr, hg1⟩
  have hr0 := hr.2 ho
  subst hr0; clear hr
  go_wp2_with (fail)
  refine (out_any amount 0 20000 w1).mono ?_
  rintro e w2 ⟨rfl, rfl⟩
  rw [d1.out]
  have hsz1 := hg1.size
  go_wp2_with (at_make; refine wpList_mk _ eInt rfl _ _ rfl w.heap.size _ l.length rfl rfl rfl ?_ ?_ ?_; (· omega); (· omega); intro w2 hown2 hg2)
  have hgr2 := gr_trans hg1 hg2
  obtain ⟨g, hge⟩ : ∃ g, g = w1.heap.size := ⟨_, rfl⟩
  rw [← hge] at hown2 hsz1
  rw [← hge]
  clear hge hg1 hg2
  go_loopw [1, 9] (fun s i wr => ∃ (j : Nat) (A : Int) (f : List Int), j ≤ l.length ∧ i = .int .i64 ((j : Int) - 1) ∧ s = .int .i64 A ∧ 0 ≤ A ∧ A ≤ 20000 ∧ wr.ownsRow w.heap.size 3 1 (.slice (some ⟨g, 0, none⟩) l.length l.length) l.length (ints f) ∧
    (∀ k, k < l.length → 0 ≤ f.getD k 0 ∧ f.getD k 0 ≤ (tubeAt l k).count) ∧ (∀ k, k < j → f.getD k 0 = 0) ∧ worthM l f + A = amount ∧ w.grownBy wr none) (fun _ i _ => (intOf i + 1).toNat)
  case atStart => exact ⟨l.length, amount, _, Nat.le_refl _, by go_num, rfl, hw0, hw1, hown2, fun k hk => by rw [repl_getD]; have := (ho.ok k hk); have := this.c0; omega, fun k _ => repl_getD _ _, by rw [worth_zero]; omega, hgr2⟩
  case round =>
    obtain ⟨j, A, f, hj, rfl, rfl, hA0, hA1, hown, hb, hz, hwa, hgr⟩ := hrel
    obtain ⟨wo, rfl⟩ : ∃ wo : World, wo = wr := ⟨_, rfl⟩
    have HB := Lib.hid hb
    have HZ := Lib.hid hz
    have HWA := Lib.hid hwa
    clear hb hz hwa
    cases j with
    | zero =>
      go_wp2_with (fail)
      refine bodyPost_ret (results_tmp3 rfl _ _ _) rfl ⟨_, f, A, rfl, hown, hgr, own_len hown, HB.out, hA0, HWA.out⟩
    | succ k =>
      have hki : ((k + 1 : Nat) : Int) - 1 = (k : Int) := by omega
      rw [hki]
      have hlt : k < l.length := hj
      obtain ⟨b, off, rfl, hcs⟩ := tubes_cells (hc.keep0 hgr) k hlt
      obtain ⟨c0, c1, c2⟩ := hcs k hlt
      have o := ho.ok k hlt
      have o1 := o.v0
      have o2 := o.v1
      have o4 := o.c0
      have hfl := own_len hown
      obtain ⟨d0, d1, d2⟩ := own_int hown k hlt
      obtain ⟨t, ht⟩ : ∃ t, t = tubeAt l k := ⟨_, rfl⟩
      rw [← ht] at c0 c1 c2 o1 o2 o4
      obtain ⟨v, hv⟩ : ∃ v, v = t.value := ⟨_, rfl⟩
      obtain ⟨n, hn⟩ : ∃ n, n = t.count := ⟨_, rfl⟩
      rw [← hv] at c0 o1 o2
      rw [← hn] at c1 o4
      obtain ⟨q, hq⟩ : ∃ q, q = A / v := ⟨_, rfl⟩
      have hqt : A.tdiv v = q := by rw [hq]; exact Int.tdiv_eq_ediv_of_nonneg hA0
      have hq0 : 0 ≤ q := by rw [hq]; exact Int.ediv_nonneg hA0 (by omega)
      have hq1 : q ≤ A := by rw [hq]; exact Int.ediv_le_self _ hA0
      have hqv : q * v ≤ A := by rw [hq]; exact Int.ediv_mul_le A (by omega)
      obtain ⟨y, hy⟩ : ∃ y, y = min n q := ⟨_, rfl⟩
      have hy0 : 0 ≤ y := by omega
      obtain ⟨p, hp⟩ : ∃ p, y * v = p := ⟨_, rfl⟩
      have hp0 : 0 ≤ p := by rw [← hp]; exact Int.mul_nonneg hy0 (by omega)
      have hp1 : p ≤ A := by
        have : y * v ≤ q * v := Int.mul_le_mul_of_nonneg_right (by omega) (by omega)
        omega
      have hvz : (v == 0) = false := beq_eq_false_iff_ne.2 (by omega)
      have hyn : y ≤ n := by omega
      have D2 := Lib.hid (d2 y)
      have HY := Lib.hid hy
      have HN := Lib.hid hn
      have HV := Lib.hid hv
      have HTT := Lib.hid ht
      have HFL := Lib.hid hfl
      have HOW := Lib.hid hown
      have HGR := Lib.hid hgr
      clear d2 hy hn hv ht hq hfl o hcs
      go_wp2_with (fail)
      go_cut [] from 27 to 42 (fun wx => wx = (wo.setCell ⟨g, k, none⟩ (.int .i64 y)).drew)
      case first =>
        go_region
        all_goals (go_wp2_with (fail))
        all_goals (go_meet; first | (rw [show n = y by have := HY.out; omega]) | (rw [show q = y by have := HY.out; omega]) | rfl)
      case rest =>
      have hown1 : wc.ownsRow w.heap.size 3 1 (.slice (some ⟨g, 0, none⟩) l.length l.length) l.length (ints (f.set k y)) := by rw [hcut]; exact own_keep0 D2.out (gr_drew (gr_refl _ _))
      have hgr1 : w.grownBy wc none := by rw [hcut]; exact gr_drew (gr_new HGR.out (HOW.out.lt g rfl).1 _)
      clear hcut c0 c1 c2 d0 d1 hown hgr
      obtain ⟨e0, _, _⟩ := own_int hown1 k hlt
      rw [getD_set _ _ _ _ (by rw [HFL.out]; exact hlt), if_pos rfl] at e0
      obtain ⟨_, _, he, hcs⟩ := tubes_cells (hc.keep0 hgr1) k hlt
      cases he
      obtain ⟨c0, _, _⟩ := hcs k hlt
      rw [← HTT.out, ← HV.out] at c0
      have G1 := Lib.hid (gr_drew hgr1)
      have O1 := Lib.hid (own_keep0 hown1 (gr_drew (gr_refl _ _)))
      clear hcs hgr1 hown1
      go_wp2_with (fail)
      go_region
      all_goals (go_wp2_with (fail))
      all_goals go_roundw
      case rel =>
        refine ⟨k, A - p, f.set k y, by omega, by go_num, rfl, by omega, by omega, O1.out, ?_, ?_, ?_, G1.out⟩
        · intro i hi
          rw [getD_set _ _ _ _ (by rw [HFL.out]; exact hlt)]
          split
          · rename_i e; subst e; rw [← HTT.out, ← HN.out]; omega
          · exact HB.out i hi
        · intro i hi
          rw [getD_set _ _ _ _ (by rw [HFL.out]; exact hlt), if_neg (by omega)]
          exact HZ.out i (by omega)
        · rw [worth_put l f k y HFL.out hlt, HZ.out k (by omega), ← HTT.out, ← HV.out, Int.sub_zero, hp]
          have := HWA.out
          omega
      case measure => simp [intOf]
end Go.Proofs.Ytbgfflbddflokaa
