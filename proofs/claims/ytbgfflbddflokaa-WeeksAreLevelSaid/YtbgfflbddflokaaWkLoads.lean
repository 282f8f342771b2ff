/- The loads of days of jobs, as the program adds them up; the least and the greatest of a row; squares. -/
import Derived.Test.YtbgfflbddflokaaWkFault
import Derived.Test.YtbgfflbddflokaaMakeInts
import Derived.Deep.OwnRows
import Derived.Deep.CutRange
namespace Go.Proofs.Ytbgfflbddflokaa
open Go.RowKit

def LoadsPost (J Q : List Int) (D n : Nat) (w : World) (e : Ending) (w' : World) : Prop := ∃ g, e = .returned (.slice (some ⟨g, 0, none⟩) D D) ∧ w'.ownsRow w.heap.size 3 1 (.slice (some ⟨g, 0, none⟩) D D) D (ints (ldL J Q D n)) ∧ w.grownBy w' none
set_option maxRecDepth 100000 in
set_option maxHeartbeats 1000000 in
theorem loads0_any (n D : Nat) (ja : Option Addr) (J : List Int) (jc : Nat) (qa : Option Addr) (Q : List Int) (qc : Nat) (w : World) (hj : CellsAt w ja (ints J)) (hq : CellsAt w qa (ints Q)) (hn : J.length = n) (hl : n ≤ 60) (hJ : JobsOk J) (hQ : DaysOk D n Q) (h1 : 1 ≤ D) (h2 : D ≤ 7) :
    Calls Try.prog 105 #[.agg #[.slice ja n jc, .int .i64 D], .slice qa n qc] w (LoadsPost J Q D n w) := by
  obtain ⟨w1, hw1⟩ : ∃ w1, w1 = w.alloc (.cells #[.slice ja n jc, .int .i64 D] 79) := ⟨_, rfl⟩
  have hg1 : w.grownBy w1 none := by rw [hw1]; exact gr_alloc (gr_refl w none) _
  have hP1 : w1.heap[w.heap.size]? = some (.cells #[.slice ja n jc, .int .i64 D] 79 (0, 0)) := by rw [hw1]; exact heap_alloc_new w _
  obtain ⟨b0, b1, _, _⟩ := blk2 hP1
  have hP := lt_of_block hP1
  have hj1 := hj.keep0 hg1
  have hq1 := hq.keep0 hg1
  have HN := Lib.hid hn
  have HQL := Lib.hid hQ.len
  clear hP1 hn
  go_enter Try.func105, Try.ntmps105
  go_wp2_with (at_make; refine wpList_mk _ eInt rfl _ _ rfl (w.heap.size + 1) (D : Int) D rfl rfl rfl ?_ ?_ ?_; (· omega); (· simp); intro w2 hown2 hg2)
  rw [← hw1] at hg2 hown2
  have hsz1 : w1.heap.size = w.heap.size + 1 := by rw [hw1]; simp
  rw [hsz1] at hown2
  obtain ⟨g, hg⟩ : ∃ g, g = w.heap.size + 1 := ⟨_, rfl⟩
  rw [← hg] at hown2
  rw [← hg]
  have hgw : w.heap.size < g := by omega
  have hgg : w1.heap.size ≤ g := by omega
  rw [← ldL_zero J Q D] at hown2
  clear hw1 hsz1 hg
  go_loopw [13] (fun i wr => ∃ m : Nat, m ≤ n ∧ i = .int .i64 m ∧ wr.ownsRow g 3 1 (.slice (some ⟨g, 0, none⟩) D D) D (ints (ldL J Q D m)) ∧ w1.grownBy wr none) (fun i _ => n - (intOf i).toNat)
  case atStart => exact ⟨0, Nat.zero_le _, rfl, hown2, hg2⟩
  case round =>
    obtain ⟨m, hm, rfl, hown, hgr⟩ := hrel
    obtain ⟨wo, rfl⟩ : ∃ wo : World, wo = wr := ⟨_, rfl⟩
    have c0 := (gr_cell hgr hP).trans b0
    have c1 := (gr_cell hgr hP).trans b1
    have hPo := lt_of_cell c0
    by_cases hlt : m < n
    · obtain ⟨jb, jo, rfl, dj⟩ := (hj1.keep0 hgr) m _ (ints_get J m (by rw [HN.out]; exact hlt))
      obtain ⟨qb, qo, rfl, dq⟩ := (hq1.keep0 hgr) m _ (ints_get Q m (by rw [HQL.out]; exact hlt))
      obtain ⟨e, he, heq⟩ := day_ok hQ m hlt 0
      obtain ⟨_, _, heq1⟩ := day_ok hQ m hlt (-1)
      have heq2 : Q.getD m (-1) = (e : Int) := by
        rw [List.getD_eq_getElem?_getD, List.getElem?_eq_getElem (by rw [HQL.out]; exact hlt)] at heq ⊢
        exact heq
      rw [heq] at dq
      have hstep := ldL_step J Q D m e he heq2
      have hb1 := ldL_bound hJ Q D m _ (get_mem (ldL J Q D m) e 0 (by rw [ldL_len]; exact he))
      have hb2 := job_ok hJ m
      obtain ⟨x, hx⟩ : ∃ x, x = J.getD m 0 := ⟨_, rfl⟩
      obtain ⟨y, hy⟩ : ∃ y, y = (ldL J Q D m).getD e 0 := ⟨_, rfl⟩
      obtain ⟨d0, d1, d2⟩ := own_int hown e he
      rw [← hx] at dj hb2
      rw [← hy] at d0 hb1
      rw [← hx, ← hy] at hstep
      have HST := Lib.hid hstep
      have HD2 := Lib.hid (d2 (y + x))
      have hgl := lt_of_cell d0
      clear heq heq1 heq2 hstep hx hy d2 hown
      go_wp2_with (fail)
      go_region
      all_goals (go_wp2_with (fail))
      all_goals go_roundw
      all_goals first | (simp [intOf]; omega) | skip
      all_goals exact ⟨m + 1, by omega, by go_num, by rw [HST.out]; exact HD2.out, gr_new (gr_drew hgr) hgg _⟩
    · obtain rfl : m = n := by omega
      go_wp2_with (fail)
      go_ret
      exact ⟨g, rfl, own_base hown (by omega), gr_trans hg1 hgr⟩
end Go.Proofs.Ytbgfflbddflokaa
