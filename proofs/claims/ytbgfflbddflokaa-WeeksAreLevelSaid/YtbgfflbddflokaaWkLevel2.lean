/- round.Level. -/
import Derived.Test.YtbgfflbddflokaaWkLevel
namespace Go.Proofs.Ytbgfflbddflokaa
open Go.RowKit

theorem own_mk0 {w : World} {g base n : Nat} (h : w.heap[g]? = some (.cells (madeCells #[Value.int .i64 0] n) 3 (0, 0))) (hb : base ≤ g) (hn : n ≤ 1000) : w.ownsRow base 3 1 (.slice (some ⟨g, 0, none⟩) n n) n (ints (List.replicate n 0)) := by
  have e1 : (madeCells #[Value.int .i64 0] n).toList = ints (List.replicate n 0) := by
    rw [toList_madeCells_one]; simp [ints]
  have e2 : (madeCells #[Value.int .i64 0] n).size = n := by rw [← Array.length_toList, e1]; simp [ints]
  refine ⟨by simp [ints], .inr ⟨g, n, _, rfl, hb, h, Nat.le_refl _, by unfold maxLen; omega, by omega, ?_⟩⟩
  rw [e1, List.take_of_length_le (by simp [ints])]
theorem heap_2 (w : World) (o1 o2 : Obj) : ((w.alloc o1).alloc o2).heap[w.heap.size]? = some o1 ∧ ((w.alloc o1).alloc o2).heap[w.heap.size + 1]? = some o2 := by
  refine ⟨by rw [heap_alloc_old (h := by simp)]; exact heap_alloc_new w o1, ?_⟩
  have := heap_alloc_new (w.alloc o1) o2
  simpa using this
def LevelPost (J : List Int) (D n : Nat) (w : World) (e : Ending) (w' : World) : Prop :=
  ∃ v b load, e = .returned (.tuple #[v, .int .i64 load, .int .i64 0]) ∧ w'.ownsRow w.heap.size 3 1 v n (ints b) ∧ DaysOk D n b ∧ IsTop (ldL J b D n) load ∧ (∀ Q M, DaysOk D n Q → IsTop (ldL J Q D n) M → load ≤ M) ∧ w.grownBy w' none

set_option maxRecDepth 100000 in
set_option maxHeartbeats 2000000 in
theorem level_any (n D : Nat) (ja : Option Addr) (J : List Int) (jc : Nat) (w : World) (hj : CellsAt w ja (ints J)) (hn : J.length = n) (hl : n ≤ 8) (hJ : JobsOk J) (h1 : 1 ≤ D) (h2 : D ≤ 7) :
    Calls Try.prog 45 #[.agg #[.slice ja n jc, .int .i64 D]] w (LevelPost J D n w) := by
  obtain ⟨w1, hw1⟩ : ∃ w1, w1 = w.alloc (.cells #[.slice ja n jc, .int .i64 D] 79) := ⟨_, rfl⟩
  have hg1 : w.grownBy w1 none := by rw [hw1]; exact gr_alloc (gr_refl w none) _
  have hP1 : w1.heap[w.heap.size]? = some (.cells #[.slice ja n jc, .int .i64 D] 79 (0, 0)) := by rw [hw1]; exact heap_alloc_new w _
  obtain ⟨b0, b1, _, _⟩ := blk2 hP1
  have hP := lt_of_block hP1
  have hbw := badWeek_zero (D := D) (J := J) (by omega) (by omega) (by omega) hJ
  have PL := Lib.hid (plan_any ja J jc D w1 (hj.keep0 hg1) (by omega))
  rw [hbw, hn] at PL
  have HN := Lib.hid hn
  clear hP1 hbw hn
  go_enter Try.func45, Try.ntmps45
  go_wp2_with (fail)
  rw [← hw1]
  clear hw1
  refine PL.out.mono ?_
  rintro e w2 ⟨rfl, hg2⟩
  have c0 := (gr_cell hg2 hP).trans b0
  have c1 := (gr_cell hg2 hP).trans b1
  have hP2 := lt_of_cell c0
  have hgr2 := gr_trans hg1 hg2
  have RM : ∀ w' : World, (Instr.makeSlice 22 (.int .i64 (D : Int)) (.int .i64 (D : Int))).run Try.prog w' = .ok (.slice (some ⟨w'.heap.size, 0, none⟩) D D) (w'.alloc (.cells (madeCells #[Value.int .i64 0] D) 3)) := fun w' =>
    run_make_row' 22 3 (.int .i64 0) 8 eInt.und eInt.info rfl .i64 .i64 D (by omega) (by omega) w'
  clear b0 b1 hP hg1 hg2
  go_wp2_with (fail)
  go_cut [6] from 16 to 21 (fun s wx => ∃ v gl, s = .pointer (some ⟨v, 0, none⟩) ∧ w2.heap.size ≤ v ∧ w2.heap.size ≤ gl ∧ wx.heap[v]? = some (.cells #[.slice ja n jc, .int .i64 D, .slice none 0 0, .slice (some ⟨gl, 0, none⟩) D D, .slice none 0 0, .int .i64 (-1)] 144 (0, 0)) ∧ wx.ownsRow w2.heap.size 3 1 (.slice (some ⟨gl, 0, none⟩) D D) D (ints (List.replicate D 0)) ∧ w2.grownBy wx none)
  case first =>
    go_region
    all_goals (go_wp2_with (fail))
    all_goals (try go_simp)
    all_goals go_meet
    all_goals
      refine ⟨_, _, rfl, by omega, Nat.le_refl _, (heap_2 w2 _ _).2, ?_, gr_drew (gr_alloc (gr_alloc (gr_refl w2 none) _) _)⟩
      exact own_keep0 (own_mk0 (heap_2 w2 _ _).1 (Nat.le_refl _) (by omega)) (gr_drew (gr_refl _ _))
  case rest =>
  obtain ⟨v, gl, rfl, hv, hgl, hb, hown, hgc⟩ := hcut
  have hG : GiveAt w2 wc v ja n jc D J [] (.slice none 0 0) gl (.slice none 0 0) [] (-1) := by
    refine ⟨hgc, hv, hb, World.ownsRow_nil _ _ _ _, ?_, World.ownsRow_nil _ _ _ _, by simp [Value.ownBlock], by simp [Value.ownBlock], fun g h => by simp [Value.ownBlock] at h⟩
    rw [show ([] : List Int).length = 0 from rfl, ldL_zero]
    exact hown
  have GV := Lib.hid (wkGive_any w2 v ja n jc D J gl (hj.keep0 hgr2) HN.out (by omega) hJ h1 h2 n wc [] (.slice none 0 0) (.slice none 0 0) [] (-1) 0 (by simp) (by simp) ⟨rfl, fun x hx => by cases hx⟩ hG (.inl rfl) (by rw [show ([] : List Int).length = 0 from rfl, ldL_zero]; exact topZ_zero D))
  clear hG hown hb hgc RM
  go_wp2_with (fail)
  refine GV.out.mono ?_
  rintro e w5 ⟨ds, bs, best, load, rfl, hG5, hlv⟩
  obtain ⟨hl0, hbd, htop, hleast⟩ := lv_all h1 hlv
  have hbo := hG5.best
  rw [hbd.len] at hbo
  obtain ⟨ba, bc, rfl, _, _, _, _⟩ := own_shape hbo
  obtain ⟨⟨_, _, _, _, k4, k5⟩, _⟩ := blk6 hG5.blk
  have hg5 := hG5.gr
  have HBD := Lib.hid hbd
  have HTOP := Lib.hid htop
  have HLE := Lib.hid hleast
  have HBO := Lib.hid hbo
  clear hlv hG5 hbd htop hleast hbo GV
  go_wp2_with (fail)
  go_quiet (fail)
  go_wp2_with (fail)
  go_ret3
  exact ⟨_, best, load, rfl, own_keep0 (own_base HBO.out hgr2.size) (gr_drewN (gr_refl _ _) _), HBD.out, HTOP.out, HLE.out, gr_drewN (gr_trans hgr2 hg5) _⟩
end Go.Proofs.Ytbgfflbddflokaa
