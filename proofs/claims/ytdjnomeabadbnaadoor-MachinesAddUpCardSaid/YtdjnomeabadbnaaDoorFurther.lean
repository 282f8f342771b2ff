/- vend.further: a row of payments with a further kind of coins. -/
import Derived.Test.YtdjnomeabadbnaaDoorQueueAt
import Derived.Test.YtdjnomeabadbnaaDoorPayPure
import Derived.Test.YtdjnomeabadbnaaDoorTableMake
import Derived.Test.YtdjnomeabadbnaaDoorTable
import Derived.Test.YtdjnomeabadbnaaDoorFloat
import Derived.Deep.CutRange
import Derived.Deep.DeepFit
namespace Go.Proofs.YtdjnomeabadbnaaDoor
open Go.RowKit

/-- The numbers of a residue r: what a further coin of the kind replaces. -/
def fr (before : List Int) (V r : Nat) (m : Nat) : Int := before.getD (r + m * V) 0 - m
def Good (before : List Int) (V C : Nat) (out : List Int) (a : Nat) : Prop :=
  ∃ s, s ≤ a / V ∧ a / V ≤ s + C ∧ out.getD a 0 = min (before.getD (a % V + s * V) 0 - s + (a / V : Nat)) 1073741824 ∧
    ∀ s', s' ≤ a / V → a / V ≤ s' + C → before.getD (a % V + s * V) 0 - s ≤ before.getD (a % V + s' * V) 0 - s'
theorem good_set {before : List Int} {V C : Nat} {out : List Int} {a b : Nat} {x : Int} (h : Good before V C out a) (hb : b < out.length) (hne : a ≠ b) : Good before V C (out.set b x) a := by
  obtain ⟨s, h1, h2, h3, h4⟩ := h
  exact ⟨s, h1, h2, by rw [getD_set _ _ _ _ hb, if_neg (by omega)]; exact h3, h4⟩
/-- The place that is written: r + m * V. -/
theorem good_new {before : List Int} {V C r m A : Nat} {out : List Int} {e : Nat × Int} {Q : List (Nat × Int)} (hV : 1 ≤ V) (hr : r < V) (hA : A = r + m * V) (hq : QOk (fr before V r) C m (e :: Q)) (ho : A < out.length) :
    Good before V C (out.set A (min (e.2 + m) 1073741824)) A := by
  have hd : A / V = m := by rw [hA, Nat.add_mul_div_right _ _ (by omega), Nat.div_eq_of_lt hr]; omega
  have hm : A % V = r := by rw [hA, Nat.add_mul_mod_self_right, Nat.mod_eq_of_lt hr]
  obtain ⟨⟨h1, h2, h3⟩, h4⟩ := hq.least
  refine ⟨e.1, by rw [hd]; exact h1, by rw [hd]; exact h2, ?_, ?_⟩
  · rw [getD_set _ _ _ _ ho, if_pos rfl, hd, hm, h3, fr]
  · intro s' h5 h6
    rw [hd] at h5 h6
    have := h4 s' h5 h6
    rw [h3] at this
    rw [hm]
    exact this
theorem fr_bound {before : List Int} {V r m A s : Nat} (hb : ∀ i, i < before.length → 0 ≤ before.getD i 0 ∧ before.getD i 0 ≤ 1073741824) (hA : A = r + m * V) (hlt : A < before.length) (hl : before.length ≤ 20001) (hm : m ≤ A) (hs : s ≤ m) :
    -20001 ≤ fr before V r s ∧ fr before V r s ≤ 1073741824 := by
  have := Nat.mul_le_mul_right V hs
  have := hb (r + s * V) (by omega)
  unfold fr
  omega
theorem gr_new_of {a w w1 : World} {p : Nat} {r : Option Nat} (h : a.grownBy w r) (g : w.grownBy w1 (some p)) (hp : a.heap.size ≤ p) : a.grownBy w1 r := gr_grown h g (fun k hk => by cases hk; exact hp)
theorem place_eq {V r m A : Nat} (hV : 1 ≤ V) (hr : r < V) (hA : A = r + m * V) : A / V = m ∧ A % V = r := by
  constructor
  · rw [hA, Nat.add_mul_div_right _ _ (by omega), Nat.div_eq_of_lt hr]; omega
  · rw [hA, Nat.add_mul_mod_self_right, Nat.mod_eq_of_lt hr]
theorem place_of {V r m a : Nat} (h : a % V = r) (hm : a / V = m) : a = r + m * V := by
  have := Nat.div_add_mod a V
  rw [h, hm, Nat.mul_comm] at this; omega
def sliceLen : Value → Nat | .slice _ n _ => n | _ => 0
def FurtherPost (before : List Int) (V C : Nat) (w : World) (e : Ending) (w' : World) : Prop :=
  ∃ v out, e = .returned v ∧ w'.ownsRow w.heap.size 3 1 v before.length (ints out) ∧ w.grownBy w' none ∧ StepOk V C before.length before out

set_option maxRecDepth 100000 in
set_option maxHeartbeats 4000000 in
theorem further_any (before : List Int) (V C : Nat) (M : Int) (a : Option Addr) (c : Nat) (w : World) (hc : CellsAt w a (ints before)) (hl : before.length ≤ 20001) (hb : ∀ i, i < before.length → 0 ≤ before.getD i 0 ∧ before.getD i 0 ≤ 1073741824)
    (hV1 : 1 ≤ V) (hV2 : V ≤ 10000) (hC : C ≤ 1000) :
    Calls Tryd.prog 174 #[.slice a before.length c, .agg #[.int .i64 V, .int .i64 C, .int .i64 M]] w (FurtherPost before V C w) := by
  go_enter Tryd.func174, Tryd.ntmps174
  go_wp2_with (at_make; refine wpList_mk _ eInt rfl _ _ rfl (w.heap.size + 1) _ before.length rfl rfl rfl ?_ ?_ ?_; (· omega); (· simp); intro w2 hown2 hg2)
  have hgr2 := gr_trans (gr_alloc (gr_refl w none) (.cells #[.int .i64 V, .int .i64 C, .int .i64 M] 41)) hg2
  have tc : ∀ j v, j < 3 → (#[.int .i64 V, .int .i64 C, .int .i64 M] : Array Value)[j]? = some v → w2.cell? ⟨w.heap.size, j, none⟩ = some v := fun j v hj hv => made_cell hg2 j hv
  have t0 := tc 0 (.int .i64 V) (by omega) rfl
  have t1 := tc 1 (.int .i64 C) (by omega) rfl
  have hsz := hg2.size
  simp at hsz
  clear tc hg2
  have hown2' : w2.ownsRow (w.heap.size + 1) 3 1 (.slice (some ⟨w.heap.size + 1, 0, none⟩) before.length before.length) before.length (ints (List.replicate before.length 0)) := by simpa using hown2
  clear hown2
  have hown2 := hown2'
  clear hown2'
  have hol := own_len hown2
  have hsz2 := (hown2.lt (w.heap.size + 1) rfl).2
  have HB := Lib.hid hb
  have HOL := Lib.hid hol
  clear hb hol
  go_loopw [6] (fun i wr => ∃ (r : Nat) (f : List Int), r ≤ before.length ∧ i = .int .i64 r ∧ wr.ownsRow (w.heap.size + 1) 3 1 (.slice (some ⟨w.heap.size + 1, 0, none⟩) before.length before.length) before.length (ints f) ∧ w2.grownBy wr (some (w.heap.size + 1)) ∧ w.grownBy wr none ∧ (∀ a, a < before.length → a % V < r → Good before V C f a))
    (fun i _ => before.length - (intOf i).toNat)
  case atStart => exact ⟨0, _, Nat.zero_le _, rfl, hown2, gr_refl _ _, hgr2, fun a _ h => absurd h (Nat.not_lt_zero _)⟩
  case round =>
    obtain ⟨r, f, hr, rfl, hown, hgo, hgr, hgood⟩ := hrel
    obtain ⟨wo, rfl⟩ : ∃ wo : World, wo = wr := ⟨_, rfl⟩
    have HG := Lib.hid hgood
    clear hgood
    have t0' := (gr_cellS hgo (b := w.heap.size) (o := 0) (by omega) (by omega)).trans t0
    by_cases hrV : r < V
    · by_cases hrn : r < before.length
      · have b1 : decide (r < V) = true := by simpa using hrV
        have b2 : decide (r < before.length) = true := by simpa using hrn
        go_wp2_with (fail)
        go_loopw [7, 8, 9] (fun q s i wr => ∃ (m A : Nat) (f' : List Int) (Q : List (Nat × Int)), A = r + m * V ∧ m ≤ A ∧ A ≤ before.length + V ∧ s = .int .i64 m ∧ i = .int .i64 A ∧ wr.ownsRow (w.heap.size + 1) 3 1 (.slice (some ⟨w.heap.size + 1, 0, none⟩) before.length before.length) before.length (ints f') ∧ w2.grownBy wr (some (w.heap.size + 1)) ∧ w.grownBy wr none ∧
          QueueAt wr w2.heap.size q Q ∧ Q.length ≤ m ∧ QPop (fr before V r) C m Q ∧ (∀ a, a < before.length → a % V < r → Good before V C f' a) ∧ (∀ a, a < before.length → a % V = r → a / V < m → Good before V C f' a)) (fun _ _ i _ => before.length - (intOf i).toNat)
        case atStart => exact ⟨0, r, f, [], by omega, by omega, by omega, rfl, rfl, hown, hgo, hgr, queue_nil _ _, Nat.le_refl _, QPop.start _ _, HG.out, fun a _ _ h => absurd h (Nat.not_lt_zero _)⟩
        case round =>
          obtain ⟨m, A, f', Q, hA, hmA, hA2, rfl, rfl, hown', hgo', hgr', hq, hqm0, hpop, hgood, hdone⟩ := hrel
          obtain ⟨wi, rfl⟩ : ∃ wi : World, wi = wr := ⟨_, rfl⟩
          have HA := Lib.hid hA
          have HPOP := Lib.hid hpop
          have HGO := Lib.hid hgood
          have HDO := Lib.hid hdone
          clear hA hpop hgood hdone
          have t0' := (gr_cellS hgo' (b := w.heap.size) (o := 0) (by omega) (by omega)).trans t0
          have t1' := (gr_cellS hgo' (b := w.heap.size) (o := 1) (by omega) (by omega)).trans t1
          by_cases hlt : A < before.length
          · obtain ⟨_, _, rfl, hcb⟩ := (hc.keep0 hgr') A _ (ints_get before A hlt)
            obtain ⟨x, hx⟩ : ∃ x, x = before.getD A 0 := ⟨_, rfl⟩
            have hbx := HB.out A hlt
            rw [← hx] at hbx hcb
            obtain ⟨hx0, hx1⟩ := hbx
            have HX := Lib.hid hx
            clear hx
            obtain ⟨y, hy⟩ : ∃ y, y = x - m := ⟨_, rfl⟩
            have hfm : fr before V r m = y := by unfold fr; rw [← HA.out, ← HX.out, hy]
            have HF := Lib.hid hfm
            clear hfm
            obtain ⟨qa, qc, rfl, hqc, hqm⟩ := hq.shape
            go_wp2_with (fail)
            rw [← hy]
            have HY := Lib.hid hy
            have hy1 : -20001 ≤ y := by omega
            have hy2 : y ≤ 1073741824 := by omega
            clear hy
            go_loop [7] (fun q => ∃ (Q : List (Nat × Int)), QueueAt wi w2.heap.size q Q ∧ Q.length ≤ m ∧ QPop (fr before V r) C m Q) (fun q => sliceLen q)
            case atStart => exact ⟨Q, hq, hqm0, HPOP.out⟩
            case round =>
              obtain ⟨Q', hq', hqm1, hpop'⟩ := hrel
              clear hq hqm0 hqc hqm
              have HPOP' := Lib.hid hpop'
              clear hpop'
              have hcut : (Q' = [] ∨ ∃ R e, Q' = R ++ [e] ∧ e.2 < y) ∨ ∃ R e, Q' = R ++ [e] ∧ y ≤ e.2 := by
                rcases queue_cut Q' with h | ⟨R, e, h⟩
                · exact .inl (.inl h)
                · rcases Int.lt_or_le e.2 y with h2 | h2
                  · exact .inl (.inr ⟨R, e, h, h2⟩)
                  · exact .inr ⟨R, e, h, h2⟩
              rcases hcut with hex | ⟨R, e, rfl, hyz⟩
              · have hll : ∀ e ∈ Q', e.2 < fr before V r m := by
                  rw [HF.out]
                  rcases hex with h | ⟨R, e, h, h2⟩
                  · rw [h]; intro e he; simp at he
                  · rw [h]
                    intro x hx
                    have hup := HPOP'.out.up
                    rw [h] at hup
                    rcases List.mem_append.1 hx with hx | hx
                    · have := (List.pairwise_append.1 hup).2.2 x hx e (by simp)
                      omega
                    · simp only [List.mem_cons, List.not_mem_nil, or_false] at hx
                      rw [hx]; exact h2
                have hpush := HPOP'.out.push hll
                rw [HF.out] at hpush
                have HPUSH := Lib.hid hpush
                clear hpush hll HPOP HPOP' hc
                have harm : ∃ a0 n0 c0, u7 = .slice a0 n0 c0 ∧ QueueAt wi w2.heap.size (.slice a0 n0 c0) Q' ∧ (n0 = 0 ∨ ∃ g off m1 z, a0 = some ⟨g, off, none⟩ ∧ n0 = m1 + 1 ∧ m1 + 1 ≤ c0 ∧ wi.cell? ⟨g, off + m1 * 2 + 1, none⟩ = some (.int .i64 z) ∧ z < y ∧ m1 + 1 ≤ m) := by
                  rcases hex with h | ⟨R, e, h, h2⟩
                  · obtain ⟨qa, qc, rfl, hqc, hqm⟩ := hq'.shape
                    exact ⟨qa, _, qc, rfl, hq', .inl (by rw [h]; rfl)⟩
                  · have h3 := hq'
                    rw [h] at h3
                    obtain ⟨qg, qo, qk, rfl, hqb, hqw, hqk, hqkm, hlast, hqpop⟩ := queue_last h3
                    exact ⟨_, _, qk, rfl, hq', .inr ⟨qg, qo, R.length, e.2, rfl, rfl, hqk, hlast, h2, by rw [h] at hqm1; simpa using hqm1⟩⟩
                clear hq' hex
                obtain ⟨a0, n0, c0, rfl, hq0, hshape⟩ := harm
                rcases hshape with rfl | ⟨g0, o0, m1, z, rfl, rfl, hk1, hlast, hzy, hm1m⟩
                all_goals
                  go_wp2_with (at_builtin; refine wpList_qpush rfl _ _ rfl w2.heap.size _ Q' (m, y) rfl wi rfl hq0 rfl ?_ ?_ ?_; (· omega); (· have := hgo'.size; omega); intro v3 w3 hq3 hg3 hv3)
                  go_wp2_with (fail)
                all_goals
                  obtain ⟨e, R2, hR2⟩ : ∃ e R2, Q' ++ [(m, y)] = e :: R2 := by
                    cases Q' with
                    | nil => exact ⟨_, _, rfl⟩
                    | cons q Q' => exact ⟨_, _, rfl⟩
                  have hRl : R2.length ≤ m := by
                    have := congrArg List.length hR2
                    simp at this; omega
                  have hp := HPUSH.out
                  rw [hR2] at hp hq3
                  obtain ⟨hup, hmem, hcov⟩ := hp
                  have hfront := q_front hup hmem hcov
                  have hme := hmem e (by simp)
                  have hfb := fr_bound HB.out HA.out hlt hl hmA hme.1
                  rw [← hme.2.2] at hfb
                  obtain ⟨hfb1, hfb2⟩ := hfb
                  have HF2 := Lib.hid hfront
                  have hem := hme.1
                  clear hup hmem hcov hfront hme hR2 HPUSH
                  have hown3 := own_keep hown' hg3 (.inr (fun h => by have := hv3 (w.heap.size + 1) h.symm; omega))
                  have hgo3 := gr_grown hgo' hg3 hv3
                  have hgr3 := gr_grown hgr' hg3 (fun k hk => by have := hv3 k hk; omega)
                  obtain ⟨g3, o3, c3, rfl, hgb, hgw, hR2c, hc3, ce1, ce2, hqt⟩ := queue_head hq3
                  have t1'' := (gr_cellS hgo3 (b := w.heap.size) (o := 1) (by omega) (by omega)).trans t1
                  have t0'' := (gr_cellS hgo3 (b := w.heap.size) (o := 0) (by omega) (by omega)).trans t0
                  obtain ⟨e1, he1⟩ : ∃ e1, e1 = e.1 := ⟨_, rfl⟩
                  obtain ⟨e2, he2⟩ : ∃ e2, e2 = e.2 := ⟨_, rfl⟩
                  rw [← he1] at ce1 hem
                  rw [← he2] at ce2 hfb1 hfb2
                  have HE1 := Lib.hid he1
                  have HE2 := Lib.hid he2
                  have HQT := Lib.hid hqt
                  have HQ3 := Lib.hid hq3
                  clear he1 he2 hqt hq3 hv3 hg3 hown' hgo' hgr' t0' t1' hq0
                  by_cases hfr : e1 + C < m
                  · have hok := HF2.out.1 (by rw [← HE1.out]; exact hfr)
                    have hfi : (e1 : Int) < (m : Int) - C := by omega
                    obtain ⟨e', R3, hR3⟩ : ∃ e' R3, R2 = e' :: R3 := by
                      cases R2 with
                      | nil => exact absurd rfl hok.some
                      | cons q Q' => exact ⟨_, _, rfl⟩
                    obtain ⟨_, cf2⟩ := queue_first HQT.out hR3
                    have hR2p : 0 < R2.length := by rw [hR3]; simp
                    have hgd := hok
                    rw [hR3] at hgd
                    have hme := hgd.least.1
                    have hfb := fr_bound HB.out HA.out hlt hl hmA hme.1
                    rw [← hme.2.2] at hfb
                    obtain ⟨hfb3, hfb4⟩ := hfb
                    have hnew := good_new (out := f') hV1 hrV HA.out hgd (by rw [own_len hown3]; exact hlt)
                    obtain ⟨n2, hn2⟩ : ∃ n2, n2 = e'.2 := ⟨_, rfl⟩
                    rw [← hn2] at cf2 hfb3 hfb4 hnew
                    have HNEW := Lib.hid hnew
                    have HOK := Lib.hid hok
                    have hc1 : c3 ≠ 1 := by omega
                    obtain ⟨d0, d1, d2⟩ := own_int hown3 A hlt
                    have HD2 := Lib.hid (d2 (min (n2 + m) 1073741824))
                    clear hnew hgd hme hR3 hn2 hok d2
                    go_quiet (fail)
                    go_wp2_with (fail)
                    all_goals (try go_quiet (fail))
                    all_goals (try go_wp2_with (fail))
                    all_goals (first | rw [show min (n2 + (m : Int)) 1073741824 = 1073741824 by omega] at HD2 HNEW | rw [show min (n2 + (m : Int)) 1073741824 = n2 + (m : Int) by omega] at HD2 HNEW)
                    all_goals go_roundw
                    all_goals first | (simp [intOf]; omega) | skip
                    all_goals
                      refine ⟨m + 1, A + V, f'.set A _, R2, ?_, by omega, by omega, by go_num, by go_num, own_of_heap HD2.out rfl, gr_drewN (gr_set (gr_drewN hgo3 _) rfl _) _, gr_drewN (gr_new (gr_drewN hgr3 _) (by simp) _) _, HQT.out.keepS (gr_drewN (gr_set (gr_drewN (gr_refl w3 (some (w.heap.size + 1))) _) rfl _) _) hsz2, (by first | omega | (simp; omega)), HOK.out.next, ?_, ?_⟩
                      · rw [HA.out, Nat.add_mul]; omega
                      · intro a ha hm
                        refine good_set (HGO.out a ha hm) (by rw [own_len hown3]; exact hlt) ?_
                        intro e
                        have := place_eq hV1 hrV HA.out
                        rw [e] at hm
                        omega
                      · intro a ha hm hd
                        by_cases e : a = A
                        · rw [e]; exact HNEW.out
                        · refine good_set (HDO.out a ha hm ?_) (by rw [own_len hown3]; exact hlt) e
                          have h1 := place_of hm rfl
                          have h2 := HA.out
                          refine Nat.lt_of_le_of_ne (by omega) fun h3 => e ?_
                          rw [h1, h3, h2]
                  · have hok := HF2.out.2 (by rw [← HE1.out]; exact hfr)
                    have hfi : ¬ (e1 : Int) < (m : Int) - C := by omega
                    have hnew := good_new (out := f') hV1 hrV HA.out hok (by rw [own_len hown3]; exact hlt)
                    rw [← HE2.out] at hnew
                    have HNEW := Lib.hid hnew
                    have HOK := Lib.hid hok
                    obtain ⟨d0, d1, d2⟩ := own_int hown3 A hlt
                    have HD2 := Lib.hid (d2 (min (e2 + m) 1073741824))
                    clear hnew hok d2
                    go_quiet (fail)
                    go_wp2_with (fail)
                    all_goals (try go_quiet (fail))
                    all_goals (try go_wp2_with (fail))
                    all_goals (first | rw [show min (e2 + (m : Int)) 1073741824 = 1073741824 by omega] at HD2 HNEW | rw [show min (e2 + (m : Int)) 1073741824 = e2 + (m : Int) by omega] at HD2 HNEW)
                    all_goals go_roundw
                    all_goals first | (simp [intOf]; omega) | skip
                    all_goals
                      refine ⟨m + 1, A + V, f'.set A _, e :: R2, ?_, by omega, by omega, by go_num, by go_num, own_of_heap HD2.out rfl, gr_drewN (gr_set (gr_drewN hgo3 _) rfl _) _, gr_drewN (gr_new (gr_drewN hgr3 _) (by simp) _) _, HQ3.out.keepS (gr_drewN (gr_set (gr_drewN (gr_refl w3 (some (w.heap.size + 1))) _) rfl _) _) hsz2, (by first | omega | (simp; omega)), HOK.out.next, ?_, ?_⟩
                      · rw [HA.out, Nat.add_mul]; omega
                      · intro a ha hm
                        refine good_set (HGO.out a ha hm) (by rw [own_len hown3]; exact hlt) ?_
                        intro e
                        have := place_eq hV1 hrV HA.out
                        rw [e] at hm
                        omega
                      · intro a ha hm hd
                        by_cases e : a = A
                        · rw [e]; exact HNEW.out
                        · refine good_set (HDO.out a ha hm ?_) (by rw [own_len hown3]; exact hlt) e
                          have h1 := place_of hm rfl
                          have h2 := HA.out
                          refine Nat.lt_of_le_of_ne (by omega) fun h3 => e ?_
                          rw [h1, h3, h2]
              · obtain ⟨qg, qo, qk, rfl, hqb, hqw, hqk, hqkm, hlast, hqpop⟩ := queue_last hq'
                obtain ⟨z, hz⟩ : ∃ z, z = e.2 := ⟨_, rfl⟩
                rw [← hz] at hlast hyz
                have HZ := Lib.hid hz
                have HQP := Lib.hid hqpop
                have hR : R.length + 1 ≤ m := by simpa using hqm1
                clear hq' hz hqm1 hqpop
                obtain ⟨m1, hm1⟩ : ∃ m1, m1 = R.length := ⟨_, rfl⟩
                rw [← hm1] at hlast hqk hR
                rw [← hm1]
                have HM1 := Lib.hid hm1
                clear hm1
                go_wp2_with (fail)
                go_round
                case rel => exact ⟨R, by rw [HM1.out]; exact HQP.out, by rw [← HM1.out]; omega, HPOP'.out.pop (by rw [HF.out, ← HZ.out]; exact hyz)⟩
                case measure => simp [sliceLen]
          · go_wp2_with (fail)
            go_roundw
            case rel =>
              refine ⟨r + 1, f', by omega, by go_num, hown', hgo', hgr', fun a ha hm => ?_⟩
              by_cases e : a % V < r
              · exact HGO.out a ha e
              · have e2 : a % V = r := by omega
                refine HDO.out a ha e2 ?_
                have h1 := place_of e2 rfl
                have h2 := HA.out
                refine Nat.lt_of_not_le fun h3 => ?_
                have := Nat.mul_le_mul_right V h3
                omega
            case measure => simp [intOf]; omega
      · go_wp2_with (fail)
        go_ret
        refine ⟨_, f, rfl, own_base hown (by omega), hgr, fun a ha => HG.out a ha ?_⟩
        have := Nat.mod_le a V
        omega
    · go_wp2_with (fail)
      go_ret
      refine ⟨_, f, rfl, own_base hown (by omega), hgr, fun a ha => HG.out a ha ?_⟩
      have := Nat.mod_lt a (show 0 < V by omega)
      omega
end Go.Proofs.YtdjnomeabadbnaaDoor
