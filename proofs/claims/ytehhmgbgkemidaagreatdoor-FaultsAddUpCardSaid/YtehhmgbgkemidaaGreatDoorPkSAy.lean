/- What is wrong with rules: the document's answer, and the program's. -/
import Derived.Test.YtehhmgbgkemidaaGreatDoorPkSAw
import Derived.Test.YtehhmgbgkemidaaGreatDoorPkSAx
import Derived.Test.YtehhmgbgkemidaaGreatDoorPkSAg
import Derived.Test.YtehhmgbgkemidaaGreatDoorPkSAn
import Derived.Test.YtehhmgbgkemidaaGreatDoorPkSAe
import Derived.Deep.DeepCutAuto
import Derived.Deep.DrawnRows
namespace Go.Proofs.YtehhmgbgkemidaaGreatDoor
open Go.RowKit
attribute [local go_sem ↓] Go.wp_at_zero Go.wp_at_succ

/-- Rules where they are read: a slice that is nil has no room. -/
def RlV (w : World) (o : Rl) (c : List Value) : Prop :=
  ∃ a1 c1 a2 c2, c = [.string o.fault, .slice a1 o.needs.length c1, .slice a2 o.without.length c2, .int .i64 o.long] ∧ CellsAt w a1 (strs o.needs) ∧ CellsAt w a2 (strs o.without) ∧ (a1 = none → c1 = 0) ∧ (a2 = none → c2 = 0) ∧ o.needs.length ≤ c1
theorem RlV.keep0 {w w1 : World} (g : w.grownBy w1 none) (o : Rl) (c : List Value) (h : RlV w o c) : RlV w1 o c := by
  obtain ⟨a1, c1, a2, c2, rfl, h1, h2, h3⟩ := h
  exact ⟨a1, c1, a2, c2, rfl, h1.keep0 g, h2.keep0 g, h3⟩
theorem RlR.view {base : Nat} {w : World} {o : Rl} {c : List Value} (h : RlR base w o c) : RlV w o c := by
  obtain ⟨v1, v2, rfl, h1, h2⟩ := h
  obtain ⟨a1, c1, rfl, hn, -, hc1, -⟩ := own_shape h1
  obtain ⟨a2, c2, rfl, -, -, hc2, -⟩ := own_shape h2
  exact ⟨a1, c1, a2, c2, rfl, hc1, hc2, fun e => (own_nil h1 e).2, fun e => (own_nil h2 e).2, hn⟩
abbrev RlsAt (w : World) (a : Option Addr) (N : List Rl) : Prop := NestAt RlV w 4 a N
theorem RlsAt.keep0 {w w1 : World} {a : Option Addr} {N : List Rl} (h : RlsAt w a N) (g : w.grownBy w1 none) : RlsAt w1 a N := NestAt.keep0 h g (fun _ _ h => h.keep0 g)
theorem rls_view {w : World} {base : Nat} {v : Value} {N : List Rl} (h : OwnNest (RlR base) w base 46 4 v N) : ∃ a c, v = .slice a N.length c ∧ RlsAt w a N := by
  obtain ⟨a, c, rfl, -, -, h2, -⟩ := h.shape
  refine ⟨a, c, rfl, ⟨fun i x hx => ?_⟩⟩
  obtain ⟨b, off, cs, e, hl, hR, hu⟩ := h2.ex i x hx
  exact ⟨b, off, cs, e, hl, hR.view, hu⟩
/-- A rule's cells, spelt out. -/
theorem rl_cells {w : World} {a : Option Addr} {N : List Rl} (h : RlsAt w a N) (k : Nat) (hk : k < N.length) : ∃ b off a1 c1 a2 c2, a = some ⟨b, off, none⟩ ∧ w.cell? ⟨b, off + k * 4, none⟩ = some (.string N[k].fault) ∧ w.cell? ⟨b, off + k * 4 + 1, none⟩ = some (.slice a1 N[k].needs.length c1) ∧ w.cell? ⟨b, off + k * 4 + 2, none⟩ = some (.slice a2 N[k].without.length c2) ∧ w.cell? ⟨b, off + k * 4 + 3, none⟩ = some (.int .i64 N[k].long) ∧ CellsAt w a1 (strs N[k].needs) ∧ CellsAt w a2 (strs N[k].without) ∧ (a1 = none → c1 = 0) ∧ (a2 = none → c2 = 0) ∧ N[k].needs.length ≤ c1 := by
  obtain ⟨b, off, c, e, hl, ⟨a1, c1, a2, c2, rfl, h1, h2, h3, h4, h5⟩, hu⟩ := NestAt.at h k hk
  exact ⟨b, off, a1, c1, a2, c2, e, hu 0 _ rfl, hu 1 _ rfl, hu 2 _ rfl, hu 3 _ rfl, h1, h2, h3, h4, h5⟩
theorem flatStr (X : List ByteArray) : flat (fun s => [Value.string s]) X = strs X := by
  induction X with
  | nil => rfl
  | cons x X ih =>
    have e : flat (fun s => [Value.string s]) (x :: X) = Value.string x :: flat (fun s => [Value.string s]) X := by simp [flat]
    rw [e, ih]
    simp [strs]
structure RlOk (x : Rl) : Prop where
  fault : keyB x.fault = true
  n0 : 0 < x.needs.length
  n1 : x.needs.length ≤ 10
  w1 : x.without.length ≤ 10
  needs : ∀ s ∈ x.needs, keyB s = true
  without : ∀ s ∈ x.without, keyB s = true
  l0 : 1 ≤ x.long
  l1 : x.long ≤ 5761440
def RlsOk (N : List Rl) : Prop := ∀ j (hj : j < N.length), RlOk N[j]
def oddK (s : ByteArray) : Bool := !keyB s
theorem rulesF1_fn : ∀ (args : Array Value) (w : World), (callFunc 56 args).run Tryz.prog w = .ok (.enter 56 args) w := fun _ _ => by kernel_rfl
theorem rulesC1_fn : ∀ (args : Array Value) (w : World), (callFunc 119 args).run Tryz.prog w = .ok (.enter 119 args) w := fun _ _ => by kernel_rfl
theorem rulesF1_any (s : ByteArray) (hs : s.size ≤ 100) (w : World) : Calls Tryz.prog 56 #[.string s] w fun e w' => e = .returned (.bool (oddK s)) ∧ w.grownBy w' none := by
  go_enter Tryz.func56, Tryz.ntmps56
  go_wp2_with (fail)
  refine (keyOf_any s w (by omega)).mono ?_
  rintro e w1 ⟨rfl, g⟩
  go_wp2_with (fail)
  go_ret
  exact ⟨rfl, g⟩
theorem rulesC1_any (s : ByteArray) (hs : s.size ≤ 100) (w : World) : Calls Tryz.prog 119 #[.string s] w fun e w' => e = .returned (.bool (oddK s)) ∧ w.grownBy w' none := by
  go_enter Tryz.func119, Tryz.ntmps119
  go_wp2_with (fail)
  refine (key_any s w (by omega)).mono ?_
  rintro e w1 ⟨rfl, rfl⟩
  go_wp2_with (fail)
  go_ret
  exact ⟨rfl, gr_refl _ _⟩
theorem odd_all {N : List ByteArray} (h : N.any oddK = false) : ∀ s ∈ N, keyB s = true := fun s hs => by
  have := List.any_eq_false.1 h s hs
  unfold oddK at this
  simpa using this
theorem all_odd {N : List ByteArray} (h : ∀ s ∈ N, keyB s = true) : N.any oddK = false := List.any_eq_false.2 (fun s hs => by unfold oddK; rw [h s hs]; simp)
set_option maxRecDepth 100000 in
set_option maxHeartbeats 2000000 in
theorem rulesFault_any (N : List Rl) (a : Option Addr) (c : Nat) (w : World) (h : RlsAt w a N) (hsm : ∀ x ∈ N, RlSm x) (hl : N.length ≤ 3) :
    Calls Tryz.prog 9 #[.slice a N.length c] w fun e w' => ∃ r : Int, e = .returned (.int .i64 r) ∧ (r = 0 → RlsOk N) ∧ w.grownBy w' none := by
  have H := Lib.hid h
  have HSM := Lib.hid hsm
  clear h hsm
  go_enter Tryz.func9, Tryz.ntmps9
  go_wp2_with (fail)
  go_loopw [10] (fun i wr => ∃ k : Nat, k ≤ N.length ∧ i = .int .i64 k ∧ (∀ j (hj : j < N.length), j < k → RlOk N[j]) ∧ w.grownBy wr none) (fun i _ => N.length - (intOf i).toNat)
  case atStart => exact ⟨0, Nat.zero_le _, rfl, fun j _ h => absurd h (Nat.not_lt_zero _), gr_refl _ _⟩
  case round =>
    obtain ⟨k, hk, rfl, hok, hgr⟩ := hrel
    obtain ⟨wo, rfl⟩ : ∃ wo : World, wo = wr := ⟨_, rfl⟩
    by_cases hlt : k < N.length
    · obtain ⟨b, off, a1, c1, a2, c2, rfl, d0, d1, d2, d3, hA, hB, n1, n2, -⟩ := rl_cells (H.out.keep0 hgr) k hlt
      obtain ⟨hs1, ⟨hs2, hs3⟩, ⟨hs4, hs5⟩, hs6, hs7⟩ := HSM.out _ (List.getElem_mem hlt)
      have MK : Hid (RlOk N[k] → ∀ j (hj : j < N.length), j < k + 1 → RlOk N[j]) := fun h1 j hj hjk => by
        by_cases e : j = k
        · subst e; exact h1
        · exact hok j hj (by omega)
      obtain ⟨x, hx⟩ : ∃ x, x = N[k] := ⟨_, rfl⟩
      rw [← hx] at d0 d1 d2 d3 hA hB hs1 hs2 hs3 hs4 hs5 hs6 hs7 MK
      obtain ⟨F, A, B, L⟩ := x
      simp only at d0 d1 d2 d3 hA hB hs1 hs2 hs3 hs4 hs5 hs6 hs7
      have HGR := Lib.hid hgr
      have hV := heap_alloc_new wo (.cells #[.string F, .slice a1 A.length c1, .slice a2 B.length c2, .int .i64 L] 46)
      have hg2 := gr_alloc (gr_refl wo none) (.cells #[.string F, .slice a1 A.length c1, .slice a2 B.length c2, .int .i64 L] 46)
      obtain ⟨w2, hw2⟩ : ∃ w2, w2 = wo.alloc (.cells #[.string F, .slice a1 A.length c1, .slice a2 B.length c2, .int .i64 L] 46) := ⟨_, rfl⟩
      rw [← hw2] at hV hg2
      obtain ⟨V, hVe⟩ : ∃ V, V = wo.heap.size := ⟨_, rfl⟩
      rw [← hVe] at hV
      have HV := Lib.hid hV
      have HG2 := Lib.hid hg2
      have HW2 := Lib.hid hw2
      have HVE := Lib.hid hVe
      have HA2 := Lib.hid (hA.keep0 hg2)
      have HB2 := Lib.hid (hB.keep0 hg2)
      have HS3 := Lib.hid hs3
      have HS5 := Lib.hid hs5
      have N1 := Lib.hid n1
      have N2 := Lib.hid n2
      clear hx hok hgr hV hg2 hw2 hVe hA hB hs3 hs5 n1 n2
      go_upto_region 6 with (fail)
      rw [← HW2.out, ← HVE.out]
      clear d0 d1 d2 d3
      have v0 : w2.cell? ⟨V, 0, none⟩ = some (.string F) := blkC HV.out 0 rfl
      go_wp2_with (fail)
      refine (keyOf_any F w2 (by omega)).mono ?_
      rintro e w4 ⟨rfl, g4⟩
      have HV4 := Lib.hid ((g4.block _ (lt_of_block HV.out) (by simp)).trans HV.out)
      have HG4 := Lib.hid (gr_trans HG2.out g4)
      have HA4 := Lib.hid (HA2.out.keep0 g4)
      have HB4 := Lib.hid (HB2.out.keep0 g4)
      clear v0 g4 HA2 HB2
      cases hk1 : keyB F with
      | false =>
        go_wp2_with (fail)
        go_ret
        exact ⟨5, rfl, (fun e => by cases e), gr_trans HGR.out HG4.out⟩
      | true =>
        have v1 : w4.cell? ⟨V, 1, none⟩ = some (.slice a1 A.length c1) := blkC HV4.out 1 rfl
        have v2 : w4.cell? ⟨V, 2, none⟩ = some (.slice a2 B.length c2) := blkC HV4.out 2 rfl
        have v3 : w4.cell? ⟨V, 3, none⟩ = some (.int .i64 L) := blkC HV4.out 3 rfl
        have HK1 := Lib.hid hk1
        clear hk1
        by_cases hA0 : A.length = 0
        · go_wp2_with (fail)
          go_ret
          exact ⟨8, rfl, (fun e => by cases e), gr_trans HGR.out HG4.out⟩
        · go_wp2_with (fail)
          have g5 := gr_alloc (gr_refl w4 none) (.cells #[.slice a1 A.length c1, .slice a2 B.length c2] 34)
          have h5 := heap_alloc_new w4 (.cells #[.slice a1 A.length c1, .slice a2 B.length c2] 34)
          refine (concatStr A B w4.heap.size 2 a1 a2 c1 c2 _ (blkC h5 0 rfl) (blkC h5 1 rfl) (HA4.out.keep0 g5) (HB4.out.keep0 g5) N1.out N2.out (by omega) (by omega)).mono ?_
          rintro e w6 ⟨v6, rfl, o6, g6⟩
          obtain ⟨a6, c6, rfl, -, -, hc6, -⟩ := own_shape o6
          have HG6 := Lib.hid (gr_trans (gr_trans HG4.out g5) g6)
          have hV6 := ((gr_trans g5 g6).block _ (lt_of_block HV4.out) (by simp)).trans HV4.out
          have CF := Lib.hid (containsFunc_Str0 56 oddK (A ++ B) a6 c6 w6 (by rw [flatStr]; exact hc6) (by rw [List.length_append]; omega) rulesF1_fn (fun s hs W _ => rulesF1_any s (by
            rcases List.mem_append.1 hs with h | h
            · exact HS3.out s h
            · exact HS5.out s h) W))
          have HV6 := Lib.hid hV6
          clear g5 h5 o6 hc6 g6 hV6 v1 v2 v3
          go_wp2_with (fail)
          rw [← List.length_append]
          refine CF.out.mono ?_
          rintro e w7 ⟨rfl, g7⟩
          have hV7 := (g7.block _ (lt_of_block HV6.out) (by simp)).trans HV6.out
          have HG7 := Lib.hid (gr_trans HGR.out (gr_trans HG6.out g7))
          have v3 : w7.cell? ⟨V, 3, none⟩ = some (.int .i64 L) := blkC hV7 3 rfl
          clear g7 hV7 CF
          obtain ⟨b, hb⟩ : ∃ b, b = (A ++ B).any oddK := ⟨_, rfl⟩
          rw [← hb]
          have HB7 := Lib.hid hb
          clear hb
          cases b with
          | true =>
            go_wp2_with (fail)
            go_ret
            exact ⟨5, rfl, (fun e => by cases e), HG7.out⟩
          | false =>
            by_cases hL1 : L < 1
            · go_wp2_with (fail)
              go_ret
              exact ⟨1, rfl, (fun e => by cases e), HG7.out⟩
            · by_cases hL2 : 5761440 < L
              · go_wp2_with (fail)
                go_ret
                exact ⟨1, rfl, (fun e => by cases e), HG7.out⟩
              · have hall := odd_all HB7.out.symm
                have MK2 := Lib.hid (MK.out ⟨HK1.out, by simp only; omega, by simp only; omega, by simp only; omega, fun s hs => hall s (List.mem_append_left _ hs), fun s hs => hall s (List.mem_append_right _ hs), by simp only; omega, by simp only; omega⟩)
                clear hall
                go_wp2_with (fail)
                go_roundw
                case rel => exact ⟨k + 1, by omega, by go_num, MK2.out, HG7.out⟩
                case measure => simp [intOf]; omega
    · obtain rfl : k = N.length := by omega
      have HOK : Hid (RlsOk N) := fun j hj => hok j hj hj
      clear hok
      go_wp2_with (fail)
      go_ret
      exact ⟨0, rfl, fun _ => HOK.out, hgr⟩
set_option maxRecDepth 100000 in
set_option maxHeartbeats 2000000 in
theorem checkRules_ok (N : List Rl) (a : Option Addr) (c : Nat) (w : World) (h : RlsAt w a N) (hok : RlsOk N) (hsm : ∀ x ∈ N, RlSm x) (hl : N.length ≤ 3) :
    Calls Tryz.prog 65 #[.slice a N.length c] w fun e w' => e = .returned (.int .i64 0) ∧ w.grownBy w' none := by
  have HOK := Lib.hid hok
  clear hok
  have H := Lib.hid h
  have HSM := Lib.hid hsm
  clear h hsm
  go_enter Tryz.func65, Tryz.ntmps65
  go_wp2_with (fail)
  go_loopw [11] (fun i wr => ∃ k : Nat, k ≤ N.length ∧ i = .int .i64 k ∧ w.grownBy wr none) (fun i _ => N.length - (intOf i).toNat)
  case atStart => exact ⟨0, Nat.zero_le _, rfl, gr_refl _ _⟩
  case round =>
    obtain ⟨k, hk, rfl, hgr⟩ := hrel
    obtain ⟨wo, rfl⟩ : ∃ wo : World, wo = wr := ⟨_, rfl⟩
    by_cases hlt : k < N.length
    · obtain ⟨b, off, a1, c1, a2, c2, rfl, d0, d1, d2, d3, hA, hB, n1, n2, -⟩ := rl_cells (H.out.keep0 hgr) k hlt
      obtain ⟨hs1, ⟨hs2, hs3⟩, ⟨hs4, hs5⟩, hs6, hs7⟩ := HSM.out _ (List.getElem_mem hlt)
      obtain ⟨k1, k2, k3, k4, k5, k6, k7, k8⟩ := HOK.out k hlt
      obtain ⟨x, hx⟩ : ∃ x, x = N[k] := ⟨_, rfl⟩
      rw [← hx] at d0 d1 d2 d3 hA hB hs1 hs2 hs3 hs4 hs5 hs6 hs7 k1 k2 k3 k4 k5 k6 k7 k8
      obtain ⟨F, A, B, L⟩ := x
      simp only at d0 d1 d2 d3 hA hB hs1 hs2 hs3 hs4 hs5 hs6 hs7 k1 k2 k3 k4 k5 k6 k7 k8
      have HGR := Lib.hid hgr
      have hV := heap_alloc_new wo (.cells #[.string F, .slice a1 A.length c1, .slice a2 B.length c2, .int .i64 L] 46)
      have hg2 := gr_alloc (gr_refl wo none) (.cells #[.string F, .slice a1 A.length c1, .slice a2 B.length c2, .int .i64 L] 46)
      obtain ⟨w2, hw2⟩ : ∃ w2, w2 = wo.alloc (.cells #[.string F, .slice a1 A.length c1, .slice a2 B.length c2, .int .i64 L] 46) := ⟨_, rfl⟩
      rw [← hw2] at hV hg2
      obtain ⟨V, hVe⟩ : ∃ V, V = wo.heap.size := ⟨_, rfl⟩
      rw [← hVe] at hV
      have HV := Lib.hid hV
      have HG2 := Lib.hid hg2
      have HW2 := Lib.hid hw2
      have HVE := Lib.hid hVe
      have HA2 := Lib.hid (hA.keep0 hg2)
      have HB2 := Lib.hid (hB.keep0 hg2)
      have HS3 := Lib.hid hs3
      have HS5 := Lib.hid hs5
      have E5 := Lib.hid (all_odd k5)
      have E6 := Lib.hid (all_odd k6)
      have N1 := Lib.hid n1
      have N2 := Lib.hid n2
      clear k5 k6 hx hgr hV hg2 hw2 hVe hA hB hs3 hs5 n1 n2
      go_upto_region 7 with (fail)
      rw [← HW2.out, ← HVE.out]
      clear d0 d1 d2 d3
      have v0 : w2.cell? ⟨V, 0, none⟩ = some (.string F) := blkC HV.out 0 rfl
      go_wp2_with (fail)
      refine (rulesC1_any F hs1 w2).mono ?_
      rintro e w4 ⟨rfl, g4⟩
      have e1 : oddK F = false := by unfold oddK; rw [k1]; rfl
      rw [e1]
      have HV4 := Lib.hid ((g4.block _ (lt_of_block HV.out) (by simp)).trans HV.out)
      have HG4 := Lib.hid (gr_trans HG2.out g4)
      have HA4 := Lib.hid (HA2.out.keep0 g4)
      have HB4 := Lib.hid (HB2.out.keep0 g4)
      clear v0 g4 HA2 HB2 e1 k1
      have v1 : w4.cell? ⟨V, 1, none⟩ = some (.slice a1 A.length c1) := blkC HV4.out 1 rfl
      have v2 : w4.cell? ⟨V, 2, none⟩ = some (.slice a2 B.length c2) := blkC HV4.out 2 rfl
      have hA0 : ¬ A.length = 0 := by omega
      go_wp2_with (fail)
      refine (containsFunc_Str0 119 oddK A a1 c1 w4 (by rw [flatStr]; exact HA4.out) (by omega) rulesC1_fn (fun s hs W _ => rulesC1_any s (HS3.out s hs) W)).mono ?_
      rintro e w5 ⟨rfl, g5⟩
      rw [E5.out]
      have HV5 := Lib.hid ((g5.block _ (lt_of_block HV4.out) (by simp)).trans HV4.out)
      have HG5 := Lib.hid (gr_trans HG4.out g5)
      have HB5 := Lib.hid (HB4.out.keep0 g5)
      clear v1 v2 g5 HB4
      have v2 : w5.cell? ⟨V, 2, none⟩ = some (.slice a2 B.length c2) := blkC HV5.out 2 rfl
      go_wp2_with (fail)
      refine (containsFunc_Str0 119 oddK B a2 c2 w5 (by rw [flatStr]; exact HB5.out) (by omega) rulesC1_fn (fun s hs W _ => rulesC1_any s (HS5.out s hs) W)).mono ?_
      rintro e w6 ⟨rfl, g6⟩
      rw [E6.out]
      have HV6 := Lib.hid ((g6.block _ (lt_of_block HV5.out) (by simp)).trans HV5.out)
      have HG6 := Lib.hid (gr_trans HGR.out (gr_trans HG5.out g6))
      clear v2 g6
      have v3 : w6.cell? ⟨V, 3, none⟩ = some (.int .i64 L) := blkC HV6.out 3 rfl
      have dP : (decide (L < 1) || decide (5761440 < L)) = false := by simp; omega
      go_wp2_with (fail)
      refine (out_any L 1 5761440 w6).mono ?_
      rintro e w7 ⟨rfl, rfl⟩
      rw [dP]
      go_wp2_with (fail)
      go_roundw
      case rel => exact ⟨k + 1, by omega, by go_num, HG6.out⟩
      case measure => simp [intOf]; omega
    · obtain rfl : k = N.length := by omega
      go_wp2_with (fail)
      go_ret
      exact ⟨rfl, hgr⟩
end Go.Proofs.YtehhmgbgkemidaaGreatDoor
