/- Histograms: as the stream makes them. -/
import Derived.Test.YtlpkancpjdihgaaMakeInts
import Derived.Test.YtlpkancpjdihgaaMake
namespace Go.Proofs.Ytlpkancpjdihgaa
open Go.RowKit
variable {lw : Nat}

def histG (l : List Int) (k : Nat) : Nat → List Int
  | 0 => []
  | n + 1 => histG l k n ++ [pickM l (k + n) [0, 1, 1, 2, 5]]
theorem histG_len (l : List Int) (k n : Nat) : (histG l k n).length = n := by
  induction n with
  | zero => rfl
  | succ n ih => simp [histG, ih]
theorem histG_mem (l : List Int) (k n : Nat) : ∀ x ∈ histG l k n, 0 ≤ x ∧ x ≤ 5 := by
  induction n with
  | zero => intro x h; cases h
  | succ n ih =>
    intro x h
    simp only [histG, List.mem_append, List.mem_cons, List.not_mem_nil, or_false] at h
    rcases h with h | rfl
    · exact ih x h
    · have := pickM_mem l (k + n) [0, 1, 1, 2, 5] (by decide)
      simp only [List.mem_cons, List.not_mem_nil, or_false] at this
      omega
def histE (l : List Int) (G : List Int) (q : Nat) : List Int × Nat :=
  if nxt l q 20 = 0 then (G ++ [pickM l (q + 1) [-1, 1000000000, 1000000001]], q + 2)
  else if nxt l q 20 = 1 then (List.replicate (pickM l (q + 1) [1000, 2000, 2001]).toNat 0 ++ [1], q + 2)
  else if nxt l q 20 = 2 then (G ++ [100000, 0], q + 1)
  else (G, q + 1)
def histM (l : List Int) (k : Nat) : List Int × Nat := histE l (histG l (k + 1) (nxt l k 8).toNat) (k + 1 + (nxt l k 8).toNat)
theorem histM_k (l : List Int) (k : Nat) : (histM l k).2 ≤ k + 10 := by
  have := nxt_range l k 8 (by omega)
  unfold histM histE
  (repeat' split) <;> simp only <;> omega
theorem histM_len (l : List Int) (k : Nat) : (histM l k).1.length ≤ 2002 := by
  have := nxt_range l k 8 (by omega)
  have h2 := pickM_mem l (k + 1 + (nxt l k 8).toNat + 1) [1000, 2000, 2001] (by decide)
  simp only [List.mem_cons, List.not_mem_nil, or_false] at h2
  unfold histM histE
  (repeat' split) <;> simp [histG_len] <;> omega
theorem histM_mem (l : List Int) (k : Nat) : ∀ x ∈ (histM l k).1, -1 ≤ x ∧ x ≤ 1000000001 := by
  have h1 := histG_mem l (k + 1) (nxt l k 8).toNat
  have h2 := pickM_mem l (k + 1 + (nxt l k 8).toNat + 1) [-1, 1000000000, 1000000001] (by decide)
  simp only [List.mem_cons, List.not_mem_nil, or_false] at h2
  intro x hx
  unfold histM histE at hx
  split at hx
  · simp only [List.mem_append, List.mem_cons, List.not_mem_nil, or_false] at hx
    rcases hx with hx | rfl
    · have := h1 x hx; omega
    · omega
  split at hx
  · simp only [List.mem_append, List.mem_replicate, List.mem_cons, List.not_mem_nil, or_false] at hx
    omega
  split at hx
  · simp only [List.mem_append, List.mem_cons, List.not_mem_nil, or_false] at hx
    rcases hx with hx | hx | hx
    · have := h1 x hx; omega
    · omega
    · omega
  · have := h1 x hx; omega

set_option maxRecDepth 100000 in
set_option maxHeartbeats 1000000 in
theorem histogram_any (l : List Int) (k : Nat) (p : Nat) (w : World) (hs : StreamAt w p lw l k) (hk : k < 900000000) :
    Calls Try.prog 43 #[.pointer (some ⟨p, 0, none⟩)] w
      fun e w' => ∃ v, e = .returned v ∧ w'.ownsRow w.heap.size 3 1 v (histM l k).1.length (ints (histM l k).1) ∧ StreamAt w' p lw l (histM l k).2 ∧ w.grownBy w' (some p) := by
  have hlt := hs.lt
  have hr := nxt_range l k 8 (by omega)
  obtain ⟨n, hn⟩ : ∃ n : Nat, nxt l k 8 = n := ⟨(nxt l k 8).toNat, by omega⟩
  have hM : histM l k = histE l (histG l (k + 1) n) (k + 1 + n) := by unfold histM; rw [hn]; rfl
  have HM := Lib.hid hM
  rw [hn] at hr
  have hn8 : n < 8 := by omega
  have HN := Lib.hid hn
  clear hM hn hr
  go_enter Try.func43, Try.ntmps43
  go_wp2_with (fail)
  refine (next_any l k 8 p w hs (by omega) (by omega)).mono ?_
  rintro e w1 ⟨rfl, hs1, hg1⟩
  rw [HN.out]
  have hz1 := hg1.size
  go_wp2_with (fail)
  go_loopw [3, 6] (fun v c wr => ∃ i : Nat, i ≤ n ∧ c = .int .i64 i ∧ wr.ownsRow w.heap.size 3 1 v i (ints (histG l (k + 1) i)) ∧ StreamAt wr p lw l (k + 1 + i) ∧ w.grownBy wr (some p))
    (fun _ c _ => n - (intOf c).toNat)
  case atStart => exact ⟨0, Nat.zero_le _, rfl, World.ownsRow_nil _ _ _ _, hs1, hg1⟩
  case round =>
    obtain ⟨i, hi, rfl, hown, hsr, hgr⟩ := hrel
    obtain ⟨wo, rfl⟩ : ∃ wo : World, wo = wr := ⟨_, rfl⟩
    have hsz := hgr.size
    by_cases hlt2 : i < n
    · go_wp2_with (fail)
      refine (pick_any l _ [0, 1, 1, 2, 5] p wo hsr (by omega) (by decide) (by decide)).mono ?_
      rintro e w3 ⟨rfl, hs3, hg3⟩
      have hown3 := own_keepS hown hg3 (by omega)
      have hgr3 := gr_trans hgr hg3
      have hsz3 := hg3.size
      obtain ⟨x, hx⟩ : ∃ x, x = pickM l (k + 1 + i) [0, 1, 1, 2, 5] := ⟨_, rfl⟩
      rw [← hx]
      have HX := Lib.hid hx; clear hx
      go_wp2_with (at_builtin; refine wpList_app1 eInt rfl _ _ rfl w.heap.size _ _ _ rfl _ _ rfl hown3 _ rfl ?_ rfl rfl ?_ ?_ ?_; (· simp); (· omega); (· omega); intro v6 w6 hown6 hg6 hlt6)
      go_wp2_with (fail)
      go_roundw
      case rel =>
        refine ⟨i + 1, by omega, by go_num, ?_, ?_, gr_grown hgr3 hg6 (fun r hr => by have := hlt6 r hr; omega)⟩
        · simp only [histG, ints, List.map_append]
          rw [← HX.out]
          exact hown6
        · exact hs3.keep hg6 (fun r hr => by have := hlt6 r hr; omega)
      case measure => simp [intOf]; omega
    · have hin : i = n := by omega
      subst hin
      clear hlt2
      obtain ⟨G, hG⟩ : ∃ G, G = histG l (k + 1) i := ⟨_, rfl⟩
      have hGl : G.length = i := by rw [hG, histG_len]
      rw [← hG] at hown HM
      obtain ⟨q, hq⟩ : ∃ q, q = k + 1 + i := ⟨_, rfl⟩
      rw [← hq] at hsr HM
      have hqb : q < 900000100 := by omega
      have HGL := Lib.hid hGl
      clear hG hq hGl
      go_wp2_with (fail)
      refine (next_any l q 20 p wo hsr (by omega) (by omega)).mono ?_
      rintro e w3 ⟨rfl, hs3, hg3⟩
      have hown3 := own_keepS hown hg3 (by omega)
      have hgr3 := gr_trans hgr hg3
      have hsz3 := hg3.size
      obtain ⟨c, hc⟩ : ∃ c, c = nxt l q 20 := ⟨_, rfl⟩
      rw [← hc]
      have hM2 : histM l k = (if c = 0 then (G ++ [pickM l (q + 1) [-1, 1000000000, 1000000001]], q + 2) else if c = 1 then (List.replicate (pickM l (q + 1) [1000, 2000, 2001]).toNat 0 ++ [1], q + 2) else if c = 2 then (G ++ [100000, 0], q + 1) else (G, q + 1)) := by rw [HM.out, hc]; rfl
      have HM2 := Lib.hid hM2
      clear hM2 hc HM hown hgr hg3
      by_cases c0 : c = 0
      · subst c0
        have hM3 : histM l k = (G ++ [pickM l (q + 1) [-1, 1000000000, 1000000001]], q + 2) := by rw [HM2.out, if_pos rfl]
        have HM3 := Lib.hid hM3
        clear hM3 HM2
        go_wp2_with (fail)
        refine (pick_any l (q + 1) [-1, 1000000000, 1000000001] p w3 hs3 (by omega) (by decide) (by decide)).mono ?_
        rintro e w4 ⟨rfl, hs4, hg4⟩
        have hown4 := own_keepS hown3 hg4 (by omega)
        have hgr4 := gr_trans hgr3 hg4
        have hsz4 := hg4.size
        obtain ⟨x, hx⟩ : ∃ x, x = pickM l (q + 1) [-1, 1000000000, 1000000001] := ⟨_, rfl⟩
        rw [← hx]
        have HX := Lib.hid hx; clear hx
        go_wp2_with (at_builtin; refine wpList_app1 eInt rfl _ _ rfl w.heap.size _ _ _ rfl _ _ rfl hown4 _ rfl ?_ rfl rfl ?_ ?_ ?_; (· simp); (· omega); (· omega); intro v6 w6 hown6 hg6 hlt6)
        go_wp2_with (fail)
        go_ret
        rw [HM3.out, ← HX.out]
        refine ⟨_, rfl, ?_, hs4.keep hg6 (fun r hr => by have := hlt6 r hr; omega), gr_grown hgr4 hg6 (fun r hr => by have := hlt6 r hr; omega)⟩
        simp only [List.length_append, HGL.out, ints, List.map_append]
        exact hown6
      · have e0 : (c == 0) = false := beq_eq_false_iff_ne.2 c0
        by_cases c1 : c = 1
        · subst c1
          have hM3 : histM l k = (List.replicate (pickM l (q + 1) [1000, 2000, 2001]).toNat 0 ++ [1], q + 2) := by rw [HM2.out, if_neg c0, if_pos rfl]
          have HM3 := Lib.hid hM3
          clear hM3 HM2 hown3
          go_wp2_with (fail)
          refine (pick_any l (q + 1) [1000, 2000, 2001] p w3 hs3 (by omega) (by decide) (by decide)).mono ?_
          rintro e w4 ⟨rfl, hs4, hg4⟩
          have hgr4 := gr_trans hgr3 hg4
          have hsz4 := hg4.size
          have hmem := pickM_mem l (q + 1) [1000, 2000, 2001] (by decide)
          simp only [List.mem_cons, List.not_mem_nil, or_false] at hmem
          obtain ⟨m, hm⟩ : ∃ m : Nat, pickM l (q + 1) [1000, 2000, 2001] = m := ⟨(pickM l (q + 1) [1000, 2000, 2001]).toNat, by omega⟩
          rw [hm]
          rw [hm] at hmem
          have hm2 : m ≤ 2001 := by omega
          have HX := Lib.hid hm; clear hm hmem
          go_wp2_with (first | (at_make; refine wpList_mk _ eInt rfl _ _ rfl w.heap.size _ m rfl rfl rfl ?_ ?_ ?_; (· omega); (· omega); intro w5 hown5 hg5; have hgr5 := gr_trans hgr4 (gr_weak hg5 (some p)); have hsz5 := hg5.size; have hs5 := hs4.keep0 hg5) | (at_builtin; refine wpList_app1 eInt rfl _ _ rfl w.heap.size _ _ _ rfl _ _ rfl hown5 _ rfl ?_ rfl rfl ?_ ?_ ?_; (· simp); (· omega); (· omega); intro v6 w6 hown6 hg6 hlt6))
          go_ret
          rw [HM3.out, HX.out]
          refine ⟨_, rfl, ?_, hs5.keep hg6 (fun r hr => by have := hlt6 r hr; omega), gr_grown hgr5 hg6 (fun r hr => by have := hlt6 r hr; omega)⟩
          simp only [Int.toNat_natCast, List.length_append, List.length_replicate, ints, List.map_append]
          simp only [ints] at hown6
          exact hown6
        · have e1 : (c == 1) = false := beq_eq_false_iff_ne.2 c1
          by_cases c2 : c = 2
          · subst c2
            have hM3 : histM l k = (G ++ [100000, 0], q + 1) := by rw [HM2.out, if_neg c0, if_neg c1, if_pos rfl]
            have HM3 := Lib.hid hM3
            clear hM3 HM2
            go_wp2_with (at_builtin; refine wpList_app eInt rfl _ _ rfl w.heap.size _ _ _ rfl (hown3.alloc _) _ 2 2 [.int .i64 100000, .int .i64 0] rfl rfl (CellsAt.new _ _ _) ?_ ?_ ?_ ?_ ?_; (· intro h; cases h); (· decide); (· omega); (· simp; omega); intro v6 w6 hown6 hg6)
            go_ret
            rw [HM3.out]
            refine ⟨_, rfl, ?_, (hs3.keep0 (gr_alloc (gr_refl _ _) _)).keep hg6 (fun r hr => by have := (hown3.lt r hr).1; omega), gr_grown (gr_trans hgr3 (gr_alloc (gr_refl _ _) _)) hg6 (fun r hr => (hown3.lt r hr).1)⟩
            simp only [List.length_append, HGL.out, ints, List.map_append]
            exact hown6
          · have e2 : (c == 2) = false := beq_eq_false_iff_ne.2 c2
            have hM3 : histM l k = (G, q + 1) := by rw [HM2.out, if_neg c0, if_neg c1, if_neg c2]
            have HM3 := Lib.hid hM3
            clear hM3 HM2
            go_wp2_with (fail)
            go_ret
            rw [HM3.out]
            exact ⟨_, rfl, by rw [HGL.out]; exact hown3, hs3, hgr3⟩
end Go.Proofs.Ytlpkancpjdihgaa
