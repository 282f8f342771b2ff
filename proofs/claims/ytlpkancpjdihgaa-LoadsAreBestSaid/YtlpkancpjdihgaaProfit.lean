/- demand.Profit, Chance and Order of right histograms. -/
import Derived.Test.YtlpkancpjdihgaaWeight
import Derived.Deep.DeepFit
namespace Go.Proofs.Ytlpkancpjdihgaa
open Go.RowKit

set_option maxRecDepth 100000 in
theorem profit_any (h : List Int) (load margin waste : Int) (a : Option Addr) (c : Nat) (w : World) (hc : CellsAt w a (ints h)) (hk : histCode h = 0) (hl : h.length ≤ 100) (hl0 : 0 ≤ load) (hl1 : load ≤ 100) (hm0 : 0 ≤ margin) (hm1 : margin ≤ 1000) (hw0 : 0 ≤ waste) (hw1 : waste ≤ 1000)
    (hg0 : -1000000000000000 ≤ gainM h load margin waste) (hg1 : gainM h load margin waste ≤ 1000000000000000) :
    Calls Try.prog 47 #[.slice a h.length c, .int .i64 load, .int .i64 margin, .int .i64 waste] w fun e w' =>
      e = .returned (.tuple #[.agg #[.int .i64 (gainM h load margin waste / Int.gcd (gainM h load margin waste) h.sum), .int .i64 (h.sum / Int.gcd (gainM h load margin waste) h.sum)], .int .i64 0]) ∧ w.grownBy w' none := by
  obtain ⟨_, hh, hs0, hs1⟩ := histCode_ok h hk
  have d1 : Hid ((decide (load < 0) || decide (2001 < load)) = false) := by show _ = _; simp; omega
  have HC := Lib.hid (fun (w' : World) (g : w.grownBy w' none) => checkHist_any h a c w' (hc.keep0 g) (by omega))
  have HG := Lib.hid (fun (w' : World) (g : w.grownBy w' none) => gain_any h load margin waste a c w' (hc.keep0 g) hl hl0 hl1 hm0 hm1 hw0 hw1 hh hs1)
  have HW := Lib.hid (fun (w' : World) (g : w.grownBy w' none) => weight_any h a c w' (hc.keep0 g) (by omega) (fun x hx => by have := hh x hx; omega))
  have HP := Lib.hid (fun (w' : World) => priced_any margin waste w' hm0 hm1 hw0 hw1)
  rw [hk] at HC
  obtain ⟨g, hg⟩ : ∃ g, g = gainM h load margin waste := ⟨_, rfl⟩
  obtain ⟨s, hs⟩ : ∃ s, s = h.sum := ⟨_, rfl⟩
  rw [← hg] at HG hg0 hg1
  rw [← hs] at HW hs0 hs1
  rw [← hg, ← hs]
  have HF := Lib.hid (fun (w' : World) => fraction_any g s w' (by omega) (by omega) (by omega) (by omega))
  obtain ⟨u, hu⟩ : ∃ u, u = g / Int.gcd g s := ⟨_, rfl⟩
  obtain ⟨v, hv⟩ : ∃ v, v = s / Int.gcd g s := ⟨_, rfl⟩
  rw [← hu, ← hv] at HF
  rw [← hu, ← hv]
  have ga0 := gr_alloc (gr_refl w none) (.cells #[.int .i64 0, .int .i64 0] 28)
  clear hu hv hg hs hh hk hc hl hl0 hl1 hm0 hm1 hw0 hw1
  go_enter Try.func47, Try.ntmps47
  go_wp2_with (fail)
  refine (HC.out _ ga0).mono ?_
  rintro e w1 ⟨rfl, hg1⟩
  go_wp2_with (fail)
  refine (out_any load 0 2001 w1).mono ?_
  rintro e w2 ⟨rfl, rfl⟩
  rw [d1.out]
  go_wp2_with (fail)
  refine (HP.out w1).mono ?_
  rintro e w2 ⟨rfl, rfl⟩
  go_wp2_with (fail)
  refine (HG.out w1 (gr_trans ga0 hg1)).mono ?_
  rintro e w3 ⟨rfl, hg3⟩
  go_wp2_with (fail)
  refine (HW.out w3 (gr_trans ga0 (gr_trans hg1 hg3))).mono ?_
  rintro e w4 ⟨rfl, hg4⟩
  go_wp2_with (fail)
  refine (HF.out w4).mono ?_
  rintro e w5 ⟨rfl, hg5⟩
  have hgg := gr_trans hg1 (gr_trans hg3 (gr_trans hg4 hg5))
  have c0 : w5.cell? ⟨w.heap.size, 0, none⟩ = some (.int .i64 0) := made_cell hgg 0 rfl
  have c1 : w5.cell? ⟨w.heap.size, 1, none⟩ = some (.int .i64 0) := made_cell hgg 1 rfl
  have f0 : w5.frozen? ⟨w.heap.size, 0, none⟩ = false := made_free hgg 0
  have f1 : w5.frozen? ⟨w.heap.size, 1, none⟩ = false := made_free hgg 1
  go_wp2_with (fail)
  refine bodyPost_ret (v := .tuple #[.agg #[.int .i64 u, .int .i64 v], .int .i64 0]) ?_ rfl ⟨rfl, ?_⟩
  · simp [results, Try.results47, go_sem, c0, c1]
  · exact gr_new (gr_new (gr_trans (gr_alloc (gr_refl _ _) _) hgg) (by simp) _) (by simp) _

def chanceM (h : List Int) (least : Nat) : Int := (h.drop least).sum
theorem drop_sum_h (h : List Int) (hh : ∀ x ∈ h, 0 ≤ x) (k : Nat) : 0 ≤ (h.drop k).sum ∧ (h.drop k).sum ≤ h.sum := by
  have h1 := sum_nonneg' (h.drop k) (fun x hx => hh x (List.mem_of_mem_drop hx))
  have h2 := sum_nonneg' (h.take k) (fun x hx => hh x (List.mem_of_mem_take hx))
  have h3 : h.sum = (h.take k).sum + (h.drop k).sum := by rw [← List.sum_append, List.take_append_drop]
  omega

set_option maxRecDepth 100000 in
set_option maxHeartbeats 1000000 in
theorem chance2_any (h : List Int) (least : Nat) (a : Option Addr) (c : Nat) (w : World) (hc : CellsAt w a (ints h)) (hk : histCode h = 0) (hcap : h.length ≤ c) :
    Calls Try.prog 48 #[.slice a h.length c, .int .i64 least] w fun e w' =>
      e = .returned (.tuple #[.agg #[.int .i64 (chanceM h least / Int.gcd (chanceM h least) h.sum), .int .i64 (h.sum / Int.gcd (chanceM h least) h.sum)], .int .i64 0]) ∧ w.grownBy w' none := by
  obtain ⟨hl, hh, hs0, hs1⟩ := histCode_ok h hk
  have hd := drop_sum_h h (fun x hx => (hh x hx).1) least
  obtain ⟨m, hm⟩ : ∃ m, m = min least h.length := ⟨_, rfl⟩
  have hdm : chanceM h least = (h.drop m).sum := by
    unfold chanceM
    rw [hm]
    rcases Nat.le_total least h.length with e | e
    · rw [Nat.min_eq_left e]
    · rw [Nat.min_eq_right e, List.drop_of_length_le e, List.drop_of_length_le (Nat.le_refl _)]
  have hmin : (if (h.length : Int) < (least : Int) then (h.length : Int) else (least : Int)) = (m : Int) := by rw [hm]; split <;> omega
  have hml : m ≤ h.length := by omega
  have HC := Lib.hid (fun (w' : World) (g : w.grownBy w' none) => checkHist_any h a c w' (hc.keep0 g) (by omega))
  rw [hk] at HC
  have hpos : 0 < h.length := by
    cases h with
    | nil => simp at hs0
    | cons x t => simp
  obtain ⟨b, off, rfl, _⟩ := hc 0 _ (ints_get h 0 hpos)
  have HD := Lib.hid (fun (w' : World) (g : w.grownBy w' none) (a' : Option Addr) (c' : Nat) (ha : m < h.length → a' = some ⟨b, off + m, none⟩) => weight_any (h.drop m) a' c' w' (by
    intro j x hx
    have hj : j < (h.drop m).length := by
      have := (List.getElem?_eq_some_iff.1 hx).1
      simpa [ints] using this
    rw [List.length_drop] at hj
    rw [ha (by omega)]
    have h1 := ((hc.keep0 g).drop m) j x (by simpa [ints, List.map_drop] using hx)
    exact h1) (by rw [List.length_drop]; omega) (fun x hx => by have := hh x (List.mem_of_mem_drop hx); omega))
  have HW := Lib.hid (fun (w' : World) (g : w.grownBy w' none) => weight_any h (some ⟨b, off, none⟩) c w' (hc.keep0 g) (by omega) (fun x hx => by have := hh x hx; omega))
  rw [← hdm] at HD
  rw [List.length_drop] at HD
  obtain ⟨g, hg⟩ : ∃ g, g = chanceM h least := ⟨_, rfl⟩
  obtain ⟨s, hs⟩ : ∃ s, s = h.sum := ⟨_, rfl⟩
  have hg0 : 0 ≤ g := by rw [hg]; exact hd.1
  have hg1 : g ≤ s := by rw [hg, hs]; exact hd.2
  rw [← hg] at HD
  rw [← hs] at HW hs0 hs1
  rw [← hg, ← hs]
  have HF := Lib.hid (fun (w' : World) => fraction_any g s w' (by omega) (by omega) (by omega) (by omega))
  obtain ⟨u, hu⟩ : ∃ u, u = g / Int.gcd g s := ⟨_, rfl⟩
  obtain ⟨v, hv⟩ : ∃ v, v = s / Int.gcd g s := ⟨_, rfl⟩
  rw [← hu, ← hv] at HF
  rw [← hu, ← hv]
  have ga0 := gr_alloc (gr_refl w none) (.cells #[.int .i64 0, .int .i64 0] 28)
  clear hu hv hg hs hh hk hc hd hdm hm
  go_enter Try.func48, Try.ntmps48
  go_wp2_with (fail)
  refine (HC.out _ ga0).mono ?_
  rintro e w1 ⟨rfl, hg1⟩
  have hg01 := gr_trans ga0 hg1
  obtain ⟨n, hn⟩ : ∃ n, n = h.length := ⟨_, rfl⟩
  rw [← hn] at hmin hml hcap HD HW hpos hl
  rw [← hn]
  have HN := Lib.hid hn
  clear hn HC
  rcases (show (least < n ∧ m = least) ∨ (n ≤ least ∧ m = n) by omega) with ⟨hb, hme⟩ | ⟨hb, hme⟩
  · subst hme
    have hc1 : ¬ c = m := by omega
    have hbI : ¬ ((n : Int) < (m : Int)) := by omega
    have hb0 : (0 : Int) ≤ (m : Int) := by omega
    have hb1 : (m : Int) ≤ (n : Int) := by omega
    clear hmin
    go_wp2_with (fail)
    refine (HD.out w1 hg01 _ _ (fun _ => rfl)).mono ?_
    rintro e w3 ⟨rfl, hg3⟩
    go_wp2_with (fail)
    refine (HW.out w3 (gr_trans hg01 hg3)).mono ?_
    rintro e w4 ⟨rfl, hg4⟩
    go_wp2_with (fail)
    refine (HF.out w4).mono ?_
    rintro e w5 ⟨rfl, hg5⟩
    have hgg := gr_trans hg1 (gr_trans hg3 (gr_trans hg4 hg5))
    have c0 : w5.cell? ⟨w.heap.size, 0, none⟩ = some (.int .i64 0) := made_cell hgg 0 rfl
    have c1 : w5.cell? ⟨w.heap.size, 1, none⟩ = some (.int .i64 0) := made_cell hgg 1 rfl
    have f0 : w5.frozen? ⟨w.heap.size, 0, none⟩ = false := made_free hgg 0
    have f1 : w5.frozen? ⟨w.heap.size, 1, none⟩ = false := made_free hgg 1
    go_wp2_with (fail)
    refine bodyPost_ret (v := .tuple #[.agg #[.int .i64 u, .int .i64 v], .int .i64 0]) ?_ rfl ⟨rfl, ?_⟩
    · simp [results, Try.results48, go_sem, c0, c1]
    · exact gr_new (gr_new (gr_trans (gr_alloc (gr_refl _ _) _) hgg) (by simp) _) (by simp) _
  · subst hme
    rw [Nat.sub_self] at HD
    clear hmin
    rcases (show m < least ∨ m = least by omega) with hb2 | hb2
    · have hbI : (m : Int) < (least : Int) := by omega
      by_cases hcm : c = m
      · subst hcm
        go_wp2_with (fail)
        refine (HD.out w1 hg01 _ _ (fun h => absurd h (Nat.lt_irrefl _))).mono ?_
        rintro e w3 ⟨rfl, hg3⟩
        go_wp2_with (fail)
        refine (HW.out w3 (gr_trans hg01 hg3)).mono ?_
        rintro e w4 ⟨rfl, hg4⟩
        go_wp2_with (fail)
        refine (HF.out w4).mono ?_
        rintro e w5 ⟨rfl, hg5⟩
        have hgg := gr_trans hg1 (gr_trans hg3 (gr_trans hg4 hg5))
        have c0 : w5.cell? ⟨w.heap.size, 0, none⟩ = some (.int .i64 0) := made_cell hgg 0 rfl
        have c1 : w5.cell? ⟨w.heap.size, 1, none⟩ = some (.int .i64 0) := made_cell hgg 1 rfl
        have f0 : w5.frozen? ⟨w.heap.size, 0, none⟩ = false := made_free hgg 0
        have f1 : w5.frozen? ⟨w.heap.size, 1, none⟩ = false := made_free hgg 1
        go_wp2_with (fail)
        refine bodyPost_ret (v := .tuple #[.agg #[.int .i64 u, .int .i64 v], .int .i64 0]) ?_ rfl ⟨rfl, ?_⟩
        · simp [results, Try.results48, go_sem, c0, c1]
        · exact gr_new (gr_new (gr_trans (gr_alloc (gr_refl _ _) _) hgg) (by simp) _) (by simp) _
      · go_wp2_with (fail)
        refine (HD.out w1 hg01 _ _ (fun h => absurd h (Nat.lt_irrefl _))).mono ?_
        rintro e w3 ⟨rfl, hg3⟩
        go_wp2_with (fail)
        refine (HW.out w3 (gr_trans hg01 hg3)).mono ?_
        rintro e w4 ⟨rfl, hg4⟩
        go_wp2_with (fail)
        refine (HF.out w4).mono ?_
        rintro e w5 ⟨rfl, hg5⟩
        have hgg := gr_trans hg1 (gr_trans hg3 (gr_trans hg4 hg5))
        have c0 : w5.cell? ⟨w.heap.size, 0, none⟩ = some (.int .i64 0) := made_cell hgg 0 rfl
        have c1 : w5.cell? ⟨w.heap.size, 1, none⟩ = some (.int .i64 0) := made_cell hgg 1 rfl
        have f0 : w5.frozen? ⟨w.heap.size, 0, none⟩ = false := made_free hgg 0
        have f1 : w5.frozen? ⟨w.heap.size, 1, none⟩ = false := made_free hgg 1
        go_wp2_with (fail)
        refine bodyPost_ret (v := .tuple #[.agg #[.int .i64 u, .int .i64 v], .int .i64 0]) ?_ rfl ⟨rfl, ?_⟩
        · simp [results, Try.results48, go_sem, c0, c1]
        · exact gr_new (gr_new (gr_trans (gr_alloc (gr_refl _ _) _) hgg) (by simp) _) (by simp) _
    · subst hb2
      have hbI : ¬ ((m : Int) < (m : Int)) := by omega
      by_cases hcm : c = m
      · subst hcm
        go_wp2_with (fail)
        refine (HD.out w1 hg01 _ _ (fun h => absurd h (Nat.lt_irrefl _))).mono ?_
        rintro e w3 ⟨rfl, hg3⟩
        go_wp2_with (fail)
        refine (HW.out w3 (gr_trans hg01 hg3)).mono ?_
        rintro e w4 ⟨rfl, hg4⟩
        go_wp2_with (fail)
        refine (HF.out w4).mono ?_
        rintro e w5 ⟨rfl, hg5⟩
        have hgg := gr_trans hg1 (gr_trans hg3 (gr_trans hg4 hg5))
        have c0 : w5.cell? ⟨w.heap.size, 0, none⟩ = some (.int .i64 0) := made_cell hgg 0 rfl
        have c1 : w5.cell? ⟨w.heap.size, 1, none⟩ = some (.int .i64 0) := made_cell hgg 1 rfl
        have f0 : w5.frozen? ⟨w.heap.size, 0, none⟩ = false := made_free hgg 0
        have f1 : w5.frozen? ⟨w.heap.size, 1, none⟩ = false := made_free hgg 1
        go_wp2_with (fail)
        refine bodyPost_ret (v := .tuple #[.agg #[.int .i64 u, .int .i64 v], .int .i64 0]) ?_ rfl ⟨rfl, ?_⟩
        · simp [results, Try.results48, go_sem, c0, c1]
        · exact gr_new (gr_new (gr_trans (gr_alloc (gr_refl _ _) _) hgg) (by simp) _) (by simp) _
      · go_wp2_with (fail)
        refine (HD.out w1 hg01 _ _ (fun h => absurd h (Nat.lt_irrefl _))).mono ?_
        rintro e w3 ⟨rfl, hg3⟩
        go_wp2_with (fail)
        refine (HW.out w3 (gr_trans hg01 hg3)).mono ?_
        rintro e w4 ⟨rfl, hg4⟩
        go_wp2_with (fail)
        refine (HF.out w4).mono ?_
        rintro e w5 ⟨rfl, hg5⟩
        have hgg := gr_trans hg1 (gr_trans hg3 (gr_trans hg4 hg5))
        have c0 : w5.cell? ⟨w.heap.size, 0, none⟩ = some (.int .i64 0) := made_cell hgg 0 rfl
        have c1 : w5.cell? ⟨w.heap.size, 1, none⟩ = some (.int .i64 0) := made_cell hgg 1 rfl
        have f0 : w5.frozen? ⟨w.heap.size, 0, none⟩ = false := made_free hgg 0
        have f1 : w5.frozen? ⟨w.heap.size, 1, none⟩ = false := made_free hgg 1
        go_wp2_with (fail)
        refine bodyPost_ret (v := .tuple #[.agg #[.int .i64 u, .int .i64 v], .int .i64 0]) ?_ rfl ⟨rfl, ?_⟩
        · simp [results, Try.results48, go_sem, c0, c1]
        · exact gr_new (gr_new (gr_trans (gr_alloc (gr_refl _ _) _) hgg) (by simp) _) (by simp) _
end Go.Proofs.Ytlpkancpjdihgaa
