/- What is wrong with a histogram: by package and by document, the same code. -/
import Derived.Test.YtlpkancpjdihgaaTotals
import Derived.Test.YtlpkancpjdihgaaFuncs
import Derived.Test.YtlpkancpjdihgaaBase
namespace Go.Proofs.Ytlpkancpjdihgaa
open Go.RowKit

def oddH (x : Int) : Bool := decide (x < 0) || decide (1000000000 < x)
def histCode (h : List Int) : Int := if 2001 < h.length then 2 else if h.any oddH = true then 1 else if h.sum = 0 then 8 else if 1000000000 < h.sum then 2 else 0
theorem histCode_ok (h : List Int) (e : histCode h = 0) : h.length ≤ 2001 ∧ (∀ x ∈ h, 0 ≤ x ∧ x ≤ 1000000000) ∧ 1 ≤ h.sum ∧ h.sum ≤ 1000000000 := by
  unfold histCode at e
  split at e
  · omega
  split at e
  · omega
  rename_i h1 h2
  have hb : ∀ x ∈ h, 0 ≤ x ∧ x ≤ 1000000000 := by
    intro x hx
    rw [List.any_eq_true] at h2
    have h3 : ¬ oddH x = true := fun e => h2 ⟨x, hx, e⟩
    simp [oddH] at h3
    omega
  have h0 : 0 ≤ h.sum := by
    clear e h1 h2
    induction h with
    | nil => simp
    | cons a t ih =>
      have := hb a (by simp)
      have := ih (fun x hx => hb x (by simp [hx]))
      simp only [List.sum_cons]; omega
  split at e
  · omega
  split at e
  · omega
  exact ⟨by omega, hb, by omega, by omega⟩
theorem oddH_fn : IsFn 111 := fun _ _ => by kernel_rfl
theorem oddH_any (x : Int) (w : World) : Calls Try.prog 111 #[.int .i64 x] w fun e w' => e = .returned (.bool (oddH x)) ∧ w = w' := by
  go_enter Try.func111, Try.ntmps111
  go_wp2
  all_goals (go_ret; exact ⟨ret_bool (by unfold oddH; simp; try omega), rfl⟩)

set_option maxRecDepth 100000 in
theorem histFault_any (h : List Int) (a : Option Addr) (c : Nat) (w : World) (hc : CellsAt w a (ints h)) (hl : h.length ≤ 1000000) (hb : ∀ x ∈ h, -1000000000000 ≤ x ∧ x ≤ 1000000000000) :
    Calls Try.prog 45 #[.slice a h.length c] w fun e w' => e = .returned (.int .i64 (histCode h)) ∧ w.grownBy w' none := by
  by_cases h1 : 2001 < h.length
  · have hfin : Hid (histCode h = 2) := by show _ = _; unfold histCode; rw [if_pos h1]
    go_enter Try.func45, Try.ntmps45
    go_wp2_with (fail)
    go_ret
    exact ⟨ret_int (by rw [hfin.out]), gr_refl _ _⟩
  · have HCF := Lib.hid (containsFunc_int 111 oddH h a c w hc (by omega) oddH_fn (fun x _ w1 _ => (oddH_any x w1).mono (by rintro e w2 ⟨rfl, rfl⟩; exact ⟨rfl, gr_refl _ _⟩)))
    have HSM := Lib.hid (fun (w' : World) (g : w.grownBy w' none) => refSum_any h a c w' (hc.keep0 g) hl hb)
    have hl2 : h.length ≤ 2001 := by omega
    have HH1 := Lib.hid h1
    clear h1 hb
    go_enter Try.func45, Try.ntmps45
    go_wp2_with (fail)
    refine HCF.out.mono ?_
    rintro e w1 ⟨rfl, hg1⟩
    cases ho : h.any oddH with
    | true =>
      have hfin : Hid (histCode h = 1) := by show _ = _; unfold histCode; rw [if_neg HH1.out, if_pos ho]
      clear ho
      go_wp2_with (fail)
      go_ret
      exact ⟨ret_int (by rw [hfin.out]), hg1⟩
    | false =>
      have hfin : Hid (histCode h = if h.sum = 0 then 8 else if 1000000000 < h.sum then 2 else 0) := by show _ = _; unfold histCode; rw [if_neg HH1.out, if_neg (by rw [ho]; decide)]
      clear ho
      go_wp2_with (fail)
      refine (HSM.out w1 hg1).mono ?_
      rintro e w2 ⟨rfl, hg2⟩
      have hg12 := gr_trans hg1 hg2
      obtain ⟨s, hs⟩ : ∃ s, s = h.sum := ⟨_, rfl⟩
      rw [← hs] at hfin HSM
      rw [← hs]
      clear hs
      by_cases s0 : s = 0
      · subst s0
        go_wp2_with (fail)
        go_ret
        exact ⟨ret_int (by rw [hfin.out]; rfl), hg12⟩
      · have q0 : (s == 0) = false := beq_eq_false_iff_ne.2 s0
        go_wp2_with (fail)
        refine (HSM.out w2 hg12).mono ?_
        rintro e w3 ⟨rfl, hg3⟩
        have hg13 := gr_trans hg12 hg3
        by_cases s1 : 1000000000 < s
        · go_wp2_with (fail)
          go_ret
          exact ⟨ret_int (by rw [hfin.out, if_neg s0, if_pos s1]), hg13⟩
        · go_wp2_with (fail)
          go_ret
          exact ⟨ret_int (by rw [hfin.out, if_neg s0, if_neg (by omega)]), hg13⟩

set_option maxRecDepth 100000 in
theorem checkHist_any (h : List Int) (a : Option Addr) (c : Nat) (w : World) (hc : CellsAt w a (ints h)) (hl : h.length ≤ 1000000) :
    Calls Try.prog 113 #[.slice a h.length c] w fun e w' => e = .returned (.int .i64 (histCode h)) ∧ w.grownBy w' none := by
  by_cases h1 : 2001 < h.length
  · have hfin : Hid (histCode h = 2) := by show _ = _; unfold histCode; rw [if_pos h1]
    go_enter Try.func113, Try.ntmps113
    go_wp2_with (fail)
    go_ret
    exact ⟨ret_int (by rw [hfin.out]), gr_refl _ _⟩
  · have hl2 : h.length ≤ 2001 := by omega
    have HH1 := Lib.hid h1
    clear h1
    go_enter Try.func113, Try.ntmps113
    go_wp2_with (fail)
    go_loopw [3, 11] (fun s i wr => ∃ k : Nat, k ≤ h.length ∧ i = .int .i64 k ∧ s = .int .i64 (h.take k).sum ∧ (∀ x ∈ h.take k, oddH x = false) ∧ 0 ≤ (h.take k).sum ∧ (h.take k).sum ≤ 1000000000 * k ∧ wr = w) (fun _ i _ => h.length - (intOf i).toNat)
    case atStart => exact ⟨0, Nat.zero_le _, rfl, rfl, fun x hx => by simp at hx, by simp, by simp, rfl⟩
    case round =>
      obtain ⟨k, hk, rfl, rfl, hok, hs0, hs1, hwe⟩ := hrel
      subst hwe
      have HOK := Lib.hid hok; clear hok
      by_cases hlt : k < h.length
      · obtain ⟨b, off, rfl, d0⟩ := hc k _ (ints_get h k hlt)
        have hnx := sum_next h k hlt
        obtain ⟨x, hx⟩ : ∃ x, x = h.getD k 0 := ⟨_, rfl⟩
        obtain ⟨s, hs⟩ : ∃ s, s = (h.take k).sum := ⟨_, rfl⟩
        rw [← hx] at d0 hnx
        rw [← hs] at hnx hs0 hs1
        rw [← hs]
        have hxm : x ∈ h := by rw [hx, List.getD_eq_getElem?_getD, List.getElem?_eq_getElem hlt]; exact List.getElem_mem _
        have htk : Hid (oddH x = false → ∀ y ∈ h.take (k + 1), oddH y = false) := by
          intro hx0 y hy
          rw [List.take_succ_eq_append_getElem hlt] at hy
          simp only [List.mem_append, List.mem_cons, List.not_mem_nil, or_false] at hy
          rcases hy with hy | rfl
          · exact HOK.out y hy
          · rw [hx, List.getD_eq_getElem?_getD, List.getElem?_eq_getElem hlt] at hx0
            exact hx0
        have HXM := Lib.hid hxm
        have HNX := Lib.hid hnx
        clear hnx hx hs hxm
        cases ho : oddH x with
        | true =>
          have hfin : Hid (histCode h = 1) := by show _ = _; unfold histCode; rw [if_neg HH1.out, if_pos (List.any_eq_true.2 ⟨x, HXM.out, ho⟩)]
          have hd : (decide (x < 0) || decide (1000000000 < x)) = true := ho
          have HD := Lib.hid hd
          clear ho hd
          go_wp2_with (fail)
          refine (out_any x 0 1000000000 _).mono ?_
          rintro e w1 ⟨rfl, rfl⟩
          rw [HD.out]
          go_wp2_with (fail)
          go_ret
          exact ⟨ret_int (by rw [hfin.out]), gr_refl _ _⟩
        | false =>
          have hd : (decide (x < 0) || decide (1000000000 < x)) = false := ho
          have hx0 : 0 ≤ x ∧ x ≤ 1000000000 := by simp [oddH] at ho; omega
          obtain ⟨hx0, hx1⟩ := hx0
          have HD := Lib.hid hd
          have HO := Lib.hid ho
          clear ho hd
          go_wp2_with (fail)
          refine (out_any x 0 1000000000 _).mono ?_
          rintro e w1 ⟨rfl, rfl⟩
          rw [HD.out]
          go_wp2_with (fail)
          go_roundw
          case rel => exact ⟨k + 1, by omega, by go_num, by rw [HNX.out], htk.out HO.out, by rw [HNX.out]; omega, by rw [HNX.out]; omega, trivial⟩
          case measure => simp [intOf]; omega
      · have hkl : k = h.length := by omega
        have hsum : (h.take k).sum = h.sum := by rw [hkl, List.take_length]
        have hno : ¬ (h.any oddH = true) := by
          intro e
          obtain ⟨x, hx, ho⟩ := List.any_eq_true.1 e
          have := HOK.out x (by rw [hkl, List.take_length]; exact hx)
          rw [ho] at this
          cases this
        have hfin : Hid (histCode h = if (h.take k).sum = 0 then 8 else if 1000000000 < (h.take k).sum then 2 else 0) := by show _ = _; unfold histCode; rw [if_neg HH1.out, if_neg hno, hsum]
        obtain ⟨s, hs⟩ : ∃ s, s = (h.take k).sum := ⟨_, rfl⟩
        rw [← hs] at hfin hs0 hs1
        rw [← hs]
        have HKL := Lib.hid hkl
        clear hs hsum hno hkl
        by_cases s0 : s = 0
        · subst s0
          go_wp2_with (fail)
          go_ret
          exact ⟨ret_int (by rw [hfin.out]; rfl), gr_refl _ _⟩
        · have q0 : (s == 0) = false := beq_eq_false_iff_ne.2 s0
          by_cases s1 : 1000000000 < s
          · go_wp2_with (fail)
            go_ret
            exact ⟨ret_int (by rw [hfin.out, if_neg s0, if_pos s1]), gr_refl _ _⟩
          · go_wp2_with (fail)
            go_ret
            exact ⟨ret_int (by rw [hfin.out, if_neg s0, if_neg (by omega)]), gr_refl _ _⟩
end Go.Proofs.Ytlpkancpjdihgaa
