/- demand.Together of a right histogram. -/
import Derived.Test.YtlpkancpjdihgaaWeight
import Derived.Test.YtlpkancpjdihgaaInstPure
import Derived.Test.YtlpkancpjdihgaaTill
namespace Go.Proofs.Ytlpkancpjdihgaa
open Go.RowKit

def pw (S : Int) : Nat → Int
  | 0 => 1
  | n + 1 => pw S n * S
theorem pw_pos (S : Int) (h : 1 ≤ S) (n : Nat) : 1 ≤ pw S n := by
  induction n with
  | zero => simp [pw]
  | succ n ih =>
    have := Int.mul_le_mul ih h (by omega) (by omega : (0 : Int) ≤ pw S n)
    simp only [pw]; omega
theorem pw_le (S : Int) (h : 1 ≤ S) (n d : Nat) (hn : n ≤ d) : pw S n ≤ pw S d := by
  induction d with
  | zero => rw [show n = 0 by omega]; exact Int.le_refl _
  | succ d ih =>
    rcases Nat.lt_or_ge d n with e | e
    · rw [show n = d + 1 by omega]; exact Int.le_refl _
    · have h1 := ih e
      have h2 := pw_pos S h d
      have := Int.mul_le_mul_of_nonneg_left h (by omega : (0 : Int) ≤ pw S d)
      simp only [pw]; omega
theorem elem_le_sum (l : List Int) (hl : ∀ x ∈ l, 0 ≤ x) (j : Nat) (hj : j < l.length) : l.getD j 0 ≤ l.sum := by
  induction l generalizing j with
  | nil => simp at hj
  | cons a t ih =>
    have h0 := sum_nonneg' t (fun x hx => hl x (by simp [hx]))
    have h1 := hl a (by simp)
    cases j with
    | zero => simp; omega
    | succ j =>
      have := ih (fun x hx => hl x (by simp [hx])) j (by simpa using hj)
      simp only [List.getD_cons_succ, List.sum_cons]; omega
theorem getD_nonneg (l : List Int) (hl : ∀ x ∈ l, 0 ≤ x) (j : Nat) : 0 ≤ l.getD j 0 := by
  rcases Nat.lt_or_ge j l.length with h | h
  · exact hl _ (by rw [List.getD_eq_getElem?_getD, List.getElem?_eq_getElem h]; exact List.getElem_mem _)
  · rw [List.getD_eq_getElem?_getD, List.getElem?_eq_none h]; simp
theorem set_nonneg (l : List Int) (hl : ∀ x ∈ l, 0 ≤ x) (j : Nat) (x : Int) (hx : 0 ≤ x) : ∀ y ∈ l.set j x, 0 ≤ y := by
  intro y hy
  rcases List.mem_or_eq_of_mem_set hy with h | h
  · exact hl y h
  · omega
theorem take_sum_in (l : List Int) (hl : ∀ x ∈ l, 0 ≤ x) (j : Nat) : 0 ≤ (l.take j).sum ∧ (l.take j).sum ≤ l.sum := by
  have h1 := sum_nonneg' (l.take j) (fun x hx => hl x (List.mem_of_mem_take hx))
  have h2 := sum_nonneg' (l.drop j) (fun x hx => hl x (List.mem_of_mem_drop hx))
  have h3 : l.sum = (l.take j).sum + (l.drop j).sum := by rw [← List.sum_append, List.take_append_drop]
  omega

def TogetherPost (h : List Int) (days : Nat) (w : World) (e : Ending) (w' : World) : Prop :=
  (days ≠ 1 ∧ e = .returned (.tuple #[.slice none 0 0, .int .i64 2]) ∧ w.grownBy w' none) ∨
  (∃ v N, e = .returned (.tuple #[v, .int .i64 0]) ∧ w'.ownsRow w.heap.size 3 1 v N.length (ints N) ∧ N.sum = pw h.sum days ∧ (∀ x ∈ N, 0 ≤ x ∧ x ≤ 1000000000) ∧ N.length ≤ 2001 ∧ w.grownBy w' none)

set_option maxRecDepth 100000 in
theorem together_bad (h : List Int) (days : Int) (a : Option Addr) (c : Nat) (w : World) (hc : CellsAt w a (ints h)) (hk : histCode h ≠ 0) (hl : h.length ≤ 1000000) :
    Calls Try.prog 49 #[.slice a h.length c, .int .i64 days] w fun e w' => e = .returned (.tuple #[.slice none 0 0, .int .i64 (histCode h)]) ∧ w.grownBy w' none := by
  have q0 : (histCode h == 0) = false := beq_eq_false_iff_ne.2 hk
  go_enter Try.func49, Try.ntmps49
  go_wp2_with (fail)
  refine (checkHist_any h a c w hc hl).mono ?_
  rintro e w1 ⟨rfl, hg1⟩
  clear hk
  go_wp2_with (fail)
  go_ret2
  exact ⟨rfl, hg1⟩

set_option maxRecDepth 100000 in
set_option maxHeartbeats 1000000 in
theorem together_any (h : List Int) (days : Nat) (a : Option Addr) (c : Nat) (w : World) (hc : CellsAt w a (ints h)) (hk : histCode h = 0) (hd1 : 1 ≤ days) (hd7 : days ≤ 7) :
    Calls Try.prog 49 #[.slice a h.length c, .int .i64 days] w (TogetherPost h days w) := by
  obtain ⟨hl, hh, hs0, hs1⟩ := histCode_ok h hk
  have d1 : Hid ((decide ((days : Int) < 1) || decide (7 < (days : Int))) = false) := by show _ = _; simp; omega
  have HC := Lib.hid (checkHist_any h a c w hc (by omega))
  rw [hk] at HC
  go_enter Try.func49, Try.ntmps49
  go_wp2_with (fail)
  refine HC.out.mono ?_
  rintro e w1 ⟨rfl, hg1⟩
  go_wp2_with (fail)
  refine (out_any days 1 7 w1).mono ?_
  rintro e w2 ⟨rfl, rfl⟩
  rw [d1.out]
  go_wp2_with (fail)
  have hpos : 0 < h.length := by
    cases h with
    | nil => simp at hs0
    | cons x t => simp
  refine (clone_int a h.length c (ints h) w1 (by simp [ints]) (hc.keep0 hg1) (fun e => by obtain ⟨b, off, he, _⟩ := hc 0 _ (ints_get h 0 hpos); rw [e] at he; cases he) (ints_one h) (by omega)).mono ?_
  rintro e w3 ⟨v3, rfl, hown3, hg3⟩
  obtain ⟨g, cp, rfl, hga, hgb, hcp, _⟩ := own_some hown3 hpos
  obtain ⟨_, _, he, _, _, hc3, _⟩ := own_shape hown3
  cases he
  have hgr3 := gr_trans hg1 hg3
  have HH := Lib.hid hh
  clear hh HC hc hown3 hg3 hg1 hk d1
  go_wp2_with (fail)
  go_loopw [0] (fun s wr => ∃ m : Nat, m + 1 ≤ h.length ∧ s = .slice (some ⟨g, 0, none⟩) (m + 1) cp ∧ (h.take (m + 1)).sum = h.sum ∧ wr = w3) (fun s _ => match s with | .slice _ n _ => n | _ => 0)
  case atStart => exact ⟨h.length - 1, by omega, by rw [show h.length - 1 + 1 = h.length by omega], by rw [show h.length - 1 + 1 = h.length by omega, List.take_length], rfl⟩
  case round =>
    obtain ⟨m, hm, rfl, hsm, hwe⟩ := hrel
    subst hwe
    obtain ⟨_, _, he, cx⟩ := hc3 m _ (ints_get h m (by omega))
    cases he
    rw [Nat.zero_add] at cx
    have hnx := sum_next h m (by omega)
    obtain ⟨x, hx⟩ : ∃ x, x = h.getD m 0 := ⟨_, rfl⟩
    rw [← hx] at cx hnx
    have HNX := Lib.hid hnx
    have HSM := Lib.hid hsm
    clear hnx hsm hx
    have hmI : ((m : Int) + 1 - 1) = (m : Int) := by omega
    by_cases hx0 : x = 0
    · subst hx0
      go_wp2_with (fail)
      go_roundw
      case rel =>
        have hm0 : 0 < m := by
          rcases Nat.eq_zero_or_pos m with e | e
          · have h1 := HNX.out
            rw [HSM.out, e] at h1
            simp at h1
            omega
          · exact e
        refine ⟨m - 1, by omega, by rw [show m - 1 + 1 = m by omega], ?_, trivial⟩
        rw [show m - 1 + 1 = m by omega]
        have h1 := HNX.out
        rw [HSM.out] at h1
        omega
      case measure => simp
    · have q0 : (x == 0) = false := beq_eq_false_iff_ne.2 hx0
      obtain ⟨w4, rfl⟩ : ∃ w4 : World, w4 = wr := ⟨_, rfl⟩
      obtain ⟨H, hH⟩ : ∃ H, H = h.take (m + 1) := ⟨_, rfl⟩
      have hHl : H.length = m + 1 := by rw [hH, List.length_take]; omega
      have hHm : ∀ y ∈ H, 0 ≤ y ∧ y ≤ 1000000000 := by rw [hH]; exact fun y hy => HH.out y (List.mem_of_mem_take hy)
      have hcH : CellsAt w4 (some ⟨g, 0, none⟩) (ints H) := by rw [hH]; exact (hc3.take (m + 1)).of_eq (by simp [ints, List.map_take])
      have hHs : H.sum = h.sum := by rw [hH]; exact HSM.out
      have HW := Lib.hid (weight_any H (some ⟨g, 0, none⟩) cp w4 hcH (by omega) (fun y hy => by have := hHm y hy; omega))
      obtain ⟨S, hS⟩ : ∃ S, S = h.sum := ⟨_, rfl⟩
      rw [hHs, hHl, ← hS] at HW
      rw [← hS] at hHs hs0 hs1
      have HHM := Lib.hid hHm
      have HHL := Lib.hid hHl
      have HHS := Lib.hid hHs
      have HS := Lib.hid hS
      clear hH hHl hHm hHs hS HNX HSM
      go_wp2_with (fail)
      refine HW.out.mono ?_
      rintro e w5 ⟨rfl, hg5⟩
      have hcH5 := hcH.keep0 hg5
      have hgr5 := gr_trans hgr3 hg5
      clear cx q0 hx0 HW hc3 hcH hg5 hgr3
      go_wp2_with (fail)
      go_loopw [7, 39] (fun al i wr => ∃ k : Nat, k ≤ days ∧ i = .int .i64 k ∧ al = .int .i64 (pw S k) ∧ pw S k ≤ 1000000000 ∧ wr = w5) (fun _ i _ => days - (intOf i).toNat)
      case atStart => exact ⟨0, Nat.zero_le _, rfl, rfl, by simp [pw], rfl⟩
      case round =>
        obtain ⟨k, hk, rfl, rfl, hpl, hwe⟩ := hrel
        subst hwe
        obtain ⟨w6, rfl⟩ : ∃ w6 : World, w6 = wr := ⟨_, rfl⟩
        have hpp := pw_pos S hs0 k
        by_cases hlt : k < days
        · obtain ⟨y, hy⟩ : ∃ y, y = pw S k := ⟨_, rfl⟩
          rw [← hy] at hpl hpp
          rw [← hy]
          obtain ⟨z, hz⟩ : ∃ z, y * S = z := ⟨_, rfl⟩
          have hz0 : 0 ≤ z := by rw [← hz]; exact Int.mul_nonneg (by omega) (by omega)
          have hz1 : z ≤ 1000000000 * 1000000000 := by rw [← hz]; exact Int.mul_le_mul hpl hs1 (by omega) (by omega)
          have hnx : pw S (k + 1) = z := by rw [← hz, hy]; rfl
          have hz2 : k = 0 → z = S := by intro e; rw [← hz, hy, e]; simp [pw]
          have HNX := Lib.hid hnx
          have HZ2 := Lib.hid hz2
          clear hnx hz2 hy
          by_cases hbig : 1000000000 < z
          · go_wp2_with (fail)
            go_ret2
            refine .inl ⟨?_, rfl, hgr5⟩
            intro e
            have := HZ2.out (by omega)
            omega
          · go_wp2_with (fail)
            go_roundw
            case rel => exact ⟨k + 1, by omega, by go_num, by rw [HNX.out], by rw [HNX.out]; omega, trivial⟩
            case measure => simp [intOf]; omega
        · have hkd : k = days := by omega
          subst hkd
          obtain ⟨q, hq⟩ : ∃ q : Nat, (m : Int) * (k : Int) = (q : Int) := ⟨m * k, by simp⟩
          have hqn : m * k = q := by have : ((m * k : Nat) : Int) = (q : Int) := by rw [← hq]; simp
                                     omega
          have hq7 : q ≤ 2001 * 7 := by rw [← hqn]; exact Nat.mul_le_mul (by omega) hd7
          have hq1 : k = 1 → q = m := by intro e; rw [← hqn, e]; omega
          have HQN := Lib.hid hqn
          have HQ1 := Lib.hid hq1
          have HPL := Lib.hid hpl
          clear hqn hq1 hlt hpl hpp
          by_cases hbig : 2001 < (q : Int) + 1
          · go_wp2_with (fail)
            go_ret2
            refine .inl ⟨?_, rfl, hgr5⟩
            intro e
            have := HQ1.out e
            omega
          · have hq2 : q ≤ 2000 := by omega
            clear hbig
            go_wp2_with (fail)
            have hg6 := gr_alloc (gr_refl w6 none) (.cells #[.int .i64 1] 3)
            have hown6 := World.ownsRow_lit (base := w.heap.size) (e := 3) (size := 1) w6 #[Value.int .i64 1] 1 hgr5.size (by decide) rfl
            go_loopw [9, 56] (fun out i wr => ∃ (j : Nat) (O : List Int) (go co : Nat), j ≤ k ∧ i = .int .i64 j ∧ out = .slice (some ⟨go, 0, none⟩) O.length co ∧ wr.ownsRow w.heap.size 3 1 (.slice (some ⟨go, 0, none⟩) O.length co) O.length (ints O) ∧
              O.sum = pw S j ∧ (∀ x ∈ O, 0 ≤ x) ∧ O.length = m * j + 1 ∧ w6.grownBy wr none) (fun _ i _ => k - (intOf i).toNat)
            case atStart => exact ⟨0, [1], _, _, Nat.zero_le _, rfl, rfl, hown6, rfl, by simp, rfl, hg6⟩
            case round =>
              clear hown6 hg6
              obtain ⟨j, O, go, co, hj, rfl, rfl, hown, hOs, hO0, hOl, hgr⟩ := hrel
              obtain ⟨w7, rfl⟩ : ∃ w7 : World, w7 = wr := ⟨_, rfl⟩
              have hgr7 := gr_trans hgr5 hgr
              by_cases hlt : j < k
              · have hOl2 : O.length ≤ 2001 := by
                  have h1 : m * j ≤ m * k := Nat.mul_le_mul_left m (by omega)
                  have h2 := HQN.out
                  omega
                have hb1 : O.sum * S ≤ 1000000000 := by
                  have h1 := pw_le S hs0 (j + 1) k hlt
                  have h2 := HPL.out
                  rw [hOs]
                  simp only [pw] at h1
                  omega
                have hnxs : pw S (j + 1) = O.sum * S := by rw [hOs]; rfl
                have hOl3 : m * (j + 1) + 1 = O.length + m := by rw [hOl, Nat.mul_succ]; omega
                have HOL3 := Lib.hid hOl3
                have HNXS := Lib.hid hnxs
                have HO0 := Lib.hid hO0
                obtain ⟨_, _, he, _, _, hcO, _⟩ := own_shape hown
                cases he
                have hcH7 := hcH5.keep0 hgr
                have hsz7 := hgr7.size
                obtain ⟨n, hn⟩ : ∃ n, n = O.length := ⟨_, rfl⟩
                rw [← hn] at hOl2
                rw [← hn]
                have HN := Lib.hid hn
                clear hOl hOs hO0 hOl3 hnxs hown hn
                go_wp2_with (at_make; refine wpList_mk _ eInt rfl _ _ rfl w.heap.size _ (n + m) rfl rfl ?_ ?_ ?_ ?_; (· simp; try omega); (· omega); (· exact hsz7); intro w8 hown8 hg8)
                have hgr8 := gr_trans hgr7 hg8
                have hON := HN.out
                go_loopw [67] (fun i wr => ∃ (a' : Nat) (N : List Int), a' ≤ n ∧ i = .int .i64 a' ∧ wr.ownsRow w.heap.size 3 1 (.slice (some ⟨w7.heap.size, 0, none⟩) (n + m) (n + m)) (n + m) (ints N) ∧ N.sum = (O.take a').sum * S ∧ (∀ x ∈ N, 0 ≤ x) ∧ w7.grownBy wr none) (fun i _ => n - (intOf i).toNat)
                case atStart => exact ⟨0, _, Nat.zero_le _, rfl, hown8, by rw [repl_sum]; simp, fun x hx => by simp at hx; omega, hg8⟩
                case round =>
                  clear hown8 hg8 hgr8
                  obtain ⟨a', N, ha, rfl, hown, hNs, hN0, hg8⟩ := hrel
                  obtain ⟨w9, rfl⟩ : ∃ w9 : World, w9 = wr := ⟨_, rfl⟩
                  by_cases hla : a' < n
                  · obtain ⟨_, _, he, cy⟩ := (hcO.keep0 hg8) a' _ (ints_get O a' (by omega))
                    cases he
                    rw [Nat.zero_add] at cy
                    have hnx := sum_next O a' (by omega)
                    have hy0 := getD_nonneg O HO0.out a'
                    obtain ⟨y, hy⟩ : ∃ y, y = O.getD a' 0 := ⟨_, rfl⟩
                    rw [← hy] at cy hnx hy0
                    have hle := (take_sum_in O HO0.out (a' + 1)).2
                    have hle2 : (O.take (a' + 1)).sum * S ≤ 1000000000 := by
                      have := Int.mul_le_mul_of_nonneg_right hle (by omega : (0 : Int) ≤ S)
                      omega
                    obtain ⟨t, ht⟩ : ∃ t, t = (O.take a').sum := ⟨_, rfl⟩
                    rw [← ht] at hNs hnx
                    have hexp : (O.take (a' + 1)).sum * S = t * S + y * S := by rw [hnx, Int.add_mul]
                    have HEXP := Lib.hid hexp
                    have HLE := Lib.hid hle2
                    have HNS := Lib.hid hNs
                    have HN0 := Lib.hid hN0
                    clear hNs hN0 hnx hle hle2 hexp ht hy
                    go_wp2_with (fail)
                    go_loopw [74] (fun i wr => ∃ (b : Nat) (N : List Int), b ≤ m + 1 ∧ i = .int .i64 b ∧ wr.ownsRow w.heap.size 3 1 (.slice (some ⟨w7.heap.size, 0, none⟩) (n + m) (n + m)) (n + m) (ints N) ∧ N.sum = t * S + y * (H.take b).sum ∧ (∀ x ∈ N, 0 ≤ x) ∧ w7.grownBy wr none) (fun i _ => m + 1 - (intOf i).toNat)
                    case atStart => exact ⟨0, N, Nat.zero_le _, rfl, hown, by rw [HNS.out]; simp, HN0.out, hg8⟩
                    case round =>
                      clear hown hg8 HNS HN0 cy
                      obtain ⟨b, N, hb, rfl, hown, hNs, hN0, hg8⟩ := hrel
                      obtain ⟨wb, rfl⟩ : ∃ wb : World, wb = wr := ⟨_, rfl⟩
                      have hHl := HHL.out
                      by_cases hlb : b < m + 1
                      · obtain ⟨_, _, he, cz⟩ := (hcH7.keep0 hg8) b _ (ints_get H b (by omega))
                        cases he
                        rw [Nat.zero_add] at cz
                        have hnz := sum_next H b (by omega)
                        have hH0 : ∀ x ∈ H, 0 ≤ x := fun x hx => (HHM.out x hx).1
                        have hz0 := getD_nonneg H hH0 b
                        have hzle := (take_sum_in H hH0 (b + 1)).2
                        rw [HHS.out] at hzle
                        obtain ⟨z, hz⟩ : ∃ z, z = H.getD b 0 := ⟨_, rfl⟩
                        rw [← hz] at cz hnz hz0
                        obtain ⟨e, hee⟩ : ∃ e, e = a' + b := ⟨_, rfl⟩
                        have hel : e < n + m := by omega
                        have heI : (a' : Int) + (b : Int) = (e : Int) := by omega
                        have hNl := own_len hown
                        obtain ⟨d1, d2, d3⟩ := own_int hown e hel
                        have hu0 := getD_nonneg N hN0 e
                        obtain ⟨u, hu⟩ : ∃ u, u = N.getD e 0 := ⟨_, rfl⟩
                        rw [← hu] at d1 hu0
                        obtain ⟨v, hv⟩ : ∃ v, y * z = v := ⟨_, rfl⟩
                        have hv0 : 0 ≤ v := by rw [← hv]; exact Int.mul_nonneg hy0 hz0
                        have hsum : (N.set e (u + v)).sum = t * S + y * (H.take (b + 1)).sum := by
                          rw [sum_set N e _ (by omega), hNs, ← hu, hnz, Int.mul_add, hv]; omega
                        have hnn := set_nonneg N hN0 e (u + v) (by omega)
                        have hbd : u + v ≤ 1000000000 := by
                          have h1 := elem_le_sum _ hnn e (by rw [List.length_set]; omega)
                          rw [getD_set _ _ _ _ (by omega), if_pos rfl, hsum] at h1
                          have h2 := Int.mul_le_mul_of_nonneg_left hzle hy0
                          have h3 := HEXP.out
                          have h4 := HLE.out
                          omega
                        have D3 := Lib.hid (d3 (u + v))
                        have HSUM := Lib.hid hsum
                        have HNN := Lib.hid hnn
                        have G8 := Lib.hid (gr_new hg8 (by show w7.heap.size ≤ w7.heap.size; exact Nat.le_refl _) (q := ⟨w7.heap.size, e, none⟩) (.int .i64 (u + v)))
                        clear d3 hsum hnn hg8 hown hNs hN0 hu hz hzle hnz hH0 hNl hee
                        go_wp2_with (fail)
                        go_roundw
                        case rel => exact ⟨b + 1, _, by omega, by go_num, D3.out, HSUM.out, HNN.out, G8.out⟩
                        case measure => simp [intOf]; omega
                      · have hbm : b = m + 1 := by omega
                        subst hbm
                        have hfin : N.sum = (O.take (a' + 1)).sum * S := by rw [hNs, HEXP.out, List.take_of_length_le (by omega), HHS.out]
                        have HFIN := Lib.hid hfin
                        have HN0 := Lib.hid hN0
                        clear hfin hN0 hNs hlb hHl
                        go_wp2_with (fail)
                        go_roundw
                        case rel => exact ⟨a' + 1, N, by omega, by go_num, hown, HFIN.out, HN0.out, hg8⟩
                        case measure => simp [intOf]; omega
                  · have han : a' = n := by omega
                    subst han
                    have hNl := own_len hown
                    have hfin : N.sum = pw S (j + 1) := by rw [hNs, HNXS.out, List.take_of_length_le (by omega)]
                    have HFIN := Lib.hid hfin
                    have HN0 := Lib.hid hN0
                    have HNL := Lib.hid hNl
                    have HON := Lib.hid hON
                    clear hfin hN0 hNs hla hNl hON
                    go_wp2_with (fail)
                    go_roundw
                    case rel => exact ⟨j + 1, N, w7.heap.size, a' + m, by omega, by go_num, by rw [HNL.out], by rw [HNL.out]; exact hown, HFIN.out, HN0.out, by rw [HNL.out, HOL3.out, HON.out], gr_trans hgr hg8⟩
                    case measure => simp [intOf]; omega
              · have hjk : j = k := by omega
                subst hjk
                obtain ⟨n, hn⟩ : ∃ n, n = O.length := ⟨_, rfl⟩
                rw [← hn] at hown
                rw [← hn]
                have HN := Lib.hid hn
                have HO0 := Lib.hid hO0
                have HOS := Lib.hid hOs
                have HOL := Lib.hid hOl
                clear hn hO0 hOs hOl hlt
                go_wp2_with (fail)
                go_ret2
                refine .inr ⟨_, O, rfl, by rw [← HN.out]; exact hown, by rw [HOS.out, HS.out], ?_, ?_, hgr7⟩
                · intro x hx
                  refine ⟨HO0.out x hx, ?_⟩
                  obtain ⟨i, hi, rfl⟩ := List.getElem_of_mem hx
                  have h1 := elem_le_sum O HO0.out i hi
                  rw [List.getD_eq_getElem?_getD, List.getElem?_eq_getElem hi, Option.getD_some, HOS.out] at h1
                  have := HPL.out
                  omega
                · rw [HOL.out, HQN.out]; omega
end Go.Proofs.Ytlpkancpjdihgaa
