/- Package till: how likely heads are. -/
import Derived.Test.YtlpkancpjdihgaaMake
import Derived.Test.YtlpkancpjdihgaaHeads
import Derived.Test.YtlpkancpjdihgaaMakeInts
namespace Go.Proofs.Ytlpkancpjdihgaa
open Go.RowKit

/-- slices.Clone at []int. -/
theorem clone_int (a : Option Addr) (n c : Nat) (xs : List Value) (w : World) (hn : xs.length = n) (hc : CellsAt w a xs) (hnil : a = none → n = 0 ∧ c = 0) (h1 : ∀ u ∈ xs, u.oneCell' = true) (hb : n ≤ 137438953472) :
    Calls Try.prog 110 #[.slice a n c] w fun e w' => ∃ v, e = .returned v ∧ w'.ownsRow w.heap.size 3 1 v n xs ∧ w.grownBy w' none := by
  have q22 : ∀ (w : World) (a : Option Addr) (n c n' c' : Nat), (binOp .eql 22 (.slice a n c) (.slice none n' c')).run Try.prog w = .ok (.bool a.isNone) w := fun w a n c n' c' => Lib.run_eql_slice_nil w _ _ a n c n' c' Try.underlying22
  cases a with
  | none =>
    obtain ⟨hn0, hc0⟩ := hnil rfl
    subst hn0 hc0
    have hx : xs = [] := List.eq_nil_of_length_eq_zero hn
    subst hx
    clear hnil hn
    go_enter Try.func110, Try.ntmps110
    go_wp2
    go_ret
    exact ⟨_, rfl, World.ownsRow_nil _ _ _ _, gr_refl _ _⟩
  | some ad =>
    have HN := Lib.hid hn
    clear hnil hn
    go_enter Try.func110, Try.ntmps110
    go_wp2_with (at_builtin; refine wpList_app eInt rfl _ _ rfl w.heap.size _ _ _ rfl (World.ownsRow_made w #[] 0 (Nat.le_refl _) (Nat.zero_le _) rfl) (some ad) n c xs rfl ?c1 ?c2 ?c3 ?c4 ?c5 ?c6 ?_)
    case c1 => rw [HN.out]; omega
    case c2 => exact hc.alloc _
    case c3 => intro h; cases h
    case c4 => exact h1
    case c5 => omega
    case c6 => simp
    intro v' w1 hown hg
    go_wp2
    go_ret
    refine ⟨v', rfl, by simpa using hown, ?_⟩
    exact gr_grown (gr_alloc (gr_refl _ _) _) hg (by intro k hk; simp [Value.ownBlock] at hk; omega)

theorem two_pow_le {m : Nat} (hm : m ≤ 60) : (2 : Int) ^ m ≤ 1152921504606846976 := by
  have h := Nat.pow_le_pow_right (show 0 < 2 by decide) hm
  have h2 : ((2 ^ m : Nat) : Int) = (2 : Int) ^ m := by simp
  have h3 : (2 : Nat) ^ 60 = 1152921504606846976 := by decide
  omega
theorem row_bound {row : List Int} {m : Nat} (hm : m ≤ 60) (h : row = pascal m) (q : Nat) : 0 ≤ row.getD q 0 ∧ row.getD q 0 ≤ 1152921504606846976 := by
  subst h
  have hp : (2 : Int) ^ m ≤ 1152921504606846976 := two_pow_le hm
  rw [List.getD_eq_getElem?_getD]
  cases hh : (pascal m)[q]? with
  | none => simp
  | some z => have := pascal_bound m z (List.mem_of_getElem? hh); simp only [Option.getD_some]; omega

set_option maxRecDepth 100000 in
theorem heads_any (n k : Nat) (w : World) (hn : n ≤ 60) (hk : k ≤ n) :
    Calls Try.prog 87 #[.int .i64 n, .int .i64 k] w fun e w' => e = .returned (.int .i64 (headsZ n k)) ∧ w.grownBy w' none := by
  go_enter Try.func87, Try.ntmps87
  go_wp2_with (fail)
  go_loopw [5, 13] (fun v i wr => ∃ m : Nat, m ≤ n ∧ i = .int .i64 m ∧ wr.ownsRow w.heap.size 3 1 v (pascal m).length (ints (pascal m)) ∧ w.grownBy wr none)
    (fun _ i _ => n - (intOf i).toNat)
  case atStart => exact ⟨0, Nat.zero_le _, rfl, World.ownsRow_lit w #[.int .i64 1] 1 (Nat.le_refl _) (by decide) rfl, gr_alloc (gr_refl _ _) _⟩
  case round =>
    obtain ⟨m, hm, rfl, hown, hgr⟩ := hrel
    obtain ⟨wo, rfl⟩ : ∃ wo : World, wo = wr := ⟨_, rfl⟩
    have hl := pascal_length m
    have hbd := pascal_bound m
    obtain ⟨row, hrow⟩ : ∃ row, row = pascal m := ⟨_, rfl⟩
    rw [← hrow] at hown hl hbd
    have HL := Lib.hid hl
    have hlen1 : row.length ≤ m + 1 := by omega
    have hlen2 : m + 1 ≤ row.length := by omega
    clear hl
    have HR := Lib.hid hrow; clear hrow
    have HBD := Lib.hid hbd; clear hbd
    obtain ⟨g, cap, rfl, hg1, hg2, hcap, hcap2⟩ := own_some hown (by omega)
    obtain ⟨a', cap', he, _, _, hcells, _⟩ := own_shape hown
    cases he
    by_cases hlt : m < n
    · go_wp2_with (fail)
      refine (clone_int _ _ _ (ints row) _ (ints_length _) hcells (by intro h; cases h) (ints_one _) (by omega)).mono ?_
      rintro e w1 ⟨v1, rfl, hown1, hgr1⟩
      go_wp2_with (at_builtin; refine wpList_app eInt rfl _ _ rfl wo.heap.size _ _ _ rfl (hown1.alloc _) (some ⟨w1.heap.size, 0, none⟩) 1 1 [.int .i64 1] rfl ?d1 ?d2 ?d3 ?d4 ?d5 ?d6 ?_)
      case d1 => rfl
      case d2 => exact CellsAt.new _ _ _
      case d3 => intro h; cases h
      case d4 => intro u hu; simp at hu; subst hu; rfl
      case d5 => omega
      case d6 => have := hgr1.size; simp; omega
      intro v2 w2 hown2 hgr2
      obtain ⟨g2, cap2, rfl, hg21, hg22, hcap21, hcap22⟩ := own_some hown2 (by omega)
      have hne : g ≠ g2 := by omega
      have hgr3 : wo.grownBy w2 none := gr_grown (gr_alloc hgr1 _) hgr2 (fun k hk => (hown1.lt k hk).1)
      have hrowK := own_keep0 hown hgr3
      rw [show ints row ++ [Value.int .i64 1] = ints (pstep row 1) by rw [pstep_one]; simp [ints]] at hown2
      go_wp2_with (fail)
      go_loopw [7] (fun i wi => ∃ j : Nat, j + 1 ≤ row.length ∧ i = .int .i64 (j + 1) ∧ wi.ownsRow wo.heap.size 3 1 (.slice (some ⟨g2, 0, none⟩) (row.length + 1) cap2) (row.length + 1) (ints (pstep row (j + 1))) ∧ w2.grownBy wi (some g2))
        (fun i _ => row.length - (intOf i).toNat)
      case atStart => exact ⟨0, by omega, rfl, hown2, gr_refl _ _⟩
      case round =>
        obtain ⟨j, hj2, rfl, howni, hgri⟩ := hrel
        have hrowi := own_keep hrowK hgri (by simp [Value.ownBlock]; omega)
        by_cases hlt2 : j + 1 < row.length
        · obtain ⟨x, hx⟩ : ∃ x, x = row.getD j 0 := ⟨_, rfl⟩
          obtain ⟨y, hy⟩ : ∃ y, y = row.getD (j + 1) 0 := ⟨_, rfl⟩
          have c1 : wr.cell? ⟨g, j, none⟩ = some (.int .i64 x) := by rw [hrowi.cellAt j (by omega), ints_get _ _ (by omega), hx]
          have c2 : wr.cell? ⟨g, j + 1, none⟩ = some (.int .i64 y) := by rw [hrowi.cellAt (j + 1) (by omega), ints_get _ _ (by omega), hy]
          obtain ⟨z, c3⟩ : ∃ z, wr.cell? ⟨g2, j + 1, none⟩ = some z := ⟨_, by rw [howni.cellAt (j + 1) (by omega), ints_get _ _ (by rw [pstep_length]; omega)]⟩
          have f3 : wr.frozen? ⟨g2, j + 1, none⟩ = false := howni.frozenAt _
          have hxb : ∀ q, 0 ≤ row.getD q 0 ∧ row.getD q 0 ≤ 1152921504606846976 := fun q => row_bound (by omega) HR.out q
          have hx0 : 0 ≤ x := by rw [hx]; exact (hxb _).1
          have hx1 : x ≤ 1152921504606846976 := by rw [hx]; exact (hxb _).2
          have hy0 : 0 ≤ y := by rw [hy]; exact (hxb _).1
          have hy1 : y ≤ 1152921504606846976 := by rw [hy]; exact (hxb _).2
          clear hxb
          have hfin : (ints (pstep row (j + 1))).set (j + 1) (.int .i64 (x + y)) = ints (pstep row (j + 2)) := by
            rw [hx, hy, show ints (pstep row (j + 1)) = (pstep row (j + 1)).map (Value.int .i64) from rfl, ← List.map_set, ← pstep_set row (j + 1) (by omega)]
            rfl
          have HF := Lib.hid hfin; clear hfin
          have HX := Lib.hid hx; clear hx
          have HY := Lib.hid hy; clear hy
          go_wp2_with (fail)
          go_region
          go_wp2
          go_roundw
          case rel =>
            have hst := howni.stored (j + 1) (.int .i64 (x + y))
            rw [HF.out] at hst
            exact ⟨j + 1, by omega, rfl, hst.1, gr_drew (gr_trans hgri hst.2)⟩
          case measure => simp [intOf]; omega
        · have hje : j + 1 = row.length := by omega
          have HJ := Lib.hid hje; clear hje
          go_wp2_with (fail)
          go_roundw
          case rel =>
            have hfin : pstep row (j + 1) = pascal (m + 1) := by rw [HJ.out, HR.out]; rfl
            rw [hfin, show row.length + 1 = (pascal (m + 1)).length by rw [← hfin, pstep_length]] at howni
            refine ⟨m + 1, by omega, by go_num, own_base ?_ hgr.size, gr_grown (gr_trans hgr hgr3) hgri (fun q hq => by cases hq; have := hgr.size; omega)⟩
            rw [show row.length + 1 = (pascal (m + 1)).length by rw [← hfin, pstep_length]]
            exact howni
          case measure => simp [intOf]; omega
    · have hmn : m = n := by omega
      subst hmn
      clear hlt
      go_wp2_with (fail)
      have hsum := take_sum_le m k
      have hH := headsZ_le m k
      have hP := two_pow_le hn
      go_loop [8, 44] (fun s c => ∃ i : Nat, i ≤ row.length - k ∧ c = .int .i64 i ∧ s = .int .i64 (((pascal m).drop k).take i).sum) (fun _ c => (row.length - k) - (intOf c).toNat)
      case atStart => exact ⟨0, Nat.zero_le _, rfl, rfl⟩
      case round =>
        obtain ⟨i, hi, rfl, rfl⟩ := hrel
        obtain ⟨s, hs⟩ : ∃ s, s = (((pascal m).drop k).take i).sum := ⟨_, rfl⟩
        have hsi := hsum i
        rw [← hs] at hsi
        rw [← hs]
        obtain ⟨hs0, hs1⟩ := hsi
        by_cases hlt : i < row.length - k
        · obtain ⟨x, hx⟩ : ∃ x, x = row.getD (k + i) 0 := ⟨_, rfl⟩
          have c1 : wo.cell? ⟨g, k + i, none⟩ = some (.int .i64 x) := by rw [hown.cellAt (k + i) (by omega), ints_get _ _ (by omega), hx]
          have hx0 : 0 ≤ x := by rw [hx]; exact (row_bound (by omega) HR.out _).1
          have hx1 : x ≤ 1152921504606846976 := by rw [hx]; exact (row_bound (by omega) HR.out _).2
          have hnext : s + x = (((pascal m).drop k).take (i + 1)).sum := by
            rw [hs, hx, HR.out]
            exact take_sum_succ _ _ _ (by rw [← HR.out]; omega)
          have HN := Lib.hid hnext; clear hnext
          have HX := Lib.hid hx; clear hx
          have HS := Lib.hid hs; clear hs
          go_wp2_with (fail)
          go_round
          case rel => exact ⟨i + 1, by omega, by go_num, by rw [HN.out]⟩
          case measure => simp [intOf]; omega
        · have HS := Lib.hid hs; clear hs
          go_wp2_with (fail)
          go_ret
          refine ⟨ret_int ?_, hgr⟩
          rw [HS.out, headsZ, List.take_of_length_le]
          rw [List.length_drop, ← HR.out]
          omega
end Go.Proofs.Ytlpkancpjdihgaa
