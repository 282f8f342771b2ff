/- Sales of days: as the stream makes them. -/
import Derived.Test.YtlpkancpjdihgaaMake
namespace Go.Proofs.Ytlpkancpjdihgaa
open Go.RowKit
variable {lw : Nat}

structure Sale where
  day : Int
  sold : Int
  out : Bool
def encSale (s : Sale) : List Value := [.int .i64 s.day, .int .i64 s.sold, .bool s.out]
def sales (l : List Sale) : List Value := l.flatMap encSale
theorem sales_length (l : List Sale) : (sales l).length = l.length * 3 := by
  induction l with
  | nil => rfl
  | cons a l ih => simp only [sales, List.flatMap_cons, List.length_append, List.length_cons] at *; rw [ih]; simp [encSale]; omega
theorem sales_append (l m : List Sale) : sales (l ++ m) = sales l ++ sales m := by simp [sales]
theorem sales_one (l : List Sale) : ∀ u ∈ sales l, u.oneCell' = true := by
  intro u hu
  simp only [sales, List.mem_flatMap] at hu
  obtain ⟨s, _, hs⟩ := hu
  simp only [encSale, List.mem_cons, List.not_mem_nil, or_false] at hs
  rcases hs with rfl | rfl | rfl <;> rfl
theorem eSales : ElemT Try.prog 34 40 (.agg #[.int .i64 0, .int .i64 0, .bool false]) 3 24 := ⟨by kernel_rfl, by kernel_rfl, by decide, by decide, by decide⟩

def dayAt (l : List Int) (k : Nat) (d0 : Int) : Nat → Int
  | 0 => d0
  | i + 1 => dayAt l k d0 i + pickM l (k + 3 * i + 2) [1, 1, 1, 3]
def saleAt (l : List Int) (k : Nat) (d0 : Int) (i : Nat) : Sale := ⟨dayAt l k d0 i, pickM l (k + 3 * i) [0, 1, 2, 3, 5, 9], flipM l (k + 3 * i + 1) 4⟩
def salesTo (l : List Int) (k : Nat) (d0 : Int) (n : Nat) : List Sale := (List.range n).map (saleAt l k d0)
theorem salesTo_succ (l : List Int) (k : Nat) (d0 : Int) (n : Nat) : salesTo l k d0 (n + 1) = salesTo l k d0 n ++ [saleAt l k d0 n] := by simp [salesTo, List.range_succ]
theorem salesTo_length (l : List Int) (k : Nat) (d0 : Int) (n : Nat) : (salesTo l k d0 n).length = n := by simp [salesTo]
theorem dayAt_bound (l : List Int) (k : Nat) (d0 : Int) (h0 : 0 ≤ d0) (h5 : d0 ≤ 5) (n : Nat) : 0 ≤ dayAt l k d0 n ∧ dayAt l k d0 n ≤ 5 + 3 * n := by
  induction n with
  | zero => simp only [dayAt]; omega
  | succ n ih =>
    have := pickM_mem l (k + 3 * n + 2) [1, 1, 1, 3] (by decide)
    simp only [List.mem_cons, List.not_mem_nil, or_false] at this
    simp only [dayAt]
    omega
def daysN (l : List Int) (k : Nat) : Nat := (nxt l (k + 1) 12).toNat
def daysHead (l : List Int) (k : Nat) : List Sale := salesTo l (k + 2) (nxt l k 5) (daysN l k)
def daysMore (l : List Int) (k : Nat) : Bool := flipM l (k + 2 + 3 * daysN l k) 15
def daysLast (l : List Int) (k : Nat) : Sale := ⟨pickM l (k + 2 + 3 * daysN l k + 1) [-1, 0, 4000, 4001], pickM l (k + 2 + 3 * daysN l k + 2) [-1, 0, 1000, 1001], false⟩
def daysM (l : List Int) (k : Nat) : List Sale := if daysMore l k then daysHead l k ++ [daysLast l k] else daysHead l k
def daysK (l : List Int) (k : Nat) : Nat := if daysMore l k then k + 2 + 3 * daysN l k + 3 else k + 2 + 3 * daysN l k + 1
theorem daysN_lt (l : List Int) (k : Nat) : daysN l k < 12 := by
  have := nxt_range l (k + 1) 12 (by omega)
  unfold daysN; omega
theorem daysK_le (l : List Int) (k : Nat) : daysK l k ≤ k + 40 := by
  have := daysN_lt l k
  unfold daysK; split <;> omega

set_option maxRecDepth 100000 in
set_option maxHeartbeats 1000000 in
theorem days_any (l : List Int) (k : Nat) (p : Nat) (w : World) (hs : StreamAt w p lw l k) (hk : k < 999999000) :
    Calls Try.prog 16 #[.pointer (some ⟨p, 0, none⟩)] w
      fun e w' => ∃ v, e = .returned v ∧ w'.ownsRow w.heap.size 40 3 v (daysM l k).length (sales (daysM l k)) ∧ StreamAt w' p lw l (daysK l k) ∧ w.grownBy w' (some p) := by
  have hlt := hs.lt
  have hr0 := nxt_range l k 5 (by omega)
  obtain ⟨hr00, hr01⟩ := hr0
  have hr1 := nxt_range l (k + 1) 12 (by omega)
  have hnlt := daysN_lt l k
  obtain ⟨n, hn⟩ : ∃ n, n = daysN l k := ⟨_, rfl⟩
  rw [← hn] at hnlt
  have hn2 : Hid (nxt l (k + 1) 12 = (n : Int)) := by show _ = _; rw [hn]; unfold daysN; omega
  have HN := Lib.hid hn; clear hn hr1
  obtain ⟨d0, hd0⟩ : ∃ d0, d0 = nxt l k 5 := ⟨_, rfl⟩
  rw [← hd0] at hr00 hr01
  have HD := Lib.hid hd0; clear hd0
  have HB := Lib.hid (dayAt_bound l (k + 2) d0 hr00 (by omega))
  go_enter Try.func16, Try.ntmps16
  go_wp2_with (fail)
  refine (next_any l k _ p _ hs (by omega) (by omega)).mono ?_
  rintro e w1 ⟨rfl, hs1, hg1⟩
  rw [← HD.out]
  go_wp2_with (fail)
  refine (next_any l (k + 1) _ p _ hs1 (by omega) (by omega)).mono ?_
  rintro e w2 ⟨rfl, hs2, hg2⟩
  rw [hn2.out]
  have hg02 := gr_trans hg1 hg2
  go_wp2_with (fail)
  go_loopw [3, 4, 9] (fun v d c wr => ∃ i : Nat, i ≤ n ∧ c = .int .i64 i ∧ d = .int .i64 (dayAt l (k + 2) d0 i) ∧ wr.ownsRow w.heap.size 40 3 v i (sales (salesTo l (k + 2) d0 i)) ∧ StreamAt wr p lw l (k + 2 + 3 * i) ∧ w.grownBy wr (some p))
    (fun _ _ c _ => n - (intOf c).toNat)
  case atStart => exact ⟨0, Nat.zero_le _, rfl, rfl, World.ownsRow_nil _ _ _ _, hs2, hg02⟩
  case round =>
    obtain ⟨i, hi, rfl, rfl, hown, hsr, hgr⟩ := hrel
    obtain ⟨wo, rfl⟩ : ∃ wo : World, wo = wr := ⟨_, rfl⟩
    have hdb := HB.out i
    obtain ⟨dv, hdv⟩ : ∃ dv, dv = dayAt l (k + 2) d0 i := ⟨_, rfl⟩
    rw [← hdv] at hdb
    rw [← hdv]
    have HDV := Lib.hid hdv; clear hdv
    obtain ⟨hdb0, hdb1⟩ := hdb
    by_cases hlt2 : i < n
    · go_wp2_with (fail)
      refine (pick_any l _ [0, 1, 2, 3, 5, 9] p wo hsr (by omega) (by decide) (by decide)).mono ?_
      rintro e w3 ⟨rfl, hs3, hg3⟩
      go_wp2_with (fail)
      refine (flip_any l _ 4 p w3 hs3 (by omega) (by omega)).mono ?_
      rintro e w4 ⟨rfl, hs4, hg4⟩
      have hgo4 := gr_trans hg3 hg4
      have hown4 := own_keepS hown hgo4 hlt
      have HL : Hid (sales (salesTo l (k + 2) d0 i) ++ encSale ⟨dv, pickM l (k + 2 + 3 * i) [0, 1, 2, 3, 5, 9], flipM l (k + 2 + 3 * i + 1) 4⟩ = sales (salesTo l (k + 2) d0 (i + 1))) := by
        show _ = _
        rw [salesTo_succ, sales_append, HDV.out]
        simp [sales, saleAt]
      go_wp2_with (at_builtin; refine wpList_app eSales rfl _ _ rfl w.heap.size _ _ _ rfl (hown4.alloc _) (some ⟨w4.heap.size, 0, none⟩) 1 1 (encSale ⟨dv, pickM l (k + 2 + 3 * i) [0, 1, 2, 3, 5, 9], flipM l (k + 2 + 3 * i + 1) 4⟩) rfl ?d1 ?d2 ?d3 ?d4 ?d5 ?d6 ?_)
      case d1 => rfl
      case d2 => exact CellsAt.new _ _ _
      case d3 => intro h; cases h
      case d4 => intro u hu; exact sales_one [_] u (by simpa [sales] using hu)
      case d5 => omega
      case d6 => have := hg02.size; have := hgr.size; have := hgo4.size; simp; omega
      intro v5 w5 hown5 hg5
      rw [HL.out] at hown5
      have hlts : ∀ q, u3.ownBlock = some q → w.heap.size ≤ q := fun q hq => (hown.lt q hq).1
      have hs5 : StreamAt w5 p lw l (k + 2 + 3 * i + 1 + 1) := (hs4.keep0 (gr_alloc (gr_refl _ _) _)).keep hg5 (fun q hq => by have := hlts q hq; omega)
      have hgw5 : w.grownBy w5 (some p) := gr_grown (gr_alloc (gr_trans hgr hgo4) _) hg5 hlts
      clear hg5 hown4 hown hlts hs4 hs3 hg3 hg4 hgo4 hgr hsr
      go_wp2_with (fail)
      refine (pick_any l _ [1, 1, 1, 3] p w5 hs5 (by omega) (by decide) (by decide)).mono ?_
      rintro e w6 ⟨rfl, hs6, hg6⟩
      have hpm := pickM_mem l (k + 2 + 3 * i + 1 + 1) [1, 1, 1, 3] (by decide)
      have HP : Hid (dv + pickM l (k + 2 + 3 * i + 1 + 1) [1, 1, 1, 3] = dayAt l (k + 2) d0 (i + 1)) := by
        show _ = _
        rw [HDV.out]; rfl
      simp only [List.mem_cons, List.not_mem_nil, or_false] at hpm
      have hp0 : 0 ≤ pickM l (k + 2 + 3 * i + 1 + 1) [1, 1, 1, 3] := by omega
      have hp1 : pickM l (k + 2 + 3 * i + 1 + 1) [1, 1, 1, 3] ≤ 3 := by omega
      clear hpm
      go_wp2_with (fail)
      go_roundw
      case rel => exact ⟨i + 1, by omega, by go_num, by rw [HP.out], own_keepS hown5 hg6 hlt, by rw [show k + 2 + 3 * (i + 1) = k + 2 + 3 * i + 1 + 1 + 1 by omega]; exact hs6, gr_trans hgw5 hg6⟩
      case measure => simp [intOf]; omega
    · have hin : i = n := by omega
      subst hin
      have HH : Hid (daysHead l k = salesTo l (k + 2) d0 i) := by show _ = _; unfold daysHead; rw [HN.out, HD.out]
      go_wp2_with (fail)
      refine (flip_any l _ 15 p _ hsr (by omega) (by omega)).mono ?_
      rintro e w3 ⟨rfl, hs3, hg3⟩
      have HM : Hid (daysMore l k = flipM l (k + 2 + 3 * i) 15) := by show _ = _; unfold daysMore; rw [HN.out]
      by_cases hf : flipM l (k + 2 + 3 * i) 15 = true
      · rw [hf]
        have hm : daysMore l k = true := by rw [HM.out, hf]
        have HMM := Lib.hid hm
        clear hf hm
        have hown3 := own_keepS hown hg3 hlt
        have hgr3 := gr_trans hgr hg3
        clear hown hg3 hgr hsr
        go_wp2_with (fail)
        refine (pick_any l _ [-1, 0, 4000, 4001] p w3 hs3 (by omega) (by decide) (by decide)).mono ?_
        rintro e w4 ⟨rfl, hs4, hg4⟩
        have hown4 := own_keepS hown3 hg4 hlt
        have hgr4 := gr_trans hgr3 hg4
        clear hown3 hg4 hgr3 hs3
        go_wp2_with (fail)
        refine (pick_any l _ [-1, 0, 1000, 1001] p w4 hs4 (by omega) (by decide) (by decide)).mono ?_
        rintro e w5 ⟨rfl, hs5, hg5⟩
        have hown5 := own_keepS hown4 hg5 hlt
        have hgr5 := gr_trans hgr4 hg5
        clear hown4 hg5 hgr4 hs4
        have HL : Hid (daysLast l k = ⟨pickM l (k + 2 + 3 * i + 1) [-1, 0, 4000, 4001], pickM l (k + 2 + 3 * i + 1 + 1) [-1, 0, 1000, 1001], false⟩) := by
          show _ = _
          unfold daysLast
          rw [← HN.out]
        go_wp2_with (at_builtin; refine wpList_app eSales rfl _ _ rfl w.heap.size _ _ _ rfl (hown5.alloc _) (some ⟨w5.heap.size, 0, none⟩) 1 1 (encSale ⟨pickM l (k + 2 + 3 * i + 1) [-1, 0, 4000, 4001], pickM l (k + 2 + 3 * i + 1 + 1) [-1, 0, 1000, 1001], false⟩) rfl ?f1 ?f2 ?f3 ?f4 ?f5 ?f6 ?_)
        case f1 => rfl
        case f2 => exact CellsAt.new _ _ _
        case f3 => intro h; cases h
        case f4 => intro u hu; exact sales_one [_] u (by simpa [sales] using hu)
        case f5 => omega
        case f6 => have := hgr5.size; simp; omega
        intro v6 w6 hown6 hg6
        have hlts : ∀ q, u3.ownBlock = some q → w.heap.size ≤ q := fun q hq => (hown5.lt q hq).1
        have hs6 : StreamAt w6 p lw l (k + 2 + 3 * i + 1 + 1 + 1) := (hs5.keep0 (gr_alloc (gr_refl _ _) _)).keep hg6 (fun q hq => by have := hlts q hq; omega)
        have hgw6 : w.grownBy w6 (some p) := gr_grown (gr_alloc hgr5 _) hg6 hlts
        go_wp2_with (fail)
        go_ret
        refine ⟨v6, rfl, ?_, ?_, hgw6⟩
        · rw [daysM, HMM.out]
          simp only [if_true]
          rw [HH.out, HL.out, List.length_append, salesTo_length, sales_append]
          simpa [sales] using hown6
        · rw [daysK, HMM.out, ← HN.out]
          exact hs6
      · have hf' : flipM l (k + 2 + 3 * i) 15 = false := by simpa using hf
        rw [hf']
        have hm : daysMore l k = false := by rw [HM.out, hf']
        have HMM := Lib.hid hm
        clear hf hf' hm
        go_wp2_with (fail)
        go_ret
        have hown3 := own_keepS hown hg3 hlt
        refine ⟨u3, rfl, ?_, ?_, gr_trans hgr hg3⟩
        · rw [daysM, HMM.out]
          simp only [Bool.false_eq_true, if_false]
          rw [HH.out, salesTo_length]
          exact hown3
        · rw [daysK, HMM.out, ← HN.out]
          exact hs3
end Go.Proofs.Ytlpkancpjdihgaa
