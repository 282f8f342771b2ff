/- Package demand on days: sums. -/
import Derived.Test.YtlpkancpjdihgaaDemand2
namespace Go.Proofs.Ytlpkancpjdihgaa
open Go.RowKit

def takes (P : Sale → Bool) (s : Sale) : Bool := !s.out && P s
def cnt (P : Sale → Bool) (l : List Sale) : Nat := (l.filter (takes P)).length
def tot (P : Sale → Bool) (l : List Sale) : Int := ((l.filter (takes P)).map Sale.sold).sum
theorem take_sale (l : List Sale) (k : Nat) (h : k < l.length) : l.take (k + 1) = l.take k ++ [sAt l k] := by
  rw [List.take_succ_eq_append_getElem h, sAt, List.getD_eq_getElem?_getD, List.getElem?_eq_getElem h]
  rfl
theorem cnt_yes {P : Sale → Bool} {l : List Sale} {k : Nat} (h : k < l.length) (hp : takes P (sAt l k) = true) : cnt P (l.take (k + 1)) = cnt P (l.take k) + 1 := by
  simp [cnt, take_sale l k h, List.filter_append, hp]
theorem cnt_no {P : Sale → Bool} {l : List Sale} {k : Nat} (h : k < l.length) (hp : takes P (sAt l k) = false) : cnt P (l.take (k + 1)) = cnt P (l.take k) := by
  simp [cnt, take_sale l k h, List.filter_append, hp]
theorem tot_yes {P : Sale → Bool} {l : List Sale} {k : Nat} (h : k < l.length) (hp : takes P (sAt l k) = true) : tot P (l.take (k + 1)) = tot P (l.take k) + (sAt l k).sold := by
  simp [tot, take_sale l k h, List.filter_append, hp]
theorem tot_no {P : Sale → Bool} {l : List Sale} {k : Nat} (h : k < l.length) (hp : takes P (sAt l k) = false) : tot P (l.take (k + 1)) = tot P (l.take k) := by
  simp [tot, take_sale l k h, List.filter_append, hp]
theorem cnt_le (P : Sale → Bool) (l : List Sale) : cnt P l ≤ l.length := List.length_filter_le _ _
theorem tot_bound (P : Sale → Bool) (l : List Sale) (h : OkDays l) (k : Nat) (hk : k ≤ l.length) : 0 ≤ tot P (l.take k) ∧ tot P (l.take k) ≤ 1000 * k := by
  induction k with
  | zero => simp [tot]
  | succ k ih =>
    have := ih (by omega)
    have o := h.ok k (by omega)
    have := o.s0
    have := o.s1
    cases hp : takes P (sAt l k) with
    | true => rw [tot_yes (by omega) hp]; omega
    | false => rw [tot_no (by omega) hp]; omega

def allP : Sale → Bool := fun _ => true
def weekP (d : Int) : Sale → Bool := fun s => s.day % 7 == d

theorem every_any (x : Sale) (w : World) : Calls Try.prog 92 #[.agg #[.int .i64 x.day, .int .i64 x.sold, .bool x.out]] w fun e w' => e = .returned (.bool (allP x)) ∧ w.grownBy w' none := by
  go_enter Try.func92, Try.ntmps92
  go_wp2_with (fail)
  go_ret
  exact ⟨rfl, gr_alloc (gr_refl _ _) _⟩
theorem week1_any (x : Sale) (q : Nat) (d : Int) (w : World) (hx0 : 0 ≤ x.day) (hx1 : x.day ≤ 4000) (hq : w.cell? ⟨q, 0, none⟩ = some (.int .i64 d)) :
    Calls Try.prog 93 #[.agg #[.int .i64 x.day, .int .i64 x.sold, .bool x.out], .pointer (some ⟨q, 0, none⟩)] w fun e w' => e = .returned (.bool (weekP d x)) ∧ w.grownBy w' none := by
  have hql := lt_of_cell hq
  go_enter Try.func93, Try.ntmps93
  go_wp2_with (fail)
  go_ret
  exact ⟨rfl, gr_alloc (gr_refl _ _) _⟩

set_option maxRecDepth 100000 in
set_option maxHeartbeats 2000000 in
theorem sumAll_any (l : List Sale) (a : Option Addr) (c : Nat) (w : World) (hc : CellsAt w a (sales l)) (ho : OkDays l) :
    Calls Try.prog 91 #[.slice a l.length c, .func (.func 92) #[] #[]] w fun e w' => e = .returned (.tuple #[.int .i64 (tot allP l), .int .i64 (cnt allP l)]) ∧ w.grownBy w' none := by
  have hl := ho.len
  go_enter Try.func91, Try.ntmps91
  go_wp2_with (fail)
  go_loopw [4, 5, 10] (fun s n i wr => ∃ k : Nat, k ≤ l.length ∧ i = .int .i64 k ∧ s = .int .i64 (tot allP (l.take k)) ∧ n = .int .i64 (cnt allP (l.take k)) ∧ w.grownBy wr none) (fun _ _ i _ => l.length - (intOf i).toNat)
  case atStart => exact ⟨0, Nat.zero_le _, rfl, rfl, rfl, gr_refl _ _⟩
  case round =>
    obtain ⟨k, hk, rfl, rfl, rfl, hgr⟩ := hrel
    obtain ⟨wo, rfl⟩ : ∃ wo : World, wo = wr := ⟨_, rfl⟩
    have htb := tot_bound allP l ho k hk
    obtain ⟨s, hs⟩ : ∃ s, s = tot allP (l.take k) := ⟨_, rfl⟩
    obtain ⟨n, hn⟩ : ∃ n, n = cnt allP (l.take k) := ⟨_, rfl⟩
    have hnk : n ≤ k := by rw [hn]; exact Nat.le_trans (cnt_le _ _) (List.length_take_le _ _)
    rw [← hs] at htb
    obtain ⟨htb0, htb1⟩ := htb
    rw [← hs, ← hn]
    have HS := Lib.hid hs; clear hs
    have HN := Lib.hid hn; clear hn
    by_cases hlt : k < l.length
    · obtain ⟨b, off, rfl, hcs⟩ := sales_cells (hc.keep0 hgr) k hlt
      obtain ⟨c0, c1, c2⟩ := hcs k hlt
      have hbl := lt_of_cell c0
      have ok := ho.ok k hlt
      have ok0 := ok.s0
      have ok1 := ok.s1
      have ok2 := ok.d0
      have ok3 := ok.d1
      obtain ⟨x, hx⟩ : ∃ x, x = sAt l k := ⟨_, rfl⟩
      rw [← hx] at c0 c1 c2 ok0 ok1 ok2 ok3
      have HX := Lib.hid hx; clear hx hcs ok
      cases hxo : x.out with
      | true =>
        rw [hxo] at c2
        have ht : takes allP (sAt l k) = false := by rw [← HX.out]; simp [takes, hxo]
        have HO := Lib.hid hxo; clear hxo
        go_wp2_with (fail)
        go_roundw
        case rel => exact ⟨k + 1, by omega, by go_num, by rw [tot_no hlt ht, HS.out], by rw [cnt_no hlt ht, HN.out], gr_alloc hgr _⟩
        case measure => simp [intOf]; omega
      | false =>
        rw [hxo] at c2
        have ht : takes allP (sAt l k) = true := by rw [← HX.out]; simp [takes, hxo, allP]
        have HO := Lib.hid hxo; clear hxo
        go_wp2_with (fail)
        refine (every_any ⟨x.day, x.sold, false⟩ _).mono ?_
        rintro e w1 ⟨rfl, hg1⟩
        have d0 : w1.cell? ⟨wo.heap.size, 1, none⟩ = some (.int .i64 x.sold) := made_cell hg1 1 rfl
        have hp : allP ⟨x.day, x.sold, false⟩ = true := rfl
        rw [hp]
        have hgw := gr_trans (gr_alloc hgr _) hg1
        go_wp2_with (fail)
        go_roundw
        case rel => exact ⟨k + 1, by omega, by go_num, by rw [tot_yes hlt ht, HS.out, HX.out], by rw [cnt_yes hlt ht, HN.out]; go_num, hgw⟩
        case measure => simp [intOf]; omega
    · have hkl : k = l.length := by omega
      have HK := Lib.hid hkl; clear hkl
      have ht : l.take k = l := by rw [HK.out]; exact List.take_length
      rw [ht] at HS HN
      go_wp2_with (fail)
      go_ret2
      exact ⟨by rw [← HS.out, ← HN.out]; rfl, hgr⟩
end Go.Proofs.Ytlpkancpjdihgaa
