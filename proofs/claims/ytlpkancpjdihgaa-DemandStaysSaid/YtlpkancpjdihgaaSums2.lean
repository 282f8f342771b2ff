/- Package demand on days: the sum over a day of the week. -/
import Derived.Test.YtlpkancpjdihgaaSums
namespace Go.Proofs.Ytlpkancpjdihgaa
open Go.RowKit

set_option maxRecDepth 100000 in
set_option maxHeartbeats 2000000 in
theorem sumWeek_any (l : List Sale) (a : Option Addr) (c : Nat) (q : Nat) (d : Int) (w : World) (hq : w.cell? ⟨q, 0, none⟩ = some (.int .i64 d)) (hc : CellsAt w a (sales l)) (ho : OkDays l) :
    Calls Try.prog 91 #[.slice a l.length c, .func (.func 93) #[] #[.pointer (some ⟨q, 0, none⟩)]] w fun e w' => e = .returned (.tuple #[.int .i64 (tot (weekP d) l), .int .i64 (cnt (weekP d) l)]) ∧ w.grownBy w' none := by
  have hl := ho.len
  go_enter Try.func91, Try.ntmps91
  go_wp2_with (fail)
  go_loopw [4, 5, 10] (fun s n i wr => ∃ k : Nat, k ≤ l.length ∧ i = .int .i64 k ∧ s = .int .i64 (tot (weekP d) (l.take k)) ∧ n = .int .i64 (cnt (weekP d) (l.take k)) ∧ w.grownBy wr none) (fun _ _ i _ => l.length - (intOf i).toNat)
  case atStart => exact ⟨0, Nat.zero_le _, rfl, rfl, rfl, gr_refl _ _⟩
  case round =>
    obtain ⟨k, hk, rfl, rfl, rfl, hgr⟩ := hrel
    obtain ⟨wo, rfl⟩ : ∃ wo : World, wo = wr := ⟨_, rfl⟩
    have htb := tot_bound (weekP d) l ho k hk
    obtain ⟨s, hs⟩ : ∃ s, s = tot (weekP d) (l.take k) := ⟨_, rfl⟩
    obtain ⟨n, hn⟩ : ∃ n, n = cnt (weekP d) (l.take k) := ⟨_, rfl⟩
    have hnk : n ≤ k := by rw [hn]; exact Nat.le_trans (cnt_le _ _) (List.length_take_le _ _)
    rw [← hs] at htb
    obtain ⟨htb0, htb1⟩ := htb
    rw [← hs, ← hn]
    have HS := Lib.hid hs; clear hs
    have HN := Lib.hid hn; clear hn
    by_cases hlt : k < l.length
    · obtain ⟨b, off, rfl, hcs⟩ := sales_cells (hc.keep0 hgr) k hlt
      obtain ⟨c0, c1, c2⟩ := hcs k hlt
      have hbl := lt_of_cell c0
      have ok := ho.ok k hlt
      have ok0 := ok.s0
      have ok1 := ok.s1
      have ok2 := ok.d0
      have ok3 := ok.d1
      obtain ⟨x, hx⟩ : ∃ x, x = sAt l k := ⟨_, rfl⟩
      rw [← hx] at c0 c1 c2 ok0 ok1 ok2 ok3
      have HX := Lib.hid hx; clear hx hcs ok
      cases hxo : x.out with
      | true =>
        rw [hxo] at c2
        have ht : takes (weekP d) (sAt l k) = false := by rw [← HX.out]; simp [takes, hxo]
        have HO := Lib.hid hxo; clear hxo
        go_wp2_with (fail)
        go_roundw
        case rel => exact ⟨k + 1, by omega, by go_num, by rw [tot_no hlt ht, HS.out], by rw [cnt_no hlt ht, HN.out], gr_alloc hgr _⟩
        case measure => simp [intOf]; omega
      | false =>
        rw [hxo] at c2
        have hqo : (wo.alloc (.cells #[.int .i64 x.day, .int .i64 x.sold, .bool false] 40)).cell? ⟨q, 0, none⟩ = some (.int .i64 d) := by
          rw [World.cell?_alloc_past _ _ _ (lt_of_cell (hgr.cell hq (by simp)))]
          exact hgr.cell hq (by simp)
        have HO := Lib.hid hxo; clear hxo
        go_wp2_with (fail)
        refine (week1_any ⟨x.day, x.sold, false⟩ q d _ ok2 ok3 hqo).mono ?_
        rintro e w1 ⟨rfl, hg1⟩
        have d0 : w1.cell? ⟨wo.heap.size, 1, none⟩ = some (.int .i64 x.sold) := made_cell hg1 1 rfl
        have hgw := gr_trans (gr_alloc hgr _) hg1
        have hte : takes (weekP d) (sAt l k) = weekP d ⟨x.day, x.sold, false⟩ := by rw [← HX.out]; simp [takes, HO.out, weekP]
        cases hp : weekP d ⟨x.day, x.sold, false⟩ with
        | true =>
          rw [hp] at hte
          go_wp2_with (fail)
          go_roundw
          case rel => exact ⟨k + 1, by omega, by go_num, by rw [tot_yes hlt hte, HS.out, HX.out], by rw [cnt_yes hlt hte, HN.out]; go_num, hgw⟩
          case measure => simp [intOf]; omega
        | false =>
          rw [hp] at hte
          go_wp2_with (fail)
          go_roundw
          case rel => exact ⟨k + 1, by omega, by go_num, by rw [tot_no hlt hte, HS.out], by rw [cnt_no hlt hte, HN.out], hgw⟩
          case measure => simp [intOf]; omega
    · have hkl : k = l.length := by omega
      have HK := Lib.hid hkl; clear hkl
      have ht : l.take k = l := by rw [HK.out]; exact List.take_length
      rw [ht] at HS HN
      go_wp2_with (fail)
      go_ret2
      exact ⟨by rw [← HS.out, ← HN.out]; rfl, hgr⟩
end Go.Proofs.Ytlpkancpjdihgaa
