/- Equality of rows of ints, and of readings. -/
import Derived.Test.YtjhfglhoiplfmaaPkSAi
import Derived.Test.YtjhfglhoiplfmaaPkSAg
import Derived.Test.YtjhfglhoiplfmaaPkSAk
namespace Go.Proofs.Ytjhfglhoiplfmaa
open Go.RowKit

set_option maxRecDepth 100000 in
theorem equalD_int (xs ys : List Int) (a b : Option Addr) (c d : Nat) (w : World) (ha : CellsAt w a (ints xs)) (hb : CellsAt w b (ints ys)) (hl2 : ys.length ≤ 1000000) :
    Calls Try.prog 31 #[.slice a xs.length c, .slice b ys.length d] w fun e w' => e = .returned (.bool (decide (xs = ys))) ∧ w.grownBy w' none := by
  by_cases hlen : xs.length = ys.length
  · have hne : ((xs.length : Int) != (ys.length : Int)) = false := by simp [hlen]
    have HLEN := Lib.hid hlen
    have hle : xs.length ≤ ys.length := by omega
    clear hlen
    go_enter Try.func31, Try.ntmps31
    go_wp2_with (fail)
    go_loopw [13] (fun i wr => ∃ k : Nat, k ≤ xs.length ∧ i = .int .i64 k ∧ Hid (∀ j, j < k → xs[j]? = ys[j]?) ∧ w.grownBy wr none) (fun i _ => xs.length - (intOf i).toNat)
    case atStart => exact ⟨0, Nat.zero_le _, rfl, fun j hj => absurd hj (Nat.not_lt_zero _), gr_refl _ _⟩
    case round =>
      obtain ⟨k, hk, rfl, HPRE, hgr⟩ := hrel
      obtain ⟨wo, rfl⟩ : ∃ wo : World, wo = wr := ⟨_, rfl⟩
      by_cases hlt : k < xs.length
      · have hlt2 : k < ys.length := by omega
        obtain ⟨b1, o1, rfl, c1⟩ := (ha.keep0 hgr) k _ (ints_get xs k hlt)
        obtain ⟨b2, o2, rfl, c2⟩ := (hb.keep0 hgr) k _ (ints_get ys k hlt2)
        have HE : Hid (xs.getD k 0 = ys.getD k 0 → ∀ j, j < k + 1 → xs[j]? = ys[j]?) := by
          show _ → _
          intro h j hj
          by_cases e : j = k
          · subst e
            rw [getD_eq _ _ _ hlt, getD_eq _ _ _ hlt2] at h
            rw [List.getElem?_eq_getElem hlt, List.getElem?_eq_getElem hlt2, h]
          · exact HPRE.out j (by omega)
        have HN : Hid (xs.getD k 0 ≠ ys.getD k 0 → xs ≠ ys) := fun h e => h (by rw [e])
        obtain ⟨x, hx⟩ : ∃ x, x = xs.getD k 0 := ⟨_, rfl⟩
        obtain ⟨y, hy⟩ : ∃ y, y = ys.getD k 0 := ⟨_, rfl⟩
        rw [← hx] at c1 HE HN
        rw [← hy] at c2 HE HN
        clear hx hy
        by_cases hxy : x = y
        · subst hxy
          have HE2 := Lib.hid (HE.out rfl)
          clear HE HN
          go_wp2_with (fail)
          go_region
          all_goals (go_wp2_with (fail))
          all_goals go_roundw
          case rel => exact ⟨k + 1, by omega, by go_num, HE2, gr_drew hgr⟩
          case measure => simp [intOf]; omega
        · have hq : (x != y) = true := by simpa using hxy
          have HN2 := Lib.hid (HN.out hxy)
          clear HE HN hxy
          go_wp2_with (fail)
          go_region
          all_goals (go_wp2_with (fail))
          all_goals go_ret
          all_goals exact ⟨ret_bool (decide_eq_false HN2.out).symm, gr_drew hgr⟩
      · have hkl : k = xs.length := by omega
        have HEQ : Hid (xs = ys) := by
          show _ = _
          apply List.ext_getElem?
          intro j
          by_cases hj : j < k
          · exact HPRE.out j hj
          · have := HLEN.out
            rw [List.getElem?_eq_none (by omega), List.getElem?_eq_none (by omega)]
        clear hkl
        go_wp2_with (fail)
        go_ret
        exact ⟨ret_bool (decide_eq_true HEQ.out).symm, hgr⟩
  · have hne : ((xs.length : Int) != (ys.length : Int)) = true := by simp; omega
    have HN : Hid (xs ≠ ys) := fun e => hlen (by rw [e])
    clear hlen
    go_enter Try.func31, Try.ntmps31
    go_wp2_with (fail)
    go_ret
    exact ⟨ret_bool (decide_eq_false HN.out).symm, gr_refl _ _⟩

/-! Readings in memory. -/
/-- The row and all its values are there. -/
structure RdsC (w : World) (a : Option Addr) (L : List RdG) : Prop where
  row : CellsAt w a (cellsG L)
  vals : ∀ g ∈ L, CellsAt w g.a (ints g.rd.vs)
  nil : ∀ g ∈ L, g.a = none → g.rd.vs.length = 0 ∧ g.c = 0
theorem RdsC.keep0 {w w1 : World} {a : Option Addr} {L : List RdG} (h : RdsC w a L) (g : w.grownBy w1 none) : RdsC w1 a L := ⟨h.row.keep0 g, fun x hx => (h.vals x hx).keep0 g, h.nil⟩
theorem RdsC.at {w : World} {a : Option Addr} {L : List RdG} (h : RdsC w a L) {k : Nat} (hk : k < L.length) : ∃ b off, a = some ⟨b, off, none⟩ ∧ w.cell? ⟨b, off + k * 2, none⟩ = some (.int .i64 L[k].rd.at_) ∧ w.cell? ⟨b, off + k * 2 + 1, none⟩ = some (.slice L[k].a L[k].rd.vs.length L[k].c) ∧ CellsAt w L[k].a (ints L[k].rd.vs) := by
  have hk2 : k < (L.map RdG.cell).length := by simpa using hk
  obtain ⟨b, off, e, hc⟩ := flat_cells (enc := encC) (m := 2) (fun _ => rfl) (by decide) (l := L.map RdG.cell) h.row (by omega)
  have e2 : (L.map RdG.cell)[k] = L[k].cell := by simp
  exact ⟨b, off, e, hc k hk2 0 _ (by rw [e2]; rfl), hc k hk2 1 _ (by rw [e2]; rfl), h.vals _ (List.getElem_mem hk)⟩
end Go.Proofs.Ytjhfglhoiplfmaa
