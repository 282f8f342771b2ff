/- What can be sold no more is taken out of lots. -/
import Derived.Test.YtdjnomeabadbnaaDoorLotsF
import Derived.Test.YtdjnomeabadbnaaDoorCloneLot
import Derived.Test.YtdjnomeabadbnaaDoorFlatSet
namespace Go.Proofs.YtdjnomeabadbnaaDoor
open Go.RowKit
attribute [local go_sem ↓] Go.wp_at_zero Go.wp_at_succ

theorem encLot_one : ∀ x, (encLot x).all (fun u => u.oneCell') = true := fun _ => rfl
def spoil1 (day : Int) (x : Lot) : Lot := if day ≤ x.exp then x else ⟨x.id, x.prod, x.exp, 0⟩
def spoilTo (day : Int) (xs : List Lot) (k : Nat) : List Lot := (xs.take k).map (spoil1 day) ++ xs.drop k
theorem spoilTo_len (day : Int) (xs : List Lot) (k : Nat) : (spoilTo day xs k).length = xs.length := by simp [spoilTo]; omega
theorem spoilTo_zero (day : Int) (xs : List Lot) : spoilTo day xs 0 = xs := by simp [spoilTo]
theorem spoilTo_at (day : Int) (xs : List Lot) (k : Nat) (hk : k < xs.length) : (spoilTo day xs k)[k]'(by rw [spoilTo_len]; exact hk) = xs[k] := by
  simp only [spoilTo]
  rw [List.getElem_append_right (by simp; omega)]
  simp [Nat.min_eq_left (Nat.le_of_lt hk)]
theorem spoilTo_next (day : Int) (xs : List Lot) (k : Nat) (hk : k < xs.length) : spoilTo day xs (k + 1) = (spoilTo day xs k).set k (spoil1 day xs[k]) := by
  simp only [spoilTo]
  rw [take_next xs k hk, List.map_append, List.set_append_right _ _ (by simp; omega)]
  simp only [List.length_map, List.length_take, Nat.min_eq_left (Nat.le_of_lt hk), Nat.sub_self, List.map_cons, List.map_nil]
  rw [List.drop_eq_getElem_cons hk, List.set_cons_zero]
  simp
theorem nil_of_lots {w : World} {a : Option Addr} {xs : List Lot} (h : CellsAt w a (flat encLot xs)) (e : a = none) : xs.length = 0 := by
  subst e
  cases xs with
  | nil => rfl
  | cons x xs => obtain ⟨_, _, e, _⟩ := h 0 (.string x.id) rfl; cases e
set_option maxRecDepth 100000 in
set_option maxHeartbeats 4000000 in
theorem spoil_any (xs : List Lot) (a : Option Addr) (c : Nat) (day : Int) (w : World) (h : CellsAt w a (flat encLot xs)) (hnil : a = none → c = 0) (hok : LotsOk xs) (h0 : 0 ≤ day) (h1 : day ≤ 4000) :
    Calls Tryd.prog 56 #[.slice a xs.length c, .int .i64 day] w fun e w' => ∃ v u, e = .returned (.tuple #[v, u, .int .i64 0]) ∧
      w'.ownsRow w.heap.size 106 4 v xs.length (flat encLot (xs.map (spoil1 day))) ∧ w.grownBy w' none := by
  have hl := hok.len
  have LF := Lib.hid (checkLots_ok xs a c w h hok)
  have KF : Hid (∀ W, w.grownBy W none → Calls Tryd.prog 117 #[.slice a xs.length c] W fun e w' => ∃ v, e = .returned v ∧ w'.ownsRow W.heap.size 106 4 v xs.length (flat encLot xs) ∧ W.grownBy w' none) :=
    fun W g => cloneLot_any a xs.length c (flat encLot xs) W (flat_length encLot_len _) (h.keep0 g) (fun e => ⟨nil_of_lots h e, hnil e⟩) (flat_ones encLot_one _) (by omega)
  have H := Lib.hid h
  have hd : (!(decide (day < 0) || decide (4000 < day))) = true := by simp; omega
  clear h hok hnil
  go_enter Tryd.func56, Tryd.ntmps56
  go_wp2_with (fail)
  refine LF.out.mono ?_
  rintro e w1 ⟨rfl, g1⟩
  go_wp2_with (fail)
  refine (dayL_any day w1).mono ?_
  rintro e w2 ⟨rfl, rfl⟩
  rw [hd]
  go_wp2_with (fail)
  refine (KF.out w1 g1).mono ?_
  rintro e w2 ⟨v8, rfl, o2, g2⟩
  have HB2 := Lib.hid (gr_trans g1 g2)
  have hz := g1.size
  have hz2 := g2.size
  have o2 := own_base o2 hz
  clear g1 g2
  go_wp2_with (fail)
  go_loopw [9, 24] (fun u i wr => ∃ (k : Nat) (G : List Piece), k ≤ xs.length ∧ i = .int .i64 k ∧ G.length ≤ k ∧ wr.ownsRow w.heap.size 106 4 v8 xs.length (flat encLot (spoilTo day xs k)) ∧ wr.ownsRow w.heap.size 94 2 u G.length (flat encPc G) ∧ w.grownBy wr none) (fun _ i _ => xs.length - (intOf i).toNat)
  case atStart => exact ⟨0, [], Nat.zero_le _, rfl, Nat.le_refl _, by rw [spoilTo_zero]; exact o2, World.ownsRow_nil _ _ _ _, HB2.out⟩
  case round =>
    obtain ⟨k, G, hk, rfl, hGk, ol, og, hgr⟩ := hrel
    obtain ⟨wo, rfl⟩ : ∃ wo : World, wo = wr := ⟨_, rfl⟩
    clear o2
    by_cases hlt : k < xs.length
    · obtain ⟨b, off, rfl, d0, d1, d2, d3⟩ := lot_cells (H.out.keep0 hgr) k hlt
      obtain ⟨g, cap, rfl, hgb, hgl, hcap, hcm⟩ := own_some ol (by omega)
      have HNX := Lib.hid (spoilTo_next day xs k hlt)
      have HAT := Lib.hid (spoilTo_at day xs k hlt)
      obtain ⟨x, hx⟩ : ∃ x, x = xs[k] := ⟨_, rfl⟩
      rw [← hx] at d0 d1 d2 d3 HNX HAT
      obtain ⟨K, P, E, M⟩ := x
      simp only at d0 d1 d2 d3
      have HOL := Lib.hid ol
      have HOG := Lib.hid og
      have HGR := Lib.hid hgr
      have hzo := hgr.size
      have hkl : k < (spoilTo day xs k).length := by rw [spoilTo_len]; exact hlt
      have g3 := gr_alloc (gr_refl wo none) (.cells #[.string K, .string P, .int .i64 E, .int .i64 M] 106)
      have OL3 := Lib.hid (own_keep0 ol g3)
      have OG3 := Lib.hid (own_keep0 og g3)
      have HG3 := Lib.hid (gr_trans hgr g3)
      have ST : Hid (∀ w6 : World, w6.ownsRow w.heap.size 106 4 (.slice (some ⟨g, 0, none⟩) xs.length cap) xs.length (flat encLot (spoilTo day xs k)) → E < day → w6.cell? ⟨g, k * 4 + 3, none⟩ = some (.int .i64 M) ∧ w6.frozen? ⟨g, k * 4 + 3, none⟩ = false ∧ (w6.setCell ⟨g, k * 4 + 3, none⟩ (.int .i64 0)).ownsRow w.heap.size 106 4 (.slice (some ⟨g, 0, none⟩) xs.length cap) xs.length (flat encLot (spoilTo day xs (k + 1)))) := fun w6 ho hd => by
        have := own_cellE encLot_len ho k hkl 3 (by decide) (.int .i64 M) (by rw [HAT.out]; rfl) (spoilTo_len _ _ _)
        refine ⟨this.1, this.2.1, ?_⟩
        rw [HNX.out]
        refine this.2.2 _ _ ?_
        rw [HAT.out]
        unfold spoil1
        rw [if_neg (by simp only; omega)]
        rfl
      have NS : Hid (day ≤ E → spoilTo day xs (k + 1) = spoilTo day xs k) := fun hd => by
        rw [HNX.out]
        unfold spoil1
        rw [if_pos hd, ← HAT.out]
        exact List.set_getElem_self _
      have hKG : G.length ≤ 500 := by omega
      have OL := Lib.hid ol
      have OG := Lib.hid og
      have HG := Lib.hid hgr
      clear hx ol og hgr HNX HAT hkl
      by_cases hde : day ≤ E
      · have hd1 : decide (day ≤ E) = true := by simpa using hde
        go_wp2_with (fail)
        go_roundw
        case rel => exact ⟨k + 1, G, by omega, by go_num, by omega, by rw [NS.out hde]; exact OL3.out, OG3.out, HG3.out⟩
        case measure => simp [intOf]; omega
      · have hd1 : decide (day ≤ E) = false := by simpa using hde
        have hlt2 : E < day := by omega
        by_cases hm : 0 < M
        · have hb3 := HG3.out.size
          have F6 : Hid (∀ (w6 : World) (u : Value), (wo.alloc (.cells #[.string K, .string P, .int .i64 E, .int .i64 M] 106)).ownsRow w.heap.size 94 2 u G.length (flat encPc G) → (wo.alloc (.cells #[.string K, .string P, .int .i64 E, .int .i64 M] 106)).grownBy w6 u.ownBlock → w6.ownsRow w.heap.size 106 4 (.slice (some ⟨g, 0, none⟩) xs.length cap) xs.length (flat encLot (spoilTo day xs k))) := fun w6 u hu g6 => own_keepU OL3.out hu (by decide) g6
          go_wp2_with (at_builtin; refine wpList_app1F ePc rfl _ _ rfl w.heap.size _ G.length (flat encPc G) rfl (wo.alloc (.cells #[.string K, .string P, .int .i64 E, .int .i64 M] 106)) #[.string K, .int .i64 M] rfl OG3.out _ rfl (by simp) rfl rfl (by omega) hb3 ?_; intro v6 w6 ho6 g6 hlt6 hf6; obtain ⟨e1, e2, e3⟩ := ST.out w6 (F6.out w6 _ OG3.out g6) hlt2; have HO6 := Lib.hid ho6; have HG6 := Lib.hid g6; have HL6 := Lib.hid hlt6; have HS6 := Lib.hid e3; have HU6 := Lib.hid (own_keepU ho6 (F6.out w6 _ OG3.out g6) (by decide) (show w6.grownBy (w6.setCell ⟨g, k * 4 + 3, none⟩ (.int .i64 0)) (Value.slice (some ⟨g, 0, none⟩) xs.length cap).ownBlock from gr_set (gr_refl _ _) rfl _)); clear ho6 g6 hlt6 hf6 e3)
          go_roundw
          case rel => exact ⟨k + 1, G ++ [⟨K, M⟩], by omega, by go_num, by simp; omega, HS6.out, by rw [List.length_append, flat_append]; exact HU6.out, gr_new (gr_grown HG3.out HG6.out (fun q hq => by have := HL6.out q hq; omega)) hgb _⟩
          case measure => simp [intOf]; omega
        · obtain ⟨e1, e2, e3⟩ := ST.out _ OL3.out hlt2
          obtain ⟨-, -, y3⟩ := ST.out _ OL.out hlt2
          have gy : wo.grownBy (wo.setCell ⟨g, k * 4 + 3, none⟩ (.int .i64 0)) (Value.slice (some ⟨g, 0, none⟩) xs.length cap).ownBlock := gr_set (gr_refl _ _) rfl _
          have gz := gr_alloc (gr_refl (wo.setCell ⟨g, k * 4 + 3, none⟩ (.int .i64 0)) none) (.cells #[.string K, .string P, .int .i64 E, .int .i64 M] 106)
          have HU6 := Lib.hid (fun u (hu : wo.ownsRow w.heap.size 94 2 u G.length (flat encPc G)) => own_keep0 (own_keepU hu OL.out (by decide) gy) gz)
          have HS6 := Lib.hid (own_keep0 y3 gz)
          have HG6 := Lib.hid (gr_alloc (gr_new HG.out (q := ⟨g, k * 4 + 3, none⟩) hgb (.int .i64 0)) (.cells #[.string K, .string P, .int .i64 E, .int .i64 M] 106))
          clear e3 y3 gy gz
          go_wp2_with (fail)
          go_roundw
          case rel => exact ⟨k + 1, G, by omega, by go_num, by omega, HS6.out, HU6.out _ OG.out, HG6.out⟩
          case measure => simp [intOf]; omega
    · obtain rfl : k = xs.length := by omega
      have HE : Hid (spoilTo day xs xs.length = xs.map (spoil1 day)) := by show _ = _; simp [spoilTo]
      obtain ⟨ua, uc, rfl, -, -, -, -⟩ := own_shape og
      obtain ⟨va, vc, rfl, -, -, -, -⟩ := own_shape ol
      have HOL := Lib.hid ol
      clear ol og
      go_wp2_with (fail)
      go_ret3
      exact ⟨_, _, rfl, by rw [← HE.out]; exact HOL.out, hgr⟩
end Go.Proofs.YtdjnomeabadbnaaDoor
