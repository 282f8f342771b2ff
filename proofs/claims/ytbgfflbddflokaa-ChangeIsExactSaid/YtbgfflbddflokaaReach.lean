/- vend.Reach: the windows of the amounts that can be paid. -/
import Derived.Test.YtbgfflbddflokaaReached
namespace Go.Proofs.Ytbgfflbddflokaa
open Go.RowKit

def encW (x : Int × Int) : List Value := [.int .i64 x.1, .int .i64 x.2]
theorem eWindow : ElemT Try.prog 34 40 (.agg #[.int .i64 0, .int .i64 0]) 2 16 := ⟨by kernel_rfl, by kernel_rfl, by decide, by decide, by decide⟩
/-- Windows that have just the amounts below k that are reached. -/
structure WinsTo (ok : Nat → Bool) (k : Nat) (ws : List (Int × Int)) : Prop where
  ord : ∀ x ∈ ws, x.1 ≤ x.2 ∧ x.2 ≤ k
  cov : ∀ a : Nat, (∃ x ∈ ws, x.1 ≤ a ∧ (a : Int) < x.2) ↔ a < k ∧ ok a = true
theorem WinsTo.skip {ok : Nat → Bool} {k : Nat} {ws : List (Int × Int)} (h : WinsTo ok k ws) (hk : ok k = false) : WinsTo ok (k + 1) ws := by
  refine ⟨fun x hx => by have := h.ord x hx; omega, fun a => ?_⟩
  rw [h.cov a]
  constructor
  · rintro ⟨h1, h2⟩; exact ⟨by omega, h2⟩
  · rintro ⟨h1, h2⟩
    refine ⟨?_, h2⟩
    have : a ≠ k := by rintro rfl; rw [hk] at h2; cases h2
    omega
theorem WinsTo.more {ok : Nat → Bool} {k : Nat} {ws : List (Int × Int)} {x : Int} (h : WinsTo ok k (ws ++ [(x, (k : Int))])) (hk : ok k = true) : WinsTo ok (k + 1) (ws ++ [(x, (k : Int) + 1)]) := by
  have hx := (h.ord (x, (k : Int)) (by simp)).1
  simp only at hx
  refine ⟨fun y hy => ?_, fun a => ?_⟩
  · simp only [List.mem_append, List.mem_cons, List.not_mem_nil, or_false] at hy
    rcases hy with hy | rfl
    · have := h.ord y (List.mem_append_left _ hy); omega
    · simp only; omega
  · have hc := h.cov a
    simp only [List.mem_append, List.mem_cons, List.not_mem_nil, or_false] at hc ⊢
    constructor
    · rintro ⟨y, hy | rfl, h1, h2⟩
      · have := hc.1 ⟨y, .inl hy, h1, h2⟩; exact ⟨by omega, this.2⟩
      · simp only at h1 h2
        by_cases e : a = k
        · subst e; exact ⟨by omega, hk⟩
        · have := hc.1 ⟨(x, (k : Int)), .inr rfl, h1, by simp only; omega⟩; exact ⟨by omega, this.2⟩
    · rintro ⟨h1, h2⟩
      by_cases e : a = k
      · subst e; exact ⟨_, .inr rfl, by simp only; omega, by simp only; omega⟩
      · obtain ⟨y, hy | rfl, h3, h4⟩ := hc.2 ⟨by omega, h2⟩
        · exact ⟨y, .inl hy, h3, h4⟩
        · exact ⟨_, .inr rfl, h3, by simp only at h4 ⊢; omega⟩
theorem WinsTo.new {ok : Nat → Bool} {k : Nat} {ws : List (Int × Int)} (h : WinsTo ok k ws) (hk : ok k = true) : WinsTo ok (k + 1) (ws ++ [((k : Int), (k : Int) + 1)]) := by
  refine ⟨fun y hy => ?_, fun a => ?_⟩
  · simp only [List.mem_append, List.mem_cons, List.not_mem_nil, or_false] at hy
    rcases hy with hy | rfl
    · have := h.ord y hy; omega
    · simp only; omega
  · have hc := h.cov a
    simp only [List.mem_append, List.mem_cons, List.not_mem_nil, or_false]
    constructor
    · rintro ⟨y, hy | rfl, h1, h2⟩
      · have := hc.1 ⟨y, hy, h1, h2⟩; exact ⟨by omega, this.2⟩
      · simp only at h1 h2
        have e : a = k := by omega
        subst e; exact ⟨by omega, hk⟩
    · rintro ⟨h1, h2⟩
      by_cases e : a = k
      · subst e; exact ⟨_, .inr rfl, by simp only; omega, by simp only; omega⟩
      · obtain ⟨y, hy, h3, h4⟩ := hc.2 ⟨by omega, h2⟩
        exact ⟨y, .inl hy, h3, h4⟩
def ReachPost (l : List Tube) (most : Nat) (w : World) (e : Ending) (w' : World) : Prop :=
  ∃ (R : Nat → Int) (v : Value) (ws : List (Int × Int)), RowOk (vT l) (cT l) l.length (most + 1) R ∧ w.grownBy w' none ∧ e = .returned (.tuple #[v, .int .i64 0]) ∧ w'.ownsRow w.heap.size 40 2 v ws.length (flat encW ws) ∧ ws.length ≤ most + 1 ∧ WinsTo (fun a => decide (R a < 1073741824)) (most + 1) ws

set_option maxRecDepth 100000 in
set_option maxHeartbeats 2000000 in
theorem reach_any (l : List Tube) (most : Nat) (a : Option Addr) (c : Nat) (w : World) (hc : CellsAt w a (tubes l)) (ho : OkTubes l) (hmo : most ≤ 20000) :
    Calls Try.prog 12 #[.slice a l.length c, .int .i64 most] w (ReachPost l most w) := by
  have hl := ho.len
  have d1 : Hid ((decide ((most : Int) < 0) || decide (20000 < (most : Int))) = false) := by show _ = _; simp; omega
  go_enter Try.func12, Try.ntmps12
  go_wp2_with (fail)
  refine (checkTubes_any l a c _ hc (by omega)).mono ?_
  rintro e w1 ⟨r, rfl, hr, hg1⟩
  have hr0 := hr.2 ho
  subst hr0; clear hr
  go_wp2_with (fail)
  refine (out_any most 0 20000 w1).mono ?_
  rintro e w2 ⟨rfl, rfl⟩
  rw [d1.out]
  go_wp2_with (fail)
  refine (reached_any l most a c w1 (hc.keep0 hg1) ho hmo).mono ?_
  rintro e w3 ⟨R, v, bs, hR, hg3, rfl, hown3, hbs⟩
  obtain ⟨ba, bc, rfl, hbc1, hbc2, hcb, _⟩ := own_shape hown3
  have hbl : bs.length = most + 1 := by have := hown3.1; simpa [bools] using this
  have HBL := Lib.hid hbl
  have HBS := Lib.hid hbs
  have HR := Lib.hid hR
  have hgr3 := gr_trans hg1 hg3
  clear hbl hbs hR hown3 hg3
  go_wp2_with (fail)
  go_loopw [7, 21] (fun v i wr => ∃ (k : Nat) (ws : List (Int × Int)), k ≤ most + 1 ∧ i = .int .i64 k ∧ wr.ownsRow w3.heap.size 40 2 v ws.length (flat encW ws) ∧ w3.grownBy wr none ∧ ws.length ≤ k ∧ WinsTo (fun a => decide (R a < 1073741824)) k ws) (fun _ i _ => most + 1 - (intOf i).toNat)
  case atStart => exact ⟨0, [], Nat.zero_le _, rfl, World.ownsRow_nil _ _ _ _, gr_refl _ _, Nat.le_refl _, ⟨fun x hx => by simp at hx, fun a => by simp⟩⟩
  case round =>
    obtain ⟨k, ws, hk, rfl, hown, hgr, hwl, hws⟩ := hrel
    obtain ⟨wo, rfl⟩ : ∃ wo : World, wo = wr := ⟨_, rfl⟩
    have HWS := Lib.hid hws
    clear hws
    by_cases hlt : k < most + 1
    · obtain ⟨rb, ro, rfl, hx⟩ := hcb.keep0 hgr k _ (bools_at bs k (by rw [HBL.out]; exact hlt))
      have hbk := HBS.out k hlt
      obtain ⟨q, hq⟩ : ∃ q, q = bs.getD k false := ⟨_, rfl⟩
      rw [← hq] at hx hbk
      have HBK := Lib.hid hbk
      clear hq hbk
      cases q with
      | false =>
        go_wp2_with (fail)
        go_roundw
        case rel => exact ⟨k + 1, ws, by omega, by go_num, hown, hgr, by omega, HWS.out.skip HBK.out.symm⟩
        case measure => simp [intOf]; omega
      | true =>
        have hcase : (∃ R0 x, ws = R0 ++ [(x, (k : Int))]) ∨ (ws = [] ∨ ∃ R0 x y, ws = R0 ++ [(x, y)] ∧ y ≠ (k : Int)) := by
          rcases List.eq_nil_or_concat ws with h | ⟨R0, ⟨x, y⟩, h⟩
          · exact .inr (.inl h)
          · by_cases e : y = (k : Int)
            · exact .inl ⟨R0, x, by rw [h, e]; simp⟩
            · exact .inr (.inr ⟨R0, x, y, by rw [h]; simp, e⟩)
        rcases hcase with ⟨R0, x, rfl⟩ | hcase
        · obtain ⟨n0, hn0⟩ : ∃ n0, n0 = R0.length := ⟨_, rfl⟩
          have hown' : wo.ownsRow w3.heap.size 40 2 u7 (n0 + 1) (flat encW (R0 ++ [(x, (k : Int))])) := by rw [hn0]; simpa using hown
          have hwl' : n0 + 1 ≤ k := by rw [hn0]; simpa using hwl
          clear hown hwl
          obtain ⟨g, gc, rfl, hgb, hgw, hgc1, hgc2⟩ := own_some hown' (by omega)
          have hfl : (flat encW (R0 ++ [(x, (k : Int))])).length = (n0 + 1) * 2 := hown'.1
          have c1 := hown'.cellAt (n0 * 2 + 1) (by omega)
          have hlen1 : n0 < (R0 ++ [(x, (k : Int))]).length := by rw [hn0]; simp
          rw [flat_get (enc := encW) (m := 2) (fun _ => rfl) _ n0 hlen1 1 (by omega)] at c1
          have hel : (R0 ++ [(x, (k : Int))])[n0] = (x, (k : Int)) := by simp [hn0]
          rw [hel] at c1
          have c1' : wo.cell? ⟨g, n0 * 2 + 1, none⟩ = some (.int .i64 k) := c1
          have f1 := hown'.frozenAt (n0 * 2 + 1)
          have hst := (hown'.stored (n0 * 2 + 1) (.int .i64 ((k : Int) + 1))).1
          rw [flat_set (enc := encW) (m := 2) (fun _ => rfl) _ n0 hlen1 1 (by omega) _ (x, (k : Int) + 1) (by rw [hel]; rfl)] at hst
          have hse : (R0 ++ [(x, (k : Int))]).set n0 (x, (k : Int) + 1) = R0 ++ [(x, (k : Int) + 1)] := by rw [hn0]; simp
          rw [hse] at hst
          have HST := Lib.hid hst
          have HN := Lib.hid hn0
          have hk0 : ((k : Int) == (k : Int)) = true := by simp
          clear hst hse hel c1 hlen1 hfl hn0
          go_wp2_with (fail)
          go_roundw
          case rel => exact ⟨k + 1, R0 ++ [(x, (k : Int) + 1)], by omega, by go_num, by have := HST.out; rw [HN.out] at this ⊢; simpa using this, gr_new hgr hgb _, by have := HN.out; simp; omega, HWS.out.more HBK.out.symm⟩
          case measure => simp [intOf]; omega
        · have harm : ∃ a0 n0 c0, u7 = .slice a0 n0 c0 ∧ n0 = ws.length ∧ wo.ownsRow w3.heap.size 40 2 (.slice a0 n0 c0) ws.length (flat encW ws) ∧ (n0 = 0 ∨ ∃ g m y, a0 = some ⟨g, 0, none⟩ ∧ n0 = m + 1 ∧ wo.cell? ⟨g, m * 2 + 1, none⟩ = some (.int .i64 y) ∧ (y == (k : Int)) = false) := by
            rcases hcase with h | ⟨R0, x, y, h, hy⟩
            · obtain ⟨a0, c0, rfl, _, _, _, _⟩ := own_shape hown
              exact ⟨a0, _, c0, rfl, rfl, hown, .inl (by rw [h]; rfl)⟩
            · have hwn : ws.length = R0.length + 1 := by rw [h]; simp
              obtain ⟨g, gc, rfl, hgb, hgw, hgc1, hgc2⟩ := own_some hown (by omega)
              refine ⟨_, _, _, rfl, rfl, hown, .inr ⟨g, R0.length, y, rfl, hwn, ?_, by simpa using hy⟩⟩
              have hfl := hown.1
              rw [hown.cellAt (R0.length * 2 + 1) (by omega), flat_get (enc := encW) (m := 2) (fun _ => rfl) ws R0.length (by omega) 1 (by omega)]
              have hel : ws[R0.length]'(by omega) = (x, y) := by simp [h]
              rw [hel]; rfl
          clear hown hcase
          obtain ⟨a0, n0, c0, rfl, hn0, hown, hsh⟩ := harm
          have HN := Lib.hid hn0
          have hnk : n0 ≤ k := by omega
          clear hn0
          have hszo := hgr.size
          rcases hsh with rfl | ⟨g, m, y, rfl, rfl, hcy, hyk⟩
          all_goals
            go_wp2_with (at_builtin; refine wpList_app1 eWindow rfl _ _ rfl w3.heap.size _ ws.length _ rfl wo #[.int .i64 k, .int .i64 ((k : Int) + 1)] rfl hown _ rfl rfl rfl rfl ?_ ?_ ?_; (· omega); (· omega); intro v6 w6 hown6 hg6 hlt6)
            go_wp2_with (fail)
            go_roundw
            case rel =>
              refine ⟨k + 1, ws ++ [((k : Int), (k : Int) + 1)], by omega, by go_num, ?_, gr_grown hgr hg6 hlt6, by simp; omega, HWS.out.new HBK.out.symm⟩
              rw [List.length_append, flat_append, flat_one]
              exact hown6
            case measure => simp [intOf]; omega
    · go_wp2_with (fail)
      go_ret2
      refine ⟨R, _, ws, HR.out, gr_trans hgr3 hgr, rfl, own_base hown (hgr3.size), by omega, ?_⟩
      have := HWS.out
      rw [show k = most + 1 by omega] at this
      exact this
end Go.Proofs.Ytbgfflbddflokaa
