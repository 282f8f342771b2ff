/- Package vend: which coins tubes should have. -/
import Derived.Test.YtlpkancpjdihgaaVend2
import Derived.Test.YtlpkancpjdihgaaMakeInts
namespace Go.Proofs.Ytlpkancpjdihgaa
open Go.RowKit

/-- What numbers of coins, for tubes, are worth together. -/
def FitsT (l : List Tube) (f : List Int) : Prop := f.length = l.length ∧ ∀ k, k < l.length → 0 ≤ f.getD k 0 ∧ f.getD k 0 ≤ (tubeAt l k).most
theorem worth_set (l : List Tube) (f : List Int) (k : Nat) (h : f.length = l.length) (hk : k < l.length) : worthM l (f.set k (f.getD k 0 + 1)) = worthM l f + (tubeAt l k).value := by
  have key : ∀ (l : List Tube) (f : List Int) (k : Nat), f.length = l.length → k < l.length → (List.zipWith (fun x (t : Tube) => x * t.value) (f.set k (f.getD k 0 + 1)) l).sum = (List.zipWith (fun x (t : Tube) => x * t.value) f l).sum + (l.getD k ⟨0, 0, 0⟩).value := by
    intro l
    induction l with
    | nil => intro f k _ hk; simp at hk
    | cons t l ih =>
      intro f k h hk
      cases f with
      | nil => simp at h
      | cons x f =>
        cases k with
        | zero => simp [Int.add_mul]; omega
        | succ k =>
          have := ih f k (by simpa using h) (by simpa using hk)
          simp at this
          simp [this]; omega
  exact key l f k h hk
theorem fits_set {l : List Tube} {f : List Int} {k : Nat} (h : FitsT l f) (hk : k < l.length) (hm : f.getD k 0 < (tubeAt l k).most) : FitsT l (f.set k (f.getD k 0 + 1)) := by
  refine ⟨by simp [h.1], fun j hj => ?_⟩
  have hb := h.2 j hj
  rw [List.getD_eq_getElem?_getD, List.getElem?_set]
  by_cases e : k = j
  · subst e
    rw [if_pos rfl, if_pos (by rw [h.1]; exact hk)]
    simp only [Option.getD_some]
    omega
  · rw [if_neg e, ← List.getD_eq_getElem?_getD]
    exact hb
theorem fits_zero (l : List Tube) (ho : OkTubes l) : FitsT l (List.replicate l.length 0) := by
  refine ⟨by simp, fun k hk => ?_⟩
  have := (ho.ok k hk).m0
  rw [List.getD_eq_getElem?_getD, List.getElem?_replicate, if_pos hk]
  simpa using this
theorem worth_zero (l : List Tube) (n : Nat) : worthM l (List.replicate n 0) = 0 := by
  have key : ∀ (l : List Tube) (n : Nat), (List.zipWith (fun x (t : Tube) => x * t.value) (List.replicate n 0) l).sum = 0 := by
    intro l
    induction l with
    | nil => intro n; simp
    | cons t l ih => intro n; cases n <;> simp [List.replicate_succ, ih]
  exact key l n

theorem own_of_heap {w w' : World} {base e size n : Nat} {v : Value} {xs : List Value} (h : w.ownsRow base e size v n xs) (he : w'.heap = w.heap) : w'.ownsRow base e size v n xs := by
  unfold World.ownsRow at *
  rw [he]
  exact h
def boolOf : Value → Bool | .bool b => b | _ => false

theorem take_drop_set (V f : List Int) (k : Nat) (hV : k < V.length) (hf : k < f.length) : (V.take k ++ f.drop k).set k (V.getD k 0) = V.take (k + 1) ++ f.drop (k + 1) := by
  rw [List.drop_eq_getElem_cons hf, List.set_append_right _ _ (by simp; omega), List.length_take, Nat.min_eq_left (by omega), Nat.sub_self, List.set_cons_zero, List.take_succ_eq_append_getElem hV, List.getD_eq_getElem?_getD, List.getElem?_eq_getElem hV, List.append_assoc]
  rfl

def FloatPost (l : List Tube) (want : Int) (w : World) (e : Ending) (w' : World) : Prop :=
  ∃ v f, e = .returned (.tuple #[v, .int .i64 0]) ∧ w'.ownsRow w.heap.size 3 1 v l.length (ints f) ∧ w.grownBy w' none ∧ ∃ g, FitsT l g ∧ worthM l g ≤ want ∧ f.length = l.length ∧ ∀ k, k < l.length → f.getD k 0 = g.getD k 0 - (tubeAt l k).count

set_option maxRecDepth 100000 in
set_option maxHeartbeats 4000000 in
theorem float_any (l : List Tube) (want : Int) (a : Option Addr) (c : Nat) (w : World) (hc : CellsAt w a (tubes l)) (ho : OkTubes l) (hw0 : 0 ≤ want) (hw1 : want ≤ 1000000000) :
    Calls Try.prog 27 #[.slice a l.length c, .int .i64 want] w (FloatPost l want w) := by
  have hl := ho.len
  go_enter Try.func27, Try.ntmps27
  go_wp2_with (fail)
  refine (checkTubes_any l a c _ hc (by omega)).mono ?_
  rintro e w1 ⟨r, rfl, hr, hg1⟩
  have hr0 := hr.2 ho
  subst hr0; clear hr
  have hsz1 := hg1.size
  go_wp2_with (first | (go_at_call 85; refine (out_any _ _ _ _).mono ?_; rintro e w' ⟨rfl, rfl⟩) | (at_make; refine wpList_mk _ eInt rfl _ _ rfl w.heap.size _ l.length rfl rfl rfl (by omega) (by omega) ?_; intro w2 hown2 hg2))
  have hgr2 := gr_trans hg1 hg2
  have hgl : w.heap.size ≤ w1.heap.size := hg1.size
  obtain ⟨g, hge⟩ : ∃ g, g = w1.heap.size := ⟨_, rfl⟩
  rw [← hge] at hown2 hgl
  go_wp2_with (fail)
  rw [← hge]
  have hgw2 : g < w2.heap.size := (hown2.lt g rfl).2
  clear hsz1 hge hg1 hg2
  go_loopw [1, 8] (fun s b wr => ∃ (W : Int) (f : List Int) (q : Bool), 0 ≤ W ∧ W ≤ 1000000000 ∧ s = .int .i64 W ∧ b = .bool q ∧ wr.ownsRow w.heap.size 3 1 (.slice (some ⟨g, 0, none⟩) l.length l.length) l.length (ints f) ∧ FitsT l f ∧ worthM l f + W = want ∧ w.grownBy wr none)
    (fun s b _ => if boolOf b then (intOf s).toNat + 1 else 0)
  case atStart => exact ⟨want, List.replicate l.length 0, true, hw0, hw1, rfl, rfl, hown2, fits_zero l ho, by rw [worth_zero]; omega, hgr2⟩
  case round =>
    obtain ⟨W, f, q, hW0, hW1, rfl, rfl, hown, hfit, hsum, hgr⟩ := hrel
    obtain ⟨wo, rfl⟩ : ∃ wo : World, wo = wr := ⟨_, rfl⟩
    have HFIT := Lib.hid hfit; clear hfit
    have HSUM := Lib.hid hsum; clear hsum
    cases q with
    | true =>
      go_wp2_with (fail)
      go_loopw [1, 8, 26] (fun s b i wr => ∃ (k : Nat) (W' : Int) (f' : List Int) (q' : Bool), k ≤ l.length ∧ i = .int .i64 k ∧ 0 ≤ W' ∧ W' ≤ W ∧ (q' = true → W' < W) ∧ s = .int .i64 W' ∧ b = .bool q' ∧ wr.ownsRow w.heap.size 3 1 (.slice (some ⟨g, 0, none⟩) l.length l.length) l.length (ints f') ∧ FitsT l f' ∧ worthM l f' + W' = want ∧ w.grownBy wr none)
        (fun _ _ i _ => l.length - (intOf i).toNat)
      case atStart => exact ⟨0, W, f, false, Nat.zero_le _, rfl, hW0, Int.le_refl _, (fun h => by cases h), rfl, rfl, hown, HFIT.out, HSUM.out, hgr⟩
      case round =>
        obtain ⟨k, W', f', q', hk, rfl, hV0, hV1, hq', rfl, rfl, hown', hfit', hsum', hgr'⟩ := hrel
        obtain ⟨wi, rfl⟩ : ∃ wi : World, wi = wr := ⟨_, rfl⟩
        have HFIT' := Lib.hid hfit'; clear hfit'
        have HSUM' := Lib.hid hsum'; clear hsum'
        have HQ' := Lib.hid hq'; clear hq'
        by_cases hlt : k < l.length
        · obtain ⟨b, off, rfl, hcs⟩ := tubes_cells (hc.keep0 hgr') k hlt
          obtain ⟨c0, c1, c2⟩ := hcs k hlt
          have hbl := lt_of_cell c0
          have o := ho.ok k hlt
          have o1 := o.v0
          have o2 := o.v1
          have o3 := o.m1
          obtain ⟨d0, d1, d2⟩ := own_int hown' k hlt
          have hfk := HFIT'.out.2 k hlt
          have hnext := fits_set HFIT'.out hlt
          have hws := worth_set l f' k HFIT'.out.1 hlt
          have hgi := lt_of_cell d0
          obtain ⟨x, hx⟩ : ∃ x, x = f'.getD k 0 := ⟨_, rfl⟩
          obtain ⟨t, ht⟩ : ∃ t, t = tubeAt l k := ⟨_, rfl⟩
          rw [← hx] at d0 hfk hnext hws
          rw [← ht] at c0 c1 c2 o1 o2 o3 hfk hnext hws
          obtain ⟨hx0, hx1⟩ := hfk
          have HNEXT := Lib.hid hnext; clear hnext
          have HWS := Lib.hid hws; clear hws
          have HX := Lib.hid hx; clear hx
          have HT := Lib.hid ht; clear ht
          clear d2 hcs o
          by_cases h1 : x < t.most
          · by_cases h2 : t.value ≤ W'
            · have b1 : decide (x < t.most) = true := by simp; omega
              have b2 : decide (t.value ≤ W') = true := by simp; omega
              go_wp2_with (fail)
              go_quiet (fail)
              go_wp2_with (fail)
              go_roundw
              case rel => exact ⟨k + 1, W' - t.value, f'.set k (x + 1), true, by omega, by go_num, by omega, by omega, (fun _ => by omega), rfl, rfl, own_of_heap ((own_int (hown'.alloc (.cells #[.int .i64 t.value, .int .i64 t.count, .int .i64 t.most] 53)) k hlt).2.2 (x + 1)) rfl, HNEXT.out h1, by rw [HWS.out]; have := HSUM'.out; omega, gr_new (gr_drewN (gr_alloc hgr' _) _) hgl _⟩
              case measure => simp [intOf]; omega
            · have b1 : decide (x < t.most) = true := by simp; omega
              have b2 : decide (t.value ≤ W') = false := by simp; omega
              go_wp2_with (fail)
              go_quiet (fail)
              go_wp2_with (fail)
              go_roundw
              case rel => exact ⟨k + 1, W', f', q', by omega, by go_num, by omega, by omega, HQ'.out, rfl, rfl, hown'.alloc _, HFIT'.out, HSUM'.out, gr_drewN (gr_alloc hgr' _) _⟩
              case measure => simp [intOf]; omega
          · have b1 : decide (x < t.most) = false := by simp; omega
            go_wp2_with (fail)
            go_quiet (fail)
            go_wp2_with (fail)
            go_roundw
            case rel => exact ⟨k + 1, W', f', q', by omega, by go_num, by omega, by omega, HQ'.out, rfl, rfl, hown'.alloc _, HFIT'.out, HSUM'.out, gr_drewN (gr_alloc hgr' _) _⟩
            case measure => simp [intOf]; omega
        · go_wp2_with (fail)
          go_roundw
          case rel => exact ⟨W', f', q', hV0, by omega, rfl, rfl, hown', HFIT'.out, HSUM'.out, hgr'⟩
          case measure =>
            have := HQ'.out
            cases q' with
            | true => have := this rfl; simp [intOf, boolOf]; omega
            | false => simp [boolOf]
    | false =>
      obtain ⟨V, hV⟩ : ∃ V : List Int, V = (List.range l.length).map fun k => f.getD k 0 - (tubeAt l k).count := ⟨_, rfl⟩
      have hVl : V.length = l.length := by rw [hV]; simp
      have hVk : ∀ k, k < l.length → V.getD k 0 = f.getD k 0 - (tubeAt l k).count := by
        intro k hk
        rw [hV, List.getD_eq_getElem?_getD, List.getElem?_map, List.getElem?_range hk]
        rfl
      have HVK := Lib.hid hVk; clear hVk hV
      have HVL := Lib.hid hVl; clear hVl
      have hfl := HFIT.out.1
      have HFL := Lib.hid hfl; clear hfl
      go_wp2_with (fail)
      go_loopw [57] (fun i wr => ∃ k : Nat, k ≤ l.length ∧ i = .int .i64 k ∧ wr.ownsRow w.heap.size 3 1 (.slice (some ⟨g, 0, none⟩) l.length l.length) l.length (ints (V.take k ++ f.drop k)) ∧ w.grownBy wr none)
        (fun i _ => l.length - (intOf i).toNat)
      case atStart => exact ⟨0, Nat.zero_le _, rfl, by simpa using hown, hgr⟩
      case round =>
        obtain ⟨k, hk, rfl, hown', hgr'⟩ := hrel
        obtain ⟨wi, rfl⟩ : ∃ wi : World, wi = wr := ⟨_, rfl⟩
        by_cases hlt : k < l.length
        · obtain ⟨b, off, rfl, hcs⟩ := tubes_cells (hc.keep0 hgr') k hlt
          obtain ⟨c0, c1, c2⟩ := hcs k hlt
          have hbl := lt_of_cell c0
          have o := ho.ok k hlt
          have o1 := o.c0
          have o2 := o.c1
          have o3 := o.m1
          obtain ⟨d0, d1, _⟩ := own_int hown' k hlt
          have hfk := HFIT.out.2 k hlt
          have hget : (V.take k ++ f.drop k).getD k 0 = f.getD k 0 := by
            rw [List.getD_eq_getElem?_getD, List.getD_eq_getElem?_getD, List.getElem?_append_right (by simp; have := HVL.out; omega), List.length_take, HVL.out, Nat.min_eq_left (by omega), Nat.sub_self, List.getElem?_drop]
            simp
          have hnext : (V.take k ++ f.drop k).set k (f.getD k 0 - (tubeAt l k).count) = V.take (k + 1) ++ f.drop (k + 1) := by
            rw [← HVK.out k hlt]
            exact take_drop_set V f k (by rw [HVL.out]; exact hlt) (by rw [HFL.out]; exact hlt)
          rw [hget] at d0
          have hgi := lt_of_cell d0
          obtain ⟨x, hx⟩ : ∃ x, x = f.getD k 0 := ⟨_, rfl⟩
          obtain ⟨t, ht⟩ : ∃ t, t = tubeAt l k := ⟨_, rfl⟩
          rw [← hx] at d0 hfk hnext
          rw [← ht] at c0 c1 c2 o1 o2 o3 hfk hnext
          obtain ⟨hx0, hx1⟩ := hfk
          have HNEXT := Lib.hid hnext; clear hnext hget
          have HX := Lib.hid hx; clear hx
          have HT := Lib.hid ht; clear ht hcs o
          go_wp2_with (fail)
          go_region
          go_wp2_with (fail)
          go_roundw
          case rel =>
            refine ⟨k + 1, by omega, by go_num, ?_, ?_⟩
            · rw [← HNEXT.out]
              exact own_of_heap (((own_int hown' k hlt).2.2 (x - t.count)).alloc (.cells #[.int .i64 t.value, .int .i64 t.count, .int .i64 t.most] 53)) rfl
            · exact gr_drew (gr_alloc (gr_new hgr' hgl _) _)
          case measure => simp [intOf]; omega
        · have hkl : k = l.length := by omega
          have HK := Lib.hid hkl; clear hkl
          have hfin : V.take k ++ f.drop k = V := by
            rw [HK.out, ← HVL.out, List.take_length, List.drop_of_length_le (by rw [HFL.out, HVL.out]; exact Nat.le_refl _), List.append_nil]
          rw [hfin] at hown'
          go_wp2_with (fail)
          go_ret2
          exact ⟨_, V, rfl, hown', hgr', f, HFIT.out, by have := HSUM.out; omega, HVL.out, HVK.out⟩
end Go.Proofs.Ytlpkancpjdihgaa
