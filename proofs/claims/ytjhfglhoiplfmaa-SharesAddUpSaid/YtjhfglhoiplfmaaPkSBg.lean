/- slices.SortFunc of many: from rows to the kit's law and back. -/
import Derived.Test.YtjhfglhoiplfmaaPkSBd
import Derived.Test.YtjhfglhoiplfmaaPkSBf
import Derived.Test.YtjhfglhoiplfmaaPkSAu
import Derived.Test.YtjhfglhoiplfmaaPkSAa
import Derived.Test.YtjhfglhoiplfmaaPkSAk
import Derived.Test.YtjhfglhoiplfmaaPkSAc
import Derived.Test.YtjhfglhoiplfmaaPkSAx
namespace Go.Proofs.Ytjhfglhoiplfmaa
open Go.RowKit Go.Sort

theorem flat_at {α : Type} [Inhabited α] (enc : α → List Value) (k : Nat) (k0 : 0 < k) (hk : ∀ x, (enc x).length = k) : ∀ (l : List α) (t : Nat), t < l.length * k → (flat enc l)[t]? = some ((enc (l.getD (t / k) default))[t % k]!) := by
  intro l
  induction l with
  | nil => intro t h; simp at h
  | cons x l ih =>
    intro t h
    have e : flat enc (x :: l) = enc x ++ flat enc l := by simp [flat]
    rw [e]
    by_cases ht : t < k
    · rw [List.getElem?_append_left (by rw [hk]; exact ht), Nat.div_eq_of_lt ht, Nat.mod_eq_of_lt ht]
      have h2 : t < (enc x).length := by rw [hk]; exact ht
      simp [h2]
    · obtain ⟨u, rfl⟩ : ∃ u, t = k + u := ⟨t - k, by omega⟩
      rw [List.getElem?_append_right (by rw [hk]; omega), hk, Nat.add_sub_cancel_left, Nat.add_div_left u k0, Nat.add_mod_left, List.getD_cons_succ]
      refine ih u ?_
      rw [List.length_cons, Nat.add_mul, Nat.one_mul] at h
      omega
theorem sort_heap {α : Type} [Inhabited α] (enc : α → List Value) (k : Nat) (w : World) (g m : Nat) (d : Array α) (os : Array Obj) (b : Nat) (hb : b < w.heap.size) : (sortWorldK enc k w g 0 m d os).heap[b]? = if g = b then (w.heap[b]?).map (onCells (putCells id 0 (flatK enc k d))) else w.heap[b]? := by
  show ((w.heap.modify g (onCells (putCells id 0 (flatK enc k d)))) ++ os)[b]? = _
  rw [Array.getElem?_append_left (by simpa using hb), Array.getElem?_modify]
theorem sort_grown {α : Type} [Inhabited α] (enc : α → List Value) (k : Nat) (w : World) (g m : Nat) (d : Array α) (os : Array Obj) : w.grownBy (sortWorldK enc k w g 0 m d os) (some g) := by
  refine ⟨rfl, rfl, rfl, ?_, fun b hb hr => ?_⟩
  · show w.heap.size ≤ ((w.heap.modify g (onCells (putCells id 0 (flatK enc k d)))) ++ os).size
    simp
  · rw [sort_heap enc k w g m d os b hb, if_neg (fun e => hr (by rw [e]))]
theorem own_sorted {α : Type} [Inhabited α] (enc : α → List Value) (k : Nat) (k0 : 0 < k) (hk : ∀ x, (enc x).length = k) {w : World} {base e g n c : Nat} {xs : List Value} (h : w.ownsRow base e k (.slice (some ⟨g, 0, none⟩) n c) n xs) (m : Nat) (d : Array α) (os : Array Obj) (hd : d.size = n) : (sortWorldK enc k w g 0 m d os).ownsRow base e k (.slice (some ⟨g, 0, none⟩) n c) n (flat enc d.toList) := by
  have hfl : (flat enc d.toList).length = n * k := by
    rw [← hd, ← Array.length_toList]
    generalize d.toList = l
    induction l with
    | nil => simp [flat]
    | cons x l ih =>
      have e : flat enc (x :: l) = enc x ++ flat enc l := by simp [flat]
      rw [e, List.length_append, hk, ih, List.length_cons, Nat.add_mul, Nat.one_mul, Nat.add_comm]
  refine ⟨hfl, ?_⟩
  rcases h.2 with ⟨h2, -⟩ | ⟨g', cap, cur, hv, hb, hg, hn, hm, hs, ht⟩
  · cases h2
  · cases hv
    refine .inr ⟨g, c, putCells id 0 (flatK enc k d) cur, rfl, hb, ?_, hn, hm, ?_, ?_⟩
    · have hl : g < w.heap.size := lt_of_block hg
      rw [sort_heap enc k w g m d os g hl, if_pos rfl, hg]
      rfl
    · simp [putCells, hs]
    · have hcn : n * k ≤ c * k := Nat.mul_le_mul_right k hn
      refine List.ext_getElem? (fun t => ?_)
      by_cases htn : t < n * k
      · rw [flat_at enc k k0 hk d.toList t (by rw [Array.length_toList, hd]; exact htn)]
        have htc : t < cur.size := by rw [hs]; omega
        have hF : (flatK enc k d)[t]! = (enc d[t / k]!)[t % k]! := get_flatK enc k d t (by rw [hd]; exact htn)
        have hdk : t / k < d.size := by rw [hd]; exact Nat.div_lt_of_lt_mul (by rw [Nat.mul_comm]; exact htn)
        have htF : t < (flatK enc k d).size := by rw [size_flatK, hd]; exact htn
        have hl : ((putCells id 0 (flatK enc k d) cur).toList.take (n * k))[t]? = some ((flatK enc k d)[t]!) := by
          rw [getElem!_pos _ t htF]
          simp [putCells, htn, htc, hd]
        have hdd : d.toList.getD (t / k) default = d[t / k]! := by simp [hdk]
        rw [hl, hdd, hF]
      · rw [List.getElem?_eq_none (by simp; omega), List.getElem?_eq_none (by rw [hfl]; omega)]
end Go.Proofs.Ytjhfglhoiplfmaa

/-! slices.SortFunc at days of many: a permutation. -/
namespace Go.Proofs.Ytjhfglhoiplfmaa
open Go.RowKit Go.Sort
attribute [local go_sem ↓] Go.wp_at_zero Go.wp_at_succ

structure DC where
  day : Int
  many : Int
  deriving Inhabited
def encDc (x : DC) : List Value := [.int .i64 x.day, .int .i64 x.many]
def dcCm (x y : DC) : Int := cmpN x.day y.day
theorem dcCm_neg (x y : DC) : dcCm x y < 0 ↔ x.day < y.day := by
  unfold dcCm cmpN
  split
  · constructor <;> omega
  · split <;> constructor <;> omega
theorem dcSWO : SWO (ltOf dcCm) := by
  have e : ∀ x y : DC, ltOf dcCm x y = decide (x.day < y.day) := fun x y => by unfold ltOf; simp [dcCm_neg]
  refine ⟨fun x => ?_, fun x y z h1 h2 => ?_, fun x y z h1 h2 => ?_⟩
  · rw [e]; simp
  · rw [e] at *; simp at *; omega
  · rw [e] at *; simp at *; omega
theorem days1_fn : ∀ (args : Array Value) (w : World), (callFunc 37 args).run Try.prog w = .ok (.enter 37 args) w := fun _ _ => by kernel_rfl
theorem days1_any (x y : DC) (w : World) : Calls Try.prog 37 #[.agg #[.int .i64 x.day, .int .i64 x.many], .agg #[.int .i64 y.day, .int .i64 y.many]] w fun e w' => e = .returned (.int .i64 (dcCm x y)) ∧ w' = (w.alloc (.cells #[.int .i64 x.day, .int .i64 x.many] 46)).alloc (.cells #[.int .i64 y.day, .int .i64 y.many] 46) := by
  obtain ⟨x0, x1⟩ := x
  obtain ⟨y0, y1⟩ := y
  obtain ⟨hA, hB⟩ := heap_2 w (.cells #[.int .i64 x0, .int .i64 x1] 46) (.cells #[.int .i64 y0, .int .i64 y1] 46)
  obtain ⟨w2, hw2⟩ : ∃ w2, w2 = (w.alloc (.cells #[.int .i64 x0, .int .i64 x1] 46)).alloc (.cells #[.int .i64 y0, .int .i64 y1] 46) := ⟨_, rfl⟩
  rw [← hw2] at hA hB
  have p0 := blkC hA 0 rfl
  have r0 := blkC hB 0 rfl
  have HW := Lib.hid hw2
  clear hA hB hw2
  show Calls _ _ _ _ _
  simp only
  rw [← HW.out]
  go_enter Try.func37, Try.ntmps37
  go_wp2_with (fail)
  rw [← HW.out]
  go_wp2_with (fail)
  refine (cmpInt_any x0 y0 w2).mono ?_
  rintro e w5 ⟨rfl, rfl⟩
  go_wp2_with (fail)
  go_ret
  exact ⟨rfl, rfl⟩
theorem dc_holds {w : World} {base g n c : Nat} {d : Array DC} (h : w.ownsRow base 46 2 (.slice (some ⟨g, 0, none⟩) n c) n (flat encDc d.toList)) (hd : d.size = n) : HoldsK encDc 2 w g 0 d := by
  obtain ⟨a, cap, hv, -, -, hc, -⟩ := own_shape h
  cases hv
  intro j hj
  have hj2 : j < d.size * 2 := by simpa using hj
  have hf := flat_at encDc 2 (by decide) (fun _ => rfl) d.toList j (by rw [Array.length_toList]; exact hj2)
  have hjd : j / 2 < d.size := by omega
  have hdd : d.toList.getD (j / 2) default = d[j / 2]! := by simp [hjd]
  rw [hdd, ← get_flatK encDc 2 d j hj2] at hf
  obtain ⟨b, off, e, hcell⟩ := hc j _ hf
  cases e
  refine ⟨hcell, ?_⟩
  rw [Nat.zero_add]
  exact h.frozenAt j
def SortDcPost (g n c base : Nat) (L : List DC) (w : World) (e : Ending) (w' : World) : Prop := ∃ O : List DC, e = .returned (.tuple #[]) ∧ w'.ownsRow base 46 2 (.slice (some ⟨g, 0, none⟩) n c) n (flat encDc O) ∧ O.Perm L ∧ w.grownBy w' (some g)
theorem sortDc_any (g n c base : Nat) (L : List DC) (w : World) (hown : w.ownsRow base 46 2 (.slice (some ⟨g, 0, none⟩) n c) n (flat encDc L)) (hL : L.length = n) (hn : n ≤ 1000000) :
    Calls Try.prog 36 #[.slice (some ⟨g, 0, none⟩) n c, .func (.func 37) #[] #[]] w (SortDcPost g n c base L w) := by
  have hsz : L.toArray.size = n := by simpa using hL
  have hH : HoldsK encDc 2 w g 0 L.toArray := dc_holds (d := L.toArray) (by simpa using hown) hsz
  have hlt : g < w.heap.size := by
    obtain ⟨a, cap, hv, -, -, -, h5⟩ := own_shape hown
    cases hv
    exact (h5 g 0 rfl).2.1
  have h := AnyQ.slices_SortFunc (P := Try.prog) (ρ := dcRen) dcLays 2 (fun _ => by kernel_rfl) (fun _ => by kernel_rfl) encDc (fun _ => rfl) (fun x v hv => by simp [encDc] at hv; rcases hv with rfl | rfl <;> rfl) dcCm dcSWO 37 #[] g 0 c L.toArray w days1_fn (fun m os dk hs x y => (days1_any x y _).mono fun e w' h => ⟨h.1, 0, #[.cells #[.int .i64 x.day, .int .i64 x.many] 46 (0, 0), .cells #[.int .i64 y.day, .int .i64 y.many] 46 (0, 0)], by rw [h.2]; unfold grow World.alloc; simp only [World.drewN]; congr 1⟩) hH hlt (by omega)
  rw [hsz] at h
  refine h.mono ?_
  rintro e w' ⟨rfl, d', m, os, hp, -, rfl⟩
  obtain ⟨p1, -, p3⟩ := hp
  refine ⟨d'.toList, rfl, own_sorted encDc 2 (by decide) (fun _ => rfl) hown m d' os (by rw [p1, hsz]), ?_, sort_grown _ _ _ _ _ _ _⟩
  have e1 : d'.extract 0 n = d' := by rw [← hsz, ← p1]; simp
  have e2 : L.toArray.extract 0 n = L.toArray := by rw [← hsz]; simp
  rw [e1, e2] at p3
  exact p3
end Go.Proofs.Ytjhfglhoiplfmaa

/-! Package slices at elements coilrack/api.DayCount: sorting of few. Written by mksortn.py. -/
namespace Go.Proofs.Ytjhfglhoiplfmaa
open Go.RowKit

theorem own_of_heapDC {w w1 : World} {base e size n : Nat} {v : Value} {xs : List Value} (h : w.ownsRow base e size v n xs) (e1 : w1.heap = w.heap) : w1.ownsRow base e size v n xs := by
  rcases h.2 with h2 | ⟨g, cap, cur, hv, hb, hg, r⟩
  · exact ⟨h.1, .inl h2⟩
  · exact ⟨h.1, .inr ⟨g, cap, cur, hv, hb, by rw [e1]; exact hg, r⟩⟩
theorem flat_rowDC (l : List DC) (i : Nat) (h : i < l.length) (y : DC) : (((flat encDc l).set (i * 2) (.int .i64 (y.day))).set (i * 2 + 1) (.int .i64 (y.many))) = flat encDc (l.set i y) := by
  have e0 := flat_set (enc := encDc) (m := 2) (fun _ => rfl) l i h 0 (by decide) (.int .i64 (y.day)) (⟨y.day, l[i].many⟩ : DC) rfl
  have g1 : (l.set i (⟨y.day, l[i].many⟩ : DC))[i]'(by simp; omega) = (⟨y.day, l[i].many⟩ : DC) := by rw [List.getElem_set_self]
  have e1 := flat_set (enc := encDc) (m := 2) (fun _ => rfl) (l.set i (⟨y.day, l[i].many⟩ : DC)) i (by simp; omega) 1 (by decide) (.int .i64 (y.many)) (⟨y.day, y.many⟩ : DC) (by rw [g1]; rfl)
  rw [List.set_set] at e1
  rw [show i * 2 + 0 = i * 2 from rfl] at e0
  rw [e0, e1]
/-- A comparison of elements of a list, in worlds that differ from w at one block at most. -/
def CmpDC (F : FuncId) (cm : DC → DC → Int) (L : List DC) (r : Option Nat) (w : World) : Prop :=
  ∀ (x y : DC) (w1 : World), x ∈ L → y ∈ L → w.grownBy w1 r → Calls Try.prog F #[.agg #[.int .i64 (x.day), .int .i64 (x.many)], .agg #[.int .i64 (y.day), .int .i64 (y.many)]] w1 fun e w2 => e = .returned (.int .i64 (cm x y)) ∧ w1.grownBy w2 none
def SortDCPost (cm : DC → DC → Int) (L : List DC) (v : Value) (n base : Nat) (w : World) (e : Ending) (w' : World) : Prop := ∃ O, e = .returned (.tuple #[]) ∧ w'.ownsRow base 46 2 v n (flat encDc O) ∧ O.Perm L ∧ Srt cm (⟨0, 0⟩ : DC) O n ∧ w.grownBy w' v.ownBlock
set_option maxRecDepth 100000 in
set_option maxHeartbeats 2000000 in
theorem insertionDC_any (F : FuncId) (n : Nat) (cm : DC → DC → Int) (v : Value) (base : Nat) (L : List DC) (w : World) (hown : w.ownsRow base 46 2 v n (flat encDc L)) (hL : L.length = n) (hn : n ≤ 1000)
    (hE : ∀ (args : Array Value) (w : World), (callFunc F args).run Try.prog w = .ok (.enter F args) w) (hc : CmpOk cm) (hF : CmpDC F cm L v.ownBlock w) :
    Calls Try.prog 65 #[v, .int .i64 0, .int .i64 n, .func (.func F) #[] #[]] w (SortDCPost cm L v n base w) := by
  have HF := Lib.hid hF
  have HC := Lib.hid hc
  have HL := Lib.hid hL
  obtain ⟨va, vc, rfl, _, _, _, _⟩ := own_shape hown
  clear hF hc hL
  go_enter Try.func65, Try.ntmps65
  go_wp2_with (fail)
  go_loopw [8] (fun i wr => ∃ (k : Nat) (O' : List DC), 1 ≤ k ∧ (k ≤ n ∨ n = 0) ∧ i = .int .i64 k ∧ wr.ownsRow base 46 2 (.slice va n vc) n (flat encDc O') ∧ O'.Perm L ∧ Srt cm (⟨0, 0⟩ : DC) O' k ∧ w.grownBy wr (Value.slice va n vc).ownBlock) (fun i _ => n - (intOf i).toNat)
  case atStart => exact ⟨1, L, by omega, by omega, rfl, hown, List.Perm.refl _, srt_one, gr_refl _ _⟩
  case round =>
    obtain ⟨k, O', hk, hkn1, rfl, hown', hO', hs, hgr⟩ := hrel
    obtain ⟨wo, rfl⟩ : ∃ wo : World, wo = wr := ⟨_, rfl⟩
    have HO' := Lib.hid hO'
    have HS := Lib.hid hs
    clear hO' hs
    by_cases hkn : k < n
    · obtain ⟨g, gc, hge, hgb, _, _, _⟩ := own_some hown' (by omega)
      cases hge
      go_wp2_with (fail)
      go_loopw [9] (fun i wr => ∃ (j : Nat) (O2 : List DC), j ≤ k ∧ i = .int .i64 j ∧ wr.ownsRow base 46 2 (.slice (some ⟨g, 0, none⟩) n vc) n (flat encDc O2) ∧ O2.Perm L ∧ SrtBut cm (⟨0, 0⟩ : DC) O2 k j ∧ w.grownBy wr (some g)) (fun i _ => (intOf i).toNat)
      case atStart => exact ⟨k, O', by omega, rfl, hown', HO'.out, srt_start HS.out, hgr⟩
      case round =>
        clear hgr
        obtain ⟨j, O2, hj, rfl, hown2, hO2, hb2, hgr2⟩ := hrel
        obtain ⟨wi, rfl⟩ : ∃ wi : World, wi = wr := ⟨_, rfl⟩
        have hlen := hO2.length_eq.trans HL.out
        by_cases hj0 : 0 < j
        · have hd0 : decide (0 < j) = true := decide_eq_true hj0
          obtain ⟨i, hi⟩ : ∃ i, i = j - 1 := ⟨_, rfl⟩
          have hij : i + 1 = j := by omega
          subst hij
          have hjl : i + 1 < O2.length := by omega
          have hil : i < O2.length := by omega
          have a0 := own_cellE (enc := encDc) (m := 2) (fun _ => rfl) hown2 (i + 1) hjl 0 (by decide) _ rfl hlen
          have a1 := own_cellE (enc := encDc) (m := 2) (fun _ => rfl) hown2 (i + 1) hjl 1 (by decide) _ rfl hlen
          have b0 := own_cellE (enc := encDc) (m := 2) (fun _ => rfl) hown2 (i) hil 0 (by decide) _ rfl hlen
          have b1 := own_cellE (enc := encDc) (m := 2) (fun _ => rfl) hown2 (i) hil 1 (by decide) _ rfl hlen
          have hmx : O2[i + 1] ∈ L := hO2.mem_iff.1 (List.getElem_mem _)
          have hmy : O2[i] ∈ L := hO2.mem_iff.1 (List.getElem_mem _)
          have ex : O2.getD (i + 1) (⟨0, 0⟩ : DC) = O2[i + 1] := getD_eq O2 _ _ hjl
          have ey : O2.getD i (⟨0, 0⟩ : DC) = O2[i] := getD_eq O2 _ _ hil
          have SW : Hid (cm O2[i + 1] O2[i] < 0 → SrtBut cm (⟨0, 0⟩ : DC) (swapAt (⟨0, 0⟩ : DC) O2 i) k i) := fun h => srt_swap HC.out hjl (by omega) hb2 (by rw [ex, ey]; exact h)
          have ST : Hid (¬ cm O2[i + 1] O2[i] < 0 → Srt cm (⟨0, 0⟩ : DC) O2 (k + 1)) := fun h => srt_stop HC.out hb2 (by rw [ex, ey]; exact h)
          have PM : Hid ((swapAt (⟨0, 0⟩ : DC) O2 i).Perm L) := (swapAt_perm i hjl).trans hO2
          have WR : Hid (∀ W : World, W.ownsRow base 46 2 (.slice (some ⟨g, 0, none⟩) n vc) n (flat encDc O2) → w.grownBy W (some g) → (((((W.setCell ⟨g, (i + 1) * 2, none⟩ (.int .i64 (O2[i].day))).setCell ⟨g, (i + 1) * 2 + 1, none⟩ (.int .i64 (O2[i].many))).setCell ⟨g, i * 2, none⟩ (.int .i64 (O2[i + 1].day))).setCell ⟨g, i * 2 + 1, none⟩ (.int .i64 (O2[i + 1].many)))).ownsRow base 46 2 (.slice (some ⟨g, 0, none⟩) n vc) n (flat encDc (swapAt (⟨0, 0⟩ : DC) O2 i)) ∧ w.grownBy (((((W.setCell ⟨g, (i + 1) * 2, none⟩ (.int .i64 (O2[i].day))).setCell ⟨g, (i + 1) * 2 + 1, none⟩ (.int .i64 (O2[i].many))).setCell ⟨g, i * 2, none⟩ (.int .i64 (O2[i + 1].day))).setCell ⟨g, i * 2 + 1, none⟩ (.int .i64 (O2[i + 1].many)))) (some g)) := fun W hW gW => by
            refine ⟨?_, (gr_set (gr_set (gr_set (gr_set gW rfl _) rfl _) rfl _) rfl _)⟩
            have h5 := ((((hW.stored ((i + 1) * 2) (.int .i64 (O2[i].day))).1.stored ((i + 1) * 2 + 1) (.int .i64 (O2[i].many))).1.stored (i * 2) (.int .i64 (O2[i + 1].day))).1.stored (i * 2 + 1) (.int .i64 (O2[i + 1].many))).1
            rw [flat_rowDC O2 (i + 1) hjl O2[i], flat_rowDC (O2.set (i + 1) O2[i]) i (by simp; omega) O2[i + 1]] at h5
            unfold swapAt
            rw [ex, ey]
            exact h5
          have CC : Hid (∀ W, wi.grownBy W none → Calls Try.prog F #[.agg #[.int .i64 (O2[i + 1].day), .int .i64 (O2[i + 1].many)], .agg #[.int .i64 (O2[i].day), .int .i64 (O2[i].many)]] W fun e w2 => e = .returned (.int .i64 (cm O2[i + 1] O2[i])) ∧ W.grownBy w2 none) := fun W hW => HF.out _ _ W hmx hmy (gr_trans hgr2 (gr_weak hW _))
          obtain ⟨x, hx⟩ : ∃ x, x = O2[i + 1] := ⟨_, rfl⟩
          obtain ⟨y, hy⟩ : ∃ y, y = O2[i] := ⟨_, rfl⟩
          rw [← hx, ← hy] at SW ST CC WR
          rw [← hx] at a0 a1
          rw [← hy] at b0 b1
          obtain ⟨x0, x1⟩ := x
          obtain ⟨y0, y1⟩ := y
          simp only at CC WR
          obtain ⟨c, hcv⟩ : ∃ c, c = cm ⟨x0, x1⟩ ⟨y0, y1⟩ := ⟨_, rfl⟩
          rw [← hcv] at SW ST CC
          obtain ⟨a0, fa0, -⟩ := a0
          obtain ⟨a1, fa1, -⟩ := a1
          obtain ⟨b0, fb0, -⟩ := b0
          obtain ⟨b1, fb1, -⟩ := b1
          have a0 : wi.cell? ⟨g, (i + 1) * 2, none⟩ = some (.int .i64 (x0)) := a0
          have a1 : wi.cell? ⟨g, (i + 1) * 2 + 1, none⟩ = some (.int .i64 (x1)) := a1
          have b0 : wi.cell? ⟨g, i * 2, none⟩ = some (.int .i64 (y0)) := b0
          have b1 : wi.cell? ⟨g, i * 2 + 1, none⟩ = some (.int .i64 (y1)) := b1
          have ga0 := grew_cell a0
          have ga1 := grew_cell a1
          have gb0 := grew_cell b0
          have gb1 := grew_cell b1
          have FA0 := Lib.hid fa0
          have FA1 := Lib.hid fa1
          have FB0 := Lib.hid fb0
          have FB1 := Lib.hid fb1
          have HOW := Lib.hid hown2
          have HGR2 := Lib.hid hgr2
          have hgl := lt_of_cell a0
          have HPM2 := Lib.hid hO2
          have hi1 : ((i : Int) + 1 - 1) = i := by omega
          have hwi : IntKind.i64.wrap (((i : Int) + 1) - 1) = i := by rw [hi1]; exact IntWalk.i64_in _ (by omega)
          have hq0 : (0 : Int) ≤ (i : Int) := by omega
          have hq1 : (i : Int) < (n : Int) := by omega
          have hq2 : (0 : Int) ≤ (i : Int) + 1 := by omega
          have hq3 : (i : Int) + 1 < (n : Int) := by omega
          have hq4 : ((i : Int) + 1).toNat = i + 1 := by omega
          have hq5 : decide ((0 : Int) < (i : Int) + 1) = true := decide_eq_true (by omega)
          clear hown2 hgr2 hO2 hb2 hmx hmy ex ey hx hy hcv fa0 fa1 fb0 fb1 hlen hi hown' hi1
          by_cases hc0 : c < 0
          · have hdc : decide (c < 0) = true := decide_eq_true hc0
            go_wp2_with (fail)
            refine wp_region_grew (by kernel_rfl) (by kernel_rfl) ?_
            repeat (go_big_quiet_step (first | (exact Calls.grew_of (fun W h => CC.out W h))))
            refine wpQuiet_nil ?_
            rintro wq ⟨nn, rfl⟩
            have gq := nn.gr
            have A0 := ga0 nn
            have A1 := ga1 nn
            have B0 := gb0 nn
            have B1 := gb1 nn
            have Fa0 := (gr_free gq hgl (o := (i + 1) * 2)).trans FA0.out
            have Fa1 := (gr_free gq hgl (o := (i + 1) * 2 + 1)).trans FA1.out
            have Fb0 := (gr_free gq hgl (o := i * 2)).trans FB0.out
            have Fb1 := (gr_free gq hgl (o := i * 2 + 1)).trans FB1.out
            have HOQ := Lib.hid (own_keep0 HOW.out gq)
            have HGQ := Lib.hid (gr_trans HGR2.out (gr_weak gq _))
            obtain ⟨wn, hwn⟩ : ∃ wn, wn = nn.w := ⟨_, rfl⟩
            rw [← hwn] at A0 A1 B0 B1 Fa0 Fa1 Fb0 Fb1 HOQ HGQ
            rw [← hwn]
            clear gq hwn ga0 ga1 gb0 gb1 a0 a1 b0 b1 hwi hq2 hq3 hq4 hq5 FA0 FA1 FB0 FB1
            go_wp2_with (fail)
            go_region
            all_goals (go_wp2_with (fail))
            all_goals go_roundw
            all_goals first | (simp [intOf]; done) | skip
            all_goals
              refine ⟨i, swapAt (⟨0, 0⟩ : DC) O2 i, by omega, by go_num, ?_, PM.out, SW.out hc0, ?_⟩
            all_goals first
              | (with_reducible refine (WR.out _ ?_ ?_).1; (· exact own_keep0 HOQ.out (gr_drew (gr_refl _ _))); exact gr_drew HGQ.out)
              | (with_reducible refine (WR.out _ ?_ ?_).2; (· exact own_keep0 HOQ.out (gr_drew (gr_refl _ _))); exact gr_drew HGQ.out)
              | (with_reducible refine own_keep0 (WR.out _ ?_ ?_).1 (gr_drew (gr_refl _ _)); (· exact HOQ.out); exact HGQ.out)
              | (with_reducible refine gr_drew (WR.out _ ?_ ?_).2; (· exact HOQ.out); exact HGQ.out)
              | fail
          · have hdc : decide (c < 0) = false := decide_eq_false hc0
            go_wp2_with (fail)
            refine wp_region_grew (by kernel_rfl) (by kernel_rfl) ?_
            repeat (go_big_quiet_step (first | (exact Calls.grew_of (fun W h => CC.out W h))))
            refine wpQuiet_nil ?_
            rintro wq ⟨nn, rfl⟩
            have HGQ := Lib.hid (gr_trans HGR2.out (gr_weak nn.gr _))
            have HW := Lib.hid (own_keep0 HOW.out nn.gr)
            clear ga0 ga1 gb0 gb1 a0 a1 b0 b1
            go_wp2_with (fail)
            go_roundw
            case rel => exact ⟨k + 1, O2, by omega, by omega, by go_num, HW.out, HPM2.out, ST.out hc0, HGQ.out⟩
            case measure => simp [intOf]; omega
        · have hd0 : decide (0 < j) = false := decide_eq_false hj0
          obtain rfl : j = 0 := by omega
          have HOWN2 := Lib.hid hown2
          have HGR2 := Lib.hid hgr2
          have HPM2 := Lib.hid hO2
          have HZ := Lib.hid (srt_zero hb2)
          have hq5 : decide ((0 : Int) < 0) = false := by decide
          clear hown2 hgr2 hO2 hb2 hlen
          go_wp2_with (fail)
          go_quiet (fail)
          go_wp2_with (fail)
          go_roundw
          case rel => exact ⟨k + 1, O2, by omega, by omega, by go_num, own_keep0 HOWN2.out (gr_drewN (gr_refl _ _) _), HPM2.out, HZ.out, gr_drewN HGR2.out _⟩
          case measure => simp [intOf]; omega
    · have HW := Lib.hid hown'
      clear hown'
      go_wp2_with (fail)
      go_end0
      have hS : Srt cm (⟨0, 0⟩ : DC) O' n := fun p q h1 h2 => HS.out p q h1 (by omega)
      exact ⟨O', rfl, HW.out, HO'.out, hS, hgr⟩
set_option maxRecDepth 100000 in
theorem pdqDC_few (F : FuncId) (n : Nat) (cm : DC → DC → Int) (v : Value) (base : Nat) (L : List DC) (w : World) (hown : w.ownsRow base 46 2 v n (flat encDc L)) (hL : L.length = n) (hn : n ≤ 12) (lim : Int)
    (hE : ∀ (args : Array Value) (w : World), (callFunc F args).run Try.prog w = .ok (.enter F args) w) (hc : CmpOk cm) (hF : CmpDC F cm L v.ownBlock w) :
    Calls Try.prog 48 #[v, .int .i64 0, .int .i64 n, .int .i64 lim, .func (.func F) #[] #[]] w (SortDCPost cm L v n base w) := by
  have IS := Lib.hid (insertionDC_any F n cm v base L w hown hL (by omega) hE hc hF)
  obtain ⟨va, vc, rfl, _, _, _, _⟩ := own_shape hown
  clear hF hE hown hL hc
  have d12 : decide ((n : Int) ≤ 12) = true := decide_eq_true (by omega)
  go_enter Try.func48, Try.ntmps48
  go_wp2_with (fail)
  go_loopw [1, 2, 3, 10, 11] (fun b c d g h wr => b = .int .i64 0 ∧ c = .int .i64 n ∧ d = .int .i64 lim ∧ g = .bool true ∧ h = .bool true ∧ wr = w) (fun _ _ _ _ _ _ => 0)
  case atStart => exact ⟨rfl, rfl, rfl, rfl, rfl, rfl⟩
  case round =>
    obtain ⟨rfl, rfl, rfl, rfl, rfl, rfl⟩ := hrel
    go_wp2_with (fail)
    refine IS.out.mono ?_
    rintro e w2 ⟨O2, rfl, h1, h2, h3, h4⟩
    have H1 := Lib.hid h1
    have H2 := Lib.hid h2
    have H3 := Lib.hid h3
    clear h1 h2 h3
    go_wp2_with (fail)
    go_end0
    exact ⟨O2, rfl, H1.out, H2.out, H3.out, h4⟩
theorem sortFDC_few (F : FuncId) (n : Nat) (cm : DC → DC → Int) (v : Value) (base : Nat) (L : List DC) (w : World) (hown : w.ownsRow base 46 2 v n (flat encDc L)) (hL : L.length = n) (hn : n ≤ 12)
    (hE : ∀ (args : Array Value) (w : World), (callFunc F args).run Try.prog w = .ok (.enter F args) w) (hc : CmpOk cm) (hF : CmpDC F cm L v.ownBlock w) :
    Calls Try.prog 36 #[v, .func (.func F) #[] #[]] w (SortDCPost cm L v n base w) := by
  have IS := Lib.hid (fun lim => pdqDC_few F n cm v base L w hown hL hn lim hE hc hF)
  have LN := Lib.hid (len_few n hn)
  obtain ⟨va, vc, rfl, _, _, _, _⟩ := own_shape hown
  clear hF hE hown hL hc
  go_enter Try.func36, Try.ntmps36
  go_wp2_with (fail)
  refine (LN.out _).mono ?_
  rintro e w1 ⟨r, rfl, rfl⟩
  go_wp2_with (fail)
  refine (IS.out r).mono ?_
  rintro e w2 ⟨O2, rfl, h1, h2, h3, h4⟩
  have H1 := Lib.hid h1
  have H2 := Lib.hid h2
  have H3 := Lib.hid h3
  clear h1 h2 h3
  go_wp2_with (fail)
  go_end0
  exact ⟨O2, rfl, H1.out, H2.out, H3.out, h4⟩
end Go.Proofs.Ytjhfglhoiplfmaa

/-! slices.SortFunc at days, of many or none. -/
namespace Go.Proofs.Ytjhfglhoiplfmaa
open Go.RowKit

theorem dcCm_ok : CmpOk dcCm := ⟨fun a b h => by rw [dcCm_neg] at *; omega, fun a b c h1 h2 => by rw [dcCm_neg] at *; omega⟩
theorem sortDcV_any (v : Value) (n base : Nat) (L : List DC) (w : World) (hown : w.ownsRow base 46 2 v n (flat encDc L)) (hL : L.length = n) (hn : n ≤ 1000000) :
    Calls Try.prog 36 #[v, .func (.func 37) #[] #[]] w fun e w' => ∃ O : List DC, e = .returned (.tuple #[]) ∧ w'.ownsRow base 46 2 v n (flat encDc O) ∧ O.Perm L ∧ w.grownBy w' v.ownBlock := by
  by_cases h0 : n = 0
  · subst h0
    refine (sortFDC_few 37 0 dcCm v base L w hown hL (by omega) days1_fn dcCm_ok (fun x y W _ _ _ => (days1_any x y W).mono fun e w' h => ⟨h.1, by rw [h.2]; exact gr_alloc (gr_alloc (gr_refl _ _) _) _⟩)).mono ?_
    rintro e w' ⟨O, rfl, h1, h2, -, h3⟩
    exact ⟨O, rfl, h1, h2, h3⟩
  · obtain ⟨g, cap, rfl, -⟩ := own_some hown (by omega)
    refine (sortDc_any g n cap base L w hown hL hn).mono ?_
    rintro e w' ⟨O, rfl, h1, h2, h3⟩
    exact ⟨O, rfl, h1, h2, h3⟩
end Go.Proofs.Ytjhfglhoiplfmaa

/-! The map of days: what it holds while steps are put into it, and while it is read: no program in sight. -/
namespace Go.Proofs.Ytjhfglhoiplfmaa
open Go.RowKit

/-- The last day's number and one. -/
def dayE : Nat := 4001
structure DayMap (f : Int → Option Int) (T : Int) : Prop where
  sum : mapSum f dayE = T
  key : ∀ s v, f s = some v → 0 ≤ s ∧ s < 4001
  val : ∀ s v, f s = some v → 0 ≤ v ∧ v ≤ T
  pos : 0 ≤ T
theorem DayMap.start : DayMap (fun _ => none) 0 := ⟨mapSum_none _, (fun _ _ h => by cases h), (fun _ _ h => by cases h), Int.le_refl _⟩
theorem DayMap.get {f : Int → Option Int} {T : Int} (h : DayMap f T) (s : Int) : 0 ≤ (f s).getD 0 ∧ (f s).getD 0 ≤ T := by
  cases e : f s with
  | none => exact ⟨Int.le_refl _, h.pos⟩
  | some v => exact h.val s v e
theorem DayMap.put {f : Int → Option Int} {T : Int} (h : DayMap f T) (s x : Int) (hs : 0 ≤ s ∧ s < 4001) (hx : 0 ≤ x) : DayMap (fun t => if t = s then some ((f s).getD 0 + x) else f t) (T + x) := by
  obtain ⟨k, rfl⟩ : ∃ k : Nat, s = (k : Int) := ⟨s.toNat, by omega⟩
  have hg := h.get (k : Int)
  have hp := h.pos
  refine ⟨?_, fun t v ht => ?_, fun t v ht => ?_, by omega⟩
  · rw [mapSum_put f k _ dayE (by unfold dayE; omega), h.sum]; omega
  · by_cases e : t = (k : Int)
    · rw [e]; exact hs
    · rw [if_neg e] at ht; exact h.key t v ht
  · by_cases e : t = (k : Int)
    · rw [if_pos e] at ht
      cases ht
      omega
    · rw [if_neg e] at ht
      have := h.val t v ht
      omega
/-- While the map is read: what was taken out, and how much is left. -/
structure DayRead (f : Int → Option Int) (T : Int) (left : Lit → Bool) (R : List DC) : Prop where
  sum : (R.map DC.many).sum + mapSumL f left dayE = T
  len : (R.length : Int) + leftN left dayE ≤ 4001
  pos : ∀ x ∈ R, 0 ≤ x.many
theorem DayRead.start {f : Int → Option Int} {T : Int} (h : DayMap f T) (left : Lit → Bool) (hl : ∀ s, left (ikey s) = (f s).isSome) : DayRead f T left [] := by
  refine ⟨?_, ?_, fun x hx => by cases hx⟩
  · rw [mapSumL_all f left hl, h.sum]; simp
  · have := (leftN_in left dayE).2
    have e : ((dayE : Nat) : Int) = 4001 := rfl
    simp
    omega
theorem DayRead.next {f : Int → Option Int} {T : Int} {left : Lit → Bool} {R : List DC} (h : DayRead f T left R) (hm : DayMap f T) (s x : Int) (h1 : f s = some x) (h2 : left (ikey s) = true) : (0 < x → DayRead f T (fun z => left z && !z.sameKey (ikey s)) (R ++ [⟨s, x⟩])) ∧ (¬ 0 < x → DayRead f T (fun z => left z && !z.sameKey (ikey s)) R) := by
  obtain ⟨k0, k1⟩ := hm.key s x h1
  obtain ⟨v0, -⟩ := hm.val s x h1
  obtain ⟨k, rfl⟩ : ∃ k : Nat, s = (k : Int) := ⟨s.toNat, by omega⟩
  have hk : k < dayE := by unfold dayE; omega
  have e1 := mapSumL_next f left k x dayE hk h1 h2
  have e2 := leftN_next left k dayE hk h2
  have hs := h.sum
  have hl := h.len
  have hp := h.pos
  refine ⟨fun hx => ⟨?_, ?_, fun y hy => ?_⟩, fun hx => ⟨?_, ?_, hp⟩⟩
  · rw [e1, List.map_append, sumI_app]; simp; omega
  · rw [e2]; simp; omega
  · rcases List.mem_append.1 hy with hy | hy
    · exact hp y hy
    · have : y = ⟨(k : Int), x⟩ := by simpa using hy
      subst this
      exact Int.le_of_lt hx
  · rw [e1]; omega
  · rw [e2]; omega
theorem DayRead.done {f : Int → Option Int} {T : Int} {left : Lit → Bool} {R : List DC} (h : DayRead f T left R) (hd : ∀ k, left k = false) : (R.map DC.many).sum = T := by
  have := h.sum
  rw [mapSumL_done f left hd] at this
  omega
theorem DayRead.few {f : Int → Option Int} {T : Int} {left : Lit → Bool} {R : List DC} (h : DayRead f T left R) : R.length ≤ 4001 := by
  have h1 := h.len
  have h2 := (leftN_in left dayE).1
  omega
theorem many_perm {O L : List DC} (h : O.Perm L) : (O.map DC.many).sum = (L.map DC.many).sum := by
  induction h with
  | nil => rfl
  | cons x _ ih => simp [ih]
  | swap x y l => simp; omega
  | trans _ _ ih1 ih2 => exact ih1.trans ih2
end Go.Proofs.Ytjhfglhoiplfmaa
