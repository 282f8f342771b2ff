/- slices.SortFunc at ints of many, by a comparison without captures: from the dearest on. -/
import Derived.Test.YtjhdngfliakidaaDoorPkCAz
import Derived.Test.YtjhdngfliakidaaDoorPkCAp
import Derived.Test.YtjhdngfliakidaaDoorPkCAd
import Derived.Test.YtjhdngfliakidaaDoorPkCAc
namespace Go.Proofs.YtjhdngfliakidaaDoor
open Go.RowKit Go.Sort
attribute [local go_sem ↓] Go.wp_at_zero Go.wp_at_succ

def dsCm (x y : Int) : Int := cmpN y x
theorem dsCm_neg (x y : Int) : dsCm x y < 0 ↔ y < x := by
  unfold dsCm cmpN
  split
  · constructor <;> omega
  · split <;> constructor <;> omega
theorem dsSWO : SWO (ltOf dsCm) := by
  have e : ∀ x y : Int, ltOf dsCm x y = decide (y < x) := fun x y => by unfold ltOf; simp [dsCm_neg]
  refine ⟨fun x => ?_, fun x y z h1 h2 => ?_, fun x y z h1 h2 => ?_⟩
  · rw [e]; simp
  · rw [e] at *; simp at *; omega
  · rw [e] at *; simp at *; omega
theorem bound1_fn : ∀ (args : Array Value) (w : World), (callFunc 64 args).run Tryd.prog w = .ok (.enter 64 args) w := fun _ _ => by kernel_rfl
theorem bound1_any (x y : Int) (w : World) : Calls Tryd.prog 64 #[.int .i64 x, .int .i64 y] w fun e w' => e = .returned (.int .i64 (dsCm x y)) ∧ w' = w := by
  go_enter Tryd.func64, Tryd.ntmps64
  go_wp2_with (fail)
  refine (cmpInt_any y x w).mono ?_
  rintro e w5 ⟨rfl, rfl⟩
  go_wp2_with (fail)
  go_ret
  exact ⟨rfl, rfl⟩
theorem sort1_heap {α : Type} [Inhabited α] (enc : α → Value) (w : World) (g m : Nat) (d : Array α) (os : Array Obj) (b : Nat) (hb : b < w.heap.size) : (sortWorld enc w g 0 m d os).heap[b]? = if g = b then (w.heap[b]?).map (onCells (putCells enc 0 d)) else w.heap[b]? := by
  show ((w.heap.modify g (onCells (putCells enc 0 d))) ++ os)[b]? = _
  rw [Array.getElem?_append_left (by simpa using hb), Array.getElem?_modify]
theorem sort1_grown {α : Type} [Inhabited α] (enc : α → Value) (w : World) (g m : Nat) (d : Array α) (os : Array Obj) : w.grownBy (sortWorld enc w g 0 m d os) (some g) := by
  refine ⟨rfl, rfl, rfl, ?_, fun b hb hr => ?_⟩
  · show w.heap.size ≤ ((w.heap.modify g (onCells (putCells enc 0 d))) ++ os).size
    simp
  · rw [sort1_heap enc w g m d os b hb, if_neg (fun e => hr (by rw [e]))]
theorem ints_holds {w : World} {base g n c : Nat} {L : List Int} (h : w.ownsRow base 3 1 (.slice (some ⟨g, 0, none⟩) n c) n (ints L)) : Holds (Value.int .i64) w g 0 L.toArray := by
  obtain ⟨a, cap, hv, -, -, hc, -⟩ := own_shape h
  cases hv
  intro j hj
  have hjn : j < L.length := by simpa using hj
  obtain ⟨b, off, e, hcell⟩ := hc j _ (ints_get L j hjn)
  cases e
  have e2 : L.toArray[j]! = L.getD j 0 := by
    rw [getD_eq L j 0 hjn]
    simp [hjn]
  rw [e2]
  refine ⟨hcell, ?_⟩
  rw [Nat.zero_add]
  exact h.frozenAt j
theorem own_sorted1 {w : World} {base g n c : Nat} {xs : List Value} (h : w.ownsRow base 3 1 (.slice (some ⟨g, 0, none⟩) n c) n xs) (m : Nat) (d : Array Int) (os : Array Obj) (hd : d.size = n) : (sortWorld (Value.int .i64) w g 0 m d os).ownsRow base 3 1 (.slice (some ⟨g, 0, none⟩) n c) n (ints d.toList) := by
  refine ⟨by rw [ints_length, Array.length_toList, hd, Nat.mul_one], ?_⟩
  rcases h.2 with ⟨h2, -⟩ | ⟨g', cap, cur, hv, hb, hg, hn, hm, hs, ht⟩
  · cases h2
  · cases hv
    refine .inr ⟨g, c, putCells (Value.int .i64) 0 d cur, rfl, hb, ?_, hn, hm, ?_, ?_⟩
    · have hl : g < w.heap.size := lt_of_block hg
      rw [sort1_heap _ w g m d os g hl, if_pos rfl, hg]
      rfl
    · simp [putCells, hs]
    · refine List.ext_getElem? (fun t => ?_)
      by_cases htn : t < n
      · have htc : t < cur.size := by rw [hs]; omega
        have htd : t < d.size := by omega
        rw [ints_get d.toList t (by rw [Array.length_toList]; exact htd), getD_eq d.toList t 0 (by rw [Array.length_toList]; exact htd)]
        simp [putCells, htn, htc, hd]
      · rw [List.getElem?_eq_none (by simp; omega), List.getElem?_eq_none (by rw [ints_length, Array.length_toList]; omega)]
def SortI1Post (v : Value) (n base : Nat) (L : List Int) (w : World) (e : Ending) (w' : World) : Prop := e = .returned (.tuple #[]) ∧ w'.ownsRow base 3 1 v n (ints (sortD L)) ∧ w.grownBy w' v.ownBlock
theorem sortI1_many (g n c base : Nat) (L : List Int) (w : World) (hown : w.ownsRow base 3 1 (.slice (some ⟨g, 0, none⟩) n c) n (ints L)) (hL : L.length = n) (hn : n ≤ 1000000) :
    Calls Tryd.prog 45 #[.slice (some ⟨g, 0, none⟩) n c, .func (.func 64) #[] #[]] w (SortI1Post (.slice (some ⟨g, 0, none⟩) n c) n base L w) := by
  have hsz : L.toArray.size = n := by simpa using hL
  have hH : Holds (Value.int .i64) w g 0 L.toArray := ints_holds hown
  have hlt : g < w.heap.size := by
    obtain ⟨a, cap, hv, -, -, -, h5⟩ := own_shape hown
    cases hv
    exact (h5 g 0 rfl).2.1
  have h := Any.slices_SortFunc (P := Tryd.prog) (ρ := intRen) intLays (Value.int .i64) (fun _ => rfl) dsCm dsSWO 64 #[] g 0 c L.toArray w bound1_fn (fun m os dk hs x y => (bound1_any x y _).mono fun e w' h => ⟨h.1, 0, #[], by rw [h.2]; simp [World.drewN]⟩) hH hlt (by omega)
  rw [hsz] at h
  refine h.mono ?_
  rintro e w' ⟨rfl, d', m, os, hp, hs, rfl⟩
  obtain ⟨p1, -, p3⟩ := hp
  have e1 : d'.extract 0 n = d' := by rw [← hsz, ← p1]; simp
  have e2 : L.toArray.extract 0 n = L.toArray := by rw [← hsz]; simp
  rw [e1, e2] at p3
  have hd : Desc d'.toList := by
    unfold Desc
    rw [List.pairwise_iff_getElem]
    intro i j hi hj hij
    have hi2 : i < d'.size := by simpa using hi
    have hj2 : j < d'.size := by simpa using hj
    have h1 := hs i j (Nat.zero_le _) hij (by omega)
    rw [getElem!_pos d' i hi2, getElem!_pos d' j hj2] at h1
    have h2 : ¬ dsCm d'[j] d'[i] < 0 := by
      intro h3
      unfold ltOf at h1
      simp [h3] at h1
    rw [dsCm_neg] at h2
    rw [Array.getElem_toList, Array.getElem_toList]
    omega
  refine ⟨rfl, ?_, sort1_grown _ _ _ _ _ _⟩
  rw [← sortD_of p3 hd]
  exact own_sorted1 hown m d' os (by rw [p1, hsz])
def Nop0 (w : World) (e : Ending) (w' : World) : Prop := e = .returned (.tuple #[]) ∧ w' = w
set_option maxRecDepth 100000 in
theorem insertion0_any (va : Option Addr) (vc : Nat) (F : Value) (w : World) : Calls Tryd.prog 113 #[.slice va 0 vc, .int .i64 0, .int .i64 0, F] w (Nop0 w) := by
  go_enter Tryd.func113, Tryd.ntmps113
  go_wp2_with (fail)
  go_loopw [8] (fun b wr => b = .int .i64 1 ∧ wr = w) (fun _ _ => 0)
  case atStart => exact ⟨rfl, rfl⟩
  case round =>
    obtain ⟨rfl, rfl⟩ := hrel
    go_wp2_with (fail)
    go_end0
    exact ⟨rfl, rfl⟩
set_option maxRecDepth 100000 in
theorem pdq0_any (va : Option Addr) (vc : Nat) (lim : Int) (F : Value) (w : World) : Calls Tryd.prog 83 #[.slice va 0 vc, .int .i64 0, .int .i64 0, .int .i64 lim, F] w (Nop0 w) := by
  have IS := Lib.hid (insertion0_any va vc F w)
  go_enter Tryd.func83, Tryd.ntmps83
  go_wp2_with (fail)
  go_loopw [1, 2, 3, 10, 11] (fun b c d g h wr => b = .int .i64 0 ∧ c = .int .i64 0 ∧ d = .int .i64 lim ∧ g = .bool true ∧ h = .bool true ∧ wr = w) (fun _ _ _ _ _ _ => 0)
  case atStart => exact ⟨rfl, rfl, rfl, rfl, rfl, rfl⟩
  case round =>
    obtain ⟨rfl, rfl, rfl, rfl, rfl, rfl⟩ := hrel
    go_wp2_with (fail)
    refine IS.out.mono ?_
    rintro e w2 ⟨rfl, rfl⟩
    go_wp2_with (fail)
    go_end0
    exact ⟨rfl, rfl⟩
set_option maxRecDepth 100000 in
theorem len0_any (w : World) : Calls Tryd.prog 84 #[.int .u64 0] w fun e w' => ∃ r : Int, e = .returned (.int .i64 r) ∧ w = w' := by
  have L : Hid (Calls Tryd.prog 122 #[.int .u64 0] w fun e w' => ∃ r : Int, e = .returned (.int .i64 r) ∧ w = w') := by
    show Calls _ _ _ _ _
    go_enter Tryd.func122, Tryd.ntmps122
    go_wp2_with (fail)
    go_ret
    exact ⟨_, rfl, rfl⟩
  go_enter Tryd.func84, Tryd.ntmps84
  go_wp2_with (fail)
  refine L.out.mono ?_
  rintro e w1 ⟨r, rfl, rfl⟩
  go_wp2_with (fail)
  go_ret
  exact ⟨_, rfl, rfl⟩
set_option maxRecDepth 100000 in
theorem sort0_any (va : Option Addr) (vc : Nat) (F : Value) (w : World) : Calls Tryd.prog 45 #[.slice va 0 vc, F] w (Nop0 w) := by
  have PQ := Lib.hid (fun lim => pdq0_any va vc lim F w)
  have LN := Lib.hid (len0_any w)
  go_enter Tryd.func45, Tryd.ntmps45
  go_wp2_with (fail)
  refine LN.out.mono ?_
  rintro e w1 ⟨r, rfl, rfl⟩
  go_wp2_with (fail)
  refine (PQ.out r).mono ?_
  rintro e w2 ⟨rfl, rfl⟩
  go_wp2_with (fail)
  go_end0
  exact ⟨rfl, rfl⟩
theorem sortI1_any (v : Value) (n base : Nat) (L : List Int) (w : World) (hown : w.ownsRow base 3 1 v n (ints L)) (hL : L.length = n) (hn : n ≤ 1000000) :
    Calls Tryd.prog 45 #[v, .func (.func 64) #[] #[]] w (SortI1Post v n base L w) := by
  by_cases h0 : n = 0
  · subst h0
    have hL0 : L = [] := List.eq_nil_of_length_eq_zero hL
    subst hL0
    obtain ⟨va, vc, rfl, -, -, -, -⟩ := own_shape hown
    refine (sort0_any va vc _ w).mono ?_
    rintro e w' ⟨rfl, rfl⟩
    exact ⟨rfl, by rw [(sortD_perm []).eq_nil]; exact hown, gr_refl _ _⟩
  · obtain ⟨g, cap, rfl, -⟩ := own_some hown (by omega)
    exact sortI1_many g n cap base L w hown hL hn
end Go.Proofs.YtjhdngfliakidaaDoor
