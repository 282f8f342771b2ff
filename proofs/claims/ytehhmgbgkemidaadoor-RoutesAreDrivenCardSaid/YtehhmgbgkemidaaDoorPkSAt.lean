/- slices.Insert of one int into a slice that the call owns. -/
import Derived.Test.YtehhmgbgkemidaaDoorPkSAs
import Derived.Test.YtehhmgbgkemidaaDoorPkSAc
import Derived.Deep.Upon
namespace Go.Proofs.YtehhmgbgkemidaaDoor
open Go.RowKit

theorem setCells_row {g e : Nat} (vs : List Value) : ∀ (o : Nat) (w : World) (cur : Array Value), w.heap[g]? = some (.cells cur e (0, 0)) → o + vs.length ≤ cur.size →
    ∃ cur', (w.setCells g o vs).heap[g]? = some (.cells cur' e (0, 0)) ∧ cur'.toList = cur.toList.take o ++ vs ++ cur.toList.drop (o + vs.length) := by
  induction vs with
  | nil => intro o w cur h _; exact ⟨cur, h, by simp⟩
  | cons v vs ih =>
    intro o w cur h hl
    simp only [List.length_cons] at hl
    have h1 := heap_setCell_same w g o _ _ v h
    obtain ⟨cur', h2, h3⟩ := ih (o + 1) _ _ h1 (by simp; omega)
    refine ⟨cur', h2, ?_⟩
    rw [h3, Array.toList_setIfInBounds]
    have ho : o < cur.toList.length := by simp; omega
    rw [List.set_eq_take_append_cons_drop, if_pos ho]
    have hto : (cur.toList.take o).length = o := by rw [List.length_take]; omega
    have e1 : (cur.toList.take o ++ v :: cur.toList.drop (o + 1)).take (o + 1) = cur.toList.take o ++ [v] := by
      rw [List.take_append, hto, List.take_of_length_le (by omega)]
      simp
    have e2 : (cur.toList.take o ++ v :: cur.toList.drop (o + 1)).drop (o + 1 + vs.length) = cur.toList.drop (o + (vs.length + 1)) := by
      rw [List.drop_append, hto, List.drop_of_length_le (by omega), show o + 1 + vs.length - o = vs.length + 1 by omega]
      simp only [List.drop_succ_cons, List.drop_drop, List.nil_append]
      congr 1
      omega
    rw [e1, e2]
    simp
theorem gr_setCells {g : Nat} (vs : List Value) : ∀ (o : Nat) (w : World), w.grownBy (w.setCells g o vs) (some g) := by
  induction vs with
  | nil => intro o w; exact gr_refl _ _
  | cons v vs ih => intro o w; exact gr_trans (gr_set (q := ⟨g, o, none⟩) (gr_refl w (some g)) rfl v) (ih _ _)
theorem own_put {w : World} {base g cap n : Nat} {cur : Array Value} {xs : List Value} (hg : w.heap[g]? = some (.cells cur 3 (0, 0))) (hb : base ≤ g) (hn : n ≤ cap) (hc : cap ≤ maxLen) (hs : cur.size = cap) (ht : cur.toList.take n = xs) :
    w.ownsRow base 3 1 (.slice (some ⟨g, 0, none⟩) n cap) n xs := by
  refine ⟨?_, .inr ⟨g, cap, cur, rfl, hb, hg, hn, hc, by omega, by rw [Nat.mul_one]; exact ht⟩⟩
  rw [← ht, List.length_take]
  have : cur.toList.length = cap := by simp; omega
  omega
/-- What Insert leaves of a list. -/
def insAt (L : List Int) (i : Nat) (x : Int) : List Int := L.take i ++ [x] ++ L.drop i
theorem insAt_len (L : List Int) (i : Nat) (x : Int) (h : i ≤ L.length) : (insAt L i x).length = L.length + 1 := by simp [insAt]; omega
theorem ints_ins (L : List Int) (i : Nat) (x : Int) : ints (insAt L i x) = (ints L).take i ++ [.int .i64 x] ++ (ints L).drop i := by simp [insAt, ints, List.map_take, List.map_drop]
def InsPost (base n i : Nat) (L : List Int) (x : Int) (v : Value) (w : World) (e : Ending) (w' : World) : Prop :=
  ∃ v', e = .returned v' ∧ w'.ownsRow base 3 1 v' (n + 1) (ints (insAt L i x)) ∧ w.grownBy w' v.ownBlock ∧ (∀ q, v'.ownBlock = some q → v.ownBlock = some q ∨ w.heap.size ≤ q)
set_option maxHeartbeats 1000000 in
theorem insert_int (base n i : Nat) (L : List Int) (x : Int) (v : Value) (w : World) (hown : w.ownsRow base 3 1 v n (ints L)) (hi : i ≤ n) (hn : n ≤ 1000000) (hb : base ≤ w.heap.size) :
    Calls Tryd.prog 42 #[v, .int .i64 i, .slice (some ⟨w.heap.size, 0, none⟩) 1 1] (w.alloc (.cells #[.int .i64 x] 3)) (InsPost base n i L x v w) := by
  have hL : (ints L).length = n := by have := hown.1; omega
  obtain ⟨C, hC⟩ : ∃ C, C = ints L := ⟨_, rfl⟩
  have hfin := ints_ins L i x
  have h1C : ∀ u ∈ C, u.oneCell' = true := by rw [hC]; exact ints_oneCell _ _
  rw [← hC] at hown hL hfin
  obtain ⟨W, hW⟩ : ∃ W, W = w.alloc (.cells #[.int .i64 x] 3) := ⟨_, rfl⟩
  have hWs : W.heap.size = w.heap.size + 1 := by rw [hW]; simp
  have hWb : W.heap[w.heap.size]? = some (.cells #[.int .i64 x] 3 (0, 0)) := by rw [hW]; exact heap_alloc_new w _
  have hgW : w.grownBy W none := by rw [hW]; exact gr_alloc (gr_refl _ _) _
  rw [← hW]
  clear hW
  have hvx : ∀ j u, [Value.int .i64 x][j]? = some u → W.cell? ⟨w.heap.size, 0 + j, none⟩ = some u := by
    intro j u hj
    match j, hj with
    | 0, hj => simp at hj; rw [← hj]; simp [World.cell?, hWb]
  have h1x : ∀ u ∈ [Value.int .i64 x], u.oneCell' = true := one_int x
  rcases hown.2 with ⟨rfl, h0⟩ | ⟨g, cap, cur, rfl, hbg, hg, hnc, hcap, hcs, htk⟩
  · subst h0
    obtain rfl : i = 0 := by omega
    have hCn : C = [] := List.eq_nil_of_length_eq_zero hL
    subst hCn
    refine (Any2.slices_Insert_int_end_grow insLays none 0 0 w.heap.size 0 1 1 [] [.int .i64 x] W (by omega) (by omega) (by omega) (by omega) rfl rfl (fun _ => rfl) (fun a ha => by cases ha) hvx h1x).mono ?_
    rintro e w' ⟨rfl, rfl⟩
    have hge := grownCap_ge W (0 + 1) 0 (insRen.t 3)
    have hle := grownCap_le_maxLen W (0 + 1) 0 (insRen.t 3) (by unfold maxLen; omega)
    obtain ⟨G, hG⟩ : ∃ G, G = grownCap W (0 + 1) 0 (insRen.t 3) := ⟨_, rfl⟩
    rw [← hG] at hge hle ⊢
    refine ⟨_, rfl, own_put (heap_alloc_new W.drew _) (by omega) hge hle (by simp [Builtin.zeroCells, Value.cells]; omega) ?_, gr_trans hgW (gr_alloc (gr_drew (gr_refl W none)) _), fun q e => .inr ?_⟩
    · rw [hfin, Array.toList_append, List.take_left' (by simp)]
      rfl
    · simp [Value.ownBlock] at e; omega
  · have hWg : W.heap[g]? = some (.cells cur 3 (0, 0)) := (hgW.block g (lt_of_block hg) (by simp)).trans hg
    have hgl := lt_of_block hg
    have hcur : cur.toList.length = cap := by simp; omega
    rw [Nat.mul_one] at htk
    have hcell : ∀ j u, C[j]? = some u → W.cell? ⟨g, 0 + j, none⟩ = some u := by
      intro j u hj
      rw [← htk, List.getElem?_take] at hj
      split at hj
      · rw [Nat.zero_add]
        simp only [World.cell?, hWg]
        simpa using hj
      · cases hj
    have hsome : ∀ j, j < cap → (W.cell? ⟨g, 0 + j, none⟩).isSome = true := by
      intro j hj
      rw [Nat.zero_add]
      simp only [World.cell?, hWg]
      rw [Array.getElem?_eq_getElem (by omega)]
      rfl
    have hfz : ∀ j, W.frozen? ⟨g, 0 + j, none⟩ = false := by
      intro j
      simp [World.frozen?, hWg]
    have hcapM := hcap
    unfold maxLen at hcap
    by_cases hin : i < n
    · by_cases hroom : n + 1 ≤ cap
      · refine (Any2.slices_Insert_int_shift insLays g 0 n cap i w.heap.size 0 1 1 C [.int .i64 x] W hin (by omega) hroom (by omega) (by omega) hL rfl hcell (fun j hj => hsome j (by omega)) (fun j _ => hfz j) hvx h1C h1x 3 3 1 cur.size (by simp [World.shape?, hWb]) (by simp [World.shape?, hWg]) (by omega) (by simp [World.frozen?, hWb]) (by simp [World.frozen?, hWb])).mono ?_
        rintro e w' ⟨rfl, rfl⟩
        have hdl : (C.drop i).length = n - i := by rw [List.length_drop, hL]
        obtain ⟨c1, h1, e1⟩ := setCells_row (g := g) (e := 3) (C.drop i) (0 + (i + 1)) W.drew cur hWg (by omega)
        have hc1 : c1.toList.length = cap := by rw [e1]; simp; omega
        have hc1s : c1.size = cap := by simpa using hc1
        obtain ⟨c2, h2, e2⟩ := setCells_row (g := g) (e := 3) [.int .i64 x] (0 + i) _ c1 h1 (by simp at hc1 ⊢; omega)
        refine ⟨_, rfl, own_put h2 hbg hroom hcapM ?_ ?_, gr_trans (gr_weak hgW _) (gr_trans (gr_trans (gr_drew (gr_refl W (some g))) (gr_setCells _ _ _)) (gr_setCells _ _ _)), fun q e => .inl e⟩
        · have : c2.toList.length = cap := by rw [e2]; simp; omega
          simpa using this
        · rw [e2, hfin]
          have k1 : c1.toList.take (0 + i) = C.take i := by
            rw [e1, Nat.zero_add, Nat.zero_add, List.append_assoc, List.take_append_of_le_length (by rw [List.length_take]; omega), List.take_take, ← htk, List.take_take]
            congr 1
            omega
          have k2 : c1.toList.drop (0 + i + [Value.int .i64 x].length) = C.drop i ++ cur.toList.drop (i + 1 + (n - i)) := by
            rw [e1, Nat.zero_add, Nat.zero_add, List.append_assoc, hdl]
            exact List.drop_left' (by rw [List.length_take, List.length_singleton]; omega)
          rw [k1, k2, ← List.append_assoc]
          exact List.take_left' (by simp [hL]; omega)
      · refine (Any2.slices_Insert_int_grow insLays g 0 n cap i w.heap.size 0 1 1 C [.int .i64 x] W hin (by omega) hnc (by omega) (by omega) hL rfl hcell hvx h1C h1x).mono ?_
        rintro e w' ⟨rfl, rfl⟩
        have hge := grownCap_ge W (n + 1) cap (insRen.t 3)
        have hle := grownCap_le_maxLen W (n + 1) cap (insRen.t 3) (by unfold maxLen; omega)
        obtain ⟨G, hG⟩ : ∃ G, G = grownCap W (n + 1) cap (insRen.t 3) := ⟨_, rfl⟩
        rw [← hG] at hge hle ⊢
        obtain ⟨ROW, hROW⟩ : ∃ ROW : Array Value, ROW = (C.take i).toArray ++ Builtin.zeroCells (Value.int .i64 0).cells (n + 1 - i) ++ Builtin.zeroCells (Value.int .i64 0).cells (G - (n + 1)) := ⟨_, rfl⟩
        rw [← hROW]
        have hRs : ROW.size = G := by rw [hROW]; simp [Builtin.zeroCells, Value.cells, hL]; omega
        have hRt : ROW.toList.take i = C.take i := by
          rw [hROW, Array.toList_append, Array.toList_append, List.append_assoc]
          exact List.take_left' (by simp [hL]; omega)
        have hdl : (C.drop i).length = n - i := by rw [List.length_drop, hL]
        obtain ⟨c1, h1, e1⟩ := setCells_row (g := W.heap.size) (e := insRen.t 3) [.int .i64 x] i (W.alloc (.cells ROW (insRen.t 3))).drew ROW (heap_alloc_new W _) (by simp; omega)
        have hRl : ROW.toList.length = G := by simp; omega
        have hc1 : c1.toList.length = G := by rw [e1]; simp; omega
        have hc1s : c1.size = G := by simpa using hc1
        obtain ⟨c2, h2, e2⟩ := setCells_row (g := W.heap.size) (e := insRen.t 3) (C.drop i) (i + 1) ((W.alloc (.cells ROW (insRen.t 3))).drew.setCells W.heap.size i [.int .i64 x]).drew c1 h1 (by omega)
        refine ⟨_, rfl, own_put h2 (by omega) hge hle ?_ ?_, ?_, fun q e => .inr ?_⟩
        · have : c2.toList.length = G := by rw [e2]; simp; omega
          simpa using this
        · rw [e2, hfin]
          have k1 : c1.toList.take (i + 1) = C.take i ++ [.int .i64 x] := by
            rw [e1, hRt]
            exact List.take_left' (by simp [hL]; omega)
          rw [k1]
          exact List.take_left' (by simp [hL]; omega)
        · have hga := gr_alloc (gr_refl W (some g)) (.cells ROW (insRen.t 3))
          exact gr_trans (gr_weak hgW _) (gr_grown (gr_drew (gr_grown (gr_drew hga) (gr_setCells _ _ _) (fun k e => by cases e; exact Nat.le_refl _))) (gr_setCells _ _ _) (fun k e => by cases e; exact Nat.le_refl _))
        · simp [Value.ownBlock] at e; omega
    · obtain rfl : i = n := by omega
      have hti : C.take i = C := List.take_of_length_le (by omega)
      have hdi : C.drop i = [] := List.drop_of_length_le (by omega)
      by_cases hroom : i + 1 ≤ cap
      · refine (Any2.slices_Insert_int_end_room insLays g 0 i cap w.heap.size 0 1 1 [.int .i64 x] W (by omega) hroom (by omega) rfl (fun j hj => by have := hsome (i + j) (by omega); rwa [← Nat.add_assoc] at this) (fun j _ => by have := hfz (i + j); rwa [← Nat.add_assoc] at this) hvx h1x).mono ?_
        rintro e w' ⟨rfl, rfl⟩
        obtain ⟨c1, h1, e1⟩ := setCells_row (g := g) (e := 3) [.int .i64 x] (0 + i) W cur hWg (by simp; omega)
        refine ⟨_, rfl, own_put h1 hbg hroom hcapM ?_ ?_, gr_trans (gr_weak hgW _) (gr_setCells _ _ _), fun q e => .inl e⟩
        · have : c1.toList.length = cap := by rw [e1]; simp; omega
          simpa using this
        · rw [e1, hfin, Nat.zero_add, htk, hti, hdi, List.append_nil]
          exact List.take_left' (by simp [hL])
      · refine (Any2.slices_Insert_int_end_grow insLays (some ⟨g, 0, none⟩) i cap w.heap.size 0 1 1 C [.int .i64 x] W (by omega) hnc (by omega) (by omega) hL rfl (fun h => by cases h) (fun a ha j u hj => by cases ha; rw [Addr.add_lit]; exact hcell j u hj) hvx h1x).mono ?_
        rintro e w' ⟨rfl, rfl⟩
        have hge := grownCap_ge W (i + 1) cap (insRen.t 3)
        have hle := grownCap_le_maxLen W (i + 1) cap (insRen.t 3) (by unfold maxLen; omega)
        obtain ⟨G, hG⟩ : ∃ G, G = grownCap W (i + 1) cap (insRen.t 3) := ⟨_, rfl⟩
        rw [← hG] at hge hle ⊢
        refine ⟨_, rfl, own_put (heap_alloc_new W.drew _) (show base ≤ W.heap.size by omega) hge hle (by simp [Builtin.zeroCells, Value.cells, hL]; omega) ?_, gr_trans (gr_weak hgW _) (gr_alloc (gr_drew (gr_refl W (some g))) _), fun q e => .inr ?_⟩
        · rw [hfin, Array.toList_append, hti, hdi, List.append_nil, List.take_left' (by simp [hL])]
        · simp [Value.ownBlock] at e; omega
end Go.Proofs.YtehhmgbgkemidaaDoor
