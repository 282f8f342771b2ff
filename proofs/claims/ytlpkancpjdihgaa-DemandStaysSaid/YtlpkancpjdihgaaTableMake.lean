/- Tables: as the stream makes them. -/
import Derived.Test.YtlpkancpjdihgaaNumbers
import Derived.Test.YtlpkancpjdihgaaOwnRows
import Derived.Test.YtlpkancpjdihgaaPickAt
import Derived.Deep.RegionHeld3
namespace Go.Proofs.Ytlpkancpjdihgaa
open Go.RowKit
variable {lw : Nat}

/-- A row of a table behind m of its numbers, what is left of 100, and the stream's place. -/
def rowTo (l : List Int) (k i : Nat) : Nat → List Int × Int × Nat
  | 0 => ([], 100, k)
  | m + 1 =>
    let p := rowTo l k i m
    if m = i then (p.1 ++ [0], p.2.1, p.2.2)
    else (p.1 ++ [min (pickM l p.2.2 [0, 10, 33, 50]) p.2.1], p.2.1 - min (pickM l p.2.2 [0, 10, 33, 50]) p.2.1, p.2.2 + 1)
def tblTo (l : List Int) (k n : Nat) : Nat → List (List Int) × Nat
  | 0 => ([], k)
  | i + 1 =>
    let p := tblTo l k n i
    let q := rowTo l p.2 i n
    (p.1 ++ [q.1], q.2.2)
theorem rowTo_len (l : List Int) (k i m : Nat) : (rowTo l k i m).1.length = m := by
  induction m with
  | zero => rfl
  | succ m ih => simp only [rowTo]; split <;> simp [ih]
theorem rowTo_k (l : List Int) (k i m : Nat) : (rowTo l k i m).2.2 ≤ k + m := by
  induction m with
  | zero => exact Nat.le_refl _
  | succ m ih => simp only [rowTo]; split <;> simp <;> omega
theorem rowTo_left (l : List Int) (k i m : Nat) : 0 ≤ (rowTo l k i m).2.1 ∧ (rowTo l k i m).2.1 ≤ 100 := by
  induction m with
  | zero => simp [rowTo]
  | succ m ih =>
    simp only [rowTo]
    have hm := pickM_mem l (rowTo l k i m).2.2 [0, 10, 33, 50] (by decide)
    have hb : 0 ≤ pickM l (rowTo l k i m).2.2 [0, 10, 33, 50] := by simp only [List.mem_cons, List.not_mem_nil, or_false] at hm; omega
    split
    · exact ih
    · simp only; omega
theorem tblTo_len (l : List Int) (k n i : Nat) : (tblTo l k n i).1.length = i := by
  induction i with
  | zero => rfl
  | succ i ih => simp [tblTo, ih]
theorem tblTo_k (l : List Int) (k n i : Nat) : (tblTo l k n i).2 ≤ k + n * i := by
  induction i with
  | zero => exact Nat.le_refl _
  | succ i ih => have := rowTo_k l (tblTo l k n i).2 i n; simp only [tblTo]; rw [Nat.mul_succ]; omega
theorem tblTo_rows (l : List Int) (k n i j : Nat) (h : j < i) : ((tblTo l k n i).1.getD j []).length = n := by
  induction i with
  | zero => omega
  | succ i ih =>
    simp only [tblTo]
    by_cases e : j < i
    · have := ih e
      rw [List.getD_eq_getElem?_getD] at this
      rw [List.getD_eq_getElem?_getD, List.getElem?_append_left (by rw [tblTo_len]; exact e)]
      exact this
    · rw [List.getD_eq_getElem?_getD, List.getElem?_append_right (by rw [tblTo_len]; omega), tblTo_len, show j - i = 0 by omega]
      simp [rowTo_len]
theorem min_if (x y : Int) : min x y = if y < x then y else x := by split <;> omega
def tabN (l : List Int) (k : Nat) : Nat := (1 + nxt l k 4).toNat
def tab0 (l : List Int) (k : Nat) : List (List Int) × Nat := tblTo l (k + 1) (tabN l k) (tabN l k)
/-- The table that the stream makes at its place k, and its place behind it. -/
def tableE (l : List Int) (n : Nat) (T : List (List Int)) (q : Nat) : List (List Int) × Nat :=
  if flipM l q 12 = true then
    if nxt l (q + 1) 3 = 0 then
      (T.set (nxt l (q + 2) n).toNat ((T.getD (nxt l (q + 2) n).toNat []).set (nxt l (q + 3) n).toNat (pickM l (q + 4) [-1, 5, 101, 100])), q + 5)
    else if nxt l (q + 1) 3 = 1 then (T ++ [[0]], q + 2)
    else ([], q + 2)
  else (T, q + 1)
def tableM (l : List Int) (k : Nat) : List (List Int) × Nat := tableE l (tabN l k) (tab0 l k).1 (tab0 l k).2
theorem tableM_eq (l : List Int) (k n : Nat) (h : 1 + nxt l k (4 - 1 + 1) = n) : tableM l k = tableE l n (tblTo l (k + 1) n n).1 (tblTo l (k + 1) n n).2 := by
  have : tabN l k = n := by unfold tabN; rw [show (4 : Int) = 4 - 1 + 1 from rfl, h]; rfl
  unfold tableM tab0
  rw [this]
theorem tabN_le (l : List Int) (k : Nat) : 1 ≤ tabN l k ∧ tabN l k ≤ 4 := by
  have := nxt_range l k 4 (by omega)
  unfold tabN; omega
theorem tableM_k (l : List Int) (k : Nat) : (tableM l k).2 ≤ k + 22 := by
  have h1 := tblTo_k l (k + 1) (tabN l k) (tabN l k)
  have h2 := tabN_le l k
  have h3 : tabN l k * tabN l k ≤ 4 * 4 := Nat.mul_le_mul h2.2 h2.2
  unfold tableM tableE tab0
  (repeat' split) <;> simp only <;> omega
theorem tableM_len (l : List Int) (k : Nat) : (tableM l k).1.length ≤ 5 := by
  have h2 := tabN_le l k
  unfold tableM tableE tab0
  (repeat' split) <;> simp [tblTo_len] <;> omega
theorem tableM_row (l : List Int) (k : Nat) : ∀ r ∈ (tableM l k).1, r.length ≤ 4 := by
  have h2 := tabN_le l k
  have h0 : ∀ r ∈ (tblTo l (k + 1) (tabN l k) (tabN l k)).1, r.length ≤ 4 := by
    intro r hr
    obtain ⟨j, hj, rfl⟩ := List.getElem_of_mem hr
    have hj' := hj
    rw [tblTo_len] at hj'
    have := tblTo_rows l (k + 1) (tabN l k) (tabN l k) j hj'
    rw [List.getD_eq_getElem?_getD, List.getElem?_eq_getElem hj, Option.getD_some] at this
    omega
  unfold tableM tableE tab0
  generalize tblTo l (k + 1) (tabN l k) (tabN l k) = p at h0
  intro r hr
  split at hr
  · split at hr
    · obtain ⟨j, hj, rfl⟩ := List.getElem_of_mem hr
      simp only [List.length_set] at hj
      rw [List.getElem_set]
      split
      · rw [List.length_set]
        rw [List.getD_eq_getElem?_getD]
        rename_i e
        rw [e, List.getElem?_eq_getElem hj, Option.getD_some]
        exact h0 _ (List.getElem_mem _)
      · exact h0 _ (List.getElem_mem _)
    · split at hr
      · simp only [List.mem_append, List.mem_cons, List.not_mem_nil, or_false] at hr
        rcases hr with hr | rfl
        · exact h0 r hr
        · simp
      · simp at hr
  · exact h0 r hr

theorem set_block {w : World} {p : Nat} {v0 : Value} {t : TypeId} {m : Nat × Nat} (h : w.heap[p]? = some (.cells #[v0] t m)) (v : Value) : (w.setCell ⟨p, 0, none⟩ v).heap[p]? = some (.cells #[v] t m) := by
  have hlt := lt_of_block h
  have h' : w.heap[p] = .cells #[v0] t m := by simpa [Array.getElem?_eq_getElem hlt] using h
  show (w.heap.modify p _)[p]? = _
  rw [Array.getElem?_eq_getElem (by simpa using hlt), Array.getElem_modify_self, h']
  rfl

/-- The end: what lies in t goes into the result. -/
theorem tab_fin {w wz : World} {p base K b : Nat} {l : List Int} {v : Value} {T : List (List Int)} {vs : List Value} (hp : p < b) (hwb : w.heap.size ≤ b) (hrows : OwnRows wz base v T vs) (hb : b < base) (hs : StreamAt wz p lw l K) (hg : w.grownBy wz (some p)) (hwl : w.heap.size ≤ base) :
    OwnRows (wz.setCell ⟨b, 0, none⟩ v) w.heap.size v T vs ∧ StreamAt (wz.setCell ⟨b, 0, none⟩ v) p lw l K ∧ w.grownBy (wz.setCell ⟨b, 0, none⟩ v) (some p) :=
  ⟨(hrows.keepS (gr_set (gr_refl wz (some b)) rfl _) hb).low hwl, hs.keep (gr_set (gr_refl wz (some b)) rfl _) (fun q e => by cases e; exact hp), gr_new hg hwb _⟩

theorem gr_cellS {w w1 : World} {p b o : Nat} (h : w.grownBy w1 (some p)) (hb : b < w.heap.size) (hn : b ≠ p) : w1.cell? ⟨b, o, none⟩ = w.cell? ⟨b, o, none⟩ := World.cell?_of_block (w := w) (h.block b hb (by simpa using hn))
theorem gr_freeS {w w1 : World} {p b o : Nat} (h : w.grownBy w1 (some p)) (hb : b < w.heap.size) (hn : b ≠ p) : w1.frozen? ⟨b, o, none⟩ = w.frozen? ⟨b, o, none⟩ := World.frozen?_of_block (w := w) (h.block b hb (by simpa using hn))
theorem cellA {w : World} {b o : Nat} {v : Value} (h : w.cell? ⟨b, o, none⟩ = some v) (ob : Obj) : (w.alloc ob).cell? ⟨b, o, none⟩ = some v := (gr_cell (gr_alloc (gr_refl w none) ob) (lt_of_cell h)).trans h
theorem cell_set {w : World} {b o g j : Nat} {v : Value} (h : w.cell? ⟨b, o, none⟩ = some v) (hn : b ≠ g) (x : Value) : (w.setCell ⟨g, j, none⟩ x).cell? ⟨b, o, none⟩ = some v := (gr_cellS (gr_set (gr_refl w (some g)) (q := ⟨g, j, none⟩) rfl x) (lt_of_cell h) hn).trans h

theorem und_parts {P : Program} {t : TypeId} (h : (P.underlying t).map (fun d => match d with | .struct _ => true | _ => false) = some true) : ∃ fs, P.underlying t = some (.struct fs) := by
  cases hd : P.underlying t with
  | none => rw [hd] at h; cases h
  | some d =>
    rw [hd] at h
    cases d with
    | struct fs => exact ⟨fs, rfl⟩
    | _ => simp at h

set_option maxRecDepth 100000 in
set_option maxHeartbeats 2000000 in
theorem table_any (l : List Int) (k : Nat) (p : Nat) (w : World) (hs : StreamAt w p lw l k) (hk : k < 900000000) :
    Calls Try.prog 39 #[.pointer (some ⟨p, 0, none⟩)] w
      fun e w' => ∃ v vs, e = .returned (.agg #[v]) ∧ OwnRows w' w.heap.size v (tableM l k).1 vs ∧ StreamAt w' p lw l (tableM l k).2 ∧ w.grownBy w' (some p) := by
  obtain ⟨dt, hd1⟩ := und_parts (P := Try.prog) (t := 72) (by kernel_rfl)
  have hlt := hs.lt
  have hs1 := hs.keep0 (gr_alloc (gr_refl w none) (.cells #[.slice none 0 0] 72))
  obtain ⟨wa, hwa⟩ : ∃ wa, wa = w.alloc (.cells #[.slice none 0 0] 72) := ⟨_, rfl⟩
  have hra : wa.heap[w.heap.size]? = some (.cells #[.slice none 0 0] 72 (0, 0)) := by rw [hwa]; exact heap_alloc_new w _
  have hga_ : w.grownBy wa none := by rw [hwa]; exact gr_alloc (gr_refl _ _) _
  go_enter Try.func39, Try.ntmps39
  go_wp2_with (fail)
  rw [← hwa]
  rw [← hwa] at hs1
  have hwsz : wa.heap.size = w.heap.size + 1 := by rw [hwa]; simp
  have HWA := Lib.hid hwa; clear hwa
  refine (range_any l k 1 4 p wa hs1 (by omega) (by omega) (by omega) (by omega)).mono ?_
  rintro e w1 ⟨rfl, hs2, hg2⟩
  have hnr := nxt_range l k (4 - 1 + 1) (by omega)
  obtain ⟨n, hn⟩ : ∃ n : Nat, 1 + nxt l k (4 - 1 + 1) = n := ⟨(1 + nxt l k (4 - 1 + 1)).toNat, by omega⟩
  have hTM := tableM_eq l k n hn
  have HTM := Lib.hid hTM; clear hTM
  rw [hn]
  have hn1 : 1 ≤ n := by omega
  have hn4 : n ≤ 4 := by omega
  have HN := Lib.hid hn; clear hn hnr
  have hsz1 := hg2.size
  have hr1 := hg2.block w.heap.size (by omega) (by simp; omega)
  rw [hra] at hr1
  have hgw1 := gr_trans (gr_weak hga_ (some p)) hg2
  have hs3 := hs2.keep0 (gr_alloc (gr_refl w1 none) (.cells #[.slice none 0 0] 72))
  go_wp2_with (fail)
  obtain ⟨w2, hw2⟩ : ∃ w2, w2 = w1.alloc (.cells #[.slice none 0 0] 72) := ⟨_, rfl⟩
  have hb2 : w2.heap[w1.heap.size]? = some (.cells #[.slice none 0 0] 72 (0, 0)) := by rw [hw2]; exact heap_alloc_new w1 _
  have hg12 : w1.grownBy w2 none := by rw [hw2]; exact gr_alloc (gr_refl _ _) _
  have hsz2 : w2.heap.size = w1.heap.size + 1 := by rw [hw2]; simp
  have hr2 := hg12.block w.heap.size (by omega) (by simp)
  rw [hr1] at hr2
  rw [← hw2]
  rw [← hw2] at hs3
  have HW2 := Lib.hid hw2; clear hw2
  clear hr1
  go_loopw [13] (fun c wr => ∃ (i : Nat) (v : Value) (vs : List Value), i ≤ n ∧ c = .int .i64 i ∧ wr.heap[w1.heap.size]? = some (.cells #[v] 72 (0, 0)) ∧ wr.heap[w.heap.size]? = some (.cells #[.slice none 0 0] 72 (0, 0)) ∧ OwnRows wr (w1.heap.size + 1) v (tblTo l (k + 1) n i).1 vs ∧ StreamAt wr p lw l (tblTo l (k + 1) n i).2 ∧ w.grownBy wr (some p)) (fun c _ => n - (intOf c).toNat)
  case atStart =>
    refine ⟨0, .slice none 0 0, [], Nat.zero_le _, rfl, hb2, hr2, ⟨World.ownsRow_nil _ _ _ _, fun i hi => absurd hi (Nat.not_lt_zero _), fun i j _ hj => absurd hj (Nat.not_lt_zero _)⟩, hs3, gr_trans hgw1 (gr_weak hg12 _)⟩
  case round =>
    obtain ⟨i, v, vs, hi, rfl, hbt, hbr, hrows, hsr, hgr⟩ := hrel
    obtain ⟨wo, rfl⟩ : ∃ wo : World, wo = wr := ⟨_, rfl⟩
    by_cases hlti : i < n
    · obtain ⟨q, hq⟩ : ∃ q, q = (tblTo l (k + 1) n i).2 := ⟨_, rfl⟩
      have hqk := tblTo_k l (k + 1) n i
      have hni : n * i ≤ 4 * 4 := Nat.mul_le_mul hn4 (by omega)
      rw [← hq] at hsr hqk
      have HQ := Lib.hid hq; clear hq
      have hszo := hgr.size
      have hbo := lt_of_block hbt
      have HBT := Lib.hid hbt; clear hbt
      have HBR := Lib.hid hbr; clear hbr
      go_wp2_with (fail)
      go_loopw [6, 7, 17] (fun lf row c wr => ∃ m : Nat, m ≤ n ∧ c = .int .i64 m ∧ lf = .int .i64 (rowTo l q i m).2.1 ∧ wr.ownsRow wo.heap.size 3 1 row m (ints (rowTo l q i m).1) ∧ StreamAt wr p lw l (rowTo l q i m).2.2 ∧ wo.grownBy wr (some p)) (fun _ _ c _ => n - (intOf c).toNat)
      case atStart => exact ⟨0, Nat.zero_le _, rfl, rfl, World.ownsRow_nil _ _ _ _, hsr, gr_refl _ _⟩
      case round =>
        obtain ⟨m, hm, rfl, rfl, hown, hsr2, hgr2⟩ := hrel
        obtain ⟨wi, rfl⟩ : ∃ wi : World, wi = wr := ⟨_, rfl⟩
        have hszi := hgr2.size
        by_cases hltm : m < n
        · obtain ⟨lf, hlf⟩ : ∃ lf, lf = (rowTo l q i m).2.1 := ⟨_, rfl⟩
          obtain ⟨kk, hkk⟩ : ∃ kk, kk = (rowTo l q i m).2.2 := ⟨_, rfl⟩
          obtain ⟨R, hR⟩ : ∃ R, R = (rowTo l q i m).1 := ⟨_, rfl⟩
          have hlb := rowTo_left l q i m
          have hkb := rowTo_k l q i m
          rw [← hlf] at hlb
          rw [← hkk] at hkb hsr2
          rw [← hR] at hown
          rw [← hlf]
          obtain ⟨hl0, hl1⟩ := hlb
          have hnx : rowTo l q i (m + 1) = if m = i then (R ++ [0], lf, kk) else (R ++ [min (pickM l kk [0, 10, 33, 50]) lf], lf - min (pickM l kk [0, 10, 33, 50]) lf, kk + 1) := by rw [hlf, hkk, hR]; rfl
          have HLF := Lib.hid hlf; clear hlf
          have HKK := Lib.hid hkk; clear hkk
          have HRR := Lib.hid hR; clear hR
          by_cases hmi : m = i
          · rw [if_pos hmi] at hnx
            have HNX := Lib.hid hnx; clear hnx
            subst hmi
            go_wp2_with (at_builtin; refine wpList_app1 eInt rfl _ _ rfl wo.heap.size _ _ _ rfl _ _ rfl hown _ rfl (by simp) rfl rfl (by omega) (by omega) ?_; intro v6 w6 hown6 hg6 hlt6)
            go_wp2_with (fail)
            go_roundw
            case rel =>
              refine ⟨m + 1, by omega, by go_num, by rw [HNX.out], ?_, ?_, gr_grown hgr2 hg6 (fun r hr => by have := hlt6 r hr; omega)⟩
              · rw [HNX.out]
                simp only [ints, List.map_append]
                exact hown6
              · rw [HNX.out]
                exact hsr2.keep hg6 (fun r hr => by have := hlt6 r hr; omega)
            case measure => simp [intOf]; omega
          · rw [if_neg hmi] at hnx
            have HNX := Lib.hid hnx; clear hnx
            go_wp2_with (fail)
            refine (pick_any l kk [0, 10, 33, 50] p wi hsr2 (by omega) (by decide) (by decide)).mono ?_
            rintro e w4 ⟨rfl, hs4, hg4⟩
            have hpm := pickM_mem l kk [0, 10, 33, 50] (by decide)
            obtain ⟨x, hx⟩ : ∃ x, x = pickM l kk [0, 10, 33, 50] := ⟨_, rfl⟩
            rw [← hx] at hpm
            rw [← hx]
            have hx0 : 0 ≤ x := by simp only [List.mem_cons, List.not_mem_nil, or_false] at hpm; omega
            have hx1 : x ≤ 50 := by simp only [List.mem_cons, List.not_mem_nil, or_false] at hpm; omega
            have HX := Lib.hid hx; clear hx hpm
            have hown4 := own_keepS hown hg4 (by omega)
            have hgr4 := gr_trans hgr2 hg4
            have hsz4 := hg4.size
            go_wp2_with (at_builtin; refine wpList_app1 eInt rfl _ _ rfl wo.heap.size _ _ _ rfl _ _ rfl hown4 _ rfl (by simp) rfl rfl (by omega) (by omega) ?_; intro v6 w6 hown6 hg6 hlt6)
            go_wp2_with (fail)
            go_roundw
            case rel =>
              refine ⟨m + 1, by omega, by go_num, by rw [HNX.out, ← HX.out]; simp only [min_if], ?_, ?_, gr_grown hgr4 hg6 (fun r hr => by have := hlt6 r hr; omega)⟩
              · rw [HNX.out, ← HX.out]
                simp only [ints, List.map_append, min_if]
                exact hown6
              · rw [HNX.out]
                exact hs4.keep hg6 (fun r hr => by have := hlt6 r hr; omega)
            case measure => simp [intOf]; omega
        · have hmn : m = n := by omega
          subst hmn
          clear hltm
          obtain ⟨R, hR⟩ : ∃ R, R = (rowTo l q i m).1 := ⟨_, rfl⟩
          have hRl : R.length = m := by rw [hR, rowTo_len]
          have hnx : tblTo l (k + 1) m (i + 1) = ((tblTo l (k + 1) m i).1 ++ [R], (rowTo l q i m).2.2) := by rw [hR, HQ.out]; rfl
          have HNX := Lib.hid hnx; clear hnx
          rw [← hR] at hown
          have HRR := Lib.hid hR; clear hR
          have HRL := Lib.hid hRl; clear hRl
          obtain ⟨T, hT⟩ : ∃ T, T = (tblTo l (k + 1) m i).1 := ⟨_, rfl⟩
          have hTl : T.length = i := by rw [hT, tblTo_len]
          rw [← hT] at HNX hrows
          have HTT := Lib.hid hT; clear hT
          have HTL := Lib.hid hTl; clear hTl
          have hbt2 := hgr2.block w1.heap.size (by omega) (by simp; omega)
          rw [HBT.out] at hbt2
          have hbr2 := hgr2.block w.heap.size (by omega) (by simp; omega)
          rw [HBR.out] at hbr2
          have ct : wi.cell? ⟨w1.heap.size, 0, none⟩ = some v := by simp [World.cell?, hbt2]
          have ft : wi.frozen? ⟨w1.heap.size, 0, none⟩ = false := by simp [World.frozen?, hbt2]
          have houter := own_keepS hrows.outer hgr2 (by omega)
          rw [HTL.out] at houter
          obtain ⟨ga, ca, rfl, hga1, hga2, hga3, hga4⟩ := own_some hown (by omega)
          go_wp2_with (at_builtin; refine wpList_app1 eRows rfl _ _ rfl (w1.heap.size + 1) _ _ _ rfl _ _ rfl houter _ rfl (by simp) rfl rfl (by omega) (by omega) ?_; intro v6 w6 hown6 hg6 hlt6; obtain ⟨g6, c6, hv6, hq1, hq2, hq3, hq4⟩ := own_some hown6 (by omega); subst hv6; have hbt6 := hg6.block w1.heap.size (by omega) (fun e => absurd (hlt6 _ e.symm) (by omega)); have ct6 : w6.cell? ⟨w1.heap.size, 0, none⟩ = some v := (by (simp [World.cell?, hbt6, hbt2])); have ft6 : w6.frozen? ⟨w1.heap.size, 0, none⟩ = false := (by (simp [World.frozen?, hbt6, hbt2])); have HG6 := Lib.hid hg6; have HLT6 := Lib.hid hlt6; have HBT6 := Lib.hid (hbt6.trans hbt2); clear ct ft hg6 hlt6 hbt6 hbt2)
          have HB := set_block HBT6.out (.slice (some ⟨g6, 0, none⟩) (i + 1) c6)
          go_roundw
          case rel =>
            refine ⟨i + 1, _, vs ++ [.slice (some ⟨ga, 0, none⟩) m ca], by omega, by go_num, HB, ?_, ⟨?_, ?_, ?_⟩, ?_, ?_⟩
            · rw [(gr_set (gr_refl w6 (some w1.heap.size)) rfl _).block w.heap.size (by omega) (by simp; omega), HG6.out.block w.heap.size (by omega) (fun e => absurd (HLT6.out _ e.symm) (by omega))]
              exact hbr2
            · rw [HNX.out]
              have := own_keepS hown6 (gr_set (gr_refl w6 (some w1.heap.size)) (q := ⟨w1.heap.size, 0, none⟩) rfl (.slice (some ⟨g6, 0, none⟩) (i + 1) c6)) (by omega)
              simp only [List.length_append, HTL.out]
              exact this
            · have hvl : vs.length = i := by have := houter.1; simpa using this
              rw [HNX.out]
              intro i' hi'
              simp only [List.length_append, HTL.out, List.length_cons, List.length_nil] at hi'
              rw [List.getD_eq_getElem?_getD, List.getD_eq_getElem?_getD]
              by_cases e : i' < i
              · rw [List.getElem?_append_left (by rw [hvl]; exact e), List.getElem?_append_left (by rw [HTL.out]; exact e), ← List.getD_eq_getElem?_getD, ← List.getD_eq_getElem?_getD]
                have h0 := own_keepS (hrows.inner i' (by rw [HTL.out]; exact e)) hgr2 (by omega)
                have hne : ∀ g, v.ownBlock = some g → (vs.getD i' undef).ownBlock ≠ some g := fun g hg => own_types houter h0 (by decide) g hg
                have h1 := own_keep h0 HG6.out (by
                  cases hv : (vs.getD i' undef).ownBlock with
                  | none => exact .inl rfl
                  | some b => exact .inr (fun e2 => hne b e2.symm hv))
                exact own_keepS h1 (gr_set (gr_refl w6 (some w1.heap.size)) (q := ⟨w1.heap.size, 0, none⟩) rfl _) (by omega)
              · have ei : i' = i := by omega
                rw [List.getElem?_append_right (by rw [hvl]; omega), List.getElem?_append_right (by rw [HTL.out]; omega), hvl, HTL.out, ei, Nat.sub_self]
                simp only [List.getElem?_cons_zero, Option.getD_some, HRL.out]
                have hne : ∀ g, v.ownBlock = some g → (Value.slice (some ⟨ga, 0, none⟩) m ca).ownBlock ≠ some g := fun g hg => own_types houter hown (by decide) g hg
                have h1 := own_keep hown HG6.out (.inr (fun e2 => hne ga e2.symm rfl))
                exact own_keepS (own_base h1 (by omega)) (gr_set (gr_refl w6 (some w1.heap.size)) (q := ⟨w1.heap.size, 0, none⟩) rfl _) (by omega)
            · have hvl : vs.length = i := by have := houter.1; simpa using this
              rw [HNX.out]
              intro i' j' hij hj' g
              simp only [List.length_append, HTL.out, List.length_cons, List.length_nil] at hj'
              rw [List.getD_eq_getElem?_getD, List.getD_eq_getElem?_getD, List.getElem?_append_left (by rw [hvl]; omega), ← List.getD_eq_getElem?_getD]
              intro hg
              by_cases e : j' < i
              · rw [List.getElem?_append_left (by rw [hvl]; exact e), ← List.getD_eq_getElem?_getD]
                exact hrows.apart i' j' hij (by rw [HTL.out]; exact e) g hg
              · have ej : j' = i := by omega
                rw [List.getElem?_append_right (by rw [hvl]; omega), hvl, ej, Nat.sub_self]
                have := ((hrows.inner i' (by rw [HTL.out]; omega)).lt g hg).2
                simp only [List.getElem?_cons_zero, Option.getD_some]
                intro e2
                have : ga = g := by simpa [Value.ownBlock] using e2
                omega
            · rw [HNX.out]
              exact (hsr2.keep HG6.out (fun r hr => by have := HLT6.out r hr; omega)).keep (gr_set (gr_refl w6 (some w1.heap.size)) rfl _) (fun r hr => by cases hr; omega)
            · exact gr_new (gr_grown (gr_trans hgr hgr2) HG6.out (fun r hr => by have := HLT6.out r hr; omega)) (by show w.heap.size ≤ w1.heap.size; omega) _
          case measure => simp [intOf]; omega
    · have hin : i = n := by omega
      subst hin
      clear hlti
      have hqk := tblTo_k l (k + 1) i i
      have hni : i * i ≤ 4 * 4 := Nat.mul_le_mul hn4 hn4
      obtain ⟨q, hq⟩ : ∃ q, q = (tblTo l (k + 1) i i).2 := ⟨_, rfl⟩
      obtain ⟨T, hT⟩ : ∃ T, T = (tblTo l (k + 1) i i).1 := ⟨_, rfl⟩
      have hTl : T.length = i := by rw [hT, tblTo_len]
      have hTr : ∀ j, j < i → (T.getD j []).length = i := by rw [hT]; exact tblTo_rows l (k + 1) i i
      rw [← hq] at hsr hqk HTM
      rw [← hT] at hrows HTM
      clear hq hT
      have HTL := Lib.hid hTl; clear hTl
      have HTR := Lib.hid hTr; clear hTr
      have hszo := hgr.size
      have HBT := Lib.hid hbt; clear hbt
      have HBR := Lib.hid hbr; clear hbr
      go_wp2_with (fail)
      refine (flip_any l _ 12 p wo hsr (by omega) (by omega)).mono ?_
      rintro e w3 ⟨rfl, hs3, hg3⟩
      have hbt := hg3.block w1.heap.size (by have := lt_of_block HBT.out; omega) (by simp; omega)
      rw [HBT.out] at hbt
      have hbr := hg3.block w.heap.size (by have := lt_of_block HBR.out; omega) (by simp; omega)
      rw [HBR.out] at hbr
      have hrows3 := hrows.keepS hg3 (by omega)
      have hgr3 := gr_trans hgr hg3
      obtain ⟨va, vc, rfl, _, _, _, _⟩ := own_shape hrows3.outer
      have ct : w3.cell? ⟨w1.heap.size, 0, none⟩ = some (.slice va T.length vc) := by simp [World.cell?, hbt]
      have ft : w3.frozen? ⟨w1.heap.size, 0, none⟩ = false := by simp [World.frozen?, hbt]
      have cr : w3.cell? ⟨w.heap.size, 0, none⟩ = some (.slice none 0 0) := by simp [World.cell?, hbr]
      have fr : w3.frozen? ⟨w.heap.size, 0, none⟩ = false := by simp [World.frozen?, hbr]
      clear HBT HBR hsr hrows
      have HBT := Lib.hid hbt; clear hbt
      have HBR := Lib.hid hbr; clear hbr
      obtain ⟨f, hf⟩ : ∃ f, f = flipM l q 12 := ⟨_, rfl⟩
      rw [← hf]
      have HF := Lib.hid hf; clear hf
      cases f with
      | false =>
        have htm : tableM l k = (T, q + 1) := by rw [HTM.out]; unfold tableE; rw [← HF.out]; simp
        have HT2 := Lib.hid htm; clear htm HTM
        go_wp2_with (fail)
        refine bodyPost_ret (results_cell_row (p := 2) (by kernel_rfl) _ _ w.heap.size _ #[Value.slice va T.length vc] _ (.struct dt) rfl (set_block HBR.out _) hd1 rfl (by kernel_rfl)) rfl ?_
        obtain ⟨h1, h2, h3⟩ := tab_fin (w := w) (b := w.heap.size) hlt (Nat.le_refl _) hrows3 (by omega) hs3 hgr3 (by omega)
        rw [HT2.out]
        exact ⟨_, vs, rfl, h1, h2, h3⟩
      | true =>
        have htm : tableM l k = (if nxt l (q + 1) 3 = 0 then (T.set (nxt l (q + 2) i).toNat ((T.getD (nxt l (q + 2) i).toNat []).set (nxt l (q + 3) i).toNat (pickM l (q + 4) [-1, 5, 101, 100])), q + 5)
            else if nxt l (q + 1) 3 = 1 then (T ++ [[0]], q + 2) else ([], q + 2)) := by rw [HTM.out]; unfold tableE; rw [← HF.out]; simp
        have HT2 := Lib.hid htm; clear htm HTM
        go_wp2_with (fail)
        refine (next_any l (q + 1) 3 p w3 hs3 (by omega) (by omega)).mono ?_
        rintro e w4 ⟨rfl, hs4, hg4⟩
        have hbt := hg4.block w1.heap.size (by have := lt_of_block HBT.out; omega) (by simp; omega)
        rw [HBT.out] at hbt
        have hbr := hg4.block w.heap.size (by have := lt_of_block HBR.out; omega) (by simp; omega)
        rw [HBR.out] at hbr
        have hrows4 := hrows3.keepS hg4 (by omega)
        have hgr4 := gr_trans hgr3 hg4
        have hsz4 := hg4.size
        have hsz3 := hg3.size
        have hlt4 := lt_of_block hbt
        have ct4 : w4.cell? ⟨w1.heap.size, 0, none⟩ = some (.slice va T.length vc) := by simp [World.cell?, hbt]
        have ft4 : w4.frozen? ⟨w1.heap.size, 0, none⟩ = false := by simp [World.frozen?, hbt]
        have cr4 : w4.cell? ⟨w.heap.size, 0, none⟩ = some (.slice none 0 0) := by simp [World.cell?, hbr]
        have fr4 : w4.frozen? ⟨w.heap.size, 0, none⟩ = false := by simp [World.frozen?, hbr]
        clear HBT HBR ct ft cr fr hs3
        have HBT := Lib.hid hbt; clear hbt
        have HBR := Lib.hid hbr; clear hbr
        obtain ⟨c3, hc3⟩ : ∃ c3, c3 = nxt l (q + 1) 3 := ⟨_, rfl⟩
        have hc3r := nxt_range l (q + 1) 3 (by omega)
        rw [← hc3] at hc3r HT2
        rw [← hc3]
        clear hc3
        by_cases c30 : c3 = 0
        · subst c30
          have hTl := HTL.out
          have hrx := nxt_range l (q + 2) i (by omega)
          obtain ⟨x, hx⟩ : ∃ x : Nat, nxt l (q + 2) i = x := ⟨(nxt l (q + 2) i).toNat, by omega⟩
          rw [hx] at hrx
          have hxT : x < T.length := by omega
          have hRl : (T.getD x []).length = i := HTR.out x (by omega)
          have hry := nxt_range l (q + 3) i (by omega)
          obtain ⟨y, hy⟩ : ∃ y : Nat, nxt l (q + 3) i = y := ⟨(nxt l (q + 3) i).toNat, by omega⟩
          rw [hy] at hry
          have hyR : y < (T.getD x []).length := by omega
          obtain ⟨z, hz⟩ : ∃ z, z = pickM l (q + 4) [-1, 5, 101, 100] := ⟨_, rfl⟩
          have htm : tableM l k = (T.set x ((T.getD x []).set y z), q + 5) := by rw [HT2.out, if_pos rfl, hx, hy, hz]; rfl
          obtain ⟨g0, g, c, rfl, hg0a, hg0b, hvs, hga, hgb⟩ := hrows4.shape x hxT (by omega)
          have HXY := Lib.hid hyR
          obtain ⟨R, hR⟩ : ∃ R, R = T.getD x [] := ⟨_, rfl⟩
          obtain ⟨co4, ce4, fe4, _⟩ := hrows4.put x y hxT hyR hvs
          rw [← hR] at co4 ce4 hyR hRl
          have HR := Lib.hid hR
          have HTM := Lib.hid htm
          have HX := Lib.hid hx
          have HY := Lib.hid hy
          have HZ := Lib.hid hz
          have HVS := Lib.hid hvs
          have n0 : g0 ≠ p := by omega
          have n1 : g ≠ p := by omega
          have n2 : w1.heap.size ≠ p := by omega
          have n3 : w.heap.size ≠ p := by omega
          have n4 : w1.heap.size ≠ g := by omega
          have n5 : w.heap.size ≠ g := by omega
          have n8 : g0 ≠ g := fun e => own_types hrows4.outer (hrows4.inner x hxT) (by decide) g0 rfl (by rw [hvs, e]; rfl)
          have hyI : (y : Int) < (R.length : Int) := by omega
          have hy0 : (0 : Int) ≤ (y : Int) := by omega
          have hxI : (x : Int) < (T.length : Int) := by omega
          have hx0 : (0 : Int) ≤ (x : Int) := by omega
          have n6 : w.heap.size < w4.heap.size := by omega
          have hq1 : q < 990000000 := by omega
          have hgw : w.heap.size ≤ g := by omega
          have hwb : w.heap.size ≤ w1.heap.size + 1 := by omega
          have hwt : w.heap.size < w1.heap.size + 1 := by omega
          have hpt : p < w1.heap.size + 1 := by omega
          have ROWS := Lib.hid hrows4
          have HXT := Lib.hid hxT
          have HGR := Lib.hid hgr4
          have HD := Lib.hid hd1
          have HS4 := Lib.hid hs4
          have hgd := gr_drew (gr_refl w4 (some p))
          have hs4d := hs4.keep0 (gr_drew (gr_refl w4 none))
          have hgda := gr_drew (gr_alloc (gr_refl w4 (some p)) (.cells #[Value.int .i64 (-1), .int .i64 5, .int .i64 101, .int .i64 100] 3))
          have hs4a := hs4.keep0 (gr_drew (gr_alloc (gr_refl w4 none) (.cells #[Value.int .i64 (-1), .int .i64 5, .int .i64 101, .int .i64 100] 3)))
          have co4a := cellA co4 (.cells #[Value.int .i64 (-1), .int .i64 5, .int .i64 101, .int .i64 100] 3)
          have ct4a := cellA ct4 (.cells #[Value.int .i64 (-1), .int .i64 5, .int .i64 101, .int .i64 100] 3)
          clear htm hx hy hz hvs hR hrx hry HT2 hrows4 hgr4 hgr3 hg4 hg3 hsz4 hsz3 hszo hrows3 hs1 hra hga_ hwsz HWA hs2 hg2 hsz1 hgw1 hs3 hb2 hg12 hsz2 hr2 HW2 hgr hni hqk hi HTL HTR HF hTl hRl hc3r hd1 hs4 hs
          go_wp2_with (fail)
          go_region_held3 (fun w' => w'.cell? ⟨w1.heap.size, 0, none⟩ = some (.slice (some ⟨g0, 0, none⟩) T.length vc) ∧ w'.cell? ⟨g0, x, none⟩ = some (.slice (some ⟨g, 0, none⟩) R.length c)) (first | exact ⟨ct4, co4⟩ | exact ⟨ct4a, co4a⟩ | exact ⟨ct5, co5⟩ | exact ⟨ct5a, co5a⟩ | exact ⟨ct6, co6⟩ | exact ⟨ct6a, co6a⟩ | exact ⟨ct7, co7⟩ | exact ⟨ct8, co8⟩) (first | (go_at_call 25; refine (next_any (lw := lw) l (q + 2) _ p _ ?_ ?_ ?_).mono ?_; (· (first | exact hs4d | exact hs4a)); (· omega); (· omega); rintro e w5 ⟨rfl, hs5, hg5⟩; rw [HX.out]; have hgA5 : w4.grownBy w5 (some p) := (by (first | exact gr_trans hgd hg5 | exact gr_trans hgda hg5)); have hs5a := hs5.keep0 (gr_alloc (gr_refl w5 none) (.cells #[Value.int .i64 (-1), .int .i64 5, .int .i64 101, .int .i64 100] 3)); have ct5 := (gr_cellS hgA5 hlt4 n2).trans ct4; have co5 := (gr_cellS hgA5 hg0b n0).trans co4; have ct5a := cellA ct5 (.cells #[Value.int .i64 (-1), .int .i64 5, .int .i64 101, .int .i64 100] 3); have co5a := cellA co5 (.cells #[Value.int .i64 (-1), .int .i64 5, .int .i64 101, .int .i64 100] 3)) | (go_at_call 25; refine (next_any (lw := lw) l (q + 3) _ p _ ?_ ?_ ?_).mono ?_; (· (first | exact hs5 | exact hs5a)); (· omega); (· omega); rintro e w6 ⟨rfl, hs6, hg6⟩; rw [HY.out]; have hgB6 : w5.grownBy w6 (some p) := (by (first | exact hg6 | exact gr_trans (gr_alloc (gr_refl w5 (some p)) (.cells #[Value.int .i64 (-1), .int .i64 5, .int .i64 101, .int .i64 100] 3)) hg6)); have hgA6 := gr_trans hgA5 hgB6; have hs6a := hs6.keep0 (gr_alloc (gr_refl w6 none) (.cells #[Value.int .i64 (-1), .int .i64 5, .int .i64 101, .int .i64 100] 3)); have ct6 := (gr_cellS hgA6 hlt4 n2).trans ct4; have co6 := (gr_cellS hgA6 hg0b n0).trans co4; have ct6a := cellA ct6 (.cells #[Value.int .i64 (-1), .int .i64 5, .int .i64 101, .int .i64 100] 3); have co6a := cellA co6 (.cells #[Value.int .i64 (-1), .int .i64 5, .int .i64 101, .int .i64 100] 3)) | (go_at_call 44; refine (pick_at (lw := lw) l (q + 4) [-1, 5, 101, 100] p _ _ ?_ ?_ ?_ ?_ ?_ ?_).mono ?_; (· (first | exact hs6 | exact hs6a)); (· omega); (· decide); (· decide); (· (first | exact CellsAt.new w6 _ _ | exact (CellsAt.new w5 _ _).keep hg6 (fun b off e => by cases e; simp; have := hgA5.size; omega) | exact (((CellsAt.new w4 _ _).keep0 (gr_drew (gr_refl _ _))).keep hg5 (fun b off e => by cases e; simp; omega)).keep hg6 (fun b off e => by cases e; simp; omega))); (· have := hgA6.size; have := hgA5.size; omega); rintro e w7 ⟨rfl, hs7, hg7⟩; rw [← HZ.out]; have hgB7 : w6.grownBy w7 (some p) := (by (first | exact hg7 | exact gr_trans (gr_alloc (gr_refl w6 (some p)) (.cells #[Value.int .i64 (-1), .int .i64 5, .int .i64 101, .int .i64 100] 3)) hg7)); have hgA7 := gr_trans hgA6 hgB7; have ct7 := (gr_cellS hgA7 hlt4 n2).trans ct4; have co7 := (gr_cellS hgA7 hg0b n0).trans co4; have ce7 := (gr_cellS hgA7 hgb n1).trans ce4; have fe7 := (gr_freeS hgA7 hgb n1).trans fe4; have ct8 := (cell_set ct7 n4 (.int .i64 z) (j := y)); have cr8 := (cell_set ((gr_cellS hgA7 n6 n3).trans cr4) n5 (.int .i64 z) (j := y)); have fr7 := (gr_freeS hgA7 n6 n3).trans fr4; have co8 := (cell_set co7 n8 (.int .i64 z) (j := y))))
          all_goals (go_wp2_with (fail))
          all_goals (
            have hb : (w7.setCell ⟨g, y, none⟩ (.int .i64 z)).heap[w.heap.size]? = some (.cells #[.slice none 0 0] 72 (0, 0)) := by
              rw [(gr_set (gr_refl w7 (some g)) (q := ⟨g, y, none⟩) rfl (.int .i64 z)).block w.heap.size (by have := hgA7.size; omega) (by simpa using n5), hgA7.block w.heap.size n6 (by simpa using n3)]
              exact HBR.out
            refine bodyPost_ret (results_cell_row (p := 2) (by kernel_rfl) _ _ w.heap.size _ #[Value.slice (some ⟨g0, 0, none⟩) T.length vc] _ (.struct dt) rfl (set_block hb _) HD.out rfl (by kernel_rfl)) rfl ?_
            obtain ⟨h1, h2, h3⟩ := tab_fin (w := w) (b := w.heap.size) hlt (Nat.le_refl _) (((ROWS.out.keepS hgA7 hpt).put x y HXT.out HXY.out HVS.out).2.2.2 z) hwt (hs7.keep (gr_set (gr_refl w7 (some g)) (q := ⟨g, y, none⟩) rfl (.int .i64 z)) (fun q e => by cases e; omega)) (gr_new (gr_trans HGR.out hgA7) hgw _) hwb
            rw [HTM.out]
            first | exact ⟨_, _, rfl, h1, h2, h3⟩ | exact ⟨_, rfl, ⟨_, h1⟩, h2, h3⟩)
        · by_cases c31 : c3 = 1
          · subst c31
            have htm : tableM l k = (T ++ [[0]], q + 2) := by rw [HT2.out, if_neg c30, if_pos rfl]
            have HT3 := Lib.hid htm; clear htm
            have e30 : ((1 : Int) == 0) = false := rfl
            obtain ⟨vo, hvo⟩ : ∃ vo, vo = Value.slice va T.length vc := ⟨_, rfl⟩
            rw [← hvo] at ct4 hrows4
            clear hrows3
            have HVO := Lib.hid hvo; clear hvo
            have hout := own_keep0 hrows4.outer (gr_alloc (gr_refl _ _) (.cells #[Value.int .i64 0] 3))
            have hrowN := World.ownsRow_lit (base := w1.heap.size + 1) (e := 3) (size := 1) w4 #[Value.int .i64 0] 1 (by omega) (by decide) rfl
            have hrowsN := hrows4.keep0 (gr_alloc (gr_refl _ _) (.cells #[Value.int .i64 0] 3))
            have hgN := gr_alloc (gr_refl w4 none) (.cells #[Value.int .i64 0] 3)
            obtain ⟨wN, hwN⟩ : ∃ wN, wN = w4.alloc (.cells #[Value.int .i64 0] 3) := ⟨_, rfl⟩
            have hszN : wN.heap.size = w4.heap.size + 1 := by rw [hwN]; simp
            rw [← hwN] at hout hrowN hrowsN hgN
            have hbtN := hgN.block w1.heap.size (by omega) (by simp)
            rw [HBT.out] at hbtN
            have hbrN := hgN.block w.heap.size (by omega) (by simp)
            rw [HBR.out] at hbrN
            go_wp2_with (at_builtin; rw [← hwN]; refine wpList_app1 eRows rfl _ _ rfl (w1.heap.size + 1) _ _ _ rfl _ _ rfl hout _ rfl ?_ rfl rfl ?_ ?_ ?_; (· omega); (· have := HTL.out; omega); (· omega); intro v6 w6 hown6 hg6 hlt6; obtain ⟨g6, c6, hv6, hq1, hq2, hq3, hq4⟩ := own_some hown6 (by omega); subst hv6; have hbt6 := hg6.block w1.heap.size (by omega) (fun e => absurd (hlt6 _ e.symm) (by omega)); rw [hbtN] at hbt6; have hbr6 := hg6.block w.heap.size (by omega) (fun e => absurd (hlt6 _ e.symm) (by omega)); rw [hbrN] at hbr6; have ct6 : w6.cell? ⟨w1.heap.size, 0, none⟩ = some vo := (by (simp [World.cell?, hbt6, HVO.out])); have ft6 : w6.frozen? ⟨w1.heap.size, 0, none⟩ = false := (by (simp [World.frozen?, hbt6])); have HG6 := Lib.hid hg6; have HLT6 := Lib.hid hlt6; have hbr7 := (gr_set (gr_refl w6 (some w1.heap.size)) (q := ⟨w1.heap.size, 0, none⟩) rfl (.slice (some ⟨g6, 0, none⟩) (T.length + 1) c6)).block w.heap.size (by omega) (by simp; omega); rw [hbr6] at hbr7; have cr6 : (w6.setCell ⟨w1.heap.size, 0, none⟩ (.slice (some ⟨g6, 0, none⟩) (T.length + 1) c6)).cell? ⟨w.heap.size, 0, none⟩ = some (.slice none 0 0) := (by (simp [World.cell?, hbr7])); have fr6 : w6.frozen? ⟨w.heap.size, 0, none⟩ = false := (by (simp [World.frozen?, hbr6])); have HBR7 := Lib.hid hbr7; clear ct4 ft4 cr4 fr4 hg6 hlt6 hbt6 hbr6 hbr7 hbtN hbrN)
            refine bodyPost_ret (results_cell_row (p := 2) (by kernel_rfl) _ _ w.heap.size _ #[Value.slice (some ⟨g6, 0, none⟩) (T.length + 1) c6] _ (.struct dt) rfl (set_block HBR7.out _) hd1 rfl (by kernel_rfl)) rfl ?_
            have hpush := OwnRows.push hrowsN hrowN (R := [0]) rfl (by omega) (fun j hj hg => by have := ((hrows4.inner j hj).lt _ hg).2; omega) hown6 HG6.out
            have hsN := (hs4.keep0 hgN).keep HG6.out (fun r hr => by have := HLT6.out r hr; omega)
            obtain ⟨h1, h2, h3⟩ := tab_fin (w := w) (b := w.heap.size) hlt (Nat.le_refl _) (hpush.keepS (gr_set (gr_refl w6 (some w1.heap.size)) (q := ⟨w1.heap.size, 0, none⟩) rfl (.slice (some ⟨g6, 0, none⟩) (T.length + 1) c6)) (by omega)) (by omega) (hsN.keep (gr_set (gr_refl w6 (some w1.heap.size)) rfl _) (fun q e => by cases e; omega)) (gr_new (gr_grown (gr_trans hgr4 (gr_weak hgN _)) HG6.out (fun r hr => by have := HLT6.out r hr; omega)) (by show w.heap.size ≤ w1.heap.size; omega) _) (by omega)
            rw [HT3.out]
            exact ⟨_, rfl, ⟨_, h1⟩, h2, h3⟩
          · have e30 : (c3 == 0) = false := beq_eq_false_iff_ne.2 c30
            have e31 : (c3 == 1) = false := beq_eq_false_iff_ne.2 c31
            have htm : tableM l k = ([], q + 2) := by rw [HT2.out, if_neg c30, if_neg c31]
            have HT3 := Lib.hid htm; clear htm
            have hgS := gr_set (gr_refl w4 (some w1.heap.size)) (q := ⟨w1.heap.size, 0, none⟩) rfl (.slice none 0 0)
            have hbr5 := hgS.block w.heap.size (by omega) (by simp; omega)
            rw [HBR.out] at hbr5
            have cr5 : (w4.setCell ⟨w1.heap.size, 0, none⟩ (.slice none 0 0)).cell? ⟨w.heap.size, 0, none⟩ = some (.slice none 0 0) := by simp [World.cell?, hbr5]
            have HBR5 := Lib.hid hbr5
            clear hbr5 hgS
            go_wp2_with (fail)
            refine bodyPost_ret (results_cell_row (p := 2) (by kernel_rfl) _ _ w.heap.size _ #[Value.slice none 0 0] _ (.struct dt) rfl (set_block HBR5.out _) hd1 rfl (by kernel_rfl)) rfl ?_
            obtain ⟨h1, h2, h3⟩ := tab_fin (w := w) (b := w.heap.size) hlt (Nat.le_refl _) (OwnRows.nil (w4.setCell ⟨w1.heap.size, 0, none⟩ (.slice none 0 0)) (w1.heap.size + 1)) (by omega) (hs4.keep (gr_set (gr_refl w4 (some w1.heap.size)) rfl _) (fun q e => by cases e; omega)) (gr_new hgr4 (by show w.heap.size ≤ w1.heap.size; omega) _) (by omega)
            rw [HT3.out]
            exact ⟨_, [], rfl, h1, h2, h3⟩
end Go.Proofs.Ytlpkancpjdihgaa
