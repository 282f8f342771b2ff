/- What the law of picks asks: lots are apart; whether pieces hold a piece; counts of pieces. -/
import Derived.Test.YtdjnomeabadbnaaDoorKits
namespace Go.Proofs.YtdjnomeabadbnaaDoor
open Go.RowKit
attribute [local go_sem ↓] Go.wp_at_zero Go.wp_at_succ

theorem lots_apart {xs : List Lot} (h : LotsOk xs) : Apart xs := by
  have key : ∀ i j, (hi : i < xs.length) → (hj : j < xs.length) → i < j → xs[i].id ≠ xs[j].id := fun i j hi hj hij e => by
    have := h.lt j hj xs[i] (by rw [List.mem_iff_getElem]; exact ⟨i, by simp; omega, by simp⟩)
    rw [e, cmpB_zero.2 rfl] at this
    omega
  intro i j hi hj e
  rw [lotN_get hi, lotN_get hj] at e
  rcases Nat.lt_trichotomy i j with h1 | h1 | h1
  · exact absurd e (key i j hi hj h1)
  · exact h1
  · exact absurd e.symm (key j i hj hi h1)
theorem lotGet_of {xs : List Lot} (h : Apart xs) (i : Nat) (hi : i < xs.length) : lotGet xs (lotN xs i).id = lotN xs i := by
  unfold lotGet
  rw [lotN_get hi, find_at hi (by simp [idIs]) (fun j hj hji => by
    cases hb : idIs xs[i].id xs[j] with
    | false => rfl
    | true =>
      have e : xs[j].id = xs[i].id := bytes_of (by simpa [idIs] using hb)
      have := h j i hj hi (by rw [lotN_get hj, lotN_get hi]; exact e)
      omega)]
  rfl
theorem cntP_nonneg (ps : List Piece) (k : ByteArray) (h : ∀ p ∈ ps, 0 ≤ p.many) : 0 ≤ cntP ps k := by
  induction ps with
  | nil => simp [cntP]
  | cons p ps ih =>
    have e : cntP (p :: ps) k = (if (p.lot.toList == k.toList) = true then p.many else 0) + cntP ps k := by simp [cntP]
    have h1 := ih (fun q hq => h q (by simp [hq]))
    have h2 := h p (by simp)
    rw [e]; split <;> omega
theorem cntP_take (ps : List Piece) (t : Nat) (ht : t < ps.length) (k : ByteArray) : cntP (ps.take (t + 1)) k = cntP (ps.take t) k + if (ps[t].lot.toList == k.toList) = true then ps[t].many else 0 := by
  have e : ps.take (t + 1) = ps.take t ++ [ps[t]] := by simp
  rw [e, cntP_app]
  simp [cntP]
theorem cntP_pre (ps : List Piece) (t : Nat) (k : ByteArray) (h : ∀ p ∈ ps, 0 ≤ p.many) : cntP (ps.take t) k ≤ cntP ps k := by
  have e : cntP ps k = cntP (ps.take t) k + cntP (ps.drop t) k := by rw [← cntP_app, List.take_append_drop]
  have := cntP_nonneg (ps.drop t) k (fun p hp => h p (List.mem_of_mem_drop hp))
  omega
theorem allPs_take (ks : List KitV) (j : Nat) (hj : j < ks.length) : allPs (ks.take (j + 1)) = allPs (ks.take j) ++ ks[j].ps := by
  have e : ks.take (j + 1) = ks.take j ++ [ks[j]] := by simp
  rw [e, allPs_app]
theorem pcSum_take (ps : List Piece) (t : Nat) (ht : t < ps.length) : pcSum (ps.take (t + 1)) = pcSum (ps.take t) + pcMany ps t := by
  have e : ps.take (t + 1) = ps.take t ++ [ps[t]] := by simp
  rw [e, pcSum_app]
  unfold pcMany
  rw [getD_eq ps t _ ht]
  simp [pcSum]
set_option maxRecDepth 100000 in
set_option maxHeartbeats 1000000 in
theorem indexPc_any (ps : List Piece) (x : Piece) (a : Option Addr) (c : Nat) (w : World) (h : CellsAt w a (flat encPc ps)) (hl : ps.length ≤ 100000) (hx : x ∈ ps) :
    Calls Tryd.prog 124 #[.slice a ps.length c, .agg #[.string x.lot, .int .i64 x.many]] w fun e w' => ∃ i : Nat, e = .returned (.int .i64 i) ∧ w.grownBy w' none := by
  obtain ⟨X, M⟩ := x
  simp only
  obtain ⟨n, hn, hxn⟩ := List.getElem_of_mem hx
  have hB := heap_alloc_new w (.cells #[.string X, .int .i64 M] 94)
  have hg0 := gr_alloc (gr_refl w none) (.cells #[.string X, .int .i64 M] 94)
  obtain ⟨w0, hw0⟩ : ∃ w0, w0 = w.alloc (.cells #[.string X, .int .i64 M] 94) := ⟨_, rfl⟩
  rw [← hw0] at hB hg0
  have H := Lib.hid (h.keep0 hg0)
  have HB := Lib.hid hB
  have HG := Lib.hid hg0
  have HW := Lib.hid hw0
  have HXN := Lib.hid hxn
  clear h hB hg0 hw0 hxn hx
  go_enter Tryd.func124, Tryd.ntmps124
  go_wp2_with (fail)
  rw [← HW.out]
  go_loopw [8] (fun i wr => ∃ k : Nat, k ≤ n ∧ i = .int .i64 k ∧ w0.grownBy wr none) (fun i _ => n - (intOf i).toNat)
  case atStart => exact ⟨0, Nat.zero_le _, rfl, gr_refl _ _⟩
  case round =>
    obtain ⟨k, hk, rfl, hgr⟩ := hrel
    obtain ⟨wo, rfl⟩ : ∃ wo : World, wo = wr := ⟨_, rfl⟩
    have hkl : k < ps.length := by omega
    obtain ⟨b, off, rfl, d0, d1⟩ := pc_cells (H.out.keep0 hgr) k hkl
    have hBo := (hgr.block _ (lt_of_block HB.out) (by simp)).trans HB.out
    have v0 := blkC hBo 0 rfl
    have v1 : wo.cell? ⟨w.heap.size, 1, none⟩ = some (.int .i64 M) := blkC hBo 1 rfl
    have HEQ : Hid (k = n → pcLot ps k = X ∧ pcMany ps k = M) := fun e => by
      subst e
      have hp := pc_get ps k hkl
      rw [HXN.out] at hp
      injection hp with h1 h2
      exact ⟨h1.symm, h2.symm⟩
    obtain ⟨K, hK⟩ : ∃ K, K = pcLot ps k := ⟨_, rfl⟩
    obtain ⟨m, hm⟩ : ∃ m, m = pcMany ps k := ⟨_, rfl⟩
    rw [← hK, ← hm] at HEQ
    rw [← hK] at d0
    rw [← hm] at d1
    have HGR := Lib.hid hgr
    have hk0 : (0 : Int) ≤ (k : Int) := by omega
    have hk1 : (k : Int) < (ps.length : Int) := by omega
    have hgd := gr_drew (gr_refl wo none)
    clear hK hm hgr hBo
    cases hq : (X.toList == K.toList) with
    | false =>
      have hkn : k < n := by
        rcases Nat.lt_or_ge k n with h | h
        · exact h
        · obtain ⟨e1, -⟩ := HEQ.out (by omega)
          rw [e1] at hq
          simp at hq
      clear HEQ
      go_wp2_with (fail)
      go_region
      all_goals (go_wp2_with (fail))
      all_goals go_roundw
      all_goals first | (simp [intOf]; omega; done) | skip
      all_goals exact ⟨k + 1, by omega, by go_num, gr_trans HGR.out hgd⟩
    | true =>
      by_cases hmm : M = m
      · subst hmm
        clear HEQ
        go_wp2_with (fail)
        go_region
        all_goals (go_wp2_with (fail))
        all_goals go_ret
        all_goals exact ⟨k, rfl, gr_trans HG.out (gr_trans HGR.out hgd)⟩
      · have hmb : (M == m) = false := by simpa using hmm
        have hkn : k < n := by
          rcases Nat.lt_or_ge k n with h | h
          · exact h
          · obtain ⟨-, e1⟩ := HEQ.out (by omega)
            exact absurd e1.symm hmm
        clear HEQ
        go_wp2_with (fail)
        go_region
        all_goals (go_wp2_with (fail))
        all_goals go_roundw
        all_goals first | (simp [intOf]; omega; done) | skip
        all_goals exact ⟨k + 1, by omega, by go_num, gr_trans HGR.out hgd⟩
set_option maxRecDepth 100000 in
theorem containsPc_any (ps : List Piece) (x : Piece) (a : Option Addr) (c : Nat) (w : World) (h : CellsAt w a (flat encPc ps)) (hl : ps.length ≤ 100000) (hx : x ∈ ps) :
    Calls Tryd.prog 64 #[.slice a ps.length c, .agg #[.string x.lot, .int .i64 x.many]] w fun e w' => e = .returned (.bool true) ∧ w.grownBy w' none := by
  have hg0 := gr_alloc (gr_refl w none) (.cells #[.string x.lot, .int .i64 x.many] 94)
  have IX := Lib.hid (fun (W : World) (g : w.grownBy W none) => indexPc_any ps x a c W (h.keep0 g) hl hx)
  obtain ⟨X, M⟩ := x
  simp only at IX hg0 ⊢
  clear h hx
  go_enter Tryd.func64, Tryd.ntmps64
  go_wp2_with (fail)
  refine (IX.out _ hg0).mono ?_
  rintro e w1 ⟨i, rfl, g1⟩
  have hi : (0 : Int) ≤ (i : Int) := by omega
  have hd : decide ((0 : Int) ≤ (i : Int)) = true := decide_eq_true hi
  go_wp2_with (fail)
  go_ret
  exact ⟨rfl, gr_trans hg0 g1⟩
set_option maxRecDepth 100000 in
set_option maxHeartbeats 1000000 in
theorem indexPc_some (ps : List Piece) (X : ByteArray) (M : Int) (a : Option Addr) (c : Nat) (w : World) (h : CellsAt w a (flat encPc ps)) (hl : ps.length ≤ 100000) :
    Calls Tryd.prog 124 #[.slice a ps.length c, .agg #[.string X, .int .i64 M]] w fun e w' => ∃ i : Int, e = .returned (.int .i64 i) ∧ w.grownBy w' none := by
  have hB := heap_alloc_new w (.cells #[.string X, .int .i64 M] 94)
  have hg0 := gr_alloc (gr_refl w none) (.cells #[.string X, .int .i64 M] 94)
  obtain ⟨w0, hw0⟩ : ∃ w0, w0 = w.alloc (.cells #[.string X, .int .i64 M] 94) := ⟨_, rfl⟩
  rw [← hw0] at hB hg0
  have H := Lib.hid (h.keep0 hg0)
  have HB := Lib.hid hB
  have HG := Lib.hid hg0
  have HW := Lib.hid hw0
  clear h hB hg0 hw0
  go_enter Tryd.func124, Tryd.ntmps124
  go_wp2_with (fail)
  rw [← HW.out]
  go_loopw [8] (fun i wr => ∃ k : Nat, k ≤ ps.length ∧ i = .int .i64 k ∧ w0.grownBy wr none) (fun i _ => ps.length - (intOf i).toNat)
  case atStart => exact ⟨0, Nat.zero_le _, rfl, gr_refl _ _⟩
  case round =>
    obtain ⟨k, hk, rfl, hgr⟩ := hrel
    obtain ⟨wo, rfl⟩ : ∃ wo : World, wo = wr := ⟨_, rfl⟩
    by_cases hkl : k < ps.length
    · obtain ⟨b, off, rfl, d0, d1⟩ := pc_cells (H.out.keep0 hgr) k hkl
      have hBo := (hgr.block _ (lt_of_block HB.out) (by simp)).trans HB.out
      have v0 := blkC hBo 0 rfl
      have v1 : wo.cell? ⟨w.heap.size, 1, none⟩ = some (.int .i64 M) := blkC hBo 1 rfl
      obtain ⟨K, hK⟩ : ∃ K, K = pcLot ps k := ⟨_, rfl⟩
      obtain ⟨m, hm⟩ : ∃ m, m = pcMany ps k := ⟨_, rfl⟩
      rw [← hK] at d0
      rw [← hm] at d1
      have HGR := Lib.hid hgr
      have hk0 : (0 : Int) ≤ (k : Int) := by omega
      have hk1 : (k : Int) < (ps.length : Int) := by omega
      have hgd := gr_drew (gr_refl wo none)
      clear hK hm hgr hBo
      cases hq : (X.toList == K.toList) with
      | false =>
        go_wp2_with (fail)
        go_region
        all_goals (go_wp2_with (fail))
        all_goals go_roundw
        all_goals first | (simp [intOf]; omega; done) | skip
        all_goals exact ⟨k + 1, by omega, by go_num, gr_trans HGR.out hgd⟩
      | true =>
        cases hmb : (M == m) with
        | true =>
          go_wp2_with (fail)
          go_region
          all_goals (go_wp2_with (fail))
          all_goals first | (go_ret; exact ⟨_, rfl, gr_trans HG.out (gr_trans HGR.out hgd)⟩) | skip
        | false =>
          go_wp2_with (fail)
          go_region
          all_goals (go_wp2_with (fail))
          all_goals go_roundw
          all_goals first | (simp [intOf]; omega; done) | skip
          all_goals exact ⟨k + 1, by omega, by go_num, gr_trans HGR.out hgd⟩
    · obtain rfl : k = ps.length := by omega
      go_wp2_with (fail)
      go_ret
      exact ⟨_, rfl, gr_trans HG.out hgr⟩
set_option maxRecDepth 100000 in
theorem containsPc_some (ps : List Piece) (X : ByteArray) (M : Int) (a : Option Addr) (c : Nat) (w : World) (h : CellsAt w a (flat encPc ps)) (hl : ps.length ≤ 100000) :
    Calls Tryd.prog 64 #[.slice a ps.length c, .agg #[.string X, .int .i64 M]] w fun e w' => ∃ b, e = .returned (.bool b) ∧ w.grownBy w' none := by
  have hg0 := gr_alloc (gr_refl w none) (.cells #[.string X, .int .i64 M] 94)
  have IX := Lib.hid (fun (W : World) (g : w.grownBy W none) => indexPc_some ps X M a c W (h.keep0 g) hl)
  clear h
  go_enter Tryd.func64, Tryd.ntmps64
  go_wp2_with (fail)
  refine (IX.out _ hg0).mono ?_
  rintro e w1 ⟨i, rfl, g1⟩
  go_wp2_with (fail)
  go_ret
  exact ⟨_, rfl, gr_trans hg0 g1⟩
/-- Whether pieces hold a piece: that they do is told. -/
theorem containsPc (ps : List Piece) (X : ByteArray) (M : Int) (a : Option Addr) (c : Nat) (w : World) (h : CellsAt w a (flat encPc ps)) (hl : ps.length ≤ 100000) :
    Calls Tryd.prog 64 #[.slice a ps.length c, .agg #[.string X, .int .i64 M]] w fun e w' => ∃ b, e = .returned (.bool b) ∧ ((⟨X, M⟩ : Piece) ∈ ps → b = true) ∧ w.grownBy w' none := by
  by_cases hx : (⟨X, M⟩ : Piece) ∈ ps
  · exact (containsPc_any ps ⟨X, M⟩ a c w h hl hx).mono fun e w' ⟨h1, h2⟩ => ⟨true, h1, fun _ => rfl, h2⟩
  · exact (containsPc_some ps X M a c w h hl).mono fun e w' ⟨b, h1, h2⟩ => ⟨b, h1, fun h => absurd h hx, h2⟩
end Go.Proofs.YtdjnomeabadbnaaDoor
