/- Units are taken from the front of a coil. -/
import Derived.Test.YtdminjijhpemkaaGreatDoorPkSAo
import Derived.Test.YtdminjijhpemkaaGreatDoorPkSAl
import Derived.Test.YtdminjijhpemkaaGreatDoorPkSAp
import Derived.Test.YtdminjijhpemkaaGreatDoorPkSAb
import Derived.Deep.CutBlock
import Derived.Deep.CutRange
import Derived.Test.YtdminjijhpemkaaGreatDoorPkSAa
namespace Go.Proofs.YtdminjijhpemkaaGreatDoor
open Go.RowKit
attribute [local go_sem ↓] Go.wp_at_zero Go.wp_at_succ

theorem results_cell_slot2 {P : Program} {fn : Func} {p q r : Tmp} {ty : TypeId} (h : fn.results = #[.cell p ty, .tmp q, .tmp r]) (tmps : Array Value) (w : World) (g : Nat) (t : TypeId) (cs : Array Value) (fr : Nat × Nat) (d : TypeDesc) (v u : Value)
    (hp : tmps.getD p undef = .pointer (some ⟨g, 0, none⟩)) (hq : tmps.getD q undef = v) (hr : tmps.getD r undef = u) (hg : w.heap[g]? = some (.cells cs t fr))
    (hu : P.underlying ty = some d) (hd : (match d with | .struct _ | .array _ _ => true | _ => false) = true) (hi : (P.info? ty).map (·.size) = some cs.size) :
    (results fn tmps).run P w = .ok (.tuple #[.agg cs, v, u]) w := by
  have hp' : tmps[p]?.getD undef = .pointer (some ⟨g, 0, none⟩) := by simpa using hp
  have hq' : tmps[q]?.getD undef = v := by simpa using hq
  have hr' : tmps[r]?.getD undef = u := by simpa using hr
  simp [results, h, hp', hq', hr', asAddr, run_loadVar_row w g t ty cs fr d hg hu hd hi]
set_option maxRecDepth 100000 in
theorem clipPc_any (w : World) (lo hi n : Nat) (v : Value) (xs : List Value) (h : RowAt w lo hi v n xs) :
    Calls Tryz.prog 58 #[v] w fun e w' => ∃ u, e = .returned u ∧ RowAt w' lo hi u n xs ∧ w = w' := by
  rcases h with ⟨rfl, rfl, rfl⟩ | ⟨b, off, cap, rfl, h1, h2, h3, h4, h5, h6, h7⟩
  · go_enter Tryz.func58, Tryz.ntmps58
    go_wp2_with (fail)
    go_ret
    exact ⟨_, rfl, .inl ⟨rfl, rfl, rfl⟩, rfl⟩
  · have H6 := Lib.hid h6
    have H7 := Lib.hid h7
    unfold maxLen at h2
    clear h6 h7
    go_enter Tryz.func58, Tryz.ntmps58
    go_wp2_with (fail)
    go_ret
    exact ⟨_, rfl, .inr ⟨b, off, n, rfl, Nat.le_refl _, by unfold maxLen; omega, h3, h4, h5, H6.out, H7.out⟩, rfl⟩
theorem checkCoil_ok (co : Coil) (a : Option Addr) (c : Nat) (w : World) (h : CellsAt w a (flat encPc co.ps)) (hsm : CoilSm co) (hok : CoilOk co) :
    Calls Tryz.prog 55 #[.agg #[.string co.prod, .int .i64 co.most, .slice a co.ps.length c]] w fun e w' => e = .returned (.int .i64 0) ∧ w.grownBy w' none :=
  (checkCoil_any co a c w h hsm).mono fun e w' ⟨r, he, hr, hg⟩ => by rw [hr.2 hok] at he; exact ⟨he, hg⟩
/-- What a round of the sale finds. -/
structure SellInv (ps : List Piece) (n : Int) (wb : World) (B2 : Nat) (M : Int) (L O : List Piece) (v o : Value) (wr : World) : Prop where
  m0 : 0 ≤ M
  m1 : (O.length : Int) + M ≤ 1000
  ms : M ≤ pcSum L
  lo : ∀ x ∈ L, 1 ≤ x.many ∧ x.many ≤ 1000
  eq : sellL ps n = (O ++ (sellL L M).1, (sellL L M).2)
  row : RowAt wr wb.heap.size B2 v L.length (flat encPc L)
  own : wr.ownsRow B2 53 2 o O.length (flat encPc O)
  gr : wb.grownBy wr none
  sz : B2 ≤ wr.heap.size
/-- The step of a round: what is left and what came out. -/
theorem sell_step {ps O L : List Piece} {n M : Int} {x : Piece} (hM : 0 < M) (eq : sellL ps n = (O ++ (sellL (x :: L) M).1, (sellL (x :: L) M).2)) :
    (M < x.many → sellL ps n = ((O ++ [⟨x.lot, M⟩]) ++ (sellL (⟨x.lot, x.many - M⟩ :: L) 0).1, (sellL (⟨x.lot, x.many - M⟩ :: L) 0).2)) ∧
    (¬ M < x.many → sellL ps n = ((O ++ [⟨x.lot, x.many⟩]) ++ (sellL L (M - x.many)).1, (sellL L (M - x.many)).2)) := by
  simp only [sellL] at eq
  rw [if_neg (by omega)] at eq
  refine ⟨fun h => ?_, fun h => ?_⟩
  · rw [if_pos h] at eq
    rw [eq, sellL_zero _ _ (Int.le_refl _)]
    simp
  · rw [if_neg h] at eq
    rw [eq]
    simp
theorem sell_lt {ps O L : List Piece} {n M : Int} {wb wo w6 : World} {B2 b off cap : Nat} {xl : ByteArray} {xm : Int} {o v6 : Value} {r : Option Nat} (h : SellInv ps n wb B2 M (⟨xl, xm⟩ :: L) O (.slice (some ⟨b, off, none⟩) (L.length + 1) cap) o wo) (hb : wb.heap.size ≤ b) (hb2 : b < B2) (hM : 0 < M) (hlt : M < xm)
    (ho6 : w6.ownsRow B2 53 2 v6 (O.length + 1) (flat encPc O ++ [.string xl, .int .i64 M])) (g6 : wo.grownBy w6 r) (hr : ∀ q, r = some q → B2 ≤ q) :
    SellInv ps n wb B2 0 (⟨xl, xm - M⟩ :: L) (O ++ [⟨xl, M⟩]) (.slice (some ⟨b, off, none⟩) (L.length + 1) cap) v6 (w6.setCell ⟨b, off + 1, none⟩ (.int .i64 (xm - M))) := by
  have h1 := h.m1
  have h2 := h.ms
  have h3 := h.lo ⟨xl, xm⟩ (by simp)
  simp only at h3
  have g : w6.grownBy (w6.setCell ⟨b, off + 1, none⟩ (.int .i64 (xm - M))) (some b) := gr_set (gr_refl _ _) rfl _
  have hz := h.sz
  have hz6 := g6.size
  rw [pcSum_cons] at h2
  simp only at h2
  refine ⟨Int.le_refl _, by simp; omega, by rw [pcSum_cons]; simp only; omega, ?_, ?_, ?_, ?_, ?_, ?_⟩
  · intro y hy
    rcases List.mem_cons.1 hy with rfl | hy
    · simp only; omega
    · exact h.lo y (by simp [hy])
  · exact (sell_step hM h.eq).1 hlt
  · exact (h.row.keep g6 (fun q hq => .inr (hr q hq))).set 1 (by simp [flat, encPc]) _
  · rw [List.length_append, flat_append]
    exact own_keepS ho6 g hb2
  · exact gr_grown (gr_grown h.gr g6 (fun q hq => by have := hr q hq; omega)) g (fun q hq => by cases hq; omega)
  · have := g.size; omega
theorem sell_ge {ps O L : List Piece} {n M : Int} {wb wo w6 : World} {B2 b off cap : Nat} {xl : ByteArray} {xm : Int} {o v6 v : Value} {r : Option Nat} (h : SellInv ps n wb B2 M (⟨xl, xm⟩ :: L) O (.slice (some ⟨b, off, none⟩) (L.length + 1) cap) o wo) (hb : wb.heap.size ≤ b) (hb2 : b < B2) (hM : 0 < M) (hge : ¬ M < xm)
    (ho6 : w6.ownsRow B2 53 2 v6 (O.length + 1) (flat encPc O ++ [.string xl, .int .i64 xm])) (g6 : wo.grownBy w6 r) (hr : ∀ q, r = some q → B2 ≤ q)
    (hv : v = if cap = 1 then .slice (some ⟨b, off, none⟩) L.length (cap - 1) else .slice (some ⟨b, off + 2, none⟩) L.length (cap - 1)) :
    SellInv ps n wb B2 (M - xm) L (O ++ [⟨xl, xm⟩]) v v6 (w6.setCell ⟨b, off + 1, none⟩ (.int .i64 0)) := by
  have h1 := h.m1
  have h2 := h.ms
  have h3 := h.lo ⟨xl, xm⟩ (by simp)
  simp only at h3
  have g : w6.grownBy (w6.setCell ⟨b, off + 1, none⟩ (.int .i64 0)) (some b) := gr_set (gr_refl _ _) rfl _
  have hz := h.sz
  have hz6 := g6.size
  rw [pcSum_cons] at h2
  simp only at h2
  refine ⟨by omega, by simp; omega, by omega, ?_, ?_, ?_, ?_, ?_, ?_⟩
  · intro y hy
    exact h.lo y (by simp [hy])
  · exact (sell_step hM h.eq).2 hge
  · have := (h.row.keep g6 (fun q hq => .inr (hr q hq))).set 1 (by simp [flat, encPc]) (.int .i64 0)
    exact RowAt.tail (x := [.string xl, .int .i64 0]) (xs := flat encPc L) this rfl v hv (fun e => by rw [List.eq_nil_of_length_eq_zero e]; rfl)
  · rw [List.length_append, flat_append]
    exact own_keepS ho6 g hb2
  · exact gr_grown (gr_grown h.gr g6 (fun q hq => by have := hr q hq; omega)) g (fun q hq => by cases hq; omega)
  · have := g.size; omega
set_option maxRecDepth 100000 in
set_option maxHeartbeats 4000000 in
theorem sell_any (co : Coil) (a : Option Addr) (c : Nat) (w : World) (h : CellsAt w a (flat encPc co.ps)) (hnil : a = none → c = 0) (hsm : CoilSm co) (hok : CoilOk co) (n : Int) (h0 : 0 ≤ n) (h1 : n ≤ 1000) (h2 : n ≤ pcSum co.ps) :
    Calls Tryz.prog 11 #[.agg #[.string co.prod, .int .i64 co.most, .slice a co.ps.length c], .int .i64 n] w fun e w' => ∃ v u, e = .returned (.tuple #[.agg #[.string co.prod, .int .i64 co.most, v], u, .int .i64 0]) ∧
      RowAt w' w.heap.size w'.heap.size v (sellL co.ps n).2.length (flat encPc (sellL co.ps n).2) ∧ w'.ownsRow w.heap.size 53 2 u (sellL co.ps n).1.length (flat encPc (sellL co.ps n).1) ∧ w.grownBy w' none := by
  have LO : ∀ x ∈ co.ps, 1 ≤ x.many ∧ x.many ≤ 1000 := by
    intro x hx
    obtain ⟨i, hi, rfl⟩ := List.getElem_of_mem hx
    have hp := hok.all i hi
    have e := pc_get co.ps i hi
    rw [e]
    exact ⟨hp.lo, hp.hi⟩
  have LO := Lib.hid LO
  have CF : Hid (∀ W, w.grownBy W none → Calls Tryz.prog 55 #[.agg #[.string co.prod, .int .i64 co.most, .slice a co.ps.length c]] W fun e w' => e = .returned (.int .i64 0) ∧ W.grownBy w' none) := fun W g => checkCoil_ok co a c W (h.keep0 g) hsm hok
  have UF : Hid (∀ W, w.grownBy W none → Calls Tryz.prog 56 #[.slice a co.ps.length c] W fun e w' => e = .returned (.int .i64 (pcSum co.ps)) ∧ W.grownBy w' none) := fun W g => units_any co.ps a c W (h.keep0 g) (by have := hsm.len; omega) hsm.all
  have KF : Hid (∀ W, w.grownBy W none → Calls Tryz.prog 12 #[.slice a co.ps.length c] W fun e w' => ∃ v, e = .returned v ∧ w'.ownsRow W.heap.size 53 2 v co.ps.length (flat encPc co.ps) ∧ W.grownBy w' none) :=
    fun W g => clonePc_any a co.ps.length c (flat encPc co.ps) W (flat_length encPc_len _) (h.keep0 g) (fun e => ⟨(by
      subst e
      cases hp : co.ps with
      | nil => rfl
      | cons x xs => rw [hp] at h; obtain ⟨_, _, e, _⟩ := h 0 (.string x.lot) rfl; cases e), hnil e⟩) (flat_ones encPc_one _) (by have := hsm.len; omega)
  have hsu : pcSum co.ps ≤ 1000 := by have := hok.sum; have := hok.m1; omega
  obtain ⟨P, m, ps⟩ := co
  simp only at LO CF UF KF hsu h2 ⊢
  clear h hsm hok hnil
  obtain ⟨S, hS⟩ : ∃ S, S = pcSum ps := ⟨_, rfl⟩
  rw [← hS] at UF hsu h2
  have HS := Lib.hid hS
  obtain ⟨k, hk⟩ : ∃ k, k = ps.length := ⟨_, rfl⟩
  rw [← hk] at CF UF KF
  rw [← hk]
  have HK := Lib.hid hk
  clear hS hk
  obtain ⟨dt, hd1⟩ := und_struct (P := Tryz.prog) (t := 44) (by kernel_rfl)
  have HD := Lib.hid hd1
  clear hd1
  have hO := (heap_2 w (.cells #[.string P, .int .i64 m, .slice a k c] 44) (.cells #[.string ⟨#[]⟩, .int .i64 0, .slice none 0 0] 44)).1
  have hR := (heap_2 w (.cells #[.string P, .int .i64 m, .slice a k c] 44) (.cells #[.string ⟨#[]⟩, .int .i64 0, .slice none 0 0] 44)).2
  have hg := gr_alloc (gr_alloc (gr_refl w none) (.cells #[.string P, .int .i64 m, .slice a k c] 44)) (.cells #[.string ⟨#[]⟩, .int .i64 0, .slice none 0 0] 44)
  obtain ⟨w1, hw1⟩ : ∃ w1, w1 = (w.alloc (.cells #[.string P, .int .i64 m, .slice a k c] 44)).alloc (.cells #[.string ⟨#[]⟩, .int .i64 0, .slice none 0 0] 44) := ⟨_, rfl⟩
  rw [← hw1] at hO hR hg
  obtain ⟨B, hB⟩ : ∃ B, B = w.heap.size := ⟨_, rfl⟩
  rw [← hB] at hO hR
  have HW := Lib.hid hw1
  have HB := Lib.hid hB
  have HO := Lib.hid hO
  have HR := Lib.hid hR
  have HG := Lib.hid hg
  have c0 := blkC hO 0 rfl
  have c1 : w1.cell? ⟨B, 1, none⟩ = some (.int .i64 m) := blkC hO 1 rfl
  have c2 : w1.cell? ⟨B, 2, none⟩ = some (.slice a k c) := blkC hO 2 rfl
  clear hw1 hB hO hR hg
  go_enter Tryz.func11, Tryz.ntmps11
  go_wp2_with (fail)
  rw [← HW.out, ← HB.out]
  refine (CF.out w1 HG.out).mono ?_
  rintro e w2 ⟨rfl, g2⟩
  have HG2 := Lib.hid (gr_trans HG.out g2)
  have HO2 := Lib.hid ((g2.block B (lt_of_block HO.out) (by simp)).trans HO.out)
  have HR2 := Lib.hid ((g2.block (B + 1) (lt_of_block HR.out) (by simp)).trans HR.out)
  have c0 := blkC HO2.out 0 rfl
  have c2 : w2.cell? ⟨B, 2, none⟩ = some (.slice a k c) := blkC HO2.out 2 rfl
  clear g2 HG HO HR HW
  go_wp2_with (fail)
  refine (out_any n 0 1000 w2).mono ?_
  rintro e w3 ⟨rfl, rfl⟩
  have hb : (decide (n < 0) || decide (1000 < n)) = false := by simp; omega
  rw [hb]
  go_wp2_with (fail)
  refine (UF.out w2 HG2.out).mono ?_
  rintro e w3 ⟨rfl, g3⟩
  have HG3 := Lib.hid (gr_trans HG2.out g3)
  have HO3 := Lib.hid ((g3.block B (lt_of_block HO2.out) (by simp)).trans HO2.out)
  have HR3 := Lib.hid ((g3.block (B + 1) (lt_of_block HR2.out) (by simp)).trans HR2.out)
  have c0 := blkC HO3.out 0 rfl
  have c2 : w3.cell? ⟨B, 2, none⟩ = some (.slice a k c) := blkC HO3.out 2 rfl
  clear g3 HG2 HO2 HR2
  go_wp2_with (fail)
  refine (KF.out w3 HG3.out).mono ?_
  rintro e w4 ⟨v4, rfl, o4, g4⟩
  have hz4 := g4.size
  have hzb := lt_of_block HR3.out
  go_wp2_with (fail)
  go_loopw [1, 8, 9] (fun mm v o wr => ∃ (M : Int) (L O : List Piece), mm = .int .i64 M ∧ SellInv ps n w3 w4.heap.size M L O v o wr) (fun mm _ _ _ => (intOf mm).toNat)
  case atStart =>
    exact ⟨n, ps, [], rfl, h0, by simpa using h1, by rw [← HS.out]; exact h2, LO.out, by simp, by rw [← HK.out]; exact own_row o4, World.ownsRow_nil _ _ _ _, g4, Nat.le_refl _⟩
  case round =>
    obtain ⟨M, L, O, rfl, hI⟩ := hrel
    obtain ⟨wo, rfl⟩ : ∃ wo : World, wo = wr := ⟨_, rfl⟩
    by_cases hM : 0 < M
    · cases L with
      | nil => exact absurd hI.ms (by simp [pcSum]; omega)
      | cons x L =>
      obtain ⟨b, off, cap, rfl, r1, r2, r3, r4, r5, r6, r7⟩ := hI.row.some (by simp)
      have HI := Lib.hid hI
      obtain ⟨xl, xm⟩ := x
      have d0 : wo.cell? ⟨b, off, none⟩ = some (.string xl) := r6 0 _ rfl
      have d1 : wo.cell? ⟨b, off + 1, none⟩ = some (.int .i64 xm) := r6 1 _ rfl
      have f1 := r7 1
      obtain ⟨x0, x1⟩ := hI.lo ⟨xl, xm⟩ (by simp)
      simp only at x0 x1
      have m1 := hI.m1
      have hol : O.length ≤ 1000 := by have := hI.m0; omega
      have hsz := hI.sz
      have hst := sell_step hM hI.eq
      simp only at hst
      have HST := Lib.hid hst
      have HR7 := Lib.hid r7
      unfold maxLen at r2
      simp only [List.length_cons] at r1 ⊢
      have F6 : Hid (∀ w6 q', wo.grownBy w6 q' → (∀ q, q' = some q → w4.heap.size ≤ q) → w6.cell? ⟨b, off + 1, none⟩ = some (.int .i64 xm) ∧ w6.frozen? ⟨b, off + 1, none⟩ = false ∧ w6.cell? ⟨b, off, none⟩ = some (.string xl)) := fun w6 q' g6 hq => by
        have hb := g6.block b r5 (fun e => by have := hq b e.symm; omega)
        exact ⟨(World.cell?_of_block (w := wo) hb).trans d1, (World.frozen?_of_block (w := wo) hb).trans f1, (World.cell?_of_block (w := wo) hb).trans d0⟩
      clear hI r6 r7 hst o4 g4
      by_cases hlt : M < xm
      · have hmn : min M xm = M := by omega
        have hwr : IntKind.i64.wrap (M - M) = 0 := by rw [Int.sub_self]; rfl
        have hwr2 : IntKind.i64.wrap (xm - M) = xm - M := IntWalk.i64_in _ (by omega)
        have hne : ((xm - M) == 0) = false := by simpa using (by omega : ¬ xm - M = 0)
        go_wp2_with (at_builtin; refine wpList_app1F ePc rfl _ _ rfl w4.heap.size _ O.length (flat encPc O) rfl wo #[.string xl, .int .i64 M] rfl HI.out.own _ rfl rfl rfl rfl (by omega) (by omega) ?_; intro v6 w6 ho6 g6 hlt6 hf6; obtain ⟨e1, e2, e0⟩ := F6.out w6 _ g6 hlt6; have HO6 := Lib.hid ho6; have HG6 := Lib.hid g6; have HL6 := Lib.hid hlt6; clear ho6 g6 hlt6 hf6)
        go_roundw
        case rel => exact ⟨0, ⟨xl, xm - M⟩ :: L, O ++ [⟨xl, M⟩], rfl, sell_lt HI.out r3 r4 hM hlt HO6.out HG6.out HL6.out⟩
        case measure => simp [intOf]; omega
      · have hmn : min M xm = xm := by omega
        have hwr : IntKind.i64.wrap (M - xm) = M - xm := IntWalk.i64_in _ (by omega)
        have hwr2 : IntKind.i64.wrap (xm - xm) = 0 := by rw [Int.sub_self]; rfl
        by_cases hc1 : cap = 1
        · go_wp2_with (at_builtin; refine wpList_app1F ePc rfl _ _ rfl w4.heap.size _ O.length (flat encPc O) rfl wo #[.string xl, .int .i64 xm] rfl HI.out.own _ rfl rfl rfl rfl (by omega) (by omega) ?_; intro v6 w6 ho6 g6 hlt6 hf6; obtain ⟨e1, e2, e0⟩ := F6.out w6 _ g6 hlt6; have HO6 := Lib.hid ho6; have HG6 := Lib.hid g6; have HL6 := Lib.hid hlt6; clear ho6 g6 hlt6 hf6)
          subst hc1
          go_roundw
          case rel => exact ⟨M - xm, L, O ++ [⟨xl, xm⟩], rfl, sell_ge HI.out r3 r4 hM hlt HO6.out HG6.out HL6.out (by rw [if_pos rfl])⟩
          case measure => simp [intOf]; omega
        · go_wp2_with (at_builtin; refine wpList_app1F ePc rfl _ _ rfl w4.heap.size _ O.length (flat encPc O) rfl wo #[.string xl, .int .i64 xm] rfl HI.out.own _ rfl rfl rfl rfl (by omega) (by omega) ?_; intro v6 w6 ho6 g6 hlt6 hf6; obtain ⟨e1, e2, e0⟩ := F6.out w6 _ g6 hlt6; have HO6 := Lib.hid ho6; have HG6 := Lib.hid g6; have HL6 := Lib.hid hlt6; clear ho6 g6 hlt6 hf6)
          go_roundw
          case rel => exact ⟨M - xm, L, O ++ [⟨xl, xm⟩], rfl, sell_ge HI.out r3 r4 hM hlt HO6.out HG6.out HL6.out (by rw [if_neg hc1])⟩
          case measure => simp [intOf]; omega
    · obtain rfl : M = 0 := by have := hI.m0; omega
      have HE : Hid (sellL ps n = (O, L)) := by
        show _ = _
        rw [hI.eq, sellL_zero _ _ (Int.le_refl _)]; simp
      have hgr := hI.gr
      have hszo := hI.sz
      have HOo := Lib.hid ((hgr.block B (lt_of_block HO3.out) (by simp)).trans HO3.out)
      have HRo := Lib.hid ((hgr.block (B + 1) (lt_of_block HR3.out) (by simp)).trans HR3.out)
      have HROW := Lib.hid hI.row
      have HOWN := Lib.hid hI.own
      have HGO := Lib.hid (gr_trans HG3.out hgr)
      obtain ⟨ua, uc, rfl, -, -, -, -⟩ := own_shape hI.own
      have q0 := blkC HOo.out 0 rfl
      have q1 : wo.cell? ⟨B, 1, none⟩ = some (.int .i64 m) := blkC HOo.out 1 rfl
      have q2 : wo.cell? ⟨B, 2, none⟩ = some (.slice a k c) := blkC HOo.out 2 rfl
      have p0 := blkF HOo.out 0
      have p1 := blkF HOo.out 1
      have p2 := blkF HOo.out 2
      have s0 := blkC HRo.out 0 rfl
      have s1 : wo.cell? ⟨B + 1, 1, none⟩ = some (.int .i64 0) := blkC HRo.out 1 rfl
      have s2 : wo.cell? ⟨B + 1, 2, none⟩ = some (.slice none 0 0) := blkC HRo.out 2 rfl
      have t0 := blkF HRo.out 0
      have t1 := blkF HRo.out 1
      have t2 := blkF HRo.out 2
      clear hI hgr o4 g4
      go_wp2_with (fail)
      refine (clipPc_any wo _ _ _ _ _ HROW.out).mono ?_
      rintro e w6 ⟨u6, rfl, row6, rfl⟩
      obtain ⟨za, zc, rfl, -, -, -, -, -⟩ := row6.shape
      have HROW6 := Lib.hid row6
      clear row6
      go_wp2_with (fail)
      have hR7 := (Below.heap_setCell wo ⟨B, 2, none⟩ (.slice za L.length zc) (B + 1) (by simp)).trans HRo.out
      have hR8 := set3R_heap hR7 (.string P) (.int .i64 m) (.slice za L.length zc)
      have gA : w.grownBy (wo.setCell ⟨B, 2, none⟩ (.slice za L.length zc)) none := gr_new HGO.out (by have := HB.out; simp only; omega) _
      have gB := gr_grown gA (set3R_gr (wo.setCell ⟨B, 2, none⟩ (.slice za L.length zc)) (B + 1) (.string P) (.int .i64 m) (.slice za L.length zc)) (fun q e => by have := HB.out; cases e; omega)
      have gC : wo.grownBy (wo.setCell ⟨B, 2, none⟩ (.slice za L.length zc)) (some B) := gr_set (gr_refl _ _) rfl _
      have gD := set3R_gr (wo.setCell ⟨B, 2, none⟩ (.slice za L.length zc)) (B + 1) (.string P) (.int .i64 m) (.slice za L.length zc)
      have hzo := HGO.out.size
      have hBw := HB.out
      have row8 := (HROW6.out.keep gC (fun q e => by cases e; omega)).keep gD (fun q e => by cases e; omega)
      have own8 := own_keepS (own_keepS HOWN.out gC (by omega)) gD (by omega)
      have hz3 := HG3.out.size
      have hzB := gB.size
      have hzC := gC.size
      have hzD := gD.size
      refine bodyPost_ret (results_cell_slot2 (p := 4) (q := 5) (r := 6) (by kernel_rfl) _ _ (B + 1) _ #[.string P, .int .i64 m, .slice za L.length zc] _ (.struct dt) _ _ rfl rfl rfl hR8 HD.out rfl (by kernel_rfl)) rfl ⟨_, _, rfl, ?_, ?_, gB⟩
      · rw [HE.out]
        exact row8.wide (by omega) (by omega)
      · rw [HE.out]
        exact own_base own8 (by omega)
end Go.Proofs.YtdminjijhpemkaaGreatDoor

/-! Pieces are pushed into a coil. -/
namespace Go.Proofs.YtdminjijhpemkaaGreatDoor
open Go.RowKit
attribute [local go_sem ↓] Go.wp_at_zero Go.wp_at_succ

theorem nil_of_cells {w : World} {a : Option Addr} {ps : List Piece} (h : CellsAt w a (flat encPc ps)) (e : a = none) : ps.length = 0 := by
  subst e
  cases ps with
  | nil => rfl
  | cons x xs => obtain ⟨_, _, e, _⟩ := h 0 (.string x.lot) rfl; cases e
end Go.Proofs.YtdminjijhpemkaaGreatDoor

/-! Room in a coil; whether all its lots are known. -/
namespace Go.Proofs.YtdminjijhpemkaaGreatDoor
open Go.RowKit
attribute [local go_sem ↓] Go.wp_at_zero Go.wp_at_succ

set_option maxRecDepth 100000 in
set_option maxHeartbeats 2000000 in
theorem room_any (co : Coil) (a : Option Addr) (c : Nat) (w : World) (h : CellsAt w a (flat encPc co.ps)) (hsm : CoilSm co) (hok : CoilOk co) (hs0 : 0 ≤ pcSum co.ps) :
    Calls Tryz.prog 10 #[.agg #[.string co.prod, .int .i64 co.most, .slice a co.ps.length c]] w fun e w' => e = .returned (.tuple #[.int .i64 (co.most - pcSum co.ps), .int .i64 0]) ∧ w.grownBy w' none := by
  have CF : Hid (∀ W, w.grownBy W none → Calls Tryz.prog 55 #[.agg #[.string co.prod, .int .i64 co.most, .slice a co.ps.length c]] W fun e w' => e = .returned (.int .i64 0) ∧ W.grownBy w' none) := fun W g => checkCoil_ok co a c W (h.keep0 g) hsm hok
  have UF : Hid (∀ W, w.grownBy W none → Calls Tryz.prog 56 #[.slice a co.ps.length c] W fun e w' => e = .returned (.int .i64 (pcSum co.ps)) ∧ W.grownBy w' none) := fun W g => units_any co.ps a c W (h.keep0 g) (by have := hsm.len; omega) hsm.all
  have hsu : pcSum co.ps ≤ co.most ∧ co.most ≤ 1000 := ⟨hok.sum, hok.m1⟩
  obtain ⟨P, m, ps⟩ := co
  simp only at CF UF hsu hs0 ⊢
  clear h hsm hok
  obtain ⟨S, hS⟩ : ∃ S, S = pcSum ps := ⟨_, rfl⟩
  rw [← hS] at UF hsu hs0
  rw [← hS]
  obtain ⟨k, hk⟩ : ∃ k, k = ps.length := ⟨_, rfl⟩
  rw [← hk] at CF UF
  rw [← hk]
  clear hS hk
  obtain ⟨u1, u2⟩ := hsu
  have hO := heap_alloc_new w (.cells #[.string P, .int .i64 m, .slice a k c] 44)
  have hg := gr_alloc (gr_refl w none) (.cells #[.string P, .int .i64 m, .slice a k c] 44)
  obtain ⟨w1, hw1⟩ : ∃ w1, w1 = w.alloc (.cells #[.string P, .int .i64 m, .slice a k c] 44) := ⟨_, rfl⟩
  rw [← hw1] at hO hg
  have HW := Lib.hid hw1
  have HO := Lib.hid hO
  have HG := Lib.hid hg
  have c0 := blkC hO 0 rfl
  have c1 : w1.cell? ⟨w.heap.size, 1, none⟩ = some (.int .i64 m) := blkC hO 1 rfl
  have c2 : w1.cell? ⟨w.heap.size, 2, none⟩ = some (.slice a k c) := blkC hO 2 rfl
  clear hw1 hO hg
  go_enter Tryz.func10, Tryz.ntmps10
  go_wp2_with (fail)
  rw [← HW.out]
  refine (CF.out w1 HG.out).mono ?_
  rintro e w2 ⟨rfl, g2⟩
  have HG2 := Lib.hid (gr_trans HG.out g2)
  have HO2 := Lib.hid ((g2.block _ (lt_of_block HO.out) (by simp)).trans HO.out)
  clear c0 c1 c2 g2 HW
  have c1 : w2.cell? ⟨w.heap.size, 1, none⟩ = some (.int .i64 m) := blkC HO2.out 1 rfl
  have c2 : w2.cell? ⟨w.heap.size, 2, none⟩ = some (.slice a k c) := blkC HO2.out 2 rfl
  have x1 := grew_cell c1
  have x2 := grew_cell c2
  have hwr : IntKind.i64.wrap (m - S) = m - S := IntWalk.i64_in _ (by omega)
  have U2 := Lib.hid (fun W g => UF.out W (gr_trans HG2.out g))
  go_wp2_with (fail)
  refine wp_region_grew (by kernel_rfl) (by kernel_rfl) ?_
  repeat (go_big_quiet_step (first
    | (go_at_call 56; exact Calls.grew_of (fun W g => U2.out W g))))
  refine wpQuiet_nil ?_
  rintro wq ⟨nn, rfl⟩
  have gq := gr_trans HG2.out nn.gr
  go_wp2_with (fail)
  go_ret2
  exact ⟨rfl, gq⟩
def knownB (xs : List Lot) (ps : List Piece) : Bool := ps.all (fun p => lotHas xs p.lot)
set_option maxRecDepth 100000 in
theorem strange1_any (t : Piece) (xs : List Lot) (xa : Option Addr) (xc q : Nat) (w : World) (hq : w.cell? ⟨q, 0, none⟩ = some (.slice xa xs.length xc)) (hx : CellsAt w xa (flat encLot xs)) (hxl : xs.length ≤ 100000) :
    Calls Tryz.prog 100 #[.agg #[.string t.lot, .int .i64 t.many], .pointer (some ⟨q, 0, none⟩)] w fun e w' => e = .returned (.bool (decide (lotIx xs t.lot < 0))) ∧ w.grownBy w' none := by
  have hqlt := lt_of_cell hq
  have g := gr_alloc (gr_refl w none) (.cells #[.string t.lot, .int .i64 t.many] 53)
  have LF := Lib.hid (lot_any t.lot xs xa xc _ (hx.keep0 g) hxl)
  clear hx
  go_enter Tryz.func100, Tryz.ntmps100
  go_wp2_with (fail)
  refine LF.out.mono ?_
  rintro e w2 ⟨rfl, g2⟩
  obtain ⟨i, hi⟩ : ∃ i, i = lotIx xs t.lot := ⟨_, rfl⟩
  rw [← hi]
  go_wp2_with (fail)
  go_ret
  exact ⟨rfl, gr_trans g g2⟩
theorem strange1_fn : ∀ (args : Array Value) (w : World), (callFunc 100 args).run Tryz.prog w = .ok (.enter 100 args) w := fun _ _ => by kernel_rfl
theorem strange_eq (xs : List Lot) (ps : List Piece) : ps.any (fun p => decide (lotIx xs p.lot < 0)) = !knownB xs ps := by
  unfold knownB
  rw [Bool.eq_iff_iff, List.any_eq_true, Bool.not_eq_true', List.all_eq_false]
  constructor
  · rintro ⟨p, hp, h⟩
    exact ⟨p, hp, by rw [lotIx_neg.1 (of_decide_eq_true h)]; decide⟩
  · rintro ⟨p, hp, h⟩
    exact ⟨p, hp, decide_eq_true (lotIx_neg.2 (by simpa using h))⟩
set_option maxRecDepth 100000 in
set_option maxHeartbeats 1000000 in
theorem strange_any (co : Coil) (a : Option Addr) (c : Nat) (xs : List Lot) (xa : Option Addr) (xc : Nat) (w : World) (h : CellsAt w a (flat encPc co.ps)) (hl : co.ps.length ≤ 100000) (hx : CellsAt w xa (flat encLot xs)) (hxl : xs.length ≤ 100000) :
    Calls Tryz.prog 46 #[.agg #[.string co.prod, .int .i64 co.most, .slice a co.ps.length c], .slice xa xs.length xc] w fun e w' => e = .returned (.bool (!knownB xs co.ps)) ∧ w.grownBy w' none := by
  have HE := Lib.hid (strange_eq xs co.ps)
  obtain ⟨P, m, ps⟩ := co
  simp only at h hl HE ⊢
  have g2 := gr_alloc (gr_alloc (gr_refl w none) (.cells #[.string P, .int .i64 m, .slice a ps.length c] 44)) (.cells #[.slice xa xs.length xc] 26)
  have hB := (heap_2 w (.cells #[.string P, .int .i64 m, .slice a ps.length c] 44) (.cells #[.slice xa xs.length xc] 26)).2
  have CF := Lib.hid (containsFunc_Pc 100 ⟨w.heap.size + 1, 0, none⟩ (fun p => decide (lotIx xs p.lot < 0)) ps a c _ (h.keep0 g2) (by omega) strange1_fn (fun x _ w1 g => strange1_any x xs xa xc (w.heap.size + 1) w1 (blkC ((g.block _ (lt_of_block hB) (by simp)).trans hB) 0 rfl) (hx.keep0 (gr_trans g2 g)) hxl))
  have HG := Lib.hid g2
  clear h hx g2 hB
  go_enter Tryz.func46, Tryz.ntmps46
  go_wp2_with (fail)
  refine CF.out.mono ?_
  rintro e w2 ⟨rfl, g2⟩
  rw [HE.out]
  go_wp2_with (fail)
  go_ret
  exact ⟨rfl, gr_trans HG.out g2⟩
end Go.Proofs.YtdminjijhpemkaaGreatDoor
