/- A reading, as the stream makes it: the walk. -/
import Derived.Test.YtjhdngfliakidaaDoorPkIAt
import Derived.Deep.DrawnRows
import Derived.Deep.DeepCutAuto
import Derived.Deep.CutBlock
import Derived.BigRegion
namespace Go.Proofs.YtjhdngfliakidaaDoor
open Go.RowKit
variable {lw : Nat}
attribute [local go_sem ↓] Go.wp_at_zero Go.wp_at_succ

theorem blk2R {w : World} {g t : Nat} {a b : Value} (h : w.heap[g]? = some (.cells #[a, b] t (0, 0))) : w.cell? ⟨g, 0, none⟩ = some a ∧ w.cell? ⟨g, 1, none⟩ = some b := ⟨blkC h 0 rfl, blkC h 1 rfl⟩
def RdPost (l : List Int) (k : Nat) (m : Mtr) (p lw : Nat) (w : World) (e : Ending) (w' : World) : Prop :=
  ∃ (a : Option Addr) (c : Nat), e = .returned (.agg #[.int .i64 (rdOne l k m).at_, .slice a (rdOne l k m).vs.length c]) ∧ w'.ownsRow w.heap.size 3 1 (.slice a (rdOne l k m).vs.length c) (rdOne l k m).vs.length (ints (rdOne l k m).vs) ∧ StreamAt w' p lw l (rdK3 l k m) ∧ w.grownBy w' (some p)
structure RdSt (wr w : World) (mc mt mf : Int) (V p lw : Nat) (l : List Int) (j : Nat) (A : Int) (N : List Int) : Prop where
  mb : wr.heap[w.heap.size]? = some (.cells #[.int .i64 mc, .int .i64 mt, .int .i64 mf] 73 (0, 0))
  rb : wr.heap[w.heap.size + 1]? = some (.cells #[.int .i64 0, .slice none 0 0] 70 (0, 0))
  ex : ∃ lv, wr.heap[V]? = some (.cells #[.int .i64 A, lv] 70 (0, 0)) ∧ wr.ownsRow w.heap.size 3 1 lv N.length (ints N)
  str : StreamAt wr p lw l j
  gr : w.grownBy wr (some p)
section
variable {wr w w1 : World} {mc mt mf : Int} {V p lw j : Nat} {l : List Int} {A : Int} {N : List Int}
theorem RdSt.step (h : RdSt wr w mc mt mf V p lw l j A N) (hp : p < w.heap.size) (hV : w.heap.size + 1 < V) {j1 : Nat} (g : wr.grownBy w1 (some p)) (hs : StreamAt w1 p lw l j1) : RdSt w1 w mc mt mf V p lw l j1 A N := by
  obtain ⟨h1, h2, ⟨lv, h3, h4⟩, h5, h6⟩ := h
  exact ⟨(g.block _ (lt_of_block h1) (by simp; omega)).trans h1, (g.block _ (lt_of_block h2) (by simp; omega)).trans h2, ⟨lv, (g.block _ (lt_of_block h3) (by simp; omega)).trans h3, own_keepS h4 g hp⟩, hs, gr_trans h6 g⟩
theorem RdSt.setAt (h : RdSt wr w mc mt mf V p lw l j A N) (hp : p < w.heap.size) (hV : w.heap.size + 1 < V) (B : Int) : RdSt (wr.setCell ⟨V, 0, none⟩ (.int .i64 B)) w mc mt mf V p lw l j B N := by
  obtain ⟨h1, h2, ⟨lv, h3, h4⟩, h5, h6⟩ := h
  have gs : wr.grownBy _ (some V) := gr_set (q := ⟨V, 0, none⟩) (gr_refl wr (some V)) rfl (.int .i64 B)
  exact ⟨(gs.block _ (lt_of_block h1) (by simp; omega)).trans h1, (gs.block _ (lt_of_block h2) (by simp; omega)).trans h2, ⟨lv, heap_setCell_same wr V 0 _ _ _ h3, own_keep h4 gs (.inr (own_ne h4 h3 (by decide)))⟩, h5.keep gs (fun q e => by cases e; omega), gr_grown h6 gs (fun q e => by cases e; omega)⟩
theorem RdSt.app {w8 : World} {lv : Value} {g c n : Nat} {M : List Int} (h : RdSt wr w mc mt mf V p lw l j A N) (hp : p < w.heap.size) (hV : w.heap.size + 1 < V) (h3 : wr.heap[V]? = some (.cells #[.int .i64 A, lv] 70 (0, 0))) (h4 : wr.ownsRow w.heap.size 3 1 lv N.length (ints N))
    (ho : w8.ownsRow w.heap.size 3 1 (.slice (some ⟨g, 0, none⟩) n c) M.length (ints M)) (g8 : wr.grownBy w8 lv.ownBlock) : RdSt (w8.setCell ⟨V, 1, none⟩ (.slice (some ⟨g, 0, none⟩) n c)) w mc mt mf V p lw l j A M := by
  obtain ⟨h1, h2, -, h5, h6⟩ := h
  have hlt : ∀ q, lv.ownBlock = some q → w.heap.size ≤ q := fun q hq => (h4.lt q hq).1
  have k1 := (g8.block _ (lt_of_block h1) (fun e => own_ne h4 h1 (by decide) e.symm)).trans h1
  have k2 := (g8.block _ (lt_of_block h2) (fun e => own_ne h4 h2 (by decide) e.symm)).trans h2
  have k3 := (g8.block _ (lt_of_block h3) (fun e => own_ne h4 h3 (by decide) e.symm)).trans h3
  have gs : w8.grownBy _ (some V) := gr_set (q := ⟨V, 1, none⟩) (gr_refl w8 (some V)) rfl (.slice (some ⟨g, 0, none⟩) n c)
  exact ⟨(gs.block _ (lt_of_block k1) (by simp; omega)).trans k1, (gs.block _ (lt_of_block k2) (by simp; omega)).trans k2, ⟨_, heap_setCell_same w8 V 1 _ _ _ k3, own_keep ho gs (.inr (own_ne ho k3 (by decide)))⟩, (h5.keep g8 (fun q hq => by have := hlt q hq; omega)).keep gs (fun q e => by cases e; omega), gr_grown (gr_grown h6 g8 hlt) gs (fun q e => by cases e; omega)⟩
theorem RdSt.setVal {g n c : Nat} (h : RdSt wr w mc mt mf V p lw l j A N) (hp : p < w.heap.size) (h3 : wr.heap[V]? = some (.cells #[.int .i64 A, .slice (some ⟨g, 0, none⟩) n c] 70 (0, 0))) (h4 : wr.ownsRow w.heap.size 3 1 (.slice (some ⟨g, 0, none⟩) n c) N.length (ints N)) (hn : N.length = n) (i : Nat) (B : Int) : RdSt (wr.setCell ⟨g, i, none⟩ (.int .i64 B)) w mc mt mf V p lw l j A (N.set i B) := by
  obtain ⟨h1, h2, -, h5, h6⟩ := h
  have hlt := (h4.lt g rfl).1
  have hg1 : some w.heap.size ≠ some g := fun e => own_ne h4 h1 (by decide) e.symm
  have hg2 : some (w.heap.size + 1) ≠ some g := fun e => own_ne h4 h2 (by decide) e.symm
  have hg3 : some V ≠ some g := fun e => own_ne h4 h3 (by decide) e.symm
  have gs : wr.grownBy _ (some g) := gr_set (q := ⟨g, i, none⟩) (gr_refl wr (some g)) rfl (.int .i64 B)
  subst hn
  have hst := (h4.stored i (.int .i64 B)).1
  refine ⟨(gs.block _ (lt_of_block h1) hg1).trans h1, (gs.block _ (lt_of_block h2) hg2).trans h2, ⟨_, (gs.block _ (lt_of_block h3) hg3).trans h3, ?_⟩, h5.keep gs (fun q e => by cases e; omega), gr_grown h6 gs (fun q e => by cases e; omega)⟩
  rw [List.length_set]
  simpa [ints, List.map_set] using hst
end
set_option maxRecDepth 100000 in
set_option maxHeartbeats 4000000 in
theorem reading_any (l : List Int) (k : Nat) (m : Mtr) (p : Nat) (w : World) (hs : StreamAt w p lw l k) (hk : k < 900000000) (hm : -1000 ≤ m.cnt ∧ m.cnt ≤ 1000) (ht : 0 ≤ m.turn ∧ m.turn ≤ 1000001) :
    Calls Tryd.prog 30 #[.pointer (some ⟨p, 0, none⟩), mtrV m] w (RdPost l k m p lw w) := by
  have hlt := hs.lt
  obtain ⟨dt, hd1⟩ := und_struct (P := Tryd.prog) (t := 70) (by kernel_rfl)
  have HC : Hid (((rdC m : Nat) : Int) = max (min m.cnt 5) 0) := by show _ = _; unfold rdC; omega
  have HT : Hid (rdT m = max (min m.turn 1000) 1) := rfl
  have hc5 := rdC_le m
  have hT1 : 1 ≤ rdT m := by unfold rdT; omega
  have hT2 : rdT m ≤ 1000 := by unfold rdT; omega
  obtain ⟨C, hCe⟩ : ∃ C, C = rdC m := ⟨_, rfl⟩
  obtain ⟨T, hTe⟩ : ∃ T, T = rdT m := ⟨_, rfl⟩
  rw [← hCe] at HC hc5
  rw [← hTe] at HT hT1 hT2
  have HCE := Lib.hid hCe
  have HTE := Lib.hid hTe
  have HM : Hid (∃ m0, m0 = m) := ⟨m, rfl⟩
  obtain ⟨m0, hm0⟩ := HM.out
  rw [← hm0]
  rw [← hm0] at hm ht HC HT HCE HTE
  obtain ⟨mc, mt, mf⟩ := m0
  have HM0 := Lib.hid hm0
  clear hm0 hCe hTe HM
  unfold mtrV
  simp only at hm ht HC HT ⊢
  obtain ⟨hP, hQ⟩ := heap_2 w (.cells #[.int .i64 mc, .int .i64 mt, .int .i64 mf] 73) (.cells #[.int .i64 0, .slice none 0 0] 70)
  have g2 := gr_alloc (gr_alloc (gr_refl w none) (.cells #[.int .i64 mc, .int .i64 mt, .int .i64 mf] 73)) (.cells #[.int .i64 0, .slice none 0 0] 70)
  obtain ⟨w2, hw2⟩ : ∃ w2, w2 = (w.alloc (.cells #[.int .i64 mc, .int .i64 mt, .int .i64 mf] 73)).alloc (.cells #[.int .i64 0, .slice none 0 0] 70) := ⟨_, rfl⟩
  rw [← hw2] at hP hQ g2
  have hs2 := hs.keep0 g2
  have HP := Lib.hid hP
  have HQ := Lib.hid hQ
  have HG := Lib.hid g2
  have HW := Lib.hid hw2
  have hz2 : w.heap.size + 1 + 1 = w2.heap.size := by rw [hw2]; simp
  have HZ := Lib.hid hz2
  clear hP hQ g2 hw2 hz2 hs
  go_enter Tryd.func30, Tryd.ntmps30
  go_wp2_with (fail)
  rw [← HW.out]
  go_wp2_with (fail)
  rw [HZ.out]
  go_fit (pick_any l k [0, 60, 1439, 1440, 3000, 5000, 20000] p w2 hs2 (by omega) (by decide) (by decide))
  rintro e w3 ⟨rfl, hs3, g3⟩
  have hP3 := (g3.block _ (lt_of_block HP.out) (by simp; omega)).trans HP.out
  have hQ3 := (g3.block _ (lt_of_block HQ.out) (by simp; omega)).trans HQ.out
  have g03 := gr_trans (gr_weak HG.out _) g3
  obtain ⟨A, hA⟩ : ∃ A, A = pickM l k [0, 60, 1439, 1440, 3000, 5000, 20000] := ⟨_, rfl⟩
  rw [← hA]
  have HA := Lib.hid hA
  have gV := gr_alloc (gr_refl w3 none) (.cells #[.int .i64 A, .slice none 0 0] 70)
  have hV := heap_alloc_new w3 (.cells #[.int .i64 A, .slice none 0 0] 70)
  have hPV := (gV.block _ (lt_of_block hP3) (by simp)).trans hP3
  obtain ⟨v0, v1, v2, -⟩ := blk3M hPV
  have hsV := hs3.keep0 gV
  have HV := Lib.hid hV
  have HPV := Lib.hid hPV
  have HQV := Lib.hid ((gV.block _ (lt_of_block hQ3) (by simp)).trans hQ3)
  have HGV := Lib.hid (gr_trans g03 (gr_weak gV _))
  obtain ⟨wV, hwV⟩ : ∃ wV, wV = w3.alloc (.cells #[.int .i64 A, .slice none 0 0] 70) := ⟨_, rfl⟩
  obtain ⟨V, hVe⟩ : ∃ V, V = w3.heap.size := ⟨_, rfl⟩
  rw [← hwV] at v0 v1 v2 hsV HV HPV HQV HGV
  rw [← hVe] at HV
  have hVlow : w.heap.size + 1 < V := by have := lt_of_block hQ3; omega
  have HWV := Lib.hid hwV
  have HVE := Lib.hid hVe
  clear hA hs2 g3 hP3 hQ3 hs3 g03 hV hPV gV hwV hVe
  go_upto_region 2 with (fail)
  rw [← HWV.out, ← HVE.out]
  go_cut [13, 14] (fun s c wx => s = .int .i64 C ∧ c = .int .i64 0 ∧ wx = wV)
  case first =>
    go_wp2_with (fail)
    all_goals go_meet
    all_goals exact ⟨by congr 1; have := HC.out; omega, rfl, rfl⟩
  case rest =>
  obtain ⟨rfl, rfl, rfl⟩ := hcut
  have HTI : Hid ((if (if 1000 < mt then 1000 else mt) < 1 then 1 else if 1000 < mt then 1000 else mt) = T) := by
    show _ = _
    have := HT.out
    split <;> (try split) <;> omega
  go_wp2_with (fail)
  go_loopw [14] (fun i wr => ∃ j : Nat, j ≤ C ∧ i = .int .i64 j ∧ RdSt wr w mc mt mf V p lw l (k + 1 + j) A (rdV0 l (k + 1) T j)) (fun i _ => C - (intOf i).toNat)
  case atStart => exact ⟨0, Nat.zero_le _, rfl, ⟨HPV.out, HQV.out, ⟨_, HV.out, World.ownsRow_nil _ _ _ _⟩, hsV, HGV.out⟩⟩
  case round =>
    obtain ⟨j, hj, rfl, ⟨hmb, hrb, ⟨lv, hVr, hlv⟩, hsr, hgr⟩⟩ := hrel
    obtain ⟨wo, rfl⟩ : ∃ wo : World, wo = wr := ⟨_, rfl⟩
    have hNl := rdV0_len l (k + 1) j T
    rw [hNl] at hlv
    obtain ⟨la, lc, rfl, -, -, -, -⟩ := own_shape hlv
    have hzo := hgr.size
    have hVl := lt_of_block hVr
    obtain ⟨d0, d1⟩ := blk2R hVr
    obtain ⟨m0, m1, m2, -⟩ := blk3M hmb
    have NXT := rdV0_next l (k + 1) j T
    obtain ⟨N, hN⟩ : ∃ N, N = rdV0 l (k + 1) T j := ⟨_, rfl⟩
    rw [← hN] at hlv hNl NXT
    have HN := Lib.hid hN
    have HNX := Lib.hid NXT
    have HLV := Lib.hid hlv
    have HVR := Lib.hid hVr
    have HMB := Lib.hid hmb
    have HRB := Lib.hid hrb
    have HNL := Lib.hid hNl
    clear hlv hVr hmb hrb hN NXT hNl
    by_cases hjC : j < C
    · have NX := Lib.hid (fun (W : World) (h : StreamAt W p lw l (k + 1 + j)) => next_any l (k + 1 + j) T p W h (by omega) (by omega))
      obtain ⟨x, hx⟩ : ∃ x, x = nxt l (k + 1 + j) T := ⟨_, rfl⟩
      rw [← hx] at NX
      have HX := Lib.hid hx
      clear hx
      have hgd := gr_drew (gr_refl wo (some p))
      have hsd := hsr.keep0 (gr_drew (gr_refl wo none))
      go_wp2_with (fail)
      go_region_law (first
        | (refine step_app1 eInt rfl _ _ rfl w.heap.size _ j (ints N) rfl w7 _ rfl hlv7 _ rfl rfl rfl rfl ?_ ?_ ?_; (· omega); (· omega); intro v8 w8 hown8 hg8 hlt8 hk8; have hV8 := (hg8.block V hV7l (fun e => own_ne hlv7 hV7 (by decide) e.symm)).trans hV7; obtain ⟨_, e8⟩ := blk2R hV8; have z8 := blkF hV8 1; obtain ⟨g8, c8, rfl, _, _, _, _⟩ := own_some hown8 (by omega))
        | (go_simp; rw [HTI.out]; go_at_call 20; (with_reducible refine (NX.out _ hsd).mono ?_); rintro e w7 ⟨rfl, hs7, hg7'⟩; have hg7 := gr_trans hgd hg7'; have hlv7 := own_keepS HLV.out hg7 hlt; have hV7 := (hg7.block V hVl (by simp; omega)).trans HVR.out; have hV7l := lt_of_block hV7; have hz7 := hg7.size; obtain ⟨_, e7⟩ := blk2R hV7; have hmb7 := (hg7.block _ (lt_of_block HMB.out) (by simp; omega)).trans HMB.out; have hrb7 := (hg7.block _ (lt_of_block HRB.out) (by simp; omega)).trans HRB.out)
        | fail)
      all_goals (go_wp2_with (fail))
      all_goals go_roundw
      all_goals first
        | (simp [intOf]; omega)
        | (have h7 : RdSt w7 w mc mt mf V p lw l (k + 1 + j + 1) A N := ⟨hmb7, hrb7, ⟨_, hV7, by rw [HNL.out]; exact hlv7⟩, hs7, gr_trans hgr hg7⟩
           have h8 := h7.app (M := N ++ [x]) hlt hVlow hV7 (by rw [HNL.out]; exact hlv7) (by rw [List.length_append, HNL.out]; simpa [ints] using hown8) hg8
           refine ⟨j + 1, by omega, by go_num, ?_⟩
           rw [HNX.out, ← HX.out]
           exact h8)
    · obtain rfl : j = C := by omega
      have h5 : RdSt wo w mc mt mf V p lw l (rdK0 k m) A N := by
        have e : rdK0 k m = k + 1 + j := by unfold rdK0; rw [← HM0.out, ← HCE.out]
        rw [e]
        exact ⟨HMB.out, HRB.out, ⟨_, HVR.out, by rw [HNL.out]; exact HLV.out⟩, hsr, hgr⟩
      have hk0 : rdK0 k m ≤ k + 6 := by
        have := rdC_le m
        unfold rdK0; omega
      have HNE : Hid (N = rdV0 l (k + 1) (rdT m) (rdC m)) := by
        show _ = _
        rw [HN.out, HTE.out, HCE.out, HM0.out]
      have hN6 : N.length ≤ 5 := by rw [HNL.out]; omega
      have HH5 := Lib.hid h5
      clear hsr hgr d0 d1 HNX HLV HVR HMB HRB HNL HN h5 HV HPV HQV HGV m0 m1 m2 v0 v1 v2 hsV
      obtain ⟨k0, hk0e⟩ : ∃ k0, k0 = rdK0 k m := ⟨_, rfl⟩
      rw [← hk0e] at HH5 hk0
      have HK0 := Lib.hid hk0e
      clear hk0e
      go_wp2_with (fail)
      go_fit (flip_any l k0 30 p wo HH5.out.str (by omega) (by decide))
      rintro e w5 ⟨rfl, hs5, g5⟩
      have HH6 := Lib.hid (HH5.out.step hlt hVlow g5 hs5)
      obtain ⟨fl, hfl⟩ : ∃ fl, fl = flipM l k0 30 := ⟨_, rfl⟩
      rw [← hfl]
      have E1 : Hid (rdK1 l k m = if fl then k0 + 1 + 1 else k0 + 1) := by show _ = _; unfold rdK1; rw [← HK0.out, ← hfl]
      have E2 : Hid (rdAt l k m = if fl then pickM l (k0 + 1) [-1, 5761440, 5761439] else A) := by show _ = _; unfold rdAt; rw [← HK0.out, ← hfl, HA.out]; rfl
      clear hfl hs5 g5
      go_upto_if 29 with (fail)
      go_cut [] (fun wx => RdSt wx w mc mt mf V p lw l (rdK1 l k m) (rdAt l k m) N)
      case first =>
        cases fl with
        | false =>
          go_wp2_with (fail)
          go_meet
          rw [E1.out, E2.out]
          exact HH6.out
        | true =>
          have PK := pick_any l (k0 + 1) [-1, 5761440, 5761439] p w5 HH6.out.str (by omega) (by decide) (by decide)
          obtain ⟨pk, hpk⟩ : ∃ pk, pk = pickM l (k0 + 1) [-1, 5761440, 5761439] := ⟨_, rfl⟩
          rw [← hpk] at PK E2
          have PK := Lib.hid PK
          clear hpk
          go_wp2_with (fail)
          refine PK.out.mono ?_
          rintro e w7 ⟨rfl, hs7, g7⟩
          have h7 := HH6.out.step hlt hVlow g7 hs7
          obtain ⟨lv7, hV7, -⟩ := h7.ex
          have H7 := Lib.hid h7
          have z0 := blkF hV7 0
          obtain ⟨y0, -⟩ := blk2R hV7
          clear h7 hV7 hs7 g7
          go_wp2_with (fail)
          go_meet
          rw [E1.out, E2.out]
          exact H7.out.setAt hlt hVlow pk
      case rest =>
      obtain ⟨w9, rfl⟩ : ∃ w9 : World, w9 = wc := ⟨_, rfl⟩
      have hk1 : rdK1 l k m ≤ k + 8 := by rw [E1.out]; split <;> omega
      obtain ⟨k1, hk1e⟩ : ∃ k1, k1 = rdK1 l k m := ⟨_, rfl⟩
      obtain ⟨A1, hA1⟩ : ∃ A1, A1 = rdAt l k m := ⟨_, rfl⟩
      rw [← hk1e, ← hA1] at hcut
      rw [← hk1e] at hk1
      have HH9 := Lib.hid hcut
      have HK1 := Lib.hid hk1e
      have HA1 := Lib.hid hA1
      clear hcut hk1e hA1 E1 E2 HH6 HH5 hk0 HK0 HA fl
      go_wp2_with (fail)
      go_fit (flip_any l k1 30 p w9 HH9.out.str (by omega) (by decide))
      rintro e w5 ⟨rfl, hs5, g5⟩
      have HH6 := Lib.hid (HH9.out.step hlt hVlow g5 hs5)
      obtain ⟨fl, hfl⟩ : ∃ fl, fl = flipM l k1 30 := ⟨_, rfl⟩
      rw [← hfl]
      have E1 : Hid (rdK2 l k m = if fl then k1 + 1 + 1 else k1 + 1) := by show _ = _; unfold rdK2; rw [← HK1.out, ← hfl]
      have E2 : Hid (rdV1 l k m = if fl then N ++ [pickM l (k1 + 1) [0, -1]] else N) := by show _ = _; unfold rdV1; rw [← HK1.out, ← hfl, ← HNE.out]
      clear hfl hs5 g5
      go_upto_if 35 with (fail)
      go_cut [] (fun wx => RdSt wx w mc mt mf V p lw l (rdK2 l k m) A1 (rdV1 l k m))
      case first =>
        cases fl with
        | false =>
          go_wp2_with (fail)
          go_meet
          rw [E1.out, E2.out]
          exact HH6.out
        | true =>
          obtain ⟨-, -, ⟨lv, hV5, hlv5⟩, hs5, -⟩ := HH6.out
          obtain ⟨la, lc, rfl, -, -, -, -⟩ := own_shape hlv5
          have PK : Hid (Calls Tryd.prog 37 #[.pointer (some ⟨p, 0, none⟩), .slice (some ⟨w5.heap.size, 0, none⟩) 2 2] (w5.alloc (.cells #[.int .i64 0, .int .i64 (-1)] 3)).drew fun e w' => e = .returned (.int .i64 (pickM l (k1 + 1) [0, -1])) ∧ StreamAt w' p lw l (k1 + 1 + 1) ∧ w5.drew.grownBy w' (some p)) :=
            pick_any l (k1 + 1) [0, -1] p w5.drew (hs5.keep0 (gr_drew (gr_refl _ _))) (by omega) (by decide) (by decide)
          obtain ⟨pk, hpk⟩ : ∃ pk, pk = pickM l (k1 + 1) [0, -1] := ⟨_, rfl⟩
          rw [← hpk] at PK E2
          have hgd := gr_drew (gr_refl w5 (some p))
          have hVl := lt_of_block hV5
          obtain ⟨d0, d1⟩ := blk2R hV5
          have HV5 := Lib.hid hV5
          have HLV := Lib.hid hlv5
          have hz5 := HH6.out.gr.size
          clear hpk hV5 hlv5 hs5
          go_wp2_with (fail)
          go_region_law (first
            | (refine step_app1 eInt rfl _ _ rfl w.heap.size _ N.length (ints N) rfl w7 _ rfl hlv7 _ rfl rfl rfl rfl ?_ ?_ ?_; (· omega); (· omega); intro v8 w8 hown8 hg8 hlt8 hk8; have hV8 := (hg8.block V hV7l (fun e => own_ne hlv7 hV7 (by decide) e.symm)).trans hV7; obtain ⟨_, e8⟩ := blk2R hV8; have z8 := blkF hV8 1; obtain ⟨g8, c8, rfl, _, _, _, _⟩ := own_some hown8 (by omega))
            | (go_simp; go_at_call 37; (with_reducible refine PK.out.mono ?_); rintro e w7 ⟨rfl, hs7, hg7'⟩; have hg7 := gr_trans hgd hg7'; have hlv7 := own_keepS HLV.out hg7 hlt; have hV7 := (hg7.block V hVl (by simp; omega)).trans HV5.out; have hV7l := lt_of_block hV7; have hz7 := hg7.size; obtain ⟨_, e7⟩ := blk2R hV7; have h7 := HH6.out.step hlt hVlow hg7 hs7)
            | fail)
          all_goals (go_wp2_with (fail))
          all_goals go_meet
          all_goals
            have h8 := h7.app (M := N ++ [pk]) hlt hVlow hV7 hlv7 (by rw [List.length_append]; simpa [ints] using hown8) hg8
            rw [E1.out, E2.out]
            exact h8
      case rest =>
      obtain ⟨wb, rfl⟩ : ∃ wb : World, wb = wc := ⟨_, rfl⟩
      have hk2 : rdK2 l k m ≤ k + 10 := by rw [E1.out]; split <;> omega
      have hV1l : (rdV1 l k m).length ≤ 6 := by
        rw [E2.out]
        split
        · rw [List.length_append]; simp; omega
        · omega
      obtain ⟨k2, hk2e⟩ : ∃ k2, k2 = rdK2 l k m := ⟨_, rfl⟩
      obtain ⟨M, hM⟩ : ∃ M, M = rdV1 l k m := ⟨_, rfl⟩
      rw [← hk2e, ← hM] at hcut
      rw [← hk2e] at hk2
      rw [← hM] at hV1l
      have HH9 := Lib.hid hcut
      have HK2 := Lib.hid hk2e
      have HM := Lib.hid hM
      clear hcut hk2e hM E1 E2 HH6 hk1 HK1 fl HNE hN6
      go_upto_region 10 with (fail)
      go_cut [51] (fun s wx => s = .bool (flipM l k2 30 && decide (0 < M.length)) ∧ RdSt wx w mc mt mf V p lw l (k2 + 1) A1 M)
      case first =>
        go_wp2_with (fail)
        go_fit (flip_any l k2 30 p wb HH9.out.str (by omega) (by decide))
        rintro e w5 ⟨rfl, hs5, g5⟩
        have h6 := HH9.out.step hlt hVlow g5 hs5
        obtain ⟨-, -, ⟨lv, hV5, hlv5⟩, -, -⟩ := h6
        have HH6 := Lib.hid (HH9.out.step hlt hVlow g5 hs5)
        obtain ⟨la, lc, rfl, -, -, -, -⟩ := own_shape hlv5
        obtain ⟨d0, d1⟩ := blk2R hV5
        obtain ⟨fl, hfl⟩ : ∃ fl, fl = flipM l k2 30 := ⟨_, rfl⟩
        rw [← hfl]
        have HFL := Lib.hid hfl
        clear hfl hs5 g5 hV5 hlv5
        cases fl with
        | false =>
          go_wp2_with (fail)
          go_meet
          exact ⟨by rw [← HFL.out]; rfl, HH6.out⟩
        | true =>
          go_wp2_with (fail)
          go_meet
          exact ⟨by rw [← HFL.out]; simp, HH6.out⟩
      case rest =>
      obtain ⟨rfl, hcut⟩ := hcut
      obtain ⟨wd, rfl⟩ : ∃ wd : World, wd = wc := ⟨_, rfl⟩
      have E1 : Hid (rdK3 l k m = if flipM l k2 30 && decide (0 < M.length) then k2 + 1 + 1 else k2 + 1) := by show _ = _; unfold rdK3; rw [← HK2.out, ← HM.out]
      have E2 : Hid (rdV2 l k m = if flipM l k2 30 && decide (0 < M.length) then M.set 0 (pickM l (k2 + 1) [-1, mt, 999999, 1000000]) else M) := by show _ = _; unfold rdV2; rw [← HK2.out, ← HM.out, ← HM0.out]
      have E3 : Hid ((flipM l k2 30 && decide (0 < M.length)) = true → 0 < M.length) := by show _ → _; simp
      obtain ⟨b, hb⟩ : ∃ b, b = (flipM l k2 30 && decide (0 < M.length)) := ⟨_, rfl⟩
      rw [← hb] at E1 E2 E3
      rw [← hb]
      have HH6 := Lib.hid hcut
      clear hb hcut HH9
      go_upto_if 51 with (fail)
      go_cut [] (fun wx => RdSt wx w mc mt mf V p lw l (rdK3 l k m) A1 (rdV2 l k m))
      case first =>
        cases b with
        | false =>
          go_wp2_with (fail)
          go_meet
          rw [E1.out, E2.out]
          exact HH6.out
        | true =>
          have hM0 := E3.out rfl
          obtain ⟨hmb, -, ⟨lv, hV5, hlv5⟩, hs5, -⟩ := HH6.out
          obtain ⟨g, gc, rfl, -, -, -, -⟩ := own_some hlv5 hM0
          have PK : Hid (Calls Tryd.prog 37 #[.pointer (some ⟨p, 0, none⟩), .slice (some ⟨wd.heap.size, 0, none⟩) 4 4] (wd.alloc (.cells #[.int .i64 (-1), .int .i64 mt, .int .i64 999999, .int .i64 1000000] 3)).drew fun e w' => e = .returned (.int .i64 (pickM l (k2 + 1) [-1, mt, 999999, 1000000])) ∧ StreamAt w' p lw l (k2 + 1 + 1) ∧ wd.drew.grownBy w' (some p)) :=
            pick_any l (k2 + 1) [-1, mt, 999999, 1000000] p wd.drew (hs5.keep0 (gr_drew (gr_refl _ _))) (by omega) (by simp) (by simp)
          obtain ⟨pk, hpk⟩ : ∃ pk, pk = pickM l (k2 + 1) [-1, mt, 999999, 1000000] := ⟨_, rfl⟩
          rw [← hpk] at PK E2
          have hgd := gr_drew (gr_refl wd (some p))
          have hVl := lt_of_block hV5
          obtain ⟨d0, d1⟩ := blk2R hV5
          obtain ⟨m0, m1, m2, -⟩ := blk3M hmb
          have HV5 := Lib.hid hV5
          have HLV := Lib.hid hlv5
          clear hpk hV5 hlv5 hs5 hmb
          go_wp2_with (fail)
          go_region_law (first
            | (go_simp; go_at_call 37; (with_reducible refine PK.out.mono ?_); rintro e w7 ⟨rfl, hs7, hg7'⟩; have hg7 := gr_trans hgd hg7'; have hlv7 := own_keepS HLV.out hg7 hlt; have hV7 := (hg7.block V hVl (by simp; omega)).trans HV5.out; obtain ⟨_, e7⟩ := blk2R hV7; have z7 := hlv7.frozenAt 0; have c7 : w7.cell? ⟨g, 0, none⟩ = some (.int .i64 (M.getD 0 0)) := by { rw [hlv7.cellAt 0 (by omega)]; exact ints_get M 0 hM0 }; have h7 := HH6.out.step hlt hVlow hg7 hs7)
            | fail)
          all_goals (go_wp2_with (fail))
          all_goals go_meet
          all_goals
            rw [E1.out, E2.out]
            exact h7.setVal hlt hV7 hlv7 rfl 0 pk
      case rest =>
      obtain ⟨we, rfl⟩ : ∃ we : World, we = wc := ⟨_, rfl⟩
      obtain ⟨-, hrb, ⟨lv, hV5, hlv5⟩, hs5, hg5⟩ := hcut
      have HEQ : Hid (rdOne l k m = ⟨A1, rdV2 l k m⟩) := by show _ = _; unfold rdOne; rw [← HA1.out]
      obtain ⟨X, hX⟩ : ∃ X, X = rdV2 l k m := ⟨_, rfl⟩
      rw [← hX] at hlv5 HEQ
      obtain ⟨la, lc, rfl, -, -, -, -⟩ := own_shape hlv5
      obtain ⟨d0, d1⟩ := blk2R hV5
      obtain ⟨r0, r1⟩ := blk2R hrb
      have z0 := blkF hrb 0
      have z1 := blkF hrb 1
      have HRB := Lib.hid hrb
      have HLV := Lib.hid hlv5
      clear hrb hV5 hlv5 hX E1 E2 E3 HH6
      go_wp2_with (fail)
      have gs := set2_gr we (w.heap.size + 1) (.int .i64 A1) (.slice la X.length lc)
      refine bodyPost_ret (results_cell_row (p := 4) (by kernel_rfl) _ _ (w.heap.size + 1) _ #[.int .i64 A1, .slice la X.length lc] _ (.struct dt) rfl (set2_heap HRB.out _ _) hd1 rfl (by kernel_rfl)) rfl ⟨la, lc, ?_, ?_, ?_, ?_⟩
      · rw [HM0.out, HEQ.out]
      · rw [HM0.out, HEQ.out]
        exact own_keep HLV.out gs (.inr (own_ne HLV.out HRB.out (by decide)))
      · rw [HM0.out]; exact hs5.keep gs (fun q e => by cases e; omega)
      · exact gr_grown hg5 gs (fun q e => by cases e; omega)
end Go.Proofs.YtjhdngfliakidaaDoor
