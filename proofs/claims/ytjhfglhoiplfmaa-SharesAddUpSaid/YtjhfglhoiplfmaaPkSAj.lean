/- A reading, as the stream makes it: the walk. -/
import Derived.Test.YtjhfglhoiplfmaaPkSAi
import Derived.Deep.DrawnRows
import Derived.Deep.DeepCutAuto
import Derived.Deep.CutBlock
import Derived.BigRegion
import Derived.Test.YtjhfglhoiplfmaaPkSAe
import Derived.Test.YtjhfglhoiplfmaaPkSAh
namespace Go.Proofs.Ytjhfglhoiplfmaa
open Go.RowKit
variable {lw : Nat}
attribute [local go_sem ↓] Go.wp_at_zero Go.wp_at_succ

theorem blk2R {w : World} {g t : Nat} {a b : Value} (h : w.heap[g]? = some (.cells #[a, b] t (0, 0))) : w.cell? ⟨g, 0, none⟩ = some a ∧ w.cell? ⟨g, 1, none⟩ = some b := ⟨blkC h 0 rfl, blkC h 1 rfl⟩
def RdPost (l : List Int) (k : Nat) (m : Mtr) (p lw : Nat) (w : World) (e : Ending) (w' : World) : Prop :=
  ∃ (a : Option Addr) (c : Nat), e = .returned (.agg #[.int .i64 (rdOne l k m).at_, .slice a (rdOne l k m).vs.length c]) ∧ w'.ownsRow w.heap.size 3 1 (.slice a (rdOne l k m).vs.length c) (rdOne l k m).vs.length (ints (rdOne l k m).vs) ∧ StreamAt w' p lw l (rdK3 l k m) ∧ w.grownBy w' (some p)
structure RdSt (wr w : World) (mc mt mf : Int) (V p lw : Nat) (l : List Int) (j : Nat) (A : Int) (N : List Int) : Prop where
  mb : wr.heap[w.heap.size]? = some (.cells #[.int .i64 mc, .int .i64 mt, .int .i64 mf] 34 (0, 0))
  rb : wr.heap[w.heap.size + 1]? = some (.cells #[.int .i64 0, .slice none 0 0] 56 (0, 0))
  ex : ∃ lv, wr.heap[V]? = some (.cells #[.int .i64 A, lv] 56 (0, 0)) ∧ wr.ownsRow w.heap.size 3 1 lv N.length (ints N)
  str : StreamAt wr p lw l j
  gr : w.grownBy wr (some p)
section
variable {wr w w1 : World} {mc mt mf : Int} {V p lw j : Nat} {l : List Int} {A : Int} {N : List Int}
theorem RdSt.step (h : RdSt wr w mc mt mf V p lw l j A N) (hp : p < w.heap.size) (hV : w.heap.size + 1 < V) {j1 : Nat} (g : wr.grownBy w1 (some p)) (hs : StreamAt w1 p lw l j1) : RdSt w1 w mc mt mf V p lw l j1 A N := by
  obtain ⟨h1, h2, ⟨lv, h3, h4⟩, h5, h6⟩ := h
  exact ⟨(g.block _ (lt_of_block h1) (by simp; omega)).trans h1, (g.block _ (lt_of_block h2) (by simp; omega)).trans h2, ⟨lv, (g.block _ (lt_of_block h3) (by simp; omega)).trans h3, own_keepS h4 g hp⟩, hs, gr_trans h6 g⟩
theorem RdSt.setAt (h : RdSt wr w mc mt mf V p lw l j A N) (hp : p < w.heap.size) (hV : w.heap.size + 1 < V) (B : Int) : RdSt (wr.setCell ⟨V, 0, none⟩ (.int .i64 B)) w mc mt mf V p lw l j B N := by
  obtain ⟨h1, h2, ⟨lv, h3, h4⟩, h5, h6⟩ := h
  have gs : wr.grownBy _ (some V) := gr_set (q := ⟨V, 0, none⟩) (gr_refl wr (some V)) rfl (.int .i64 B)
  exact ⟨(gs.block _ (lt_of_block h1) (by simp; omega)).trans h1, (gs.block _ (lt_of_block h2) (by simp; omega)).trans h2, ⟨lv, heap_setCell_same wr V 0 _ _ _ h3, own_keep h4 gs (.inr (own_ne h4 h3 (by decide)))⟩, h5.keep gs (fun q e => by cases e; omega), gr_grown h6 gs (fun q e => by cases e; omega)⟩
theorem RdSt.app {w8 : World} {lv : Value} {g c n : Nat} {M : List Int} (h : RdSt wr w mc mt mf V p lw l j A N) (hp : p < w.heap.size) (hV : w.heap.size + 1 < V) (h3 : wr.heap[V]? = some (.cells #[.int .i64 A, lv] 56 (0, 0))) (h4 : wr.ownsRow w.heap.size 3 1 lv N.length (ints N))
    (ho : w8.ownsRow w.heap.size 3 1 (.slice (some ⟨g, 0, none⟩) n c) M.length (ints M)) (g8 : wr.grownBy w8 lv.ownBlock) : RdSt (w8.setCell ⟨V, 1, none⟩ (.slice (some ⟨g, 0, none⟩) n c)) w mc mt mf V p lw l j A M := by
  obtain ⟨h1, h2, -, h5, h6⟩ := h
  have hlt : ∀ q, lv.ownBlock = some q → w.heap.size ≤ q := fun q hq => (h4.lt q hq).1
  have k1 := (g8.block _ (lt_of_block h1) (fun e => own_ne h4 h1 (by decide) e.symm)).trans h1
  have k2 := (g8.block _ (lt_of_block h2) (fun e => own_ne h4 h2 (by decide) e.symm)).trans h2
  have k3 := (g8.block _ (lt_of_block h3) (fun e => own_ne h4 h3 (by decide) e.symm)).trans h3
  have gs : w8.grownBy _ (some V) := gr_set (q := ⟨V, 1, none⟩) (gr_refl w8 (some V)) rfl (.slice (some ⟨g, 0, none⟩) n c)
  exact ⟨(gs.block _ (lt_of_block k1) (by simp; omega)).trans k1, (gs.block _ (lt_of_block k2) (by simp; omega)).trans k2, ⟨_, heap_setCell_same w8 V 1 _ _ _ k3, own_keep ho gs (.inr (own_ne ho k3 (by decide)))⟩, (h5.keep g8 (fun q hq => by have := hlt q hq; omega)).keep gs (fun q e => by cases e; omega), gr_grown (gr_grown h6 g8 hlt) gs (fun q e => by cases e; omega)⟩
theorem RdSt.setVal {g n c : Nat} (h : RdSt wr w mc mt mf V p lw l j A N) (hp : p < w.heap.size) (h3 : wr.heap[V]? = some (.cells #[.int .i64 A, .slice (some ⟨g, 0, none⟩) n c] 56 (0, 0))) (h4 : wr.ownsRow w.heap.size 3 1 (.slice (some ⟨g, 0, none⟩) n c) N.length (ints N)) (hn : N.length = n) (i : Nat) (B : Int) : RdSt (wr.setCell ⟨g, i, none⟩ (.int .i64 B)) w mc mt mf V p lw l j A (N.set i B) := by
  obtain ⟨h1, h2, -, h5, h6⟩ := h
  have hlt := (h4.lt g rfl).1
  have hg1 : some w.heap.size ≠ some g := fun e => own_ne h4 h1 (by decide) e.symm
  have hg2 : some (w.heap.size + 1) ≠ some g := fun e => own_ne h4 h2 (by decide) e.symm
  have hg3 : some V ≠ some g := fun e => own_ne h4 h3 (by decide) e.symm
  have gs : wr.grownBy _ (some g) := gr_set (q := ⟨g, i, none⟩) (gr_refl wr (some g)) rfl (.int .i64 B)
  subst hn
  have hst := (h4.stored i (.int .i64 B)).1
  refine ⟨(gs.block _ (lt_of_block h1) hg1).trans h1, (gs.block _ (lt_of_block h2) hg2).trans h2, ⟨_, (gs.block _ (lt_of_block h3) hg3).trans h3, ?_⟩, h5.keep gs (fun q e => by cases e; omega), gr_grown h6 gs (fun q e => by cases e; omega)⟩
  rw [List.length_set]
  simpa [ints, List.map_set] using hst
end
set_option maxRecDepth 100000 in
set_option maxHeartbeats 4000000 in
theorem reading_any (l : List Int) (k : Nat) (m : Mtr) (p : Nat) (w : World) (hs : StreamAt w p lw l k) (hk : k < 900000000) (hm : -1000 ≤ m.cnt ∧ m.cnt ≤ 1000) (ht : 0 ≤ m.turn ∧ m.turn ≤ 1000001) :
    Calls Try.prog 25 #[.pointer (some ⟨p, 0, none⟩), mtrV m] w (RdPost l k m p lw w) := by
  have hlt := hs.lt
  obtain ⟨dt, hd1⟩ := und_struct (P := Try.prog) (t := 56) (by kernel_rfl)
  have HC : Hid (((rdC m : Nat) : Int) = max (min m.cnt 5) 0) := by show _ = _; unfold rdC; omega
  have HT : Hid (rdT m = max (min m.turn 1000) 1) := rfl
  have hc5 := rdC_le m
  have hT1 : 1 ≤ rdT m := by unfold rdT; omega
  have hT2 : rdT m ≤ 1000 := by unfold rdT; omega
  obtain ⟨C, hCe⟩ : ∃ C, C = rdC m := ⟨_, rfl⟩
  obtain ⟨T, hTe⟩ : ∃ T, T = rdT m := ⟨_, rfl⟩
  rw [← hCe] at HC hc5
  rw [← hTe] at HT hT1 hT2
  have HCE := Lib.hid hCe
  have HTE := Lib.hid hTe
  have HM : Hid (∃ m0, m0 = m) := ⟨m, rfl⟩
  obtain ⟨m0, hm0⟩ := HM.out
  rw [← hm0]
  rw [← hm0] at hm ht HC HT HCE HTE
  obtain ⟨mc, mt, mf⟩ := m0
  have HM0 := Lib.hid hm0
  clear hm0 hCe hTe HM
  unfold mtrV
  simp only at hm ht HC HT ⊢
  obtain ⟨hP, hQ⟩ := heap_2 w (.cells #[.int .i64 mc, .int .i64 mt, .int .i64 mf] 34) (.cells #[.int .i64 0, .slice none 0 0] 56)
  have g2 := gr_alloc (gr_alloc (gr_refl w none) (.cells #[.int .i64 mc, .int .i64 mt, .int .i64 mf] 34)) (.cells #[.int .i64 0, .slice none 0 0] 56)
  obtain ⟨w2, hw2⟩ : ∃ w2, w2 = (w.alloc (.cells #[.int .i64 mc, .int .i64 mt, .int .i64 mf] 34)).alloc (.cells #[.int .i64 0, .slice none 0 0] 56) := ⟨_, rfl⟩
  rw [← hw2] at hP hQ g2
  have hs2 := hs.keep0 g2
  have HP := Lib.hid hP
  have HQ := Lib.hid hQ
  have HG := Lib.hid g2
  have HW := Lib.hid hw2
  have hz2 : w.heap.size + 1 + 1 = w2.heap.size := by rw [hw2]; simp
  have HZ := Lib.hid hz2
  clear hP hQ g2 hw2 hz2 hs
  go_enter Try.func25, Try.ntmps25
  go_wp2_with (fail)
  rw [← HW.out]
  go_wp2_with (fail)
  rw [HZ.out]
  go_fit (pick_any l k [0, 60, 1439, 1440, 3000, 5000, 20000] p w2 hs2 (by omega) (by decide) (by decide))
  rintro e w3 ⟨rfl, hs3, g3⟩
  have hP3 := (g3.block _ (lt_of_block HP.out) (by simp; omega)).trans HP.out
  have hQ3 := (g3.block _ (lt_of_block HQ.out) (by simp; omega)).trans HQ.out
  have g03 := gr_trans (gr_weak HG.out _) g3
  obtain ⟨A, hA⟩ : ∃ A, A = pickM l k [0, 60, 1439, 1440, 3000, 5000, 20000] := ⟨_, rfl⟩
  rw [← hA]
  have HA := Lib.hid hA
  have gV := gr_alloc (gr_refl w3 none) (.cells #[.int .i64 A, .slice none 0 0] 56)
  have hV := heap_alloc_new w3 (.cells #[.int .i64 A, .slice none 0 0] 56)
  have hPV := (gV.block _ (lt_of_block hP3) (by simp)).trans hP3
  obtain ⟨v0, v1, v2, -⟩ := blk3M hPV
  have hsV := hs3.keep0 gV
  have HV := Lib.hid hV
  have HPV := Lib.hid hPV
  have HQV := Lib.hid ((gV.block _ (lt_of_block hQ3) (by simp)).trans hQ3)
  have HGV := Lib.hid (gr_trans g03 (gr_weak gV _))
  obtain ⟨wV, hwV⟩ : ∃ wV, wV = w3.alloc (.cells #[.int .i64 A, .slice none 0 0] 56) := ⟨_, rfl⟩
  obtain ⟨V, hVe⟩ : ∃ V, V = w3.heap.size := ⟨_, rfl⟩
  rw [← hwV] at v0 v1 v2 hsV HV HPV HQV HGV
  rw [← hVe] at HV
  have hVlow : w.heap.size + 1 < V := by have := lt_of_block hQ3; omega
  have HWV := Lib.hid hwV
  have HVE := Lib.hid hVe
  clear hA hs2 g3 hP3 hQ3 hs3 g03 hV hPV gV hwV hVe
  go_upto_region 2 with (fail)
  rw [← HWV.out, ← HVE.out]
  go_cut [13, 14] (fun s c wx => s = .int .i64 C ∧ c = .int .i64 0 ∧ wx = wV)
  case first =>
    go_wp2_with (fail)
    all_goals go_meet
    all_goals exact ⟨by congr 1; have := HC.out; omega, rfl, rfl⟩
  case rest =>
  obtain ⟨rfl, rfl, rfl⟩ := hcut
  have HTI : Hid ((if (if 1000 < mt then 1000 else mt) < 1 then 1 else if 1000 < mt then 1000 else mt) = T) := by
    show _ = _
    have := HT.out
    split <;> (try split) <;> omega
  go_wp2_with (fail)
  go_loopw [14] (fun i wr => ∃ j : Nat, j ≤ C ∧ i = .int .i64 j ∧ RdSt wr w mc mt mf V p lw l (k + 1 + j) A (rdV0 l (k + 1) T j)) (fun i _ => C - (intOf i).toNat)
  case atStart => exact ⟨0, Nat.zero_le _, rfl, ⟨HPV.out, HQV.out, ⟨_, HV.out, World.ownsRow_nil _ _ _ _⟩, hsV, HGV.out⟩⟩
  case round =>
    obtain ⟨j, hj, rfl, ⟨hmb, hrb, ⟨lv, hVr, hlv⟩, hsr, hgr⟩⟩ := hrel
    obtain ⟨wo, rfl⟩ : ∃ wo : World, wo = wr := ⟨_, rfl⟩
    have hNl := rdV0_len l (k + 1) j T
    rw [hNl] at hlv
    obtain ⟨la, lc, rfl, -, -, -, -⟩ := own_shape hlv
    have hzo := hgr.size
    have hVl := lt_of_block hVr
    obtain ⟨d0, d1⟩ := blk2R hVr
    obtain ⟨m0, m1, m2, -⟩ := blk3M hmb
    have NXT := rdV0_next l (k + 1) j T
    obtain ⟨N, hN⟩ : ∃ N, N = rdV0 l (k + 1) T j := ⟨_, rfl⟩
    rw [← hN] at hlv hNl NXT
    have HN := Lib.hid hN
    have HNX := Lib.hid NXT
    have HLV := Lib.hid hlv
    have HVR := Lib.hid hVr
    have HMB := Lib.hid hmb
    have HRB := Lib.hid hrb
    have HNL := Lib.hid hNl
    clear hlv hVr hmb hrb hN NXT hNl
    by_cases hjC : j < C
    · have NX := Lib.hid (fun (W : World) (h : StreamAt W p lw l (k + 1 + j)) => next_any l (k + 1 + j) T p W h (by omega) (by omega))
      obtain ⟨x, hx⟩ : ∃ x, x = nxt l (k + 1 + j) T := ⟨_, rfl⟩
      rw [← hx] at NX
      have HX := Lib.hid hx
      clear hx
      have hgd := gr_drew (gr_refl wo (some p))
      have hsd := hsr.keep0 (gr_drew (gr_refl wo none))
      go_wp2_with (fail)
      go_region_law (first
        | (refine step_app1 eInt rfl _ _ rfl w.heap.size _ j (ints N) rfl w7 _ rfl hlv7 _ rfl rfl rfl rfl ?_ ?_ ?_; (· omega); (· omega); intro v8 w8 hown8 hg8 hlt8 hk8; have hV8 := (hg8.block V hV7l (fun e => own_ne hlv7 hV7 (by decide) e.symm)).trans hV7; obtain ⟨_, e8⟩ := blk2R hV8; have z8 := blkF hV8 1; obtain ⟨g8, c8, rfl, _, _, _, _⟩ := own_some hown8 (by omega))
        | (go_simp; rw [HTI.out]; go_at_call 4; (with_reducible refine (NX.out _ hsd).mono ?_); rintro e w7 ⟨rfl, hs7, hg7'⟩; have hg7 := gr_trans hgd hg7'; have hlv7 := own_keepS HLV.out hg7 hlt; have hV7 := (hg7.block V hVl (by simp; omega)).trans HVR.out; have hV7l := lt_of_block hV7; have hz7 := hg7.size; obtain ⟨_, e7⟩ := blk2R hV7; have hmb7 := (hg7.block _ (lt_of_block HMB.out) (by simp; omega)).trans HMB.out; have hrb7 := (hg7.block _ (lt_of_block HRB.out) (by simp; omega)).trans HRB.out)
        | fail)
      all_goals (go_wp2_with (fail))
      all_goals go_roundw
      all_goals first
        | (simp [intOf]; omega)
        | (have h7 : RdSt w7 w mc mt mf V p lw l (k + 1 + j + 1) A N := ⟨hmb7, hrb7, ⟨_, hV7, by rw [HNL.out]; exact hlv7⟩, hs7, gr_trans hgr hg7⟩
           have h8 := h7.app (M := N ++ [x]) hlt hVlow hV7 (by rw [HNL.out]; exact hlv7) (by rw [List.length_append, HNL.out]; simpa [ints] using hown8) hg8
           refine ⟨j + 1, by omega, by go_num, ?_⟩
           rw [HNX.out, ← HX.out]
           exact h8)
    · obtain rfl : j = C := by omega
      have h5 : RdSt wo w mc mt mf V p lw l (rdK0 k m) A N := by
        have e : rdK0 k m = k + 1 + j := by unfold rdK0; rw [← HM0.out, ← HCE.out]
        rw [e]
        exact ⟨HMB.out, HRB.out, ⟨_, HVR.out, by rw [HNL.out]; exact HLV.out⟩, hsr, hgr⟩
      have hk0 : rdK0 k m ≤ k + 6 := by
        have := rdC_le m
        unfold rdK0; omega
      have HNE : Hid (N = rdV0 l (k + 1) (rdT m) (rdC m)) := by
        show _ = _
        rw [HN.out, HTE.out, HCE.out, HM0.out]
      have hN6 : N.length ≤ 5 := by rw [HNL.out]; omega
      have HH5 := Lib.hid h5
      clear hsr hgr d0 d1 HNX HLV HVR HMB HRB HNL HN h5 HV HPV HQV HGV m0 m1 m2 v0 v1 v2 hsV
      obtain ⟨k0, hk0e⟩ : ∃ k0, k0 = rdK0 k m := ⟨_, rfl⟩
      rw [← hk0e] at HH5 hk0
      have HK0 := Lib.hid hk0e
      clear hk0e
      go_wp2_with (fail)
      go_fit (flip_any l k0 30 p wo HH5.out.str (by omega) (by decide))
      rintro e w5 ⟨rfl, hs5, g5⟩
      have HH6 := Lib.hid (HH5.out.step hlt hVlow g5 hs5)
      obtain ⟨fl, hfl⟩ : ∃ fl, fl = flipM l k0 30 := ⟨_, rfl⟩
      rw [← hfl]
      have E1 : Hid (rdK1 l k m = if fl then k0 + 1 + 1 else k0 + 1) := by show _ = _; unfold rdK1; rw [← HK0.out, ← hfl]
      have E2 : Hid (rdAt l k m = if fl then pickM l (k0 + 1) [-1, 5761440, 5761439] else A) := by show _ = _; unfold rdAt; rw [← HK0.out, ← hfl, HA.out]; rfl
      clear hfl hs5 g5
      go_upto_if 29 with (fail)
      go_cut [] (fun wx => RdSt wx w mc mt mf V p lw l (rdK1 l k m) (rdAt l k m) N)
      case first =>
        cases fl with
        | false =>
          go_wp2_with (fail)
          go_meet
          rw [E1.out, E2.out]
          exact HH6.out
        | true =>
          have PK := pick_any l (k0 + 1) [-1, 5761440, 5761439] p w5 HH6.out.str (by omega) (by decide) (by decide)
          obtain ⟨pk, hpk⟩ : ∃ pk, pk = pickM l (k0 + 1) [-1, 5761440, 5761439] := ⟨_, rfl⟩
          rw [← hpk] at PK E2
          have PK := Lib.hid PK
          clear hpk
          go_wp2_with (fail)
          refine PK.out.mono ?_
          rintro e w7 ⟨rfl, hs7, g7⟩
          have h7 := HH6.out.step hlt hVlow g7 hs7
          obtain ⟨lv7, hV7, -⟩ := h7.ex
          have H7 := Lib.hid h7
          have z0 := blkF hV7 0
          obtain ⟨y0, -⟩ := blk2R hV7
          clear h7 hV7 hs7 g7
          go_wp2_with (fail)
          go_meet
          rw [E1.out, E2.out]
          exact H7.out.setAt hlt hVlow pk
      case rest =>
      obtain ⟨w9, rfl⟩ : ∃ w9 : World, w9 = wc := ⟨_, rfl⟩
      have hk1 : rdK1 l k m ≤ k + 8 := by rw [E1.out]; split <;> omega
      obtain ⟨k1, hk1e⟩ : ∃ k1, k1 = rdK1 l k m := ⟨_, rfl⟩
      obtain ⟨A1, hA1⟩ : ∃ A1, A1 = rdAt l k m := ⟨_, rfl⟩
      rw [← hk1e, ← hA1] at hcut
      rw [← hk1e] at hk1
      have HH9 := Lib.hid hcut
      have HK1 := Lib.hid hk1e
      have HA1 := Lib.hid hA1
      clear hcut hk1e hA1 E1 E2 HH6 HH5 hk0 HK0 HA fl
      go_wp2_with (fail)
      go_fit (flip_any l k1 30 p w9 HH9.out.str (by omega) (by decide))
      rintro e w5 ⟨rfl, hs5, g5⟩
      have HH6 := Lib.hid (HH9.out.step hlt hVlow g5 hs5)
      obtain ⟨fl, hfl⟩ : ∃ fl, fl = flipM l k1 30 := ⟨_, rfl⟩
      rw [← hfl]
      have E1 : Hid (rdK2 l k m = if fl then k1 + 1 + 1 else k1 + 1) := by show _ = _; unfold rdK2; rw [← HK1.out, ← hfl]
      have E2 : Hid (rdV1 l k m = if fl then N ++ [pickM l (k1 + 1) [0, -1]] else N) := by show _ = _; unfold rdV1; rw [← HK1.out, ← hfl, ← HNE.out]
      clear hfl hs5 g5
      go_upto_if 35 with (fail)
      go_cut [] (fun wx => RdSt wx w mc mt mf V p lw l (rdK2 l k m) A1 (rdV1 l k m))
      case first =>
        cases fl with
        | false =>
          go_wp2_with (fail)
          go_meet
          rw [E1.out, E2.out]
          exact HH6.out
        | true =>
          obtain ⟨-, -, ⟨lv, hV5, hlv5⟩, hs5, -⟩ := HH6.out
          obtain ⟨la, lc, rfl, -, -, -, -⟩ := own_shape hlv5
          have PK : Hid (Calls Try.prog 16 #[.pointer (some ⟨p, 0, none⟩), .slice (some ⟨w5.heap.size, 0, none⟩) 2 2] (w5.alloc (.cells #[.int .i64 0, .int .i64 (-1)] 3)).drew fun e w' => e = .returned (.int .i64 (pickM l (k1 + 1) [0, -1])) ∧ StreamAt w' p lw l (k1 + 1 + 1) ∧ w5.drew.grownBy w' (some p)) :=
            pick_any l (k1 + 1) [0, -1] p w5.drew (hs5.keep0 (gr_drew (gr_refl _ _))) (by omega) (by decide) (by decide)
          obtain ⟨pk, hpk⟩ : ∃ pk, pk = pickM l (k1 + 1) [0, -1] := ⟨_, rfl⟩
          rw [← hpk] at PK E2
          have hgd := gr_drew (gr_refl w5 (some p))
          have hVl := lt_of_block hV5
          obtain ⟨d0, d1⟩ := blk2R hV5
          have HV5 := Lib.hid hV5
          have HLV := Lib.hid hlv5
          have hz5 := HH6.out.gr.size
          clear hpk hV5 hlv5 hs5
          go_wp2_with (fail)
          go_region_law (first
            | (refine step_app1 eInt rfl _ _ rfl w.heap.size _ N.length (ints N) rfl w7 _ rfl hlv7 _ rfl rfl rfl rfl ?_ ?_ ?_; (· omega); (· omega); intro v8 w8 hown8 hg8 hlt8 hk8; have hV8 := (hg8.block V hV7l (fun e => own_ne hlv7 hV7 (by decide) e.symm)).trans hV7; obtain ⟨_, e8⟩ := blk2R hV8; have z8 := blkF hV8 1; obtain ⟨g8, c8, rfl, _, _, _, _⟩ := own_some hown8 (by omega))
            | (go_simp; go_at_call 16; (with_reducible refine PK.out.mono ?_); rintro e w7 ⟨rfl, hs7, hg7'⟩; have hg7 := gr_trans hgd hg7'; have hlv7 := own_keepS HLV.out hg7 hlt; have hV7 := (hg7.block V hVl (by simp; omega)).trans HV5.out; have hV7l := lt_of_block hV7; have hz7 := hg7.size; obtain ⟨_, e7⟩ := blk2R hV7; have h7 := HH6.out.step hlt hVlow hg7 hs7)
            | fail)
          all_goals (go_wp2_with (fail))
          all_goals go_meet
          all_goals
            have h8 := h7.app (M := N ++ [pk]) hlt hVlow hV7 hlv7 (by rw [List.length_append]; simpa [ints] using hown8) hg8
            rw [E1.out, E2.out]
            exact h8
      case rest =>
      obtain ⟨wb, rfl⟩ : ∃ wb : World, wb = wc := ⟨_, rfl⟩
      have hk2 : rdK2 l k m ≤ k + 10 := by rw [E1.out]; split <;> omega
      have hV1l : (rdV1 l k m).length ≤ 6 := by
        rw [E2.out]
        split
        · rw [List.length_append]; simp; omega
        · omega
      obtain ⟨k2, hk2e⟩ : ∃ k2, k2 = rdK2 l k m := ⟨_, rfl⟩
      obtain ⟨M, hM⟩ : ∃ M, M = rdV1 l k m := ⟨_, rfl⟩
      rw [← hk2e, ← hM] at hcut
      rw [← hk2e] at hk2
      rw [← hM] at hV1l
      have HH9 := Lib.hid hcut
      have HK2 := Lib.hid hk2e
      have HM := Lib.hid hM
      clear hcut hk2e hM E1 E2 HH6 hk1 HK1 fl HNE hN6
      go_upto_region 10 with (fail)
      go_cut [51] (fun s wx => s = .bool (flipM l k2 30 && decide (0 < M.length)) ∧ RdSt wx w mc mt mf V p lw l (k2 + 1) A1 M)
      case first =>
        go_wp2_with (fail)
        go_fit (flip_any l k2 30 p wb HH9.out.str (by omega) (by decide))
        rintro e w5 ⟨rfl, hs5, g5⟩
        have h6 := HH9.out.step hlt hVlow g5 hs5
        obtain ⟨-, -, ⟨lv, hV5, hlv5⟩, -, -⟩ := h6
        have HH6 := Lib.hid (HH9.out.step hlt hVlow g5 hs5)
        obtain ⟨la, lc, rfl, -, -, -, -⟩ := own_shape hlv5
        obtain ⟨d0, d1⟩ := blk2R hV5
        obtain ⟨fl, hfl⟩ : ∃ fl, fl = flipM l k2 30 := ⟨_, rfl⟩
        rw [← hfl]
        have HFL := Lib.hid hfl
        clear hfl hs5 g5 hV5 hlv5
        cases fl with
        | false =>
          go_wp2_with (fail)
          go_meet
          exact ⟨by rw [← HFL.out]; rfl, HH6.out⟩
        | true =>
          go_wp2_with (fail)
          go_meet
          exact ⟨by rw [← HFL.out]; simp, HH6.out⟩
      case rest =>
      obtain ⟨rfl, hcut⟩ := hcut
      obtain ⟨wd, rfl⟩ : ∃ wd : World, wd = wc := ⟨_, rfl⟩
      have E1 : Hid (rdK3 l k m = if flipM l k2 30 && decide (0 < M.length) then k2 + 1 + 1 else k2 + 1) := by show _ = _; unfold rdK3; rw [← HK2.out, ← HM.out]
      have E2 : Hid (rdV2 l k m = if flipM l k2 30 && decide (0 < M.length) then M.set 0 (pickM l (k2 + 1) [-1, mt, 999999, 1000000]) else M) := by show _ = _; unfold rdV2; rw [← HK2.out, ← HM.out, ← HM0.out]
      have E3 : Hid ((flipM l k2 30 && decide (0 < M.length)) = true → 0 < M.length) := by show _ → _; simp
      obtain ⟨b, hb⟩ : ∃ b, b = (flipM l k2 30 && decide (0 < M.length)) := ⟨_, rfl⟩
      rw [← hb] at E1 E2 E3
      rw [← hb]
      have HH6 := Lib.hid hcut
      clear hb hcut HH9
      go_upto_if 51 with (fail)
      go_cut [] (fun wx => RdSt wx w mc mt mf V p lw l (rdK3 l k m) A1 (rdV2 l k m))
      case first =>
        cases b with
        | false =>
          go_wp2_with (fail)
          go_meet
          rw [E1.out, E2.out]
          exact HH6.out
        | true =>
          have hM0 := E3.out rfl
          obtain ⟨hmb, -, ⟨lv, hV5, hlv5⟩, hs5, -⟩ := HH6.out
          obtain ⟨g, gc, rfl, -, -, -, -⟩ := own_some hlv5 hM0
          have PK : Hid (Calls Try.prog 16 #[.pointer (some ⟨p, 0, none⟩), .slice (some ⟨wd.heap.size, 0, none⟩) 4 4] (wd.alloc (.cells #[.int .i64 (-1), .int .i64 mt, .int .i64 999999, .int .i64 1000000] 3)).drew fun e w' => e = .returned (.int .i64 (pickM l (k2 + 1) [-1, mt, 999999, 1000000])) ∧ StreamAt w' p lw l (k2 + 1 + 1) ∧ wd.drew.grownBy w' (some p)) :=
            pick_any l (k2 + 1) [-1, mt, 999999, 1000000] p wd.drew (hs5.keep0 (gr_drew (gr_refl _ _))) (by omega) (by simp) (by simp)
          obtain ⟨pk, hpk⟩ : ∃ pk, pk = pickM l (k2 + 1) [-1, mt, 999999, 1000000] := ⟨_, rfl⟩
          rw [← hpk] at PK E2
          have hgd := gr_drew (gr_refl wd (some p))
          have hVl := lt_of_block hV5
          obtain ⟨d0, d1⟩ := blk2R hV5
          obtain ⟨m0, m1, m2, -⟩ := blk3M hmb
          have HV5 := Lib.hid hV5
          have HLV := Lib.hid hlv5
          clear hpk hV5 hlv5 hs5 hmb
          go_wp2_with (fail)
          go_region_law (first
            | (go_simp; go_at_call 16; (with_reducible refine PK.out.mono ?_); rintro e w7 ⟨rfl, hs7, hg7'⟩; have hg7 := gr_trans hgd hg7'; have hlv7 := own_keepS HLV.out hg7 hlt; have hV7 := (hg7.block V hVl (by simp; omega)).trans HV5.out; obtain ⟨_, e7⟩ := blk2R hV7; have z7 := hlv7.frozenAt 0; have c7 : w7.cell? ⟨g, 0, none⟩ = some (.int .i64 (M.getD 0 0)) := by { rw [hlv7.cellAt 0 (by omega)]; exact ints_get M 0 hM0 }; have h7 := HH6.out.step hlt hVlow hg7 hs7)
            | fail)
          all_goals (go_wp2_with (fail))
          all_goals go_meet
          all_goals
            rw [E1.out, E2.out]
            exact h7.setVal hlt hV7 hlv7 rfl 0 pk
      case rest =>
      obtain ⟨we, rfl⟩ : ∃ we : World, we = wc := ⟨_, rfl⟩
      obtain ⟨-, hrb, ⟨lv, hV5, hlv5⟩, hs5, hg5⟩ := hcut
      have HEQ : Hid (rdOne l k m = ⟨A1, rdV2 l k m⟩) := by show _ = _; unfold rdOne; rw [← HA1.out]
      obtain ⟨X, hX⟩ : ∃ X, X = rdV2 l k m := ⟨_, rfl⟩
      rw [← hX] at hlv5 HEQ
      obtain ⟨la, lc, rfl, -, -, -, -⟩ := own_shape hlv5
      obtain ⟨d0, d1⟩ := blk2R hV5
      obtain ⟨r0, r1⟩ := blk2R hrb
      have z0 := blkF hrb 0
      have z1 := blkF hrb 1
      have HRB := Lib.hid hrb
      have HLV := Lib.hid hlv5
      clear hrb hV5 hlv5 hX E1 E2 E3 HH6
      go_wp2_with (fail)
      have gs := set2_gr we (w.heap.size + 1) (.int .i64 A1) (.slice la X.length lc)
      refine bodyPost_ret (results_cell_row (p := 4) (by kernel_rfl) _ _ (w.heap.size + 1) _ #[.int .i64 A1, .slice la X.length lc] _ (.struct dt) rfl (set2_heap HRB.out _ _) hd1 rfl (by kernel_rfl)) rfl ⟨la, lc, ?_, ?_, ?_, ?_⟩
      · rw [HM0.out, HEQ.out]
      · rw [HM0.out, HEQ.out]
        exact own_keep HLV.out gs (.inr (own_ne HLV.out HRB.out (by decide)))
      · rw [HM0.out]; exact hs5.keep gs (fun q e => by cases e; omega)
      · exact gr_grown hg5 gs (fun q e => by cases e; omega)
end Go.Proofs.Ytjhfglhoiplfmaa

/-! Readings, as the stream makes them: the walk. -/
namespace Go.Proofs.Ytjhfglhoiplfmaa
open Go.RowKit
variable {lw : Nat}
attribute [local go_sem ↓] Go.wp_at_zero Go.wp_at_succ

def RdsPost (l : List Int) (k : Nat) (m : Mtr) (right : Bool) (p lw : Nat) (w : World) (e : Ending) (w' : World) : Prop :=
  ∃ v L, e = .returned v ∧ Rds w' w.heap.size v L ∧ rdsG L = rdsM l k m right ∧ StreamAt w' p lw l (rdsK l k m right) ∧ w.grownBy w' (some p)
structure RdsInv (wr w : World) (mc mt mf : Int) (p lw : Nat) (l : List Int) (j : Nat) (N : List Int) (nb C B : Nat) (v : Value) (L : List RdG) : Prop where
  mb : wr.heap[w.heap.size]? = some (.cells #[.int .i64 mc, .int .i64 mt, .int .i64 mf] 34 (0, 0))
  now : wr.ownsRow w.heap.size 3 1 (.slice (some ⟨nb, 0, none⟩) C C) C (ints N)
  str : StreamAt wr p lw l j
  rds : Rds wr B v L
  gr : w.grownBy wr (some p)
  zB : B ≤ wr.heap.size
section
variable {wr w w1 : World} {mc mt mf : Int} {p lw j nb C B : Nat} {l : List Int} {N : List Int} {v : Value} {L : List RdG}
theorem RdsInv.call (h : RdsInv wr w mc mt mf p lw l j N nb C B v L) (hp : p < w.heap.size) (hB : w.heap.size < B) {j1 : Nat} (g : wr.grownBy w1 (some p)) (hs : StreamAt w1 p lw l j1) : RdsInv w1 w mc mt mf p lw l j1 N nb C B v L :=
  ⟨(g.block _ (lt_of_block h.mb) (by simp; omega)).trans h.mb, own_keepS h.now g hp, hs, h.rds.keepS g (by omega), gr_trans h.gr g, Nat.le_trans h.zB g.size⟩
theorem RdsInv.keep0 (h : RdsInv wr w mc mt mf p lw l j N nb C B v L) (g : wr.grownBy w1 none) : RdsInv w1 w mc mt mf p lw l j N nb C B v L :=
  ⟨(g.block _ (lt_of_block h.mb) (by simp)).trans h.mb, own_keep0 h.now g, h.str.keep0 g, h.rds.keep0 g, gr_trans h.gr (gr_weak g _), Nat.le_trans h.zB g.size⟩
theorem RdsInv.setNow (h : RdsInv wr w mc mt mf p lw l j N nb C B v L) (hp : p < w.heap.size) (hnb : w.heap.size < nb) (hB : nb < B) (i : Nat) (x : Int) : RdsInv (wr.setCell ⟨nb, i, none⟩ (.int .i64 x)) w mc mt mf p lw l j (N.set i x) nb C B v L := by
  have gs : wr.grownBy _ (some nb) := gr_set (q := ⟨nb, i, none⟩) (gr_refl wr (some nb)) rfl (.int .i64 x)
  refine ⟨(gs.block _ (lt_of_block h.mb) (by simp; omega)).trans h.mb, ?_, h.str.keep gs (fun q e => by cases e; omega), h.rds.keepS gs hB, gr_grown h.gr gs (fun q e => by cases e; omega), Nat.le_trans h.zB gs.size⟩
  have hst := (h.now.stored i (.int .i64 x)).1
  rw [ints_set] at hst
  exact hst
theorem RdsInv.push {w9 : World} {v9 : Value} {x : RdG} (h : RdsInv wr w mc mt mf p lw l j N nb C B v L) (hp : p < w.heap.size) (hB : w.heap.size < B) (hx : wr.ownsRow B 3 1 (.slice x.a x.rd.vs.length x.c) x.rd.vs.length (ints x.rd.vs)) (ho : w9.ownsRow B 56 2 v9 (L.length + 1) (cellsG L ++ encC x.cell)) (g : wr.grownBy w9 v.ownBlock) : RdsInv w9 w mc mt mf p lw l j N nb C B v9 (L ++ [x]) := by
  have hlt : ∀ q, v.ownBlock = some q → B ≤ q := fun q hq => (h.rds.row.lt q hq).1
  exact ⟨(g.block _ (lt_of_block h.mb) (fun e => own_ne h.rds.row h.mb (by decide) e.symm)).trans h.mb, own_keepU h.now h.rds.row (by decide) g, h.str.keep g (fun q hq => by have := hlt q hq; omega), h.rds.push hx ho g, gr_grown h.gr g (fun q hq => by have := hlt q hq; omega), Nat.le_trans h.zB g.size⟩
end
set_option maxRecDepth 100000 in
set_option maxHeartbeats 8000000 in
theorem readings_any (l : List Int) (k : Nat) (m : Mtr) (right : Bool) (hri : right = true ↔ MtrOk m) (p : Nat) (w : World) (hs : StreamAt w p lw l k) (hk : k < 800000000) (hm : -1000 ≤ m.cnt ∧ m.cnt ≤ 1000) (ht : 0 ≤ m.turn ∧ m.turn ≤ 1000001) :
    Calls Try.prog 10 #[.pointer (some ⟨p, 0, none⟩), mtrV m] w (RdsPost l k m right p lw w) := by
  have hlt := hs.lt
  have MF := Lib.hid (fun W => meterFault_any m W (by omega))
  have RD := Lib.hid (fun (j : Nat) (W : World) (h : StreamAt W p lw l j) (hj : j < 900000000) => reading_any l j m p W h hj hm ht)
  have HRI := Lib.hid hri
  have HM : Hid (∃ m0, m0 = m) := ⟨m, rfl⟩
  obtain ⟨m0, hm0⟩ := HM.out
  rw [← hm0] at MF RD ⊢
  rw [← hm0] at hm ht HRI
  have HOKM : Hid (MtrOk m0 → 1 ≤ m0.cnt ∧ m0.cnt ≤ 60 ∧ 10 ≤ m0.turn ∧ m0.turn ≤ 1000000 ∧ 1 ≤ m0.fast ∧ m0.fast ≤ 1000000) := fun h => ⟨h.c1, h.c2, h.t1, h.t2, h.f1, by have := h.f2; have := h.t2; omega⟩
  obtain ⟨mc, mt, mf⟩ := m0
  clear hm0 HM hri m
  unfold mtrV at MF RD ⊢
  dsimp only at hm ht HOKM MF RD ⊢
  obtain ⟨m, hme⟩ : ∃ m : Mtr, m = ⟨mc, mt, mf⟩ := ⟨_, rfl⟩
  have HME := Lib.hid hme
  rw [← hme] at MF RD HRI HOKM ⊢
  clear hme
  have hP := heap_alloc_new w (.cells #[.int .i64 mc, .int .i64 mt, .int .i64 mf] 34)
  have g1 := gr_alloc (gr_refl w none) (.cells #[.int .i64 mc, .int .i64 mt, .int .i64 mf] 34)
  obtain ⟨w1, hw1⟩ : ∃ w1, w1 = w.alloc (.cells #[.int .i64 mc, .int .i64 mt, .int .i64 mf] 34) := ⟨_, rfl⟩
  rw [← hw1] at hP g1
  have hs1 := hs.keep0 g1
  have HW := Lib.hid hw1
  have HP := Lib.hid hP
  have HG := Lib.hid g1
  have hz1 := lt_of_block hP
  clear hw1 hP g1 hs
  go_enter Try.func10, Try.ntmps10
  go_upto_region 1 with (fail)
  rw [← HW.out]
  go_cut [19] (fun s wx => s = .bool (if right = true then flipM l k 6 else true) ∧ StreamAt wx p lw l (if right = true then k + 1 else k) ∧ wx.heap[w.heap.size]? = some (.cells #[.int .i64 mc, .int .i64 mt, .int .i64 mf] 34 (0, 0)) ∧ w.grownBy wx (some p))
  case first =>
    obtain ⟨q0, q1, q2, -⟩ := blk3M HP.out
    go_wp2_with (fail)
    refine (MF.out w1).mono ?_
    rintro e w2 ⟨r, rfl, hr, g2⟩
    have hs2 := hs1.keep0 g2
    have HP2 := Lib.hid ((g2.block _ (lt_of_block HP.out) (by simp)).trans HP.out)
    have HG2 := Lib.hid (gr_trans HG.out g2)
    have hrr : (right = true ∧ r = 0) ∨ (right = false ∧ r = 1) := by
      rcases hr with ⟨h1, h2⟩ | ⟨h1, h2⟩
      · exact .inl ⟨HRI.out.2 h2, h1⟩
      · cases right with
        | false => exact .inr ⟨rfl, h1⟩
        | true => exact absurd (HRI.out.1 rfl) h2
    clear hr g2 hs1 q0 q1 q2
    rcases hrr with ⟨rfl, rfl⟩ | ⟨rfl, rfl⟩
    · go_wp2_with (fail)
      go_fit (flip_any l k 6 p w2 hs2 (by omega) (by decide))
      rintro e w3 ⟨rfl, hs3, g3⟩
      have HP3 := Lib.hid ((g3.block _ (lt_of_block HP2.out) (by simp; omega)).trans HP2.out)
      have HG3 := Lib.hid (gr_trans (gr_weak HG2.out _) g3)
      obtain ⟨fl, hfl⟩ : ∃ fl, fl = flipM l k 6 := ⟨_, rfl⟩
      rw [← hfl]
      have HFL := Lib.hid hfl
      clear hfl g3
      go_wp2_with (fail)
      go_meet
      exact ⟨by rw [HFL.out]; rfl, hs3, HP3.out, HG3.out⟩
    · go_wp2_with (fail)
      go_meet
      exact ⟨rfl, hs2, HP2.out, gr_weak HG2.out _⟩
  case rest =>
  obtain ⟨rfl, hs2, hP2, hg2⟩ := hcut
  obtain ⟨w2, rfl⟩ : ∃ w2 : World, w2 = wc := ⟨_, rfl⟩
  have HP2 := Lib.hid hP2
  obtain ⟨kk, hkk⟩ : ∃ kk, kk = if right = true then k + 1 else k := ⟨_, rfl⟩
  have hkk1 : kk ≤ k + 1 := by rw [hkk]; split <;> omega
  have HKK := Lib.hid hkk
  obtain ⟨b, hb⟩ : ∃ b, b = if right = true then flipM l k 6 else true := ⟨_, rfl⟩
  have HB := Lib.hid hb
  rw [← hkk] at hs2
  rw [← hb]
  clear hkk hb hs1 HP HG HW hP2
  cases b with
  | true =>
    have HAE : Hid (rdsM l k m right = (rdsATo l (kk + 1) m (nxt l kk 4).toNat).1 ∧ rdsK l k m right = (rdsATo l (kk + 1) m (nxt l kk 4).toNat).2) := by
      show _ ∧ _
      have hb := HB.out
      have hk := HKK.out
      unfold rdsM rdsK
      cases right with
      | true => simp only [if_true] at hb hk ⊢; rw [← hb, hk]; exact ⟨rfl, rfl⟩
      | false => simp only [Bool.false_eq_true, if_false] at hk ⊢; rw [hk]; exact ⟨rfl, rfl⟩
    go_wp2_with (fail)
    go_fit (next_any l kk 4 p w2 hs2 (by omega) (by decide))
    rintro e w3 ⟨rfl, hs3, g3⟩
    have hr := nxt_range l kk 4 (by decide)
    obtain ⟨n, hn⟩ : ∃ n, n = (nxt l kk 4).toNat := ⟨_, rfl⟩
    have hne : nxt l kk 4 = (n : Int) := by omega
    rw [← hn] at HAE
    rw [hne] at hr ⊢
    have hn4 : n ≤ 3 := by omega
    have HP3 := Lib.hid ((g3.block _ (lt_of_block HP2.out) (by simp; omega)).trans HP2.out)
    have hg3 := gr_trans hg2 g3
    clear hn hne hr hs2 hg2 g3
    go_wp2_with (fail)
    go_loopw [5, 22] (fun v c wr => ∃ (i : Nat) (L : List RdG), i ≤ n ∧ c = .int .i64 i ∧ Rds wr w.heap.size v L ∧ Hid (rdsG L = (rdsATo l (kk + 1) m i).1) ∧ StreamAt wr p lw l (rdsATo l (kk + 1) m i).2 ∧ wr.heap[w.heap.size]? = some (.cells #[.int .i64 mc, .int .i64 mt, .int .i64 mf] 34 (0, 0)) ∧ w.grownBy wr (some p)) (fun _ c _ => n - (intOf c).toNat)
    case atStart => exact ⟨0, [], Nat.zero_le _, rfl, Rds.nil _ _, rfl, hs3, HP3.out, hg3⟩
    case round =>
      clear hs3 hg3
      obtain ⟨i, L, hi, rfl, hrd, HL, hsr, hpb, hgr⟩ := hrel
      obtain ⟨wo, rfl⟩ : ∃ wo : World, wo = wr := ⟨_, rfl⟩
      have HRD := Lib.hid hrd
      by_cases hin : i < n
      · have hj := rdsATo_j l (kk + 1) m i
        have hj2 := rdK3_le l (rdsATo l (kk + 1) m i).2 m
        have hll : L.length = i := by have := congrArg List.length HL.out; rw [rdsG_len, rdsATo_len] at this; exact this
        have hl4 : L.length ≤ 4 := by omega
        have HNX : Hid ((rdsATo l (kk + 1) m (i + 1)).1 = (rdsATo l (kk + 1) m i).1 ++ [rdOne l (rdsATo l (kk + 1) m i).2 m] ∧ (rdsATo l (kk + 1) m (i + 1)).2 = rdK3 l (rdsATo l (kk + 1) m i).2 m) := ⟨rfl, rfl⟩
        obtain ⟨j, hje⟩ : ∃ j, j = (rdsATo l (kk + 1) m i).2 := ⟨_, rfl⟩
        rw [← hje] at hsr hj HNX
        have hRD := RD.out j wo hsr (by omega)
        obtain ⟨X, hX⟩ : ∃ X, X = rdOne l j m := ⟨_, rfl⟩
        unfold RdPost at hRD
        rw [← hX] at hRD HNX
        have HRDG := Lib.hid hRD
        obtain ⟨m0, m1, m2, -⟩ := blk3M hpb
        have HPB := Lib.hid hpb
        have hzw := hgr.size
        clear hje hX hRD hsr hrd hll hj2 hpb
        go_wp2_with (fail)
        refine HRDG.out.mono ?_
        rintro e w5 ⟨xa, xc, rfl, hx5, hs5, g5⟩
        have h5 := HRD.out.keepS g5 hlt
        have HR5 := Lib.hid h5
        have HX5 := Lib.hid (own_base hx5 hzw)
        have hpb5 := (g5.block _ (lt_of_block HPB.out) (by simp; omega)).trans HPB.out
        have hgr5 := gr_trans hgr g5
        have hz5 := hgr5.size
        clear hx5 h5 g5 m0 m1 m2
        go_wp2_with (at_builtin; refine wpList_app1F eRd rfl _ _ rfl w.heap.size _ L.length (cellsG L) rfl w5 #[.int .i64 X.at_, .slice xa X.vs.length xc] rfl HR5.out.row _ rfl rfl rfl rfl (by omega) (by omega) ?_; intro v9 w9 hown9 hg9 hlt9 hf9)
        have hr9 := HR5.out.push (x := ⟨X, xa, xc⟩) HX5.out hown9 hg9
        have hs9 := hs5.keep hg9 (fun q hq => by have := hlt9 q hq; omega)
        have hpb9 := (hg9.block _ (lt_of_block hpb5) (fun e => own_ne HR5.out.row hpb5 (by decide) e.symm)).trans hpb5
        have hgr9 := gr_grown hgr5 hg9 (fun q hq => hlt9 q hq)
        clear hown9 hg9 hlt9 hf9
        go_wp2_with (fail)
        go_roundw
        case rel =>
          refine ⟨i + 1, L ++ [⟨X, xa, xc⟩], by omega, by go_num, hr9, ?_, ?_, hpb9, hgr9⟩
          · show _ = _
            rw [rdsG_app, HNX.out.1, ← HL.out]
          · rw [HNX.out.2]; exact hs9
        case measure => simp [intOf]; omega
      · obtain rfl : i = n := by omega
        clear hrd
        go_wp2_with (fail)
        go_ret
        exact ⟨_, L, rfl, HRD.out, by rw [HL.out, HAE.out.1], by rw [HAE.out.2]; exact hsr, hgr⟩
  | false =>
    have hright : right = true := by
      have := HB.out
      cases right with
      | true => rfl
      | false => simp at this
    subst hright
    have hkk : kk = k + 1 := HKK.out
    have hokm := HRI.out.1 rfl
    obtain ⟨c1, c2, t1, t2, f1, f2⟩ := HOKM.out hokm
    have HOK := Lib.hid hokm
    have HBE : Hid (rdsM l k m true = mixM (ordM l (rdsMoreJ l (rdsB l kk m)) (rdsMore l (rdsB l kk m)).length) (rdsMore l (rdsB l kk m)) ∧ rdsK l k m true = rdsMoreJ l (rdsB l kk m) + ((rdsMore l (rdsB l kk m)).length - 1)) := by
      show _ ∧ _
      have hb := HB.out
      simp only [if_true] at hb
      unfold rdsM rdsK
      simp only [if_true]
      rw [← hb, hkk]
      exact ⟨rfl, rfl⟩
    have hcnt : ((mc.toNat : Nat) : Int) = mc := by omega
    obtain ⟨C, hC⟩ : ∃ C, C = mc.toNat := ⟨_, rfl⟩
    rw [← hC] at hcnt
    have hC1 : 1 ≤ C := by omega
    have hC2 : C ≤ 60 := by omega
    have HC : Hid (m.cnt.toNat = C) := by show _ = _; rw [HME.out, hC]
    have HTU : Hid (m.turn = mt) := by show _ = _; rw [HME.out]
    have HNP : Hid (nowPick m = [0, 1, 3, mf, 2 * mf, 40]) := by show _ = _; rw [HME.out]; rfl
    subst hcnt
    clear hC hokm HB HKK hkk HRI HOKM RD MF
    obtain ⟨q0, q1, q2, -⟩ := blk3M HP2.out
    go_wp2_with (refine wpList_mk w2 eInt rfl _ _ rfl w2.heap.size (C : Int) C rfl rfl rfl (by omega) (Nat.le_refl _) ?_)
    intro w3 ho3 g3
    have hP3 := (g3.block _ (lt_of_block HP2.out) (by simp)).trans HP2.out
    have hs3 := hs2.keep0 g3
    have hg3 := gr_trans hg2 (gr_weak g3 _)
    have hz3 := (ho3.lt _ rfl).2
    have hz2 := lt_of_block HP2.out
    obtain ⟨nb, hnb⟩ : ∃ nb, nb = w2.heap.size := ⟨_, rfl⟩
    rw [← hnb] at ho3 hz3
    rw [← hnb]
    have ho3 := own_base ho3 (show w.heap.size ≤ nb by omega)
    have hnbw : w.heap.size < nb := by omega
    clear hg2 g3 hs2 hz2 q0 q1 q2 hnb
    go_wp2_with (fail)
    go_fit (next_any l kk 2000 p w3 hs3 (by omega) (by decide))
    rintro e w4 ⟨rfl, hs4, g4⟩
    have hP4 := (g4.block _ (lt_of_block hP3) (by simp; omega)).trans hP3
    have ho4 := own_keepS ho3 g4 hlt
    have hg4 := gr_trans hg3 g4
    have hz4 := g4.size
    obtain ⟨A0, hA0⟩ : ∃ A0, A0 = nxt l kk 2000 := ⟨_, rfl⟩
    rw [← hA0]
    have HA0 := Lib.hid hA0
    clear hs3 hP3 ho3 hg3 g4 hA0
    go_wp2_with (fail)
    go_fit (next_any l (kk + 1) 6 p w4 hs4 (by omega) (by decide))
    rintro e w5 ⟨rfl, hs5, g5⟩
    have hP5 := (g5.block _ (lt_of_block hP4) (by simp; omega)).trans hP4
    have ho5 := own_keepS ho4 g5 hlt
    have hg5 := gr_trans hg4 g5
    have hz5 := g5.size
    obtain ⟨hn5, hn6⟩ := rdsN_le l kk
    rw [← hn6]
    have HIN : Hid (∀ i, RdsOk m kk i (rdsBTo l kk m i)) := fun i => rdsBTo_ok l kk m HOK.out i
    obtain ⟨n, hn⟩ : ∃ n, n = rdsN l kk := ⟨_, rfl⟩
    rw [← hn] at hn5
    rw [← hn]
    have HN := Lib.hid hn
    have hnB : nb < w3.heap.size := hz3
    have hBw : w3.heap.size ≤ w5.heap.size := by omega
    obtain ⟨B, hB⟩ : ∃ B, B = w3.heap.size := ⟨_, rfl⟩
    rw [← hB] at hnB hBw
    have hwB : w.heap.size < B := by omega
    have hI0 : RdsInv w5 w C mt mf p lw l (kk + 1 + 1) (List.replicate C 0) nb C B (.slice none 0 0) [] := ⟨hP5, ho5, hs5, Rds.nil _ _, hg5, hBw⟩
    have HI0 := Lib.hid hI0
    clear hP5 ho5 hg5 g5 hs5 hP4 ho4 hg4 hs4 hz3 hz4 hz5 hn hB hn6 hI0 HP2
    go_wp2_with (fail)
    go_loopw [7, 8, 39] (fun at_ v c wr => ∃ (i : Nat) (L : List RdG) (gv : Value), gv = v ∧ i ≤ n ∧ c = .int .i64 i ∧ (∃ A1 : Int, at_ = .int .i64 A1 ∧ Hid (A1 = (rdsBTo l kk m i).at_)) ∧ Hid (rdsG L = (rdsBTo l kk m i).out) ∧ RdsInv wr w C mt mf p lw l (rdsBTo l kk m i).j (rdsBTo l kk m i).now nb C B gv L) (fun _ _ c _ => n - (intOf c).toNat)
    case atStart =>
      refine ⟨0, [], _, rfl, Nat.zero_le _, rfl, ⟨A0, rfl, HA0.out⟩, rfl, ?_⟩
      have e : (rdsBTo l kk m 0).now = List.replicate C 0 := by simp only [rdsBTo]; rw [HC.out]
      rw [e]
      exact HI0.out
    case round =>
      obtain ⟨i, L, v, rfl, hi, rfl, ⟨A1, rfl, HA1⟩, HL, hI⟩ := hrel
      obtain ⟨wo, rfl⟩ : ∃ wo : World, wo = wr := ⟨_, rfl⟩
      have hok := HIN.out i
      have HNX : Hid (rdsBTo l kk m (i + 1) = rdsStep l m (rdsBTo l kk m i)) := rfl
      obtain ⟨s, hs⟩ : ∃ s, s = rdsBTo l kk m i := ⟨_, rfl⟩
      rw [← hs] at HL hI hok HNX HA1
      have HS := Lib.hid hs
      clear hs HI0
      obtain ⟨out, N, A, j⟩ := s
      obtain ⟨h1, h2, h3, h4, h5, h6, h7, h8⟩ := hok
      simp only at h1 h2 h3 h4 h5 h6 h7 h8 HL hI HA1
      obtain rfl : A1 = A := HA1.out
      rw [HC.out] at h2
      rw [HTU.out] at h3
      have hll : L.length = i := by have := congrArg List.length HL.out; rw [rdsG_len, h1] at this; exact this
      have hl6 : L.length ≤ 6 := by omega
      have hjb : j ≤ k + 400 := by omega
      have HNL := Lib.hid h2
      have HIT := Lib.hid h3
      have HLL := Lib.hid hll
      have hI := Lib.hid hI
      clear h1 h2 h3 h6 h7 h8 hll
      by_cases hin : i < n
      · go_wp2_with (fail)
        go_loopw [43] (fun c wr => ∃ t : Nat, t ≤ C ∧ c = .int .i64 t ∧ RdsInv wr w C mt mf p lw l (j + t) (nowTo l j m N t) nb C B v L) (fun c _ => C - (intOf c).toNat)
        case atStart => exact ⟨0, Nat.zero_le _, rfl, hI.out⟩
        case round =>
          obtain ⟨t, ht, rfl, hJ⟩ := hrel
          obtain ⟨wi, rfl⟩ : ∃ wi : World, wi = wr := ⟨_, rfl⟩
          have hnl := nowTo_len l j m N t
          rw [HNL.out] at hnl
          have hit := nowTo_in l j m (by rw [HTU.out]; omega) N (by rw [HTU.out]; exact HIT.out) t
          rw [HTU.out] at hit
          have HN2 : Hid (nowTo l j m N (t + 1) = (nowTo l j m N t).set t (((nowTo l j m N t).getD t 0 + pickM l (j + t) [0, 1, 3, mf, 2 * mf, 40]) % mt)) := by show _ = _; simp only [nowTo]; rw [HNP.out, HTU.out]
          obtain ⟨M, hM⟩ : ∃ M, M = nowTo l j m N t := ⟨_, rfl⟩
          rw [← hM] at hJ hnl hit HN2
          have HM := Lib.hid hM
          have HML := Lib.hid hnl
          clear hM
          by_cases htC : t < C
          · have hmem := hit _ (List.getElem_mem (show t < M.length by omega))
            rw [← getD_eq M t 0 (by omega)] at hmem
            have c7w := hJ.now.cellAt t (by omega)
            rw [ints_get M t (by omega)] at c7w
            have z7w := hJ.now.frozenAt t
            have hpm := pickM_mem l (j + t) [0, 1, 3, mf, 2 * mf, 40] (by simp)
            simp only [List.mem_cons, List.not_mem_nil, or_false] at hpm
            have PK : Hid (Calls Try.prog 16 #[.pointer (some ⟨p, 0, none⟩), .slice (some ⟨wi.heap.size, 0, none⟩) 6 6] (wi.alloc (.cells #[.int .i64 0, .int .i64 1, .int .i64 3, .int .i64 mf, .int .i64 (2 * mf), .int .i64 40] 3)).drew fun e w' => e = .returned (.int .i64 (pickM l (j + t) [0, 1, 3, mf, 2 * mf, 40])) ∧ StreamAt w' p lw l (j + t + 1) ∧ wi.drew.grownBy w' (some p)) :=
              pick_any l (j + t) [0, 1, 3, mf, 2 * mf, 40] p wi.drew (hJ.str.keep0 (gr_drew (gr_refl _ _))) (by omega) (by simp) (by simp)
            obtain ⟨x, hx⟩ : ∃ x, x = M.getD t 0 := ⟨_, rfl⟩
            obtain ⟨pk, hpk⟩ : ∃ pk, pk = pickM l (j + t) [0, 1, 3, mf, 2 * mf, 40] := ⟨_, rfl⟩
            rw [← hx] at hmem c7w HN2
            rw [← hpk] at PK HN2 hpm
            obtain ⟨hx0, hx1⟩ := hmem
            have hpk0 : 0 ≤ pk := by omega
            have hpk1 : pk ≤ 2000000 := by omega
            have hw1 : IntKind.i64.wrap (2 * mf) = 2 * mf := IntWalk.i64_in _ (by omega)
            have hw2 : IntKind.i64.wrap (x + pk) = x + pk := IntWalk.i64_in _ (by omega)
            have htz : ¬ mt = 0 := by omega
            have htz2 : (mt == 0) = false := by simp; omega
            have hgd := gr_drew (gr_refl wi (some p))
            obtain ⟨q0, q1, q2, -⟩ := blk3M hJ.mb
            have hbl1 := lt_of_block hJ.mb
            have hbl2 := lt_of_cell c7w
            have HJ := Lib.hid hJ
            clear hx hpk hpm hit hnl hJ
            go_wp2_with (fail)
            go_region_law (first
              | (go_simp; go_at_call 16; (with_reducible refine PK.out.mono ?_); rintro e w7 ⟨rfl, hs7, hg7'⟩; have hg7 := gr_trans hgd hg7'; have h7 := HJ.out.call hlt hwB hg7 hs7; have z7 := h7.now.frozenAt t; have c7 : w7.cell? ⟨nb, t, none⟩ = some (.int .i64 x) := (World.cell?_of_block (w := wi) (hg7.block nb (lt_of_cell c7w) (by simp; omega))).trans c7w; obtain ⟨p0, p1, p2, -⟩ := blk3M h7.mb)
              | fail)
            all_goals (go_wp2_with (fail))
            all_goals go_roundw
            all_goals first
              | (simp [intOf]; omega)
              | (refine ⟨t + 1, by omega, by go_num, ?_⟩
                 rw [HN2.out]
                 exact h7.setNow hlt hnbw hnB t _)
          · obtain rfl : t = C := by omega
            have HJ := Lib.hid hJ
            have hjt : j + t ≤ k + 500 := by omega
            have HFE : Hid ((rdsStep l m ⟨out, N, A1, j⟩).now = nowFlip l (j + t) M ∧ (rdsStep l m ⟨out, N, A1, j⟩).out = out ++ [⟨A1, nowFlip l (j + t) M⟩] ∧ (rdsStep l m ⟨out, N, A1, j⟩).at_ = A1 + pickM l (nowJ l (j + t)) [1, 700, 1440, 4000] ∧ (rdsStep l m ⟨out, N, A1, j⟩).j = nowJ l (j + t) + 1) := by
              show _ ∧ _
              simp only [rdsStep]
              rw [HNL.out, ← HM.out]
              exact ⟨rfl, rfl, rfl, rfl⟩
            clear hJ hit hnl HN2
            go_wp2_with (fail)
            go_fit (flip_any l (j + t) 8 p wi HJ.out.str (by omega) (by decide))
            rintro e w5 ⟨rfl, hs5, g5⟩
            have HJ5 := Lib.hid (HJ.out.call hlt hwB g5 hs5)
            obtain ⟨fl, hfl⟩ : ∃ fl, fl = flipM l (j + t) 8 := ⟨_, rfl⟩
            rw [← hfl]
            have E1 : Hid (nowJ l (j + t) = if fl then j + t + 1 + 1 else j + t + 1) := by show _ = _; unfold nowJ; rw [← hfl]
            have E2 : Hid (nowFlip l (j + t) M = if fl then M.set (nxt l (j + t + 1) t).toNat 0 else M) := by show _ = _; unfold nowFlip; rw [← hfl, HML.out]
            clear hfl hs5 g5 HJ
            go_upto_if 67 with (fail)
            go_cut [] (fun wx => RdsInv wx w t mt mf p lw l (nowJ l (j + t)) (nowFlip l (j + t) M) nb t B v L)
            case first =>
              cases fl with
              | false =>
                go_wp2_with (fail)
                go_meet
                rw [E1.out, E2.out]
                exact HJ5.out
              | true =>
                have hnr := nxt_range l (j + t + 1) t (by omega)
                obtain ⟨q, hq⟩ : ∃ q : Nat, nxt l (j + t + 1) t = q := ⟨(nxt l (j + t + 1) t).toNat, by omega⟩
                have NX := next_any l (j + t + 1) t p w5 HJ5.out.str (by omega) (by omega)
                rw [hq] at hnr NX E2
                have NX := Lib.hid NX
                have hqt : q < t := by omega
                clear hq
                go_wp2_with (fail)
                refine NX.out.mono ?_
                rintro e w7 ⟨rfl, hs7, g7⟩
                have h7 := HJ5.out.call hlt hwB g7 hs7
                have z7 := h7.now.frozenAt q
                have c7 := h7.now.cellAt q (by omega)
                rw [ints_get M q (by rw [HML.out]; exact hqt)] at c7
                have H7 := Lib.hid h7
                clear h7 hs7 g7
                go_wp2_with (fail)
                go_meet
                rw [E1.out, E2.out]
                exact H7.out.setNow hlt hnbw hnB q 0
            case rest =>
            obtain ⟨w8, rfl⟩ : ∃ w8 : World, w8 = wc := ⟨_, rfl⟩
            have hNJ := nowJ_le l (j + t)
            have hfl := nowFlip_len l (j + t) M
            rw [HML.out] at hfl
            obtain ⟨j2, hj2⟩ : ∃ j2, j2 = nowJ l (j + t) := ⟨_, rfl⟩
            obtain ⟨M2, hM2⟩ : ∃ M2, M2 = nowFlip l (j + t) M := ⟨_, rfl⟩
            rw [← hj2] at hcut HFE hNJ
            rw [← hM2] at hcut HFE hfl
            have HC8 := Lib.hid hcut
            have HFL := Lib.hid hfl
            have hj2b : j2 ≤ k + 600 := by omega
            obtain ⟨ca, cc, hce, -, -, hcc, -⟩ := own_shape hcut.now
            cases hce
            have CL := Lib.hid (cloneInt_any (some ⟨nb, 0, none⟩) t t (ints M2) w8 (by rw [ints_length]; omega) hcc (fun h => by cases h) (ints_one _) (by omega))
            clear hcut hfl hj2 hM2 hcc E1 E2 HJ5 HM HML
            go_wp2_with (fail)
            refine CL.out.mono ?_
            rintro e w9 ⟨v9, rfl, ho9, g9⟩
            obtain ⟨xa, xc, rfl, -, -, -, -⟩ := own_shape ho9
            have h9 := HC8.out.keep0 g9
            have HC9 := Lib.hid h9
            have hzB : B ≤ w8.heap.size := HC8.out.zB
            have HX9 := Lib.hid (own_base ho9 hzB)
            have hzB9 : B ≤ w9.heap.size := by have := g9.size; omega
            clear ho9 g9 h9 CL
            go_wp2_with (at_builtin; refine wpList_app1F eRd rfl _ _ rfl B _ L.length (cellsG L) rfl w9 #[.int .i64 A1, .slice xa t xc] rfl HC9.out.rds.row _ rfl rfl rfl rfl (by omega) hzB9 ?_; intro v10 w10 hown10 hg10 hlt10 hf10)
            have h10 := HC9.out.push (x := ⟨⟨A1, M2⟩, xa, xc⟩) hlt hwB (by show World.ownsRow _ _ _ _ (.slice xa M2.length xc) M2.length _; rw [HFL.out]; exact HX9.out) (by show World.ownsRow _ _ _ _ _ _ (_ ++ [.int .i64 A1, .slice xa M2.length xc]); rw [HFL.out]; exact hown10) hg10
            have H10 := Lib.hid h10
            clear hown10 hg10 hlt10 hf10 h10 HC8
            have hpm := pickM_mem l j2 [1, 700, 1440, 4000] (by decide)
            simp only [List.mem_cons, List.not_mem_nil, or_false] at hpm
            have PK := pick_any l j2 [1, 700, 1440, 4000] p w10 H10.out.str (by omega) (by decide) (by decide)
            obtain ⟨pk, hpk⟩ : ∃ pk, pk = pickM l j2 [1, 700, 1440, 4000] := ⟨_, rfl⟩
            rw [← hpk] at PK hpm HFE
            have hpk0 : 0 ≤ pk := by omega
            have hpk1 : pk ≤ 4000 := by omega
            have PK := Lib.hid PK
            clear hpm hpk
            go_wp2_with (fail)
            refine PK.out.mono ?_
            rintro e w11 ⟨rfl, hs11, g11⟩
            have H11 := Lib.hid (H10.out.call hlt hwB g11 hs11)
            clear hs11 g11 PK
            go_wp2_with (fail)
            go_roundw
            case rel =>
              refine ⟨i + 1, L ++ [⟨⟨A1, M2⟩, xa, xc⟩], _, rfl, by omega, by go_num, ?_, ?_, ?_⟩
              · refine ⟨_, rfl, ?_⟩
                show _ = _
                rw [HNX.out, HFE.out.2.2.1]
              · show _ = _
                rw [HNX.out, HFE.out.2.1, rdsG_app, ← HL.out]
              · rw [HNX.out, HFE.out.1, HFE.out.2.2.2]
                exact H11.out
            case measure => simp [intOf]; omega
      · obtain rfl : i = n := by omega
        have HSB : Hid (rdsB l kk m = ⟨out, N, A1, j⟩) := by show _ = _; unfold rdsB; rw [← HN.out]; exact HS.out.symm
        obtain ⟨S, hS⟩ : ∃ S, S = rdsB l kk m := ⟨_, rfl⟩
        rw [← hS] at HBE HSB
        have hol : out.length = L.length := by have := congrArg List.length HL.out; rw [rdsG_len] at this; exact this.symm
        have E1 : Hid (rdsMoreJ l S = if flipM l j 3 && decide (0 < L.length) then j + 1 + 1 else j + 1) := by show _ = _; unfold rdsMoreJ; rw [HSB.out]; simp only [hol]
        have E2 : Hid (rdsMore l S = if flipM l j 3 && decide (0 < L.length) then out ++ [out.getD (nxt l (j + 1) L.length).toNat rd0] else out) := by show _ = _; unfold rdsMore; rw [HSB.out]; simp only [hol]
        clear hS HSB hol HNX HS HA1 HIT HNL HLL HIN h4 h5
        obtain ⟨va, vc, rfl, -, -⟩ := hI.out.rds.shape
        go_upto_region 23 with (fail)
        go_cut [93] (fun s wx => s = .bool (flipM l j 3 && decide (0 < L.length)) ∧ RdsInv wx w C mt mf p lw l (j + 1) N nb C B (.slice va L.length vc) L)
        case first =>
          go_wp2_with (fail)
          go_fit (flip_any l j 3 p wo hI.out.str (by omega) (by decide))
          rintro e w5 ⟨rfl, hs5, g5⟩
          have HJ5 := Lib.hid (hI.out.call hlt hwB g5 hs5)
          obtain ⟨fl, hfl⟩ : ∃ fl, fl = flipM l j 3 := ⟨_, rfl⟩
          rw [← hfl]
          have HFL := Lib.hid hfl
          clear hfl hs5 g5
          cases fl with
          | false =>
            go_wp2_with (fail)
            go_meet
            exact ⟨by rw [← HFL.out]; rfl, HJ5.out⟩
          | true =>
            go_wp2_with (fail)
            go_meet
            exact ⟨by rw [← HFL.out]; simp, HJ5.out⟩
        case rest =>
        obtain ⟨rfl, hcut⟩ := hcut
        obtain ⟨wd, rfl⟩ : ∃ wd : World, wd = wc := ⟨_, rfl⟩
        have E3 : Hid ((flipM l j 3 && decide (0 < L.length)) = true → 0 < L.length) := by show _ → _; simp
        obtain ⟨b, hb⟩ : ∃ b, b = (flipM l j 3 && decide (0 < L.length)) := ⟨_, rfl⟩
        rw [← hb] at E1 E2 E3
        rw [← hb]
        have HH6 := Lib.hid hcut
        clear hb hcut hI
        go_upto_if 93 with (fail)
        go_cut [8] (fun v2 wx => ∃ L2, RdsInv wx w C mt mf p lw l (rdsMoreJ l S) N nb C B v2 L2 ∧ rdsG L2 = rdsMore l S)
        case first =>
          cases b with
          | false =>
            go_wp2_with (fail)
            go_meet
            exact ⟨L, by rw [E1.out]; exact HH6.out, by rw [E2.out]; exact HL.out⟩
          | true =>
            have hL0 := E3.out rfl
            have hnr := nxt_range l (j + 1) L.length (by omega)
            obtain ⟨q, hq⟩ : ∃ q : Nat, nxt l (j + 1) L.length = q := ⟨(nxt l (j + 1) L.length).toNat, by omega⟩
            have NX := next_any l (j + 1) L.length p wd HH6.out.str (by omega) (by omega)
            rw [hq] at hnr NX E2
            have NX := Lib.hid NX
            have hqt : q < L.length := by omega
            clear hq
            go_wp2_with (fail)
            refine NX.out.mono ?_
            rintro e w7 ⟨rfl, hs7, g7⟩
            have h7 := HH6.out.call hlt hwB g7 hs7
            obtain ⟨g, gc, ev, hgB, -, e0, e1⟩ := h7.rds.at hqt
            cases ev
            have H7 := Lib.hid h7
            have HMEM : Hid (L[q] ∈ L) := List.getElem_mem hqt
            have HXQ : Hid (out.getD q rd0 = L[q].rd) := by
              show _ = _
              rw [← HL.out, getD_eq _ _ _ (by rw [rdsG_len]; exact hqt)]
              simp [rdsG]
            obtain ⟨x, hx⟩ : ∃ x, x = L[q] := ⟨_, rfl⟩
            rw [← hx] at e0 e1 HMEM HXQ
            have HXV := Lib.hid (H7.out.rds.vals x HMEM.out)
            have hzB7 := H7.out.zB
            clear h7 hs7 g7 hx
            go_wp2_with (at_builtin; refine wpList_app1F eRd rfl _ _ rfl B _ L.length (cellsG L) rfl w7 #[.int .i64 x.rd.at_, .slice x.a x.rd.vs.length x.c] rfl H7.out.rds.row _ rfl rfl rfl rfl (by omega) hzB7 ?_; intro v10 w10 hown10 hg10 hlt10 hf10)
            have h10 := H7.out.push (x := x) hlt hwB HXV.out hown10 hg10
            have H10 := Lib.hid h10
            clear hown10 hg10 hlt10 hf10 h10
            go_wp2_with (fail)
            go_meet
            exact ⟨L ++ [x], by rw [E1.out]; exact H10.out, by rw [E2.out, rdsG_app, HL.out]; simp only [Int.toNat_natCast, if_true]; rw [HXQ.out]⟩
        case rest =>
        obtain ⟨L2, hcut, hR⟩ := hcut
        obtain ⟨we, rfl⟩ : ∃ we : World, we = wc := ⟨_, rfl⟩
        have hj2 : rdsMoreJ l S ≤ k + 500 := by rw [E1.out]; split <;> omega
        have hl2 : L2.length ≤ 7 := by
          have := congrArg List.length hR
          rw [rdsG_len, E2.out] at this
          have hol : out.length = L.length := by have := congrArg List.length HL.out; rw [rdsG_len] at this; exact this.symm
          split at this
          · rw [List.length_append] at this; simp at this; omega
          · omega
        obtain ⟨R, hRe⟩ : ∃ R, R = rdsMore l S := ⟨_, rfl⟩
        obtain ⟨j2, hj2e⟩ : ∃ j2, j2 = rdsMoreJ l S := ⟨_, rfl⟩
        rw [← hRe] at hR HBE
        rw [← hj2e] at hj2 hcut HBE
        have hRl : R.length = L2.length := by rw [← hR, rdsG_len]
        rw [hRl] at HBE
        have HR := Lib.hid hR
        obtain ⟨ua, uc, rfl, -, -⟩ := hcut.rds.shape
        have HH := Lib.hid hcut
        have ORD := orderF_any l j2 L2.length p we hcut.str (by omega) (by omega)
        unfold OrderFPost at ORD
        obtain ⟨O, hO⟩ : ∃ O, O = ordM l j2 L2.length := ⟨_, rfl⟩
        rw [← hO] at ORD HBE
        have ORD := Lib.hid ORD
        clear hR hRe hj2e hcut E1 E2 E3 HH6 HL hRl hO HN
        go_wp2_with (fail)
        refine ORD.out.mono ?_
        rintro e w6 ⟨vo, rfl, ho6, hord, hs6, g6⟩
        obtain ⟨oa, oc, rfl, -, -, hoc, -⟩ := own_shape ho6
        have h6 := HH.out.call hlt hwB g6 hs6
        have hOl : O.length = L2.length := hord.len
        have hz6 := Nat.le_trans HH.out.zB g6.size
        have HO := Lib.hid hord
        have HOC := Lib.hid hoc
        have H6 := Lib.hid h6
        have HOL := Lib.hid hOl
        have hww : w.heap.size ≤ w6.heap.size := by omega
        clear ho6 hord hs6 g6 hoc h6 hOl ORD HH
        go_wp2_with (fail)
        go_loopw [10, 109] (fun v c wr => ∃ (t : Nat) (L3 : List RdG) (gv : Value), gv = v ∧ t ≤ L2.length ∧ c = .int .i64 t ∧ Rds wr w.heap.size gv L3 ∧ Hid (rdsG L3 = mixM (O.take t) R) ∧ (∀ q, gv.ownBlock = some q → w6.heap.size ≤ q) ∧ w6.grownBy wr none) (fun _ c _ => L2.length - (intOf c).toNat)
        case atStart => exact ⟨0, [], _, rfl, Nat.zero_le _, rfl, Rds.nil _ _, rfl, fun q e => (by cases e), gr_refl _ _⟩
        case round =>
          obtain ⟨t, L3, v3, rfl, ht, rfl, hrd, HL3, hlow, hgr⟩ := hrel
          obtain ⟨wi, rfl⟩ : ∃ wi : World, wi = wr := ⟨_, rfl⟩
          have HRD := Lib.hid hrd
          by_cases htn : t < L2.length
          · have hOt : t < O.length := by rw [HOL.out]; exact htn
            have hom := (HO.out.mem _).1 (List.getElem_mem hOt)
            obtain ⟨q, hq⟩ : ∃ q : Nat, O[t] = q := ⟨O[t].toNat, by omega⟩
            rw [hq] at hom
            have hqt : q < L2.length := by omega
            obtain ⟨ob, oo, rfl, oc0⟩ := (HOC.out.keep0 hgr) t _ (ints_get O t hOt)
            rw [getD_eq _ _ _ hOt, hq] at oc0
            have hr6 := H6.out.rds.keep0 hgr
            obtain ⟨g, gc, ev, hgB, -, e0, e1⟩ := hr6.at hqt
            cases ev
            have HMEM : Hid (L2[q] ∈ L2) := List.getElem_mem hqt
            have HXQ : Hid (mixM (O.take (t + 1)) R = mixM (O.take t) R ++ [L2[q].rd]) := by
              show _ = _
              have e : O.take (t + 1) = O.take t ++ [O[t]] := by simp
              unfold mixM
              rw [e, List.map_append, List.map_cons, List.map_nil, hq, Int.toNat_natCast]
              congr 2
              rw [← HR.out, getD_eq _ _ _ (by rw [rdsG_len]; exact hqt)]
              simp [rdsG]
            obtain ⟨x, hx⟩ : ∃ x, x = L2[q] := ⟨_, rfl⟩
            rw [← hx] at e0 e1 HMEM HXQ
            have HXV := Lib.hid (own_base (hr6.vals x HMEM.out) (show w.heap.size ≤ B by omega))
            have hl3 : L3.length = t := by
              have := congrArg List.length HL3.out
              rw [rdsG_len] at this
              simp only [mixM, List.length_map, List.length_take] at this
              omega
            have hl4 : L3.length ≤ 8 := by omega
            have hzi := hgr.size
            have HLOW := Lib.hid hlow
            have HL33 := Lib.hid hl3
            clear hrd hx hq hom hr6 hlow hl3
            go_wp2_with (at_builtin; refine wpList_app1F eRd rfl _ _ rfl w.heap.size _ L3.length (cellsG L3) rfl wi #[.int .i64 x.rd.at_, .slice x.a x.rd.vs.length x.c] rfl HRD.out.row _ rfl rfl rfl rfl (by omega) (by omega) ?_; intro v10 w10 hown10 hg10 hlt10 hf10)
            have h10 := HRD.out.push HXV.out hown10 hg10
            have hg := gr_grown hgr hg10 (fun q hq => HLOW.out q hq)
            have HF : Hid (∀ q, v10.ownBlock = some q → w6.heap.size ≤ q) := fun q hq => by
              rcases hf10 q hq with h | h
              · exact HLOW.out q h
              · omega
            have H10 := Lib.hid h10
            clear hown10 hg10 hlt10 hf10 h10 HLOW
            go_wp2_with (fail)
            go_roundw
            case rel =>
              refine ⟨t + 1, L3 ++ [x], _, rfl, by omega, by go_num, H10.out, ?_, HF.out, hg⟩
              show _ = _
              rw [rdsG_app, HXQ.out, HL3.out]
            case measure => simp [intOf]; omega
          · obtain rfl : t = L2.length := by omega
            have HFIN : Hid (rdsG L3 = mixM O R) := by
              show _ = _
              rw [HL3.out, List.take_of_length_le (by rw [HOL.out]; exact Nat.le_refl _)]
            clear hrd
            go_wp2_with (fail)
            go_ret
            exact ⟨_, L3, rfl, HRD.out, by rw [HFIN.out, HBE.out.1], by rw [HBE.out.2]; exact H6.out.str.keep0 hgr, gr_trans H6.out.gr (gr_weak hgr _)⟩
end Go.Proofs.Ytjhfglhoiplfmaa
