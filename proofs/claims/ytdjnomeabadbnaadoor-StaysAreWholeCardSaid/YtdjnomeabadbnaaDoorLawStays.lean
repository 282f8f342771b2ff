/- The walk of StaysAreWhole. -/
import Derived.Test.YtdjnomeabadbnaaDoorStays
import Derived.Test.YtdjnomeabadbnaaDoorShelfG
import Derived.Test.YtdjnomeabadbnaaDoorGrew
namespace Go.Proofs.YtdjnomeabadbnaaDoor
open Go.RowKit
attribute [local go_sem ↓] Go.wp_at_zero Go.wp_at_succ

def prodOf (vs : List Ver) (s : Nat) : Option Nat → ByteArray
  | none => ⟨#[]⟩
  | some k => slotAt vs k s
def HasPost (p : ByteArray) (w : World) (e : Ending) (w' : World) : Prop := e = .returned (.string p) ∧ w.grownBy w' none
set_option maxRecDepth 100000 in
set_option maxHeartbeats 1000000 in
theorem has_any (base : Nat) (vs : List Ver) (a : Option Addr) (c q : Nat) (d : Int) (s : Nat) (w : World) (hq : w.cell? ⟨q, 0, none⟩ = some (.slice a vs.length c)) (h : NestAt (VerC base) w 2 a vs) (hok : VersOk vs) (hsz : ∀ v ∈ vs, v.lay.length ≤ 100000 ∧ ∀ s ∈ v.lay, s.size ≤ 100000) (hd0 : 0 ≤ d) (hd1 : d ≤ 4000) (hs : ∀ k, k < vs.length → s < (vLay vs k).length) :
    Calls Tryd.prog 25 #[.int .i64 d, .int .i64 s, .pointer (some ⟨q, 0, none⟩)] w (HasPost (prodAt vs d s) w) := by
  have hl := hok.len
  have AA := Lib.hid (at_any base vs a c d w h (by omega) hsz)
  have HP : Hid (prodAt vs d s = prodOf vs s (lastLe vs d vs.length)) := by show _ = _; unfold prodAt prodOf; cases lastLe vs d vs.length <;> rfl
  have HOK := Lib.hid hok
  have hlk : ∀ k, lastLe vs d vs.length = some k → k < vs.length := by
    have : ∀ n k, lastLe vs d n = some k → k < n := by
      intro n
      induction n with
      | zero => intro k hk; simp [lastLe] at hk
      | succ n ih =>
        intro k hk
        simp only [lastLe] at hk
        split at hk
        · cases hk; omega
        · have := ih k hk; omega
    exact fun k hk => this _ k hk
  have HLK := Lib.hid hlk
  have HS := Lib.hid hs
  clear h hok hsz hlk hs
  go_enter Tryd.func25, Tryd.ntmps25
  go_wp2_with (fail)
  refine AA.out.mono ?_
  rintro e w2 ⟨v, n, L, r, rfl, hn, ho, -, hres, hb⟩
  have g2 := gr_of_below hb
  have hr2 := hres HOK.out hd0 hd1
  unfold AtRes at hr2
  have hLn : L.length = n := by have := ho.1; simpa [strs] using this
  obtain ⟨va, vc, rfl, -, -, cL, -⟩ := own_shape ho
  obtain ⟨m, hm⟩ : ∃ m, m = lastLe vs d vs.length := ⟨_, rfl⟩
  have HM := Lib.hid hm
  rw [← hm] at hr2
  have HP2 : Hid (prodAt vs d s = prodOf vs s m) := by show _ = _; rw [HP.out, HM.out]
  clear AA hres hb hm ho HP
  cases m with
  | none =>
    obtain rfl : r = 8 := hr2
    go_wp2_with (fail)
    go_ret
    exact ⟨by rw [HP2.out] <;> rfl, g2⟩
  | some k =>
    obtain ⟨rfl, rfl⟩ : r = 0 ∧ L = vLay vs k := hr2
    have hk := HLK.out k HM.out.symm
    have hsl := HS.out k hk
    obtain ⟨b, off, rfl, d0⟩ := str_cell cL s hsl
    have HP3 : Hid (prodAt vs d s = (vLay vs k).getD s ⟨#[]⟩) := HP2.out
    have hsn : s < n := by omega
    obtain ⟨x, hx⟩ : ∃ x, x = (vLay vs k).getD s ⟨#[]⟩ := ⟨_, rfl⟩
    rw [← hx] at d0 HP3
    clear hLn cL HP2 hx hsl
    go_wp2_with (fail)
    go_ret
    exact ⟨by rw [HP3.out] <;> rfl, g2⟩
set_option maxRecDepth 100000 in
set_option maxHeartbeats 8000000 in
theorem staysAreWhole_any (l : List Int) (a : Option Addr) (cap : Nat) (w : World) (hc : CellsAt w a (ints l)) (hl : l.length ≤ 9223372036854775807) :
    Calls Tryd.prog 4 #[.slice a l.length cap] w fun e w' => e = .returned (.bool true) ∧ w.grownBy w' none := by
  have hg0 := gr_alloc (gr_refl w none) (.cells #[.slice a l.length cap, .int .i64 0] 25)
  have s0 := StreamAt.made cap hc hl
  obtain ⟨w0, hw0⟩ : ∃ w0, w0 = w.alloc (.cells #[.slice a l.length cap, .int .i64 0] 25) := ⟨_, rfl⟩
  have hz0 : w0.heap.size = w.heap.size + 1 := by rw [hw0]; simp
  rw [← hw0] at s0 hg0
  have VA := Lib.hid (vers_any l 0 w.heap.size w0 s0 (by omega))
  unfold VersPost at VA
  obtain ⟨hVl, hVs⟩ := versM_small l 0
  obtain ⟨V, hV⟩ : ∃ V, V = versM l 0 := ⟨_, rfl⟩
  rw [← hV] at VA hVl hVs
  have hVs1 : ∀ v ∈ V, v.lay.length ≤ 100000 ∧ ∀ s ∈ v.lay, s.size ≤ 100000 := fun v hv => ⟨by have := (hVs v hv).1; omega, fun s hs => by have := (hVs v hv).2 s hs; omega⟩
  have HVS1 := Lib.hid hVs1
  clear hV hVs hVs1 hc hl s0
  go_enter Tryd.func4, Tryd.ntmps4
  go_wp2_with (fail)
  rw [← hw0]
  have HW0 := Lib.hid hw0; clear hw0
  refine VA.out.mono ?_
  rintro e w1 ⟨v1, rfl, o1, -, g1⟩
  obtain ⟨va, vc, rfl, hn, -⟩ := o1.ex
  have hgr1 := gr_grown hg0 (gr_trans g1 (gr_refl _ _)) (fun k e => by cases e; omega)
  clear VA o1 g1 hg0 hz0 HW0
  go_wp2_with (fail)
  have hQ := heap_alloc_new w1 (.cells #[.slice va V.length vc] 53)
  have hgQ := gr_alloc (gr_refl w1 none) (.cells #[.slice va V.length vc] 53)
  obtain ⟨w2, hw2⟩ : ∃ w2, w2 = w1.alloc (.cells #[.slice va V.length vc] 53) := ⟨_, rfl⟩
  rw [← hw2] at hQ hgQ
  rw [← hw2]
  obtain ⟨Q, hQe⟩ : ∃ Q, Q = w1.heap.size := ⟨_, rfl⟩
  rw [← hQe] at hQ
  rw [← hQe]
  have HN := Lib.hid (hn.keep0 hgQ (fun x c hx => VerC.keep0 hgQ x c hx))
  have HG2 := Lib.hid (gr_trans hgr1 hgQ)
  have q0 := blkC hQ 0 rfl
  have HQ := Lib.hid hQ
  clear hn hgr1 hgQ hw2 hQe hQ
  have RV := Lib.hid (refVersions_any _ V va vc w2 HN.out (by omega) HVS1.out)
  go_wp2_with (fail)
  refine RV.out.mono ?_
  rintro e w3 ⟨r, rfl, hr, g3⟩
  have HR := Lib.hid hr
  clear RV hr
  by_cases hok : VersOk V
  · have HOK := Lib.hid hok
    have hr0 : r = 0 := HR.out.2 hok
    subst hr0
    clear hok HR
    have Q3 := (g3.block Q (lt_of_block HQ.out) (by simp)).trans HQ.out
    have HQ3 := Lib.hid Q3
    have q3 := blkC Q3 0 rfl
    have HN3 := Lib.hid (HN.out.keep0 g3 (fun x c hx => VerC.keep0 g3 x c hx))
    have HG3 := Lib.hid (gr_trans HG2.out g3)
    have ST := Lib.hid (stays_any _ V va vc w3 HN3.out HOK.out HVS1.out)
    clear q0 HQ HN HG2 g3 Q3
    go_wp2_with (fail)
    refine ST.out.mono ?_
    rintro e w4 ⟨v4, rfl, ho4, g4⟩
    obtain ⟨n0, hn0⟩ : ∃ n, n = nSlots V := ⟨_, rfl⟩
    rw [← hn0] at ho4
    have hlen : ∀ k, k < V.length → (vLay V k).length = n0 := by
      intro k hk
      rw [hn0]
      unfold nSlots
      rw [if_neg (by omega)]
      exact (HOK.out.all k hk).like
    have hysl := stysTo_len V n0
    have hn60 : n0 ≤ 60 := by
      rw [hn0]
      unfold nSlots
      split
      · omega
      · exact (HOK.out.all 0 (by omega)).few
    have hys := stys_ok HOK.out n0
    obtain ⟨Y, hY⟩ : ∃ Y, Y = stysTo V n0 := ⟨_, rfl⟩
    rw [← hY] at ho4 hysl hys
    have hYl : Y.length ≤ 60 * 5 := Nat.le_trans hysl (Nat.mul_le_mul hn60 (by omega))
    have HYS := Lib.hid hys
    have HLEN := Lib.hid hlen
    have Q4 := (g4.block Q (lt_of_block HQ3.out) (by simp)).trans HQ3.out
    have HQ4 := Lib.hid Q4
    obtain ⟨ya, yc, rfl, -, -, cY, -⟩ := own_shape ho4
    have HY := Lib.hid cY
    have HN4 := Lib.hid (HN3.out.keep0 g4 (fun x c hx => VerC.keep0 g4 x c hx))
    have HG4 := Lib.hid (gr_trans HG3.out g4)
    clear ST hn0 hlen hysl hn60 hys hY ho4 g4 Q4 cY q3 HN3 HG3 HQ3
    go_wp2_with (fail)
    go_loopw [30] (fun i wr => ∃ k : Nat, k ≤ Y.length ∧ i = .int .i64 k ∧ w4.grownBy wr none) (fun i _ => Y.length - (intOf i).toNat)
    case atStart => exact ⟨0, Nat.zero_le _, rfl, gr_refl _ _⟩
    case round =>
      obtain ⟨k, hk, rfl, hgr⟩ := hrel
      obtain ⟨wo, rfl⟩ : ∃ wo : World, wo = wr := ⟨_, rfl⟩
      by_cases hlt : k < Y.length
      · obtain ⟨b, off, rfl, hcs⟩ := flat_cells encSty_len (by decide) (HY.out.keep0 hgr) (by omega)
        obtain ⟨sn, hsn, hso⟩ := HYS.out Y[k] (List.getElem_mem hlt)
        obtain ⟨y, hy⟩ : ∃ y, y = Y[k] := ⟨_, rfl⟩
        have d0 : wo.cell? ⟨b, off + k * 4, none⟩ = some (.int .i64 y.slot) := hcs k hlt 0 _ (by rw [← hy]; rfl)
        have d1 : wo.cell? ⟨b, off + k * 4 + 1, none⟩ = some (.string y.prod) := hcs k hlt 1 _ (by rw [← hy]; rfl)
        have d2 : wo.cell? ⟨b, off + k * 4 + 2, none⟩ = some (.int .i64 y.fr) := hcs k hlt 2 _ (by rw [← hy]; rfl)
        have d3 : wo.cell? ⟨b, off + k * 4 + 3, none⟩ = some (.int .i64 y.til) := hcs k hlt 3 _ (by rw [← hy]; rfl)
        rw [← hy] at hso
        obtain ⟨ys, p, f, t⟩ := y
        simp only at d0 d1 d2 d3
        obtain ⟨e1, h0, h1, h2, h3, h4, h5⟩ := hso
        simp only at e1 h0 h1 h2 h3 h4 h5
        subst e1
        have HAS : Hid (∀ (d : Int) (W : World), wo.grownBy W none → 0 ≤ d → d ≤ 4000 → Calls Tryd.prog 25 #[.int .i64 d, .int .i64 sn, .pointer (some ⟨Q, 0, none⟩)] W (HasPost (prodAt V d sn) W)) := fun d W g hd0 hd1 =>
          has_any _ V va vc Q d sn W (blkC (((gr_trans hgr g).block Q (lt_of_block HQ4.out) (by simp)).trans HQ4.out) 0 rfl) (HN4.out.keep0 (gr_trans hgr g) (fun x c hx => VerC.keep0 (gr_trans hgr g) x c hx)) HOK.out HVS1.out hd0 hd1 (fun j hj => by rw [HLEN.out j hj]; exact hsn)
        have H3 := Lib.hid h3
        have H4 := Lib.hid h4
        have H5 := Lib.hid h5
        have HGR := Lib.hid hgr
        clear hcs hy h3 h4 h5 hgr
        go_wp2_with (fail)
        have hO := heap_alloc_new wo (.cells #[.int .i64 sn, .string p, .int .i64 f, .int .i64 t] 64)
        have hg := gr_alloc (gr_refl wo none) (.cells #[.int .i64 sn, .string p, .int .i64 f, .int .i64 t] 64)
        obtain ⟨w5, hw5⟩ : ∃ w5, w5 = wo.alloc (.cells #[.int .i64 sn, .string p, .int .i64 f, .int .i64 t] 64) := ⟨_, rfl⟩
        rw [← hw5] at hO hg
        rw [← hw5]
        obtain ⟨O, hOe⟩ : ∃ O, O = wo.heap.size := ⟨_, rfl⟩
        rw [← hOe] at hO
        rw [← hOe]
        obtain ⟨o0, o1, o2, o3⟩ := blk4 hO
        have HO := Lib.hid hO
        have HG5 := Lib.hid (gr_trans HGR.out hg)
        have HAS5 : Hid (∀ (d : Int) (W : World), w5.grownBy W none → 0 ≤ d → d ≤ 4000 → Calls Tryd.prog 25 #[.int .i64 d, .int .i64 sn, .pointer (some ⟨Q, 0, none⟩)] W (HasPost (prodAt V d sn) W)) := fun d W g hd0 hd1 => HAS.out d W (gr_trans hg g) hd0 hd1
        clear hw5 hOe hO hg d0 d1 d2 d3 HAS HGR
        go_cut [71] from 34 to 71 (fun s wx => s = .bool false ∧ w5.grownBy wx none)
        case first =>
          have x0 := grew_cell o0
          have x1 := grew_cell o1
          have x2 := grew_cell o2
          have x3 := grew_cell o3
          have g0 : decide (t ≤ f) = false := by simp; omega
          by_cases hf : 0 < f
          · have g1 : decide (0 < f) = true := by simpa using hf
            have hwr : IntKind.i64.wrap (f - 1) = f - 1 := IntWalk.i64_in _ (by omega)
            have hq1 : ((prodAt V (f - 1) sn).toList == p.toList) = false := by simpa using H4.out hf
            by_cases ht : t < 20
            · have g2 : decide (t < 20) = true := by simpa using ht
              have hq2 : ((prodAt V t sn).toList == p.toList) = false := by simpa using H5.out ht
              refine wp_region_grew (by kernel_rfl) (by kernel_rfl) ?_
              repeat (go_big_quiet_step (first | (go_at_call 25; exact Calls.grew_of (fun W g => HAS5.out _ W g (by omega) (by omega)))))
              refine wpQuiet_nil ?_
              rintro wq ⟨n, rfl⟩
              have gq := n.gr
              go_wp2_with (fail)
              go_meet
              exact ⟨rfl, gq⟩
            · have g2 : decide (t < 20) = false := by simp; omega
              refine wp_region_grew (by kernel_rfl) (by kernel_rfl) ?_
              repeat (go_big_quiet_step (first | (go_at_call 25; exact Calls.grew_of (fun W g => HAS5.out _ W g (by omega) (by omega)))))
              refine wpQuiet_nil ?_
              rintro wq ⟨n, rfl⟩
              have gq := n.gr
              go_wp2_with (fail)
              go_meet
              exact ⟨rfl, gq⟩
          · have g1 : decide (0 < f) = false := by simp; omega
            by_cases ht : t < 20
            · have g2 : decide (t < 20) = true := by simpa using ht
              have hq2 : ((prodAt V t sn).toList == p.toList) = false := by simpa using H5.out ht
              refine wp_region_grew (by kernel_rfl) (by kernel_rfl) ?_
              repeat (go_big_quiet_step (first | (go_at_call 25; exact Calls.grew_of (fun W g => HAS5.out _ W g (by omega) (by omega)))))
              refine wpQuiet_nil ?_
              rintro wq ⟨n, rfl⟩
              have gq := n.gr
              go_wp2_with (fail)
              go_meet
              exact ⟨rfl, gq⟩
            · have g2 : decide (t < 20) = false := by simp; omega
              refine wp_region_grew (by kernel_rfl) (by kernel_rfl) ?_
              repeat (go_big_quiet_step (first | (go_at_call 25; exact Calls.grew_of (fun W g => HAS5.out _ W g (by omega) (by omega)))))
              refine wpQuiet_nil ?_
              rintro wq ⟨n, rfl⟩
              have gq := n.gr
              go_wp2_with (fail)
              go_meet
              exact ⟨rfl, gq⟩
        case rest =>
        obtain ⟨rfl, g6⟩ := hcut
        obtain ⟨w6, rfl⟩ : ∃ w6 : World, w6 = wc := ⟨_, rfl⟩
        have G6 := Lib.hid g6
        have t0 := (gr_cell g6 (lt_of_cell o0)).trans o0
        have t1 := (gr_cell g6 (lt_of_cell o1)).trans o1
        have t2 := (gr_cell g6 (lt_of_cell o2)).trans o2
        have t3 := (gr_cell g6 (lt_of_cell o3)).trans o3
        clear o0 o1 o2 o3 g6
        go_wp2_with (fail)
        go_loopw [10] (fun i wr => ∃ d : Int, f ≤ d ∧ d ≤ t ∧ i = .int .i64 d ∧ w6.grownBy wr none) (fun i _ => (t - intOf i).toNat)
        case atStart => exact ⟨f, by omega, by omega, rfl, gr_refl _ _⟩
        case round =>
          obtain ⟨d, hfd, hdt, rfl, hgr⟩ := hrel
          obtain ⟨w7, rfl⟩ : ∃ w7 : World, w7 = wr := ⟨_, rfl⟩
          have u0 := (gr_cell hgr (lt_of_cell t0)).trans t0
          have u1 := (gr_cell hgr (lt_of_cell t1)).trans t1
          have u2 := (gr_cell hgr (lt_of_cell t2)).trans t2
          have u3 := (gr_cell hgr (lt_of_cell t3)).trans t3
          have G7 := Lib.hid (gr_trans G6.out hgr)
          have G67 := Lib.hid hgr
          clear hgr
          by_cases hlt2 : d < t
          · have hq1 : ((prodAt V d sn).toList == p.toList) = true := by simpa using H3.out d hfd hlt2
            have x0 := grew_cell u0
            have x1 := grew_cell u1
            have x2 := grew_cell u2
            have x3 := grew_cell u3
            go_wp2_with (fail)
            refine wp_region_grew (by kernel_rfl) (by kernel_rfl) ?_
            repeat (go_big_quiet_step (first | (go_at_call 25; exact Calls.grew_of (fun W g => HAS5.out _ W (gr_trans G7.out g) (by omega) (by omega)))))
            refine wpQuiet_nil ?_
            rintro wq ⟨n, rfl⟩
            have gq := gr_trans G67.out n.gr
            clear x0 x1 x2 x3
            go_wp2_with (fail)
            go_roundw
            case rel => exact ⟨d + 1, by omega, by omega, rfl, gq⟩
            case measure => simp [intOf]; omega
          · have gk := gr_trans HG5.out G7.out
            go_wp2_with (fail)
            go_roundw
            case rel => exact ⟨k + 1, by omega, by go_num, gk⟩
            case measure => simp [intOf]; omega
      · go_wp2_with (fail)
        refine (shelves_any wo).mono ?_
        rintro e w9 ⟨rfl, g9⟩
        have g9 := gr_trans (gr_trans HG4.out hgr) g9
        go_wp2_with (fail)
        go_ret
        exact ⟨rfl, g9⟩
  · have hr0 : ¬ r = 0 := fun e => hok (HR.out.1 e)
    have e1 : (r != 0) = true := by simpa using hr0
    have e2 : (r == 0) = false := by simpa using hr0
    clear hr0 hok HR
    have g3 := gr_trans HG2.out g3
    go_wp2_with (fail)
    refine (shelves_any w3).mono ?_
    rintro e w9 ⟨rfl, g9⟩
    have g9 := gr_trans g3 g9
    go_wp2_with (fail)
    go_ret
    exact ⟨rfl, g9⟩
end Go.Proofs.YtdjnomeabadbnaaDoor
