/- The reference's part of shelves; doing nothing; versions that are checked. -/
import Derived.Test.YtdjnomeabadbnaaShelfD
import Derived.Test.YtdjnomeabadbnaaTotals
import Derived.Test.YtdjnomeabadbnaaVers
namespace Go.Proofs.Ytdjnomeabadbnaa
open Go.RowKit
attribute [local go_sem ↓] Go.wp_at_zero Go.wp_at_succ

theorem refOffer1_fn : ∀ (args : Array Value) (w : World), (callFunc 98 args).run Try.prog w = .ok (.enter 98 args) w := fun _ _ => by kernel_rfl
set_option maxRecDepth 100000 in
theorem refOffer1_any (t : OV) (x : ByteArray) (q : Nat) (w : World) (hq : w.cell? ⟨q, 0, none⟩ = some (.string x)) :
    Calls Try.prog 98 #[.agg #[.string t.key, .string t.group, .slice t.pa t.pn t.pc, .slice t.ha t.hn t.hc, .slice t.ta t.tn t.tc], .pointer (some ⟨q, 0, none⟩)] w fun e w' => e = .returned (.bool (t.key.toList == x.toList)) ∧ w.grownBy w' none := by
  have hqlt := lt_of_cell hq
  go_enter Try.func98, Try.ntmps98
  go_wp2_with (fail)
  go_ret
  exact ⟨rfl, gr_alloc (gr_refl w none) _⟩
set_option maxRecDepth 100000 in
theorem refOffer_any (key : ByteArray) (os : List Offer) (a : Option Addr) (vs : List OV) (c : Nat) (w : World) (h : OffsAt w a vs os) (hl : os.length ≤ 100000) :
    Calls Try.prog 92 #[.slice a os.length c, .string key] w fun e w' => e = .returned (.int .i64 (offIx os key)) ∧ w.grownBy w' none := by
  have hlen := Lib.hid h.len
  have hix := Lib.hid (h.ix key)
  have H := Lib.hid h
  clear h
  go_enter Try.func92, Try.ntmps92
  go_wp2_with (fail)
  have hg1 := gr_alloc (gr_refl w none) (.cells #[.string key] 9)
  have hl2 : vs.length ≤ 137438953472 := by rw [hlen.out]; omega
  rw [← hlen.out]
  refine (indexFunc_Offer _ ⟨w.heap.size, 0, none⟩ (fun t : OV => t.key.toList == key.toList) vs a c _ (H.out.cells.keep0 hg1) hl2 refOffer1_fn ?_).mono ?_
  · intro t _ w1 hg
    exact refOffer1_any t key w.heap.size w1 ((gr_cell hg (by simp)).trans (by rw [World.cell?_alloc_at _ _ _ _ rfl]; rfl))
  rintro e w2 ⟨rfl, hg2⟩
  rw [hix.out]
  go_wp2_with (fail)
  go_ret
  exact ⟨rfl, gr_trans hg1 hg2⟩
theorem refStrange1_fn : ∀ (args : Array Value) (w : World), (callFunc 91 args).run Try.prog w = .ok (.enter 91 args) w := fun _ _ => by kernel_rfl
set_option maxRecDepth 100000 in
theorem refStrange1_any (k : ByteArray) (os : List Offer) (a : Option Addr) (vs : List OV) (c q : Nat) (w : World) (h : OffsAt w a vs os) (hl : os.length ≤ 100000) (hq : w.cell? ⟨q, 0, none⟩ = some (.slice a os.length c)) :
    Calls Try.prog 91 #[.string k, .pointer (some ⟨q, 0, none⟩)] w fun e w' => e = .returned (.bool (strangeB os k)) ∧ w.grownBy w' none := by
  have H := Lib.hid h
  clear h
  have HS : Hid (strangeB os k = (!k.toList.isEmpty && decide (offIx os k < 0))) := rfl
  cases he : k.toList.isEmpty with
  | true =>
    have he2 : k.toList = [] := by simpa using he
    have HE : Hid (strangeB os k = false) := by show _ = _; rw [HS.out, he]; rfl
    go_enter Try.func91, Try.ntmps91
    go_wp2_with (fail)
    go_ret
    exact ⟨ret_bool HE.out.symm, gr_refl _ _⟩
  | false =>
    have he2 : (!k.toList.isEmpty) = true := by rw [he]; rfl
    have he3 : ¬ k.toList = [] := by intro e; rw [e] at he; cases he
    have HE : Hid (strangeB os k = decide (offIx os k < 0)) := by show _ = _; rw [HS.out, he]; rfl
    go_enter Try.func91, Try.ntmps91
    go_wp2_with (fail)
    refine (refOffer_any k os a vs c w H.out hl).mono ?_
    rintro e w2 ⟨rfl, g2⟩
    go_wp2_with (fail)
    go_ret
    exact ⟨ret_bool HE.out.symm, g2⟩
set_option maxRecDepth 100000 in
theorem refStrange_any (xs : List ByteArray) (os : List Offer) (a xa : Option Addr) (vs : List OV) (c xc : Nat) (w : World) (h : OffsAt w a vs os) (hl : os.length ≤ 100000) (hx : CellsAt w xa (strs xs)) (hxl : xs.length ≤ 100000) :
    Calls Try.prog 79 #[.slice a os.length c, .slice xa xs.length xc] w fun e w' => e = .returned (.bool (xs.any (strangeB os))) ∧ w.grownBy w' none := by
  have H := Lib.hid h
  have HX := Lib.hid hx
  clear h hx
  go_enter Try.func79, Try.ntmps79
  go_wp2_with (fail)
  have hg1 := gr_alloc (gr_refl w none) (.cells #[.slice a os.length c] 47)
  refine (containsFunc_StrC _ ⟨w.heap.size, 0, none⟩ (strangeB os) xs xa xc _ (by rw [strs_flat]; exact HX.out.keep0 hg1) (by omega) refStrange1_fn ?_).mono ?_
  · intro k _ w1 hg
    exact refStrange1_any k os a vs c w.heap.size w1 (H.out.keep0 (gr_trans hg1 hg)) hl ((gr_cell hg (by simp)).trans (by rw [World.cell?_alloc_at _ _ _ _ rfl]; rfl))
  rintro e w2 ⟨rfl, hg2⟩
  go_wp2_with (fail)
  go_ret
  exact ⟨rfl, gr_trans hg1 hg2⟩
set_option maxRecDepth 100000 in
theorem listFault_any (os : List Offer) (xs : List ByteArray) (a xa : Option Addr) (vs : List OV) (c xc : Nat) (w : World) (h : OffsAt w a vs os) (hol : os.length ≤ 30) (hx : CellsAt w xa (strs xs)) (hl : xs.length ≤ 1000) :
    Calls Try.prog 56 #[.slice a os.length c, .slice xa xs.length xc] w fun e w' => e = .returned (.int .i64 (listF os xs)) ∧ w.grownBy w' none := by
  have H := Lib.hid h
  have HX := Lib.hid hx
  have HS : Hid (listF os xs = if 60 < xs.length then 2 else if xs.any (strangeB os) then 8 else 0) := rfl
  clear h hx
  by_cases h60 : 60 < xs.length
  · have HE : Hid (listF os xs = 2) := by show _ = _; rw [HS.out, if_pos h60]
    go_enter Try.func56, Try.ntmps56
    go_wp2_with (fail)
    go_ret
    exact ⟨ret_int HE.out.symm, gr_refl _ _⟩
  · obtain ⟨s, hs⟩ : ∃ s, s = xs.any (strangeB os) := ⟨_, rfl⟩
    have HE : Hid (listF os xs = if s then 8 else 0) := by show _ = _; rw [HS.out, if_neg h60, ← hs]
    have HSS := Lib.hid hs
    clear hs
    go_enter Try.func56, Try.ntmps56
    go_wp2_with (fail)
    refine (refStrange_any xs os a xa vs c xc w H.out (by omega) HX.out (by omega)).mono ?_
    rintro e w2 ⟨rfl, g2⟩
    rw [← HSS.out]
    cases s with
    | true =>
      go_wp2_with (fail)
      go_ret
      exact ⟨ret_int HE.out.symm, g2⟩
    | false =>
      go_wp2_with (fail)
      go_ret
      exact ⟨ret_int HE.out.symm, g2⟩
set_option maxRecDepth 100000 in
theorem arrangeFault_zero (os : List Offer) (xs : List ByteArray) (a xa ca : Option Addr) (vs : List OV) (c xc cc : Nat) (w : World) (h : OffsAt w a vs os) (hol : os.length ≤ 30) (hx : CellsAt w xa (strs xs)) (hl : xs.length ≤ 1000) (hc : CellsAt w ca (ints (List.replicate os.length 0))) :
    Calls Try.prog 19 #[.slice a os.length c, .slice xa xs.length xc, .slice ca os.length cc] w fun e w' => e = .returned (.int .i64 (listF os xs)) ∧ w.grownBy w' none := by
  have hco : CountsOk os (List.replicate os.length 0) := by
    refine ⟨by simp, fun i hi => ?_⟩
    rw [List.getD_eq_getElem?_getD, List.getElem?_replicate, if_pos hi]
    simp only [Option.getD_some]
    omega
  have HC := Lib.hid hc
  have HCO := Lib.hid hco
  have H := Lib.hid h
  have HX := Lib.hid hx
  clear h hx hc hco
  go_enter Try.func19, Try.ntmps19
  go_wp2_with (fail)
  refine (listFault_any os xs a xa vs c xc w H.out hol HX.out hl).mono ?_
  rintro e w1 ⟨rfl, g1⟩
  obtain ⟨r, hr⟩ : ∃ r, r = listF os xs := ⟨_, rfl⟩
  rw [← hr]
  have HR := Lib.hid hr
  clear hr
  by_cases hr0 : r = 0
  · subst hr0
    go_wp2_with (fail)
    refine (refCountsFault_ok os _ a ca vs c cc w1 (H.out.keep0 g1) (HC.out.keep0 g1) HCO.out (by omega)).mono ?_
    rintro e w2 ⟨rfl, rfl⟩
    go_wp2_with (fail)
    have ht := refSum_any (List.replicate os.length 0) ca cc w1 (HC.out.keep0 g1) (by simp; omega) (fun x hx => by have := (List.mem_replicate.1 hx).2; omega)
    rw [List.length_replicate, sum_rep] at ht
    refine ht.mono ?_
    rintro e w2 ⟨rfl, g2⟩
    have g2 := gr_trans g1 g2
    clear g1 ht
    go_wp2_with (fail)
    go_ret
    exact ⟨ret_int HR.out, g2⟩
  · have h1 : (r != 0) = true := by simpa using hr0
    have h2 : (r == 0) = false := by simpa using hr0
    clear hr0
    go_wp2_with (fail)
    go_ret
    exact ⟨ret_int HR.out, g1⟩
/-- No tasks: a copy, unless there is too much. -/
def DoPost (xs : List ByteArray) (w : World) (e : Ending) (w' : World) : Prop :=
  ∃ v n L, e = .returned (.tuple #[v, .int .i64 (if 60 < xs.length then 2 else 0)]) ∧ n ≤ 60 ∧ w'.ownsRow w.heap.size 9 1 v n (strs L) ∧ w.grownBy w' none
set_option maxRecDepth 100000 in
theorem doNone_any (xs : List ByteArray) (xa : Option Addr) (xc : Nat) (w : World) (hx : CellsAt w xa (strs xs)) (hxn : xa = none → xs.length = 0 ∧ xc = 0) (hl : xs.length ≤ 1000) :
    Calls Try.prog 20 #[.slice xa xs.length xc, .slice none 0 0] w (DoPost xs w) := by
  have HX := Lib.hid hx
  have HN := Lib.hid hxn
  clear hx hxn
  by_cases h60 : 60 < xs.length
  · have HE : Hid ((if 60 < xs.length then 2 else 0 : Int) = 2) := by show _ = _; rw [if_pos h60]
    go_enter Try.func20, Try.ntmps20
    go_wp2_with (fail)
    go_ret2
    exact ⟨_, 0, [], by rw [HE.out] <;> rfl, by omega, World.ownsRow_nil _ _ _ _, gr_refl _ _⟩
  · have HE : Hid ((if 60 < xs.length then 2 else 0 : Int) = 0) := by show _ = _; rw [if_neg h60]
    go_enter Try.func20, Try.ntmps20
    go_wp2_with (fail)
    refine (cloneStr_any xa xs.length xc (strs xs) w (by simp [strs]) HX.out HN.out (strs_one _) (by omega)).mono ?_
    rintro e w2 ⟨v, rfl, ho, g2⟩
    obtain ⟨va, vc, rfl, _, _, _, _⟩ := own_shape ho
    have HO := Lib.hid ho
    clear ho
    go_wp2_with (fail)
    go_loopw [16] (fun i wx => i = .int .i64 0 ∧ wx = w2) (fun _ _ => 0)
    case atStart => exact ⟨rfl, rfl⟩
    case round =>
      obtain ⟨rfl, rfl⟩ := hrel
      go_wp2_with (fail)
      go_ret2
      exact ⟨_, xs.length, xs, by rw [HE.out] <;> rfl, by omega, HO.out, g2⟩

/-! Versions that are checked. -/
def vDay (vs : List Ver) (k : Nat) : Int := (vs.getD k ⟨0, []⟩).day
def vLay (vs : List Ver) (k : Nat) : List ByteArray := (vs.getD k ⟨0, []⟩).lay
structure VerOkAt (vs : List Ver) (k : Nat) : Prop where
  lo : 0 ≤ vDay vs k
  hi : vDay vs k ≤ 4000
  up : 0 < k → vDay vs (k - 1) < vDay vs k
  few : (vLay vs k).length ≤ 60
  like : (vLay vs k).length = (vLay vs 0).length
  keys : (vLay vs k).any oddB = false
structure VersOk (vs : List Ver) : Prop where
  len : vs.length ≤ 200
  all : ∀ k, k < vs.length → VerOkAt vs k
theorem vers_cells {base : Nat} {w : World} {a : Option Addr} {vs : List Ver} (h : NestAt (VerC base) w 2 a vs) (k : Nat) (hk : k < vs.length) :
    ∃ b off la lc, a = some ⟨b, off, none⟩ ∧ w.cell? ⟨b, off + k * 2, none⟩ = some (.int .i64 (vDay vs k)) ∧ w.cell? ⟨b, off + k * 2 + 1, none⟩ = some (.slice la (vLay vs k).length lc) ∧ CellsAt w la (strs (vLay vs k)) ∧ (la = none → (vLay vs k).length = 0 ∧ lc = 0) := by
  obtain ⟨b, off, c, rfl, _, ⟨la, lc, rfl, h1, _, h3⟩, hu⟩ := h.at k hk
  have e : vs.getD k ⟨0, []⟩ = vs[k] := getD_eq vs k _ hk
  refine ⟨b, off, la, lc, rfl, ?_, ?_, ?_, ?_⟩
  · unfold vDay; rw [e]; exact hu 0 _ rfl
  · unfold vLay; rw [e]; exact hu 1 _ rfl
  · unfold vLay; rw [e]; exact h1
  · unfold vLay; rw [e]; exact h3
def ChkPost (vs : List Ver) (w : World) (e : Ending) (w' : World) : Prop := ∃ r : Int, e = .returned (.int .i64 r) ∧ (r = 0 ↔ VersOk vs) ∧ w.grownBy w' none
theorem chk_no {vs : List Ver} {w w' : World} (r : Int) (hr : r ≠ 0) (h : ¬ VersOk vs) (g : w.grownBy w' none) : ChkPost vs w (.returned (.int .i64 r)) w' := ⟨r, rfl, ⟨fun e => absurd e hr, fun e => absurd e h⟩, g⟩
theorem odd_fn : ∀ (args : Array Value) (w : World), (callFunc 59 args).run Try.prog w = .ok (.enter 59 args) w := fun _ _ => by kernel_rfl
set_option maxRecDepth 100000 in
set_option maxHeartbeats 4000000 in
theorem checkVersions_any (base : Nat) (vs : List Ver) (a : Option Addr) (c : Nat) (w : World) (h : NestAt (VerC base) w 2 a vs) (hl : vs.length ≤ 100000) (hsz : ∀ v ∈ vs, v.lay.length ≤ 100000 ∧ ∀ s ∈ v.lay, s.size ≤ 100000) :
    Calls Try.prog 60 #[.slice a vs.length c] w (ChkPost vs w) := by
  have H := Lib.hid h
  have HSZ := Lib.hid hsz
  clear h hsz
  by_cases h200 : 200 < vs.length
  · go_enter Try.func60, Try.ntmps60
    go_wp2_with (fail)
    go_ret
    exact chk_no 2 (by decide) (fun h => by have := h.len; omega) (gr_refl _ _)
  · go_enter Try.func60, Try.ntmps60
    go_wp2_with (fail)
    go_loopw [10] (fun i wr => ∃ k : Nat, k ≤ vs.length ∧ i = .int .i64 k ∧ (∀ j, j < k → VerOkAt vs j) ∧ w.grownBy wr none) (fun i _ => vs.length - (intOf i).toNat)
    case atStart => exact ⟨0, Nat.zero_le _, rfl, fun j hj => absurd hj (Nat.not_lt_zero _), gr_refl _ _⟩
    case round =>
      obtain ⟨k, hk, rfl, hall, hgr⟩ := hrel
      obtain ⟨wo, rfl⟩ : ∃ wo : World, wo = wr := ⟨_, rfl⟩
      have HALL := Lib.hid hall
      clear hall
      by_cases hlt : k < vs.length
      · have hn := H.out.keep0 hgr (fun x c hx => VerC.keep0 hgr x c hx)
        obtain ⟨b, off, la, lc, rfl, d0, d1, hcl, _⟩ := vers_cells hn k hlt
        obtain ⟨b0, off0, la0, lc0, e0, z0, z1, _, _⟩ := vers_cells hn 0 (by omega)
        cases e0
        have hvm : vs.getD k ⟨0, []⟩ ∈ vs := by rw [getD_eq vs k _ hlt]; exact List.getElem_mem hlt
        obtain ⟨s1, s2⟩ := HSZ.out _ hvm
        have NO : Hid (¬ VerOkAt vs k → ¬ VersOk vs) := fun h1 h2 => h1 (h2.all k hlt)
        have MK : Hid (0 ≤ vDay vs k → vDay vs k ≤ 4000 → (0 < k → vDay vs (k - 1) < vDay vs k) → (vLay vs k).length ≤ 60 → (vLay vs k).length = (vLay vs 0).length → (vLay vs k).any oddB = false → VerOkAt vs k) := fun a b c d e f => ⟨a, b, c, d, e, f⟩
        have N1 : Hid (VerOkAt vs k → 0 ≤ vDay vs k ∧ vDay vs k ≤ 4000 ∧ (0 < k → vDay vs (k - 1) < vDay vs k) ∧ (vLay vs k).length ≤ 60 ∧ (vLay vs k).length = (vLay vs 0).length ∧ (vLay vs k).any oddB = false) := fun h => ⟨h.lo, h.hi, h.up, h.few, h.like, h.keys⟩
        have CL := Lib.hid hcl
        have S2 := Lib.hid (show ∀ s ∈ vLay vs k, s.size ≤ 100000 from s2)
        have s1' : (vLay vs k).length ≤ 100000 := s1
        have hprev : 0 < k → wo.cell? ⟨b, off + (k - 1) * 2, none⟩ = some (.int .i64 (vDay vs (k - 1))) := by
          intro h0
          obtain ⟨b', off', la', lc', e', y0, _, _, _⟩ := vers_cells hn (k - 1) (by omega)
          cases e'
          exact y0
        obtain ⟨D, hD⟩ : ∃ D, D = vDay vs k := ⟨_, rfl⟩
        obtain ⟨L, hL⟩ : ∃ L, L = vLay vs k := ⟨_, rfl⟩
        obtain ⟨Dp, hDp⟩ : ∃ D, D = vDay vs (k - 1) := ⟨_, rfl⟩
        obtain ⟨n0, hn0⟩ : ∃ n, n = (vLay vs 0).length := ⟨_, rfl⟩
        rw [← hD] at d0 MK N1
        rw [← hL] at d1 MK N1 CL S2 s1'
        rw [← hDp] at MK N1 hprev
        rw [← hn0] at MK N1 z1
        have HPV := Lib.hid hprev
        simp only [Nat.zero_mul, Nat.add_zero] at z1
        have HG := Lib.hid hgr
        clear hn hvm s1 s2 hcl hD hL hDp hn0 hprev z0 hgr
        go_wp2_with (fail)
        have hO := heap_alloc_new wo (.cells #[.int .i64 D, .slice la L.length lc] 63)
        have hg1 := gr_alloc (gr_refl wo none) (.cells #[.int .i64 D, .slice la L.length lc] 63)
        obtain ⟨w1, hw1⟩ : ∃ w1, w1 = wo.alloc (.cells #[.int .i64 D, .slice la L.length lc] 63) := ⟨_, rfl⟩
        rw [← hw1] at hO hg1
        rw [← hw1]
        obtain ⟨O, hOe⟩ : ∃ O, O = wo.heap.size := ⟨_, rfl⟩
        rw [← hOe] at hO
        rw [← hOe]
        have HG1 := Lib.hid (gr_trans HG.out hg1)
        have HCL := Lib.hid (CL.out.keep0 hg1)
        have z2 := (gr_cell hg1 (lt_of_cell z1)).trans z1
        have HPV1 : Hid (0 < k → w1.cell? ⟨b, off + (k - 1) * 2, none⟩ = some (.int .i64 Dp)) := fun h0 => (gr_cell hg1 (lt_of_cell (HPV.out h0))).trans (HPV.out h0)
        obtain ⟨c0, c1⟩ := blk2C hO
        clear hw1 hOe d0 d1 z1 hO hg1 CL HPV
        refine (day_any D w1).mono ?_
        rintro e w2 ⟨rfl, rfl⟩
        by_cases hday : D < 0 ∨ 4000 < D
        · have hb : (!(decide (D < 0) || decide (4000 < D))) = false := by
            rcases hday with h | h <;> simp [h]
          rw [hb]
          have HNO : Hid (¬ VersOk vs) := NO.out (fun h => by have := N1.out h; omega)
          clear hday hb
          go_wp2_with (fail)
          go_ret
          exact chk_no 1 (by decide) HNO.out HG1.out
        · have hb : (!(decide (D < 0) || decide (4000 < D))) = true := by
            simp; omega
          rw [hb]
          have hd0 : 0 ≤ D := by omega
          have hd4 : D ≤ 4000 := by omega
          clear hday hb
          obtain ⟨bq, hbq⟩ : ∃ bq, bq = (decide (0 < k) && decide (D ≤ Dp)) := ⟨_, rfl⟩
          have HBQ := Lib.hid hbq
          clear hbq
          have lv := lt_of_cell z2
          go_wp2_with (fail)
          go_cut [20] from 21 to 33 (fun s wx => s = .bool bq ∧ ∃ nq, wx = w1.drewN nq)
          case first =>
            by_cases h0 : 0 < k
            · have m1 := HPV1.out h0
              have hkc : (((k - 1 : Nat)) : Int) = (k : Int) - 1 := by omega
              have hint1 : (0 : Int) ≤ (k : Int) - 1 := by omega
              have hint2 : (k : Int) - 1 < (vs.length : Int) := by omega
              have hint3 : (0 : Int) < (k : Int) := by omega
              have htn : ((k : Int) - 1).toNat = k - 1 := by omega
              have hwr : IntKind.i64.wrap ((k : Int) - 1) = (k : Int) - 1 := IntWalk.i64_in _ (by omega)
              have HB2 : Hid (bq = decide (D ≤ Dp)) := by show _ = _; rw [HBQ.out]; simp [h0]
              clear hkc
              go_quiet (fail)
              go_wp2_with (fail)
              go_meet
              exact ⟨by rw [HB2.out], _, rfl⟩
            · obtain rfl : k = 0 := by omega
              have hdf : decide ((0 : Int) < 0) = false := by decide
              have HB2 : Hid (bq = false) := by show _ = _; rw [HBQ.out]; simp
              go_quiet (fail)
              go_wp2_with (fail)
              go_meet
              exact ⟨by rw [HB2.out], _, rfl⟩
          case rest =>
          obtain ⟨rfl, nq, rfl⟩ := hcut
          have HGN := Lib.hid (gr_drewN HG1.out nq)
          cases bq with
          | true =>
            have HNO : Hid (¬ VersOk vs) := NO.out (fun h => by
              have h1 := N1.out h
              have h2 := HBQ.out
              simp only [Bool.true_eq, Bool.and_eq_true, decide_eq_true_eq] at h2
              have := h1.2.2.1 h2.1
              omega)
            go_wp2_with (fail)
            go_ret
            exact chk_no 7 (by decide) HNO.out HGN.out
          | false =>
            have HUP : Hid (0 < k → Dp < D) := by
              show 0 < k → Dp < D
              intro h0
              have h2 := HBQ.out
              simp only [Bool.false_eq, Bool.and_eq_false_iff, decide_eq_false_iff_not] at h2
              omega
            clear HBQ HPV1
            by_cases hl60 : 60 < L.length
            · have HNO : Hid (¬ VersOk vs) := NO.out (fun h => by have h1 := N1.out h; omega)
              go_wp2_with (fail)
              go_ret
              exact chk_no 2 (by decide) HNO.out HGN.out
            · obtain ⟨bl, hbl⟩ : ∃ bl, bl = ((L.length : Int) != (n0 : Int)) := ⟨_, rfl⟩
              have HBL := Lib.hid hbl
              go_wp2_with (fail)
              go_cut [39] from 40 to 48 (fun s wx => s = .bool bl ∧ ∃ nx, wx = (w1.drewN nq).drewN nx)
              case first =>
                clear hbl
                go_quiet (fail)
                go_wp2_with (fail)
                go_meet
                exact ⟨by rw [HBL.out], _, rfl⟩
              case rest =>
              obtain ⟨rfl, nq2, rfl⟩ := hcut
              have HGN := Lib.hid (gr_drewN HG1.out (nq + nq2))
              clear hbl
              cases bl with
              | true =>
                have HNO : Hid (¬ VersOk vs) := NO.out (fun h => by
                  have h1 := N1.out h
                  have h2 := HBL.out
                  simp at h2
                  omega)
                go_wp2_with (fail)
                go_ret
                exact chk_no 3 (by decide) HNO.out (gr_drewN (gr_drewN HG1.out nq) nq2)
              | false =>
                have hle : L.length = n0 := by
                  have h2 := HBL.out
                  simp at h2
                  omega
                have HLE := Lib.hid hle
                obtain ⟨bo, hbo⟩ : ∃ bo, bo = L.any oddB := ⟨_, rfl⟩
                have HBO := Lib.hid hbo
                have CF := Lib.hid (containsFunc_Str0 59 oddB L la lc (w1.drewN (nq + nq2)) (by rw [strs_flat]; exact HCL.out.keep0 (gr_drewN (gr_refl _ _) _)) (by omega) odd_fn (fun x hx W _ => odd_any x W (by have := S2.out x hx; omega)))
                rw [← hbo] at CF
                clear hle hbo HBL
                go_wp2_with (fail)
                refine CF.out.mono ?_
                rintro e w3 ⟨rfl, g3⟩
                have HG3 := Lib.hid (gr_trans HGN.out g3)
                clear CF
                cases bo with
                | true =>
                  have HNO : Hid (¬ VersOk vs) := NO.out (fun h => by
                    have h1 := N1.out h
                    have h2 := HBO.out
                    rw [h1.2.2.2.2.2] at h2
                    cases h2)
                  go_wp2_with (fail)
                  go_ret
                  exact chk_no 5 (by decide) HNO.out HG3.out
                | false =>
                  have HOK := Lib.hid (MK.out hd0 hd4 HUP.out (by omega) HLE.out HBO.out.symm)
                  go_wp2_with (fail)
                  go_roundw
                  case rel =>
                    refine ⟨k + 1, by omega, by go_num, fun j hj => ?_, HG3.out⟩
                    by_cases hjk : j = k
                    · rw [hjk]; exact HOK.out
                    · exact HALL.out j (by omega)
                  case measure => simp [intOf]; omega
      · obtain rfl : k = vs.length := by omega
        have HOK : Hid (VersOk vs) := ⟨by omega, HALL.out⟩
        go_wp2_with (fail)
        go_ret
        exact ⟨0, rfl, ⟨fun _ => HOK.out, fun _ => rfl⟩, hgr⟩
end Go.Proofs.Ytdjnomeabadbnaa
