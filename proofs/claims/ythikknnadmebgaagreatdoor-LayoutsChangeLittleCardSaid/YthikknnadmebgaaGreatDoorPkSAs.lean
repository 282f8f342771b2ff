/- The reference's part of shelves; doing nothing; versions that are checked. -/
import Derived.Test.YthikknnadmebgaaGreatDoorPkSAm
import Derived.Test.YthikknnadmebgaaGreatDoorPkSAn
import Derived.Test.YthikknnadmebgaaGreatDoorPkSAr
import Derived.Test.YthikknnadmebgaaGreatDoorPkSAh
namespace Go.Proofs.YthikknnadmebgaaGreatDoor
open Go.RowKit
attribute [local go_sem ↓] Go.wp_at_zero Go.wp_at_succ

theorem refOffer1_fn : ∀ (args : Array Value) (w : World), (callFunc 147 args).run Tryz.prog w = .ok (.enter 147 args) w := fun _ _ => by kernel_rfl
set_option maxRecDepth 100000 in
theorem refOffer1_any (t : OV) (x : ByteArray) (q : Nat) (w : World) (hq : w.cell? ⟨q, 0, none⟩ = some (.string x)) :
    Calls Tryz.prog 147 #[.agg #[.string t.key, .string t.group, .slice t.pa t.pn t.pc, .slice t.ha t.hn t.hc, .slice t.ta t.tn t.tc], .pointer (some ⟨q, 0, none⟩)] w fun e w' => e = .returned (.bool (t.key.toList == x.toList)) ∧ w.grownBy w' none := by
  have hqlt := lt_of_cell hq
  go_enter Tryz.func147, Tryz.ntmps147
  go_wp2_with (fail)
  go_ret
  exact ⟨rfl, gr_alloc (gr_refl w none) _⟩
set_option maxRecDepth 100000 in
theorem refOffer_any (key : ByteArray) (os : List Offer) (a : Option Addr) (vs : List OV) (c : Nat) (w : World) (h : OffsAt w a vs os) (hl : os.length ≤ 100000) :
    Calls Tryz.prog 106 #[.slice a os.length c, .string key] w fun e w' => e = .returned (.int .i64 (offIx os key)) ∧ w.grownBy w' none := by
  have hlen := Lib.hid h.len
  have hix := Lib.hid (h.ix key)
  have H := Lib.hid h
  clear h
  go_enter Tryz.func106, Tryz.ntmps106
  go_wp2_with (fail)
  have hg1 := gr_alloc (gr_refl w none) (.cells #[.string key] 9)
  have hl2 : vs.length ≤ 137438953472 := by rw [hlen.out]; omega
  rw [← hlen.out]
  refine (indexFunc_Offer _ ⟨w.heap.size, 0, none⟩ (fun t : OV => t.key.toList == key.toList) vs a c _ (H.out.cells.keep0 hg1) hl2 refOffer1_fn ?_).mono ?_
  · intro t _ w1 hg
    exact refOffer1_any t key w.heap.size w1 ((gr_cell hg (by simp)).trans (by rw [World.cell?_alloc_at _ _ _ _ rfl]; rfl))
  rintro e w2 ⟨rfl, hg2⟩
  rw [hix.out]
  go_wp2_with (fail)
  go_ret
  exact ⟨rfl, gr_trans hg1 hg2⟩
theorem refStrange1_fn : ∀ (args : Array Value) (w : World), (callFunc 105 args).run Tryz.prog w = .ok (.enter 105 args) w := fun _ _ => by kernel_rfl
set_option maxRecDepth 100000 in
theorem refStrange1_any (k : ByteArray) (os : List Offer) (a : Option Addr) (vs : List OV) (c q : Nat) (w : World) (h : OffsAt w a vs os) (hl : os.length ≤ 100000) (hq : w.cell? ⟨q, 0, none⟩ = some (.slice a os.length c)) :
    Calls Tryz.prog 105 #[.string k, .pointer (some ⟨q, 0, none⟩)] w fun e w' => e = .returned (.bool (strangeB os k)) ∧ w.grownBy w' none := by
  have H := Lib.hid h
  clear h
  have HS : Hid (strangeB os k = (!k.toList.isEmpty && decide (offIx os k < 0))) := rfl
  cases he : k.toList.isEmpty with
  | true =>
    have he2 : k.toList = [] := by simpa using he
    have HE : Hid (strangeB os k = false) := by show _ = _; rw [HS.out, he]; rfl
    go_enter Tryz.func105, Tryz.ntmps105
    go_wp2_with (fail)
    go_ret
    exact ⟨ret_bool HE.out.symm, gr_refl _ _⟩
  | false =>
    have he2 : (!k.toList.isEmpty) = true := by rw [he]; rfl
    have he3 : ¬ k.toList = [] := by intro e; rw [e] at he; cases he
    have HE : Hid (strangeB os k = decide (offIx os k < 0)) := by show _ = _; rw [HS.out, he]; rfl
    go_enter Tryz.func105, Tryz.ntmps105
    go_wp2_with (fail)
    refine (refOffer_any k os a vs c w H.out hl).mono ?_
    rintro e w2 ⟨rfl, g2⟩
    go_wp2_with (fail)
    go_ret
    exact ⟨ret_bool HE.out.symm, g2⟩
set_option maxRecDepth 100000 in
theorem refStrange_any (xs : List ByteArray) (os : List Offer) (a xa : Option Addr) (vs : List OV) (c xc : Nat) (w : World) (h : OffsAt w a vs os) (hl : os.length ≤ 100000) (hx : CellsAt w xa (strs xs)) (hxl : xs.length ≤ 100000) :
    Calls Tryz.prog 62 #[.slice a os.length c, .slice xa xs.length xc] w fun e w' => e = .returned (.bool (xs.any (strangeB os))) ∧ w.grownBy w' none := by
  have H := Lib.hid h
  have HX := Lib.hid hx
  clear h hx
  go_enter Tryz.func62, Tryz.ntmps62
  go_wp2_with (fail)
  have hg1 := gr_alloc (gr_refl w none) (.cells #[.slice a os.length c] 55)
  refine (containsFunc_StrC _ ⟨w.heap.size, 0, none⟩ (strangeB os) xs xa xc _ (by rw [strs_flat]; exact HX.out.keep0 hg1) (by omega) refStrange1_fn ?_).mono ?_
  · intro k _ w1 hg
    exact refStrange1_any k os a vs c w.heap.size w1 (H.out.keep0 (gr_trans hg1 hg)) hl ((gr_cell hg (by simp)).trans (by rw [World.cell?_alloc_at _ _ _ _ rfl]; rfl))
  rintro e w2 ⟨rfl, hg2⟩
  go_wp2_with (fail)
  go_ret
  exact ⟨rfl, gr_trans hg1 hg2⟩
set_option maxRecDepth 100000 in
theorem listFault_any (os : List Offer) (xs : List ByteArray) (a xa : Option Addr) (vs : List OV) (c xc : Nat) (w : World) (h : OffsAt w a vs os) (hol : os.length ≤ 30) (hx : CellsAt w xa (strs xs)) (hl : xs.length ≤ 1000) :
    Calls Tryz.prog 63 #[.slice a os.length c, .slice xa xs.length xc] w fun e w' => e = .returned (.int .i64 (listF os xs)) ∧ w.grownBy w' none := by
  have H := Lib.hid h
  have HX := Lib.hid hx
  have HS : Hid (listF os xs = if 60 < xs.length then 2 else if xs.any (strangeB os) then 8 else 0) := rfl
  clear h hx
  by_cases h60 : 60 < xs.length
  · have HE : Hid (listF os xs = 2) := by show _ = _; rw [HS.out, if_pos h60]
    go_enter Tryz.func63, Tryz.ntmps63
    go_wp2_with (fail)
    go_ret
    exact ⟨ret_int HE.out.symm, gr_refl _ _⟩
  · obtain ⟨s, hs⟩ : ∃ s, s = xs.any (strangeB os) := ⟨_, rfl⟩
    have HE : Hid (listF os xs = if s then 8 else 0) := by show _ = _; rw [HS.out, if_neg h60, ← hs]
    have HSS := Lib.hid hs
    clear hs
    go_enter Tryz.func63, Tryz.ntmps63
    go_wp2_with (fail)
    refine (refStrange_any xs os a xa vs c xc w H.out (by omega) HX.out (by omega)).mono ?_
    rintro e w2 ⟨rfl, g2⟩
    rw [← HSS.out]
    cases s with
    | true =>
      go_wp2_with (fail)
      go_ret
      exact ⟨ret_int HE.out.symm, g2⟩
    | false =>
      go_wp2_with (fail)
      go_ret
      exact ⟨ret_int HE.out.symm, g2⟩
set_option maxRecDepth 100000 in
theorem arrangeFault_zero (os : List Offer) (xs : List ByteArray) (a xa ca : Option Addr) (vs : List OV) (c xc cc : Nat) (w : World) (h : OffsAt w a vs os) (hol : os.length ≤ 30) (hx : CellsAt w xa (strs xs)) (hl : xs.length ≤ 1000) (hc : CellsAt w ca (ints (List.replicate os.length 0))) :
    Calls Tryz.prog 25 #[.slice a os.length c, .slice xa xs.length xc, .slice ca os.length cc] w fun e w' => e = .returned (.int .i64 (listF os xs)) ∧ w.grownBy w' none := by
  have hco : CountsOk os (List.replicate os.length 0) := by
    refine ⟨by simp, fun i hi => ?_⟩
    rw [List.getD_eq_getElem?_getD, List.getElem?_replicate, if_pos hi]
    simp only [Option.getD_some]
    omega
  have HC := Lib.hid hc
  have HCO := Lib.hid hco
  have H := Lib.hid h
  have HX := Lib.hid hx
  clear h hx hc hco
  go_enter Tryz.func25, Tryz.ntmps25
  go_wp2_with (fail)
  refine (listFault_any os xs a xa vs c xc w H.out hol HX.out hl).mono ?_
  rintro e w1 ⟨rfl, g1⟩
  obtain ⟨r, hr⟩ : ∃ r, r = listF os xs := ⟨_, rfl⟩
  rw [← hr]
  have HR := Lib.hid hr
  clear hr
  by_cases hr0 : r = 0
  · subst hr0
    go_wp2_with (fail)
    refine (refCountsFault_ok os _ a ca vs c cc w1 (H.out.keep0 g1) (HC.out.keep0 g1) HCO.out (by omega)).mono ?_
    rintro e w2 ⟨rfl, rfl⟩
    go_wp2_with (fail)
    have ht := refSum_any (List.replicate os.length 0) ca cc w1 (HC.out.keep0 g1) (by simp; omega) (fun x hx => by have := (List.mem_replicate.1 hx).2; omega)
    rw [List.length_replicate, sum_rep] at ht
    refine ht.mono ?_
    rintro e w2 ⟨rfl, g2⟩
    have g2 := gr_trans g1 g2
    clear g1 ht
    go_wp2_with (fail)
    go_ret
    exact ⟨ret_int HR.out, g2⟩
  · have h1 : (r != 0) = true := by simpa using hr0
    have h2 : (r == 0) = false := by simpa using hr0
    clear hr0
    go_wp2_with (fail)
    go_ret
    exact ⟨ret_int HR.out, g1⟩
/-- No tasks: a copy, unless there is too much. -/
def DoPost (xs : List ByteArray) (w : World) (e : Ending) (w' : World) : Prop :=
  ∃ v n L, e = .returned (.tuple #[v, .int .i64 (if 60 < xs.length then 2 else 0)]) ∧ n ≤ 60 ∧ w'.ownsRow w.heap.size 9 1 v n (strs L) ∧ w.grownBy w' none
set_option maxRecDepth 100000 in
theorem doNone_any (xs : List ByteArray) (xa : Option Addr) (xc : Nat) (w : World) (hx : CellsAt w xa (strs xs)) (hxn : xa = none → xs.length = 0 ∧ xc = 0) (hl : xs.length ≤ 1000) :
    Calls Tryz.prog 31 #[.slice xa xs.length xc, .slice none 0 0] w (DoPost xs w) := by
  have HX := Lib.hid hx
  have HN := Lib.hid hxn
  clear hx hxn
  by_cases h60 : 60 < xs.length
  · have HE : Hid ((if 60 < xs.length then 2 else 0 : Int) = 2) := by show _ = _; rw [if_pos h60]
    go_enter Tryz.func31, Tryz.ntmps31
    go_wp2_with (fail)
    go_ret2
    exact ⟨_, 0, [], by rw [HE.out] <;> rfl, by omega, World.ownsRow_nil _ _ _ _, gr_refl _ _⟩
  · have HE : Hid ((if 60 < xs.length then 2 else 0 : Int) = 0) := by show _ = _; rw [if_neg h60]
    go_enter Tryz.func31, Tryz.ntmps31
    go_wp2_with (fail)
    refine (cloneStr_any xa xs.length xc (strs xs) w (by simp [strs]) HX.out HN.out (strs_one _) (by omega)).mono ?_
    rintro e w2 ⟨v, rfl, ho, g2⟩
    obtain ⟨va, vc, rfl, _, _, _, _⟩ := own_shape ho
    have HO := Lib.hid ho
    clear ho
    go_wp2_with (fail)
    go_loopw [16] (fun i wx => i = .int .i64 0 ∧ wx = w2) (fun _ _ => 0)
    case atStart => exact ⟨rfl, rfl⟩
    case round =>
      obtain ⟨rfl, rfl⟩ := hrel
      go_wp2_with (fail)
      go_ret2
      exact ⟨_, xs.length, xs, by rw [HE.out] <;> rfl, by omega, HO.out, g2⟩

/-! Versions that are checked. -/
def vDay (vs : List Ver) (k : Nat) : Int := (vs.getD k ⟨0, []⟩).day
def vLay (vs : List Ver) (k : Nat) : List ByteArray := (vs.getD k ⟨0, []⟩).lay
structure VerOkAt (vs : List Ver) (k : Nat) : Prop where
  lo : 0 ≤ vDay vs k
  hi : vDay vs k ≤ 4000
  up : 0 < k → vDay vs (k - 1) < vDay vs k
  few : (vLay vs k).length ≤ 60
  like : (vLay vs k).length = (vLay vs 0).length
  keys : (vLay vs k).any oddB = false
structure VersOk (vs : List Ver) : Prop where
  len : vs.length ≤ 200
  all : ∀ k, k < vs.length → VerOkAt vs k
theorem vers_cells {base : Nat} {w : World} {a : Option Addr} {vs : List Ver} (h : NestAt (VerC base) w 2 a vs) (k : Nat) (hk : k < vs.length) :
    ∃ b off la lc, a = some ⟨b, off, none⟩ ∧ w.cell? ⟨b, off + k * 2, none⟩ = some (.int .i64 (vDay vs k)) ∧ w.cell? ⟨b, off + k * 2 + 1, none⟩ = some (.slice la (vLay vs k).length lc) ∧ CellsAt w la (strs (vLay vs k)) ∧ (la = none → (vLay vs k).length = 0 ∧ lc = 0) := by
  obtain ⟨b, off, c, rfl, _, ⟨la, lc, rfl, h1, _, h3⟩, hu⟩ := h.at k hk
  have e : vs.getD k ⟨0, []⟩ = vs[k] := getD_eq vs k _ hk
  refine ⟨b, off, la, lc, rfl, ?_, ?_, ?_, ?_⟩
  · unfold vDay; rw [e]; exact hu 0 _ rfl
  · unfold vLay; rw [e]; exact hu 1 _ rfl
  · unfold vLay; rw [e]; exact h1
  · unfold vLay; rw [e]; exact h3
def ChkPost (vs : List Ver) (w : World) (e : Ending) (w' : World) : Prop := ∃ r : Int, e = .returned (.int .i64 r) ∧ (r = 0 ↔ VersOk vs) ∧ w.grownBy w' none
theorem chk_no {vs : List Ver} {w w' : World} (r : Int) (hr : r ≠ 0) (h : ¬ VersOk vs) (g : w.grownBy w' none) : ChkPost vs w (.returned (.int .i64 r)) w' := ⟨r, rfl, ⟨fun e => absurd e hr, fun e => absurd e h⟩, g⟩
theorem odd_fn : ∀ (args : Array Value) (w : World), (callFunc 74 args).run Tryz.prog w = .ok (.enter 74 args) w := fun _ _ => by kernel_rfl
end Go.Proofs.YthikknnadmebgaaGreatDoor

/-! The document's faults of offers: right offers have none. -/
namespace Go.Proofs.YthikknnadmebgaaGreatDoor
open Go.RowKit
attribute [local go_sem ↓] Go.wp_at_zero Go.wp_at_succ

set_option maxRecDepth 100000 in
set_option maxHeartbeats 1000000 in
theorem risingKeys_ok (xs : List ByteArray) (a : Option Addr) (c : Nat) (w : World) (h : CellsAt w a (strs xs)) (hok : KeysOk xs) :
    Calls Tryz.prog 104 #[.slice a xs.length c] w fun e w' => e = .returned (.int .i64 0) ∧ w.grownBy w' none := by
  have hl := hok.len
  have HK := Lib.hid hok
  have H := Lib.hid h
  clear hok h
  go_enter Tryz.func104, Tryz.ntmps104
  go_wp2_with (fail)
  go_loopw [7] (fun i wr => ∃ k : Nat, k ≤ xs.length ∧ i = .int .i64 k ∧ w.grownBy wr none) (fun i _ => xs.length - (intOf i).toNat)
  case atStart => exact ⟨0, Nat.zero_le _, rfl, gr_refl _ _⟩
  case round =>
    obtain ⟨k, hk, rfl, hgr⟩ := hrel
    obtain ⟨wo, rfl⟩ : ∃ wo : World, wo = wr := ⟨_, rfl⟩
    by_cases hlt : k < xs.length
    · obtain ⟨b, off, rfl, d0'⟩ := str_cell H.out k hlt
      have d0 := (gr_cell hgr (lt_of_cell d0')).trans d0'
      obtain ⟨kx, ksz⟩ := HK.out.key (xs.getD k ⟨#[]⟩) (by rw [getD_eq xs k _ hlt]; exact List.getElem_mem hlt)
      have HG := Lib.hid hgr
      by_cases h0 : 0 < k
      · have hup := HK.out.up k h0 hlt
        obtain ⟨b', off', he, d1'⟩ := str_cell H.out (k - 1) (by omega)
        cases he
        obtain ⟨x, hx⟩ : ∃ x, x = xs.getD k ⟨#[]⟩ := ⟨_, rfl⟩
        obtain ⟨y, hy⟩ : ∃ y, y = xs.getD (k - 1) ⟨#[]⟩ := ⟨_, rfl⟩
        rw [← hx] at kx ksz hup d0
        rw [← hy] at hup d1'
        have hup2 : (Op.bytesLess x.toList y.toList || x.toList == y.toList) = false := hup
        have D2 := Lib.hid d1'
        have hk1 : (((k - 1 : Nat)) : Int) = (k : Int) - 1 := by omega
        have HK1 := Lib.hid hk1
        have HKX := Lib.hid kx
        clear hx hy hup kx hk1 hgr d0' d1'
        have hint : (1 : Int) ≤ (k : Int) := by omega
        go_wp2_with (fail)
        refine (keyOf_any x wo (by omega)).mono ?_
        rintro e w2 ⟨rfl, g2⟩
        rw [HKX.out]
        have G2 := Lib.hid (gr_trans HG.out g2)
        have d2 := (gr_cell G2.out (lt_of_cell D2.out)).trans D2.out
        clear g2 d0
        go_wp2_with (fail)
        go_roundw
        case rel => exact ⟨k + 1, by omega, by go_num, G2.out⟩
        case measure => simp [intOf]; omega
      · obtain rfl : k = 0 := by omega
        obtain ⟨x, hx⟩ : ∃ x, x = xs.getD 0 ⟨#[]⟩ := ⟨_, rfl⟩
        rw [← hx] at kx ksz d0
        simp only [Nat.add_zero] at d0
        have HKX := Lib.hid kx
        clear hx kx hgr d0'
        go_wp2_with (fail)
        refine (keyOf_any x wo (by omega)).mono ?_
        rintro e w2 ⟨rfl, g2⟩
        rw [HKX.out]
        have G2 := Lib.hid (gr_trans HG.out g2)
        clear g2 d0
        go_wp2_with (fail)
        go_roundw
        case rel => exact ⟨1, by omega, by go_num, G2.out⟩
        case measure => simp [intOf]; omega
    · obtain rfl : k = xs.length := by omega
      go_wp2_with (fail)
      go_ret
      exact ⟨rfl, hgr⟩
theorem refOffers1_fn : IsFn 103 := fun _ _ => by kernel_rfl
set_option maxRecDepth 100000 in
theorem refOffers1_any (xs : List Int) (w : World) (h : ∀ n ∈ xs, -1000000 ≤ n ∧ n ≤ 1000000) : Answers 103 #[] (fun _ => false) xs w := by
  intro x hx w1 hg
  obtain ⟨h1, h2⟩ := h x hx
  clear h
  show Calls _ _ #[.int .i64 x] w1 _
  have e1 : decide (x < -1000000) = false := by simp; omega
  have e2 : decide (1000000 < x) = false := by simp; omega
  go_enter Tryz.func103, Tryz.ntmps103
  go_wp2_with (fail)
  go_ret
  exact ⟨rfl, gr_refl _ _⟩
set_option maxRecDepth 100000 in
set_option maxHeartbeats 4000000 in
theorem refOffers_ok (os : List Offer) (a : Option Addr) (vs : List OV) (c : Nat) (w : World) (h : OffsAt w a vs os) (hok : OffersOk os) :
    Calls Tryz.prog 61 #[.slice a os.length c] w fun e w' => e = .returned (.int .i64 0) ∧ w.grownBy w' none := by
  have hl := hok.len
  have HK := Lib.hid hok
  have H := Lib.hid h
  clear hok h
  go_enter Tryz.func61, Tryz.ntmps61
  go_wp2_with (fail)
  go_loopw [13] (fun i wr => ∃ k : Nat, k ≤ os.length ∧ i = .int .i64 k ∧ w.grownBy wr none) (fun i _ => os.length - (intOf i).toNat)
  case atStart => exact ⟨0, Nat.zero_le _, rfl, gr_refl _ _⟩
  case round =>
    obtain ⟨k, hk, rfl, hgr⟩ := hrel
    obtain ⟨wo, rfl⟩ : ∃ wo : World, wo = wr := ⟨_, rfl⟩
    by_cases hlt : k < os.length
    · obtain ⟨b, off, v, rfl, hr, d0, d1, d2, d3, d4⟩ := (H.out.keep0 hgr).at k hlt
      obtain ⟨k1, k2, k3, k4⟩ := HK.out.key os[k] (List.getElem_mem hlt)
      obtain ⟨p1, p2, p3⟩ := HK.out.prof os[k] (List.getElem_mem hlt)
      obtain ⟨s1, s2⟩ := HK.out.sub os[k] (List.getElem_mem hlt)
      have e1 := hr.key
      have e2 := hr.group
      have hpn := hr.pn
      have hhn := hr.hn
      have htn := hr.tn
      have CP := Lib.hid hr.pr
      have CH := Lib.hid hr.has
      have CT := Lib.hid hr.hat
      have hul := HK.out.up k
      obtain ⟨o, ho⟩ : ∃ o, o = os[k] := ⟨_, rfl⟩
      rw [← ho] at e1 e2 hpn hhn htn CP CH CT k1 k2 k3 k4 p1 p2 p3 s1 s2
      obtain ⟨vk, vg, pa, pn, pc, ha, hn, hc, ta, tn, tc⟩ := v
      simp only at e1 e2 hpn hhn htn CP CH CT d0 d1 d2 d3 d4
      subst e1 e2 hpn hhn htn
      have HO := Lib.hid ho
      have K1 := Lib.hid k1; have K2 := Lib.hid k2; have P3 := Lib.hid p3; have S1 := Lib.hid s1; have S2 := Lib.hid s2
      have HUL := Lib.hid hul
      have sl1 := s1.len
      have sl2 := s2.len
      clear hr ho k1 k2 p3 s1 s2 hul
      go_wp2_with (fail)
      have hO := heap_alloc_new wo (.cells #[.string o.key, .string o.group, .slice pa o.profits.length pc, .slice ha o.has.length hc, .slice ta o.hates.length tc] 119)
      have hg1 := gr_alloc (gr_refl wo none) (.cells #[.string o.key, .string o.group, .slice pa o.profits.length pc, .slice ha o.has.length hc, .slice ta o.hates.length tc] 119)
      obtain ⟨w1, hw1⟩ : ∃ w1, w1 = wo.alloc (.cells #[.string o.key, .string o.group, .slice pa o.profits.length pc, .slice ha o.has.length hc, .slice ta o.hates.length tc] 119) := ⟨_, rfl⟩
      rw [← hw1] at hO hg1
      rw [← hw1]
      obtain ⟨O, hOe⟩ : ∃ O, O = wo.heap.size := ⟨_, rfl⟩
      rw [← hOe] at hO
      rw [← hOe]
      have hgr1 := gr_trans hgr hg1
      clear hw1 hOe d0 d1 d2 d3 d4
      refine (keyOf_any o.key w1 (by omega)).mono ?_
      rintro e w2 ⟨rfl, g2⟩
      rw [K1.out]
      have hint : ((os.length : Nat) : Int) ≤ 30 := by omega
      have HO2 := Lib.hid ((g2.block O (lt_of_block hO) (by simp)).trans hO)
      obtain ⟨c0, c1, c2, c3, c4⟩ := blk5 HO2.out
      have G02 := Lib.hid (gr_trans hg1 g2)
      have GR2 := Lib.hid (gr_trans hgr1 g2)
      clear hO hg1 hgr1 g2 hgr
      go_wp2_with (fail)
      go_cut [23] from 23 to 37 (fun s wx => s = .bool false ∧ w2.grownBy wx none)
      case first =>
        by_cases h0 : 0 < k
        · have hul := HUL.out h0 hlt
          rw [← HO.out] at hul
          obtain ⟨b', off', v', he, hr', m0, _⟩ := ((H.out.keep0 GR2.out)).at (k - 1) (by omega)
          cases he
          have ek := hr'.key
          obtain ⟨y, hy⟩ : ∃ y, y = v'.key := ⟨_, rfl⟩
          rw [← hy] at m0 ek
          rw [← ek] at hul
          have hup2 : (Op.bytesLess o.key.toList y.toList || o.key.toList == y.toList) = false := hul
          have m1 : w2.cell? ⟨b, off + (k - 1) * 5, none⟩ = some (.string y) := m0
          have hkc : (((k - 1 : Nat)) : Int) = (k : Int) - 1 := by omega
          have hint1 : (0 : Int) ≤ (k : Int) - 1 := by omega
          have hint2 : (k : Int) - 1 < (os.length : Int) := by omega
          have hint3 : (0 : Int) < (k : Int) := by omega
          have htn : ((k : Int) - 1).toNat = k - 1 := by omega
          have hwr : IntKind.i64.wrap ((k : Int) - 1) = (k : Int) - 1 := IntWalk.i64_in _ (by omega)
          clear hr' hy ek hul m0 hkc
          go_quiet (fail)
          go_wp2_with (fail)
          go_meet
          exact ⟨rfl, gr_drewN (gr_refl _ _) _⟩
        · obtain rfl : k = 0 := by omega
          have hdf : decide ((0 : Int) < 0) = false := by decide
          go_quiet (fail)
          go_wp2_with (fail)
          go_meet
          exact ⟨rfl, gr_drewN (gr_refl _ _) _⟩
      case rest =>
      obtain ⟨rfl, gx⟩ := hcut
      obtain ⟨wx, rfl⟩ : ∃ wx : World, wx = wc := ⟨_, rfl⟩
      have HO3 := Lib.hid ((gx.block O (lt_of_block HO2.out) (by simp)).trans HO2.out)
      clear c0 c1 c2 c3 c4
      obtain ⟨c0, c1, c2, c3, c4⟩ := blk5 HO3.out
      have G03 := Lib.hid (gr_trans G02.out gx)
      have GR3 := Lib.hid (gr_trans GR2.out gx)
      clear gx HO2
      go_wp2_with (fail)
      refine (keyOf_any o.group wx (by omega)).mono ?_
      rintro e w4 ⟨rfl, g4⟩
      rw [K2.out]
      have HO4 := Lib.hid ((g4.block O (lt_of_block HO3.out) (by simp)).trans HO3.out)
      clear c0 c1 c2 c3 c4
      obtain ⟨c0, c1, c2, c3, c4⟩ := blk5 HO4.out
      have G04 := Lib.hid (gr_trans G03.out g4)
      have GR4 := Lib.hid (gr_trans GR3.out g4)
      clear g4 HO3
      go_wp2_with (fail)
      refine (containsFunc_int _ (fun _ => false) o.profits pa pc w4 (CP.out.keep0 G04.out) (by omega) refOffers1_fn (refOffers1_any o.profits _ P3.out)).mono ?_
      rintro e w5 ⟨rfl, g5⟩
      have hany : o.profits.any (fun _ => false) = false := by simp
      rw [hany]
      have HO5 := Lib.hid ((g5.block O (lt_of_block HO4.out) (by simp)).trans HO4.out)
      clear c0 c1 c2 c3 c4 hany
      obtain ⟨c0, c1, c2, c3, c4⟩ := blk5 HO5.out
      have G05 := Lib.hid (gr_trans G04.out g5)
      have GR5 := Lib.hid (gr_trans GR4.out g5)
      clear g5 HO4
      go_wp2_with (fail)
      have hZ := heap_alloc_new w5 (.cells #[.slice ha o.has.length hc, .slice ta o.hates.length tc] 57)
      have gZ := gr_alloc (gr_refl w5 none) (.cells #[.slice ha o.has.length hc, .slice ta o.hates.length tc] 57)
      obtain ⟨w6, hw6⟩ : ∃ w6, w6 = w5.alloc (.cells #[.slice ha o.has.length hc, .slice ta o.hates.length tc] 57) := ⟨_, rfl⟩
      rw [← hw6] at hZ gZ
      rw [← hw6]
      obtain ⟨Z, hZe⟩ : ∃ Z, Z = w5.heap.size := ⟨_, rfl⟩
      rw [← hZe] at hZ
      rw [← hZe]
      have HZ := Lib.hid hZ
      have G06 := Lib.hid (gr_trans G05.out gZ)
      have GR6 := Lib.hid (gr_trans GR5.out gZ)
      clear c0 c1 c2 c3 c4 hw6 hZe hZ gZ
      go_loopw [62] (fun i wr => ∃ j : Nat, j ≤ 2 ∧ i = .int .i64 j ∧ w6.grownBy wr none) (fun i _ => 2 - (intOf i).toNat)
      case atStart => exact ⟨0, Nat.zero_le _, rfl, gr_refl _ _⟩
      case round =>
        obtain ⟨j, hj, rfl, hgj⟩ := hrel
        obtain ⟨wp, rfl⟩ : ∃ wp : World, wp = wr := ⟨_, rfl⟩
        have hZ := (hgj.block Z (lt_of_block HZ.out) (by simp)).trans HZ.out
        have z0 := blkC hZ 0 rfl
        have z1 := blkC hZ 1 rfl
        have CHp := Lib.hid (CH.out.keep0 (gr_trans G06.out hgj))
        have CTp := Lib.hid (CT.out.keep0 (gr_trans G06.out hgj))
        have HGJ := Lib.hid hgj
        clear hZ hgj
        by_cases h2 : j < 2
        · have hj2 : j = 0 ∨ j = 1 := by omega
          clear hj h2
          rcases hj2 with rfl | rfl
          · go_wp2_with (fail)
            refine (risingKeys_ok o.has ha hc wp CHp.out S1.out).mono ?_
            rintro e w7 ⟨rfl, g7⟩
            have G7 := Lib.hid (gr_trans HGJ.out g7)
            clear g7
            go_wp2_with (fail)
            go_roundw
            case rel => exact ⟨1, by omega, by go_num, G7.out⟩
            case measure => simp [intOf]
          · go_wp2_with (fail)
            refine (risingKeys_ok o.hates ta tc wp CTp.out S2.out).mono ?_
            rintro e w7 ⟨rfl, g7⟩
            have G7 := Lib.hid (gr_trans HGJ.out g7)
            clear g7
            go_wp2_with (fail)
            go_roundw
            case rel => exact ⟨2, by omega, by go_num, G7.out⟩
            case measure => simp [intOf]
        · obtain rfl : j = 2 := by omega
          clear z0 z1 hj h2
          go_wp2_with (fail)
          go_roundw
          case rel => exact ⟨k + 1, by omega, by go_num, gr_trans GR6.out HGJ.out⟩
          case measure => simp [intOf]; omega
    · obtain rfl : k = os.length := by omega
      go_wp2_with (fail)
      go_ret
      exact ⟨rfl, hgr⟩
end Go.Proofs.YthikknnadmebgaaGreatDoor
