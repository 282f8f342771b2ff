/- meter.Encode of a right line, and what the reference says of a line. -/
import Derived.Test.YtjhdngfliakidaaDoorPkIAd
import Derived.Test.YtjhdngfliakidaaDoorPkIAj
import Derived.Test.YtjhdngfliakidaaDoorPkIAk
import Derived.Test.YtjhdngfliakidaaDoorPkIAe
namespace Go.Proofs.YtjhdngfliakidaaDoor
open Go.RowKit
attribute [local go_sem ↓] Go.wp_at_zero Go.wp_at_succ

structure LineOk (x : Rd) : Prop where
  a0 : 0 ≤ x.at_
  a1 : x.at_ < 5761440
  l0 : 1 ≤ x.vs.length
  l1 : x.vs.length ≤ 60
  all : ∀ n ∈ x.vs, 0 ≤ n ∧ n ≤ 999999
def badL (n : Int) : Bool := decide (n < 0) || decide (999999 < n)
theorem lineF1_fn : IsFn 68 := fun _ _ => by kernel_rfl
theorem encF1_fn : IsFn 71 := fun _ _ => by kernel_rfl
theorem lineF1_any (n : Int) (w : World) : Calls Tryd.prog 68 #[.int .i64 n] w fun e w' => e = .returned (.bool (badL n)) ∧ w.grownBy w' none := by
  by_cases h1 : n < 0
  · have d1 : decide (n < 0) = true := by simpa using h1
    have hb : badL n = true := by unfold badL; rw [d1]; rfl
    rw [hb]
    clear hb
    go_enter Tryd.func68, Tryd.ntmps68
    go_wp2_with (fail)
    go_ret
    exact ⟨rfl, gr_refl _ _⟩
  · have d1 : decide (n < 0) = false := by simpa using h1
    have hb : badL n = decide (999999 < n) := by unfold badL; rw [d1]; rfl
    rw [hb]
    clear hb
    go_enter Tryd.func68, Tryd.ntmps68
    go_wp2_with (fail)
    go_ret
    exact ⟨rfl, gr_refl _ _⟩
theorem encF1_any (n : Int) (w : World) : Calls Tryd.prog 71 #[.int .i64 n] w fun e w' => e = .returned (.bool (badL n)) ∧ w.grownBy w' none := by
  unfold badL
  go_enter Tryd.func71, Tryd.ntmps71
  go_wp2_with (fail)
  refine (out_any n 0 999999 w).mono ?_
  rintro e w2 ⟨rfl, rfl⟩
  go_wp2_with (fail)
  go_ret
  exact ⟨rfl, gr_refl _ _⟩
set_option maxRecDepth 100000 in
theorem lineFault_any (x : Rd) (a : Option Addr) (cp : Nat) (w : World) (hc : CellsAt w a (ints x.vs)) (hl : x.vs.length ≤ 1000) :
    Calls Tryd.prog 31 #[.agg #[.int .i64 x.at_, .slice a x.vs.length cp]] w fun e w' => ∃ r : Int, e = .returned (.int .i64 r) ∧ (r = 0 → LineOk x) ∧ w.grownBy w' none := by
  obtain ⟨A, vs⟩ := x
  simp only at hc hl ⊢
  have hP := heap_alloc_new w (.cells #[.int .i64 A, .slice a vs.length cp] 70)
  have g1 := gr_alloc (gr_refl w none) (.cells #[.int .i64 A, .slice a vs.length cp] 70)
  obtain ⟨w1, hw1⟩ : ∃ w1, w1 = w.alloc (.cells #[.int .i64 A, .slice a vs.length cp] 70) := ⟨_, rfl⟩
  rw [← hw1] at hP g1
  obtain ⟨V, hV⟩ : ∃ V, V = w.heap.size := ⟨_, rfl⟩
  rw [← hV] at hP
  have p0 : w1.cell? ⟨V, 0, none⟩ = some (.int .i64 A) := blkC hP 0 rfl
  have p1 : w1.cell? ⟨V, 1, none⟩ = some (.slice a vs.length cp) := blkC hP 1 rfl
  have HG := Lib.hid g1
  have CF := Lib.hid (containsFunc_int 68 badL vs a cp w1 (hc.keep0 g1) (by omega) lineF1_fn (fun x _ W _ => lineF1_any x W))
  have HW := Lib.hid hw1
  have HV := Lib.hid hV
  clear hc hP g1 hw1 hV
  go_enter Tryd.func31, Tryd.ntmps31
  go_upto_region 1 with (fail)
  rw [← HW.out, ← HV.out]
  go_wp2_with (fail)
  refine (moment_any A w1).mono ?_
  rintro e w4 ⟨rfl, rfl⟩
  by_cases hA : 0 ≤ A ∧ A < 5761440
  · have hd : (decide (0 ≤ A) && decide (A < 5761440)) = true := by simp; omega
    rw [hd]
    by_cases h0 : vs.length = 0
    · have hn : ((vs.length : Int) == 0) = true := by rw [h0]; rfl
      go_wp2_with (fail)
      go_ret
      exact ⟨3, rfl, fun h => by omega, HG.out⟩
    · have hn : ((vs.length : Int) == 0) = false := beq_eq_false_iff_ne.2 (by omega)
      by_cases h6 : vs.length ≤ 60
      · have hm : decide (60 < (vs.length : Int)) = false := by simp; omega
        go_wp2_with (fail)
        refine CF.out.mono ?_
        rintro e w5 ⟨rfl, g5⟩
        have HG5 := Lib.hid (gr_trans HG.out g5)
        cases hany : vs.any badL with
        | true =>
          clear CF g5
          go_wp2_with (fail)
          go_ret
          exact ⟨1, rfl, fun h => by omega, HG5.out⟩
        | false =>
          have HOK : Hid (LineOk ⟨A, vs⟩) := ⟨hA.1, hA.2, by simp only; omega, h6, fun n hn2 => by
            have := List.any_eq_false.1 hany n hn2
            unfold badL at this
            simp at this
            omega⟩
          clear CF g5
          go_wp2_with (fail)
          go_ret
          exact ⟨0, rfl, fun _ => HOK.out, HG5.out⟩
      · have hm : decide (60 < (vs.length : Int)) = true := by simp; omega
        go_wp2_with (fail)
        go_ret
        exact ⟨3, rfl, fun h => by omega, HG.out⟩
  · have hd : (decide (0 ≤ A) && decide (A < 5761440)) = false := by simp; omega
    rw [hd]
    go_wp2_with (fail)
    go_ret
    exact ⟨1, rfl, fun h => by omega, HG.out⟩
theorem itoa_nn (n : Int) (h : 0 ≤ n) : Lib.itoa n = Lib.decDigits n.toNat := by unfold Lib.itoa; rw [if_neg (by omega)]
theorem itoa_num (n : Int) (h : 0 ≤ n) (h1 : n < 1000000000) : NumL (Lib.itoa n) := by rw [itoa_nn n h]; exact dec_num _ (by omega)
theorem itoa_atoi (n : Int) (h : 0 ≤ n) (h1 : n < 1000000000) : Lib.atoi (Lib.itoa n) = some n := by
  rw [itoa_nn n h, dec_atoi _ (by omega)]
  congr 1
  omega
def preL (x : Rd) (k : Nat) : List UInt8 := Lib.itoa x.at_ ++ 32 :: joinC ((x.vs.take k).map Lib.itoa)
def bodyOf (x : Rd) : List UInt8 := Lib.itoa x.at_ ++ 32 :: joinC (x.vs.map Lib.itoa)
def lineL (x : Rd) : List UInt8 := bodyOf x ++ 32 :: 42 :: hexL (foldX (bodyOf x))
def lineB (x : Rd) : ByteArray := ⟨(lineL x).toArray⟩
theorem app_bytes (p q : List UInt8) : (⟨p.toArray⟩ : ByteArray) ++ ⟨q.toArray⟩ = ⟨(p ++ q).toArray⟩ := by rw [ByteArray.mk_append_mk]
theorem preL_zero (x : Rd) : preL x 0 = Lib.itoa x.at_ ++ [32] := by simp [preL, joinC]
theorem preL_one (x : Rd) (h : 0 < x.vs.length) : preL x 1 = preL x 0 ++ Lib.itoa x.vs[0] := by
  cases x with
  | mk A vs =>
    cases vs with
    | nil => simp at h
    | cons v vs => simp [preL, joinC]
theorem preL_next (x : Rd) (k : Nat) (hk : 0 < k) (h : k < x.vs.length) : preL x (k + 1) = (preL x k ++ [44]) ++ Lib.itoa x.vs[k] := by
  have e : x.vs.take (k + 1) = x.vs.take k ++ [x.vs[k]] := by simp
  unfold preL
  rw [e, List.map_append, List.map_cons, List.map_nil, join_snoc _ _ (by
    intro he
    have h2 : ((x.vs.take k).map Lib.itoa).length = k := by simp; omega
    rw [he] at h2
    simp at h2
    omega)]
  simp
theorem preL_len (x : Rd) (ok : LineOk x) : ∀ k, k ≤ x.vs.length → (preL x k).length ≤ 10 + 10 * k
  | 0, _ => by
    rw [preL_zero]
    have := (itoa_num x.at_ ok.a0 (by have := ok.a1; omega)).len
    simp; omega
  | k + 1, h => by
    have h1 := preL_len x ok k (by omega)
    have hv := ok.all _ (List.getElem_mem (show k < x.vs.length by omega))
    have h2 := (itoa_num _ hv.1 (by omega)).len
    by_cases hk : k = 0
    · subst hk
      rw [preL_one x (by omega), List.length_append]
      omega
    · rw [preL_next x k (by omega) (by omega), List.length_append, List.length_append]
      simp only [List.length_cons, List.length_nil]
      omega
theorem bodyOf_pre (x : Rd) : preL x x.vs.length = bodyOf x := by unfold preL bodyOf; rw [List.take_length]
def preB (x : Rd) (k : Nat) : ByteArray := ⟨(preL x k).toArray⟩
theorem preB_size (x : Rd) (ok : LineOk x) (k : Nat) (h : k ≤ x.vs.length) : (preB x k).size ≤ 610 := by
  have h1 := preL_len x ok k h
  have h2 := ok.l1
  show (preL x k).toArray.size ≤ 610
  simp
  omega
theorem itoaB_size (n : Int) (h : 0 ≤ n) (h1 : n < 1000000000) : (itoaB n).size ≤ 9 := by
  have := (itoa_num n h h1).len
  show (Lib.itoa n).toArray.size ≤ 9
  simpa using this
set_option maxRecDepth 100000 in
set_option maxHeartbeats 1000000 in
theorem encode_ok (x : Rd) (ok : LineOk x) (a : Option Addr) (cp : Nat) (w : World) (E : EnvP w) (hc : CellsAt w a (ints x.vs)) :
    Calls Tryd.prog 33 #[.agg #[.int .i64 x.at_, .slice a x.vs.length cp]] w fun e w' => e = .returned (.tuple #[.string (lineB x), .int .i64 0]) ∧ w.grownBy w' none := by
  have hP := heap_alloc_new w (.cells #[.int .i64 x.at_, .slice a x.vs.length cp] 70)
  have g1 := gr_alloc (gr_refl w none) (.cells #[.int .i64 x.at_, .slice a x.vs.length cp] 70)
  obtain ⟨w1, hw1⟩ : ∃ w1, w1 = w.alloc (.cells #[.int .i64 x.at_, .slice a x.vs.length cp] 70) := ⟨_, rfl⟩
  rw [← hw1] at hP g1
  obtain ⟨V, hV⟩ : ∃ V, V = w.heap.size := ⟨_, rfl⟩
  rw [← hV] at hP
  have p0 : w1.cell? ⟨V, 0, none⟩ = some (.int .i64 x.at_) := blkC hP 0 rfl
  have p1 : w1.cell? ⟨V, 1, none⟩ = some (.slice a x.vs.length cp) := blkC hP 1 rfl
  have l0 := ok.l0
  have l1 := ok.l1
  have a0 := ok.a0
  have a1 := ok.a1
  have hany : x.vs.any badL = false := by
    rw [List.any_eq_false]
    intro n hn
    have := ok.all n hn
    unfold badL
    simp
    omega
  have CF := containsFunc_int 71 badL x.vs a cp w1 (hc.keep0 g1) (by omega) encF1_fn (fun x _ W _ => encF1_any x W)
  rw [hany] at CF
  have CF := Lib.hid CF
  have HG := Lib.hid g1
  have HE := Lib.hid (E.keep g1)
  have HC := Lib.hid (hc.keep0 g1)
  have HP := Lib.hid hP
  have HOK := Lib.hid ok
  have hd : (!decide (x.at_ < 0) && !decide (5761439 < x.at_)) = true := by simp; omega
  have hn : ((x.vs.length : Int) == 0) = false := beq_eq_false_iff_ne.2 (by omega)
  have hm : decide (60 < (x.vs.length : Int)) = false := by simp; omega
  have HW := Lib.hid hw1
  have HV := Lib.hid hV
  clear hc hP g1 hw1 hV hany ok E
  go_enter Tryd.func33, Tryd.ntmps33
  go_upto_region 1 with (fail)
  rw [← HW.out, ← HV.out]
  go_wp2_with (fail)
  refine (momentB_any x.at_ w1).mono ?_
  rintro e w4 ⟨rfl, rfl⟩
  rw [hd]
  go_wp2_with (fail)
  refine CF.out.mono ?_
  rintro e w5 ⟨rfl, g5⟩
  have hP5 := (g5.block _ (lt_of_block HP.out) (by simp)).trans HP.out
  have p0 : w5.cell? ⟨V, 0, none⟩ = some (.int .i64 x.at_) := blkC hP5 0 rfl
  have HG5 := Lib.hid (gr_trans HG.out g5)
  have HE5 := Lib.hid (HE.out.keep g5)
  have HC5 := Lib.hid (HC.out.keep0 g5)
  have HP5 := Lib.hid hP5
  clear g5 hP5 CF hn hm hd HE HC HP HG p1
  go_wp2_with (fail)
  refine (itoa_any x.at_ (by omega) (by omega) w5 HE5.out).mono ?_
  rintro e w6 ⟨rfl, g6⟩
  have hP6 := (g6.block _ (lt_of_block HP5.out) (by simp)).trans HP5.out
  have p1 : w6.cell? ⟨V, 1, none⟩ = some (.slice a x.vs.length cp) := blkC hP6 1 rfl
  have HG6 := Lib.hid (gr_trans HG5.out g6)
  have HE6 := Lib.hid (HE5.out.keep g6)
  have HC6 := Lib.hid (HC5.out.keep0 g6)
  have hi := itoaB_size x.at_ a0 (by omega)
  have hS0 : itoaB x.at_ ++ { data := #[32] } = preB x 0 := by
    unfold preB
    rw [preL_zero]
    exact app_bytes _ [32]
  have HS0 := Lib.hid hS0
  clear g6 hP6 HP5 HG5 HE5 HC5 p0 hS0
  go_upto_region 8 with (fail)
  rw [HS0.out]
  go_wp2_with (fail)
  go_loopw [4, 34] (fun s i wr => ∃ k : Nat, k ≤ x.vs.length ∧ i = .int .i64 k ∧ s = .string (preB x k) ∧ w6.grownBy wr none) (fun _ i _ => x.vs.length - (intOf i).toNat)
  case atStart => exact ⟨0, Nat.zero_le _, rfl, rfl, gr_refl _ _⟩
  case round =>
    clear p1
    obtain ⟨k, hk, rfl, rfl, hgr⟩ := hrel
    obtain ⟨wo, rfl⟩ : ∃ wo : World, wo = wr := ⟨_, rfl⟩
    have hs := preB_size x HOK.out k hk
    by_cases hlt : k < x.vs.length
    · obtain ⟨b, off, rfl, d0⟩ := (HC6.out.keep0 hgr) k (.int .i64 x.vs[k]) (by simp [ints, List.getElem?_eq_getElem hlt])
      have hv := HOK.out.all _ (List.getElem_mem hlt)
      have N1 : Hid (k = 0 → preB x k ++ itoaB x.vs[k] = preB x (k + 1)) := fun h0 => by
        subst h0
        unfold preB
        rw [preL_one x hlt]
        exact app_bytes _ _
      have N2 : Hid (0 < k → (preB x k ++ { data := #[44] }) ++ itoaB x.vs[k] = preB x (k + 1)) := fun h0 => by
        unfold preB
        rw [preL_next x k h0 hlt]
        show ((⟨(preL x k).toArray⟩ : ByteArray) ++ ⟨[44].toArray⟩) ++ itoaB x.vs[k] = _
        rw [app_bytes]
        exact app_bytes _ _
      obtain ⟨v, hve⟩ : ∃ v, v = x.vs[k] := ⟨_, rfl⟩
      rw [← hve] at d0 hv N1 N2
      obtain ⟨S, hS⟩ : ∃ S, S = preB x k := ⟨_, rfl⟩
      rw [← hS] at hs N1 N2
      rw [← hS]
      have hNs := itoaB_size v hv.1 (by omega)
      have IT := Lib.hid (itoa_any v hv.1 (by omega) wo (HE6.out.keep hgr))
      have HGR := Lib.hid hgr
      clear hve hS hgr
      by_cases h0 : 0 < k
      · have hk0 : decide (0 < (k : Int)) = true := by simp; omega
        go_wp2_with (fail)
        refine IT.out.mono ?_
        rintro e w7 ⟨rfl, g7⟩
        have HG7 := Lib.hid (gr_trans HGR.out g7)
        clear g7 IT
        go_wp2_with (fail)
        go_roundw
        case rel => exact ⟨k + 1, by omega, by go_num, by rw [N2.out h0], HG7.out⟩
        case measure => simp [intOf]; omega
      · have hk0 : decide (0 < (k : Int)) = false := by simp; omega
        go_wp2_with (fail)
        refine IT.out.mono ?_
        rintro e w7 ⟨rfl, g7⟩
        have HG7 := Lib.hid (gr_trans HGR.out g7)
        clear g7 IT
        go_wp2_with (fail)
        go_roundw
        case rel => exact ⟨k + 1, by omega, by go_num, by rw [N1.out (by omega)], HG7.out⟩
        case measure => simp [intOf]; omega
    · obtain rfl : k = x.vs.length := by omega
      have FO := folded_any (preB x x.vs.length) wo (by omega)
      have HR : Hid ((preB x x.vs.length ++ { data := #[32, 42] }) ++ (⟨(hexL (foldX (bodyOf x))).toArray⟩ : ByteArray) = lineB x) := by
        show _ = _
        unfold lineB lineL preB
        rw [bodyOf_pre]
        show ((⟨(bodyOf x).toArray⟩ : ByteArray) ++ ⟨[32, 42].toArray⟩) ++ _ = _
        rw [app_bytes, app_bytes]
        simp
      have e1 : (preB x x.vs.length).data.toList = bodyOf x := by rw [← bodyOf_pre]; simp [preB]
      rw [e1] at FO
      have hh : (⟨(hexL (foldX (bodyOf x))).toArray⟩ : ByteArray).size = 2 := rfl
      obtain ⟨H, hH⟩ : ∃ H, H = (⟨(hexL (foldX (bodyOf x))).toArray⟩ : ByteArray) := ⟨_, rfl⟩
      rw [← hH] at FO HR hh
      obtain ⟨S, hS⟩ : ∃ S, S = preB x x.vs.length := ⟨_, rfl⟩
      rw [← hS] at FO HR hs
      rw [← hS]
      have FO := Lib.hid FO
      have HGR := Lib.hid (gr_trans HG6.out hgr)
      clear e1 hH hS hgr
      go_wp2_with (fail)
      refine FO.out.mono ?_
      rintro e w7 ⟨rfl, g7⟩
      have HG7 := Lib.hid (gr_trans HGR.out g7)
      clear g7 FO
      go_wp2_with (fail)
      go_ret2
      exact ⟨by rw [← HR.out]; rfl, HG7.out⟩
end Go.Proofs.YtjhdngfliakidaaDoor
