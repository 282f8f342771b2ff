/- base.Number at a numeral, with a sign or without. -/
import Derived.Test.YthikknnadmebgaaGreatDoorPkSBp
import Derived.Test.YthikknnadmebgaaGreatDoorPkSBh
namespace Go.Proofs.YthikknnadmebgaaGreatDoor
open Go.RowKit
attribute [local go_sem ↓] Go.wp_at_zero Go.wp_at_succ

set_option maxRecDepth 100000 in
set_option maxHeartbeats 1000000 in
theorem numberS_any (s d : ByteArray) (n D : Int) (w : World) (hD : 9 ≤ D) (ht : Lib.trimPrefix s.data.toList [45] = d.data.toList) (h : NumL d.data.toList) (hz : d.data.toList.head? = some 48 → s.size = 1) (hs : s.size ≤ 18) (hn : Lib.atoi s.data.toList = some n) :
    Calls Tryz.prog 97 #[.string s, .int .i64 D] w fun e w' => e = .returned (.tuple #[.int .i64 n, .bool true]) ∧ w.grownBy w' none := by
  have hlen : d.data.toList.length = d.size := by simp
  have h0 : 0 < d.size := by have := h.ne; omega
  have h9 : d.size ≤ 9 := by have := h.len; omega
  have TP := Any.strings_TrimPrefix lays101 s ⟨#[45]⟩ w
  have ht2 : (⟨(Lib.trimPrefix s.data.toList (⟨#[45]⟩ : ByteArray).data.toList).toArray⟩ : ByteArray) = d := by
    show (⟨(Lib.trimPrefix s.data.toList [45]).toArray⟩ : ByteArray) = d
    rw [ht]
  rw [ht2] at TP
  replace TP := Lib.hid TP
  have AT := Lib.hid (fun W => Any.strconv_Atoi lays172 s n (by omega) hn W)
  obtain ⟨r, hr⟩ := key_cons h0
  have hem : d.toList.isEmpty = false := by rw [ByteArray.toList_eq, hr]; rfl
  have DG : Hid (∀ k (hk : k < d.size), 48 ≤ d[k].toNat ∧ d[k].toNat ≤ 57) := fun k hk => h.dig _ (by
    have : d.data.toList[k]'(by omega) = d[k] := rfl
    rw [← this]
    exact List.getElem_mem _)
  have hs9 : decide (D < (d.size : Int)) = false := by simp; omega
  have hh : d[0].toNat = 48 → d.data.toList.head? = some 48 := fun e => by
    rw [hr]; simp; exact UInt8.toNat_inj.1 (by rw [e]; rfl)
  have Z0 : d[0].toNat = 48 → d.size = 1 ∧ s.size = 1 := fun e => by
    have := h.zero (hh e)
    have := hz (hh e)
    omega
  replace Z0 := Lib.hid Z0
  clear hr hlen hn h ht ht2 hh hz
  go_enter Tryz.func97, Tryz.ntmps97
  go_wp2_with (fail)
  refine TP.out.mono ?_
  rintro e w1 ⟨rfl, rfl⟩
  by_cases hz : d[0].toNat = 48
  · have hz1 : ((d[0].toNat : Int) == 48) = true := by rw [beq_iff_eq]; omega
    have hs1 : decide ((1 : Int) < (d.size : Int)) = false := by have := Z0.out hz; simp; omega
    have hs2 : decide (d.size < s.size) = false := by have := Z0.out hz; simp; omega
    clear hz
    go_wp2_with (fail)
    go_loop [39] (fun i => ∃ k : Nat, k ≤ d.size ∧ i = .int .i64 k) (fun i => d.size - (intOf i).toNat)
    case atStart => exact ⟨0, Nat.zero_le _, rfl⟩
    case round =>
      obtain ⟨k, hk, rfl⟩ := hrel
      by_cases hkn : k < d.size
      · obtain ⟨b1, b2⟩ := DG.out k hkn
        have c1 : decide ((d[k].toNat : Int) < 48) = false := by simp; omega
        have c2 : decide (57 < (d[k].toNat : Int)) = false := by simp; omega
        clear b1 b2
        go_wp2_with (fail)
        go_round
        case rel => exact ⟨k + 1, by omega, by go_num⟩
        case measure => simp [intOf]; omega
      · obtain rfl : k = d.size := by omega
        go_wp2_with (fail)
        refine (AT.out w1).mono ?_
        rintro e w2 ⟨rfl, t, rfl⟩
        have HG : Hid (w1.grownBy (Lib.bytesWorld w1 (lays172_ren.t 5) t) none) := gr_of_below (Lib.bytesWorld_below _ _ _)
        obtain ⟨w2, hw2⟩ : ∃ w2, w2 = Lib.bytesWorld w1 (lays172_ren.t 5) t := ⟨_, rfl⟩
        rw [← hw2] at HG
        rw [← hw2]
        clear hw2
        go_wp2_with (fail)
        go_region
        go_wp2_with (fail)
        go_ret2
        exact ⟨rfl, gr_drew HG.out⟩
  · have hz1 : ((d[0].toNat : Int) == 48) = false := beq_eq_false_iff_ne.2 (by omega)
    clear hz
    go_wp2_with (fail)
    go_loop [39] (fun i => ∃ k : Nat, k ≤ d.size ∧ i = .int .i64 k) (fun i => d.size - (intOf i).toNat)
    case atStart => exact ⟨0, Nat.zero_le _, rfl⟩
    case round =>
      obtain ⟨k, hk, rfl⟩ := hrel
      by_cases hkn : k < d.size
      · obtain ⟨b1, b2⟩ := DG.out k hkn
        have c1 : decide ((d[k].toNat : Int) < 48) = false := by simp; omega
        have c2 : decide (57 < (d[k].toNat : Int)) = false := by simp; omega
        clear b1 b2
        go_wp2_with (fail)
        go_round
        case rel => exact ⟨k + 1, by omega, by go_num⟩
        case measure => simp [intOf]; omega
      · obtain rfl : k = d.size := by omega
        go_wp2_with (fail)
        refine (AT.out w1).mono ?_
        rintro e w2 ⟨rfl, t, rfl⟩
        have HG : Hid (w1.grownBy (Lib.bytesWorld w1 (lays172_ren.t 5) t) none) := gr_of_below (Lib.bytesWorld_below _ _ _)
        obtain ⟨w2, hw2⟩ : ∃ w2, w2 = Lib.bytesWorld w1 (lays172_ren.t 5) t := ⟨_, rfl⟩
        rw [← hw2] at HG
        rw [← hw2]
        clear hw2
        go_wp2_with (fail)
        go_region
        go_wp2_with (fail)
        go_ret2
        exact ⟨rfl, gr_drew HG.out⟩
theorem itoa_neg (n : Int) (h : n < 0) : Lib.itoa n = 45 :: Lib.decDigits n.natAbs := by unfold Lib.itoa; rw [if_pos h]
theorem digit_no45 {p : List UInt8} (h : NumL p) : p.head? ≠ some 45 := fun e => by
  cases p with
  | nil => cases e
  | cons b r =>
    have hb := h.dig b (by simp)
    have : b = 45 := by simpa using e
    rw [this] at hb
    revert hb; decide
/-- What is written of a number is read back. -/
theorem numberI_any (n D : Int) (w : World) (hD : 9 ≤ D) (h : -1000000000 < n) (h1 : n < 1000000000) :
    Calls Tryz.prog 97 #[.string ⟨(Lib.itoa n).toArray⟩, .int .i64 D] w fun e w' => e = .returned (.tuple #[.int .i64 n, .bool true]) ∧ w.grownBy w' none := by
  have hnum : NumL (Lib.decDigits n.natAbs) := dec_num _ (by omega)
  have hl := hnum.len
  by_cases hn : n < 0
  · have e := itoa_neg n hn
    refine numberS_any ⟨(Lib.itoa n).toArray⟩ ⟨(Lib.decDigits n.natAbs).toArray⟩ n D w hD ?_ hnum ?_ ?_ ?_
    · rw [e]; show Lib.trimPrefix (45 :: Lib.decDigits n.natAbs) [45] = Lib.decDigits n.natAbs
      unfold Lib.trimPrefix
      rw [if_pos (by simp [Lib.hasPrefix])]
      rfl
    · intro hz
      obtain ⟨d, h1, h2, h3⟩ := dec_head n.natAbs (by omega)
      have hz : (Lib.decDigits n.natAbs).head? = some 48 := hz
      rw [h3] at hz
      have e2 : (UInt8.ofNat (48 + d)).toNat = 48 + d := UInt8.toNat_ofNat_of_lt' (by simp [UInt8.size]; omega)
      have hz2 : UInt8.ofNat (48 + d) = 48 := by simpa using hz
      rw [hz2] at e2
      have : (48 : UInt8).toNat = 48 := rfl
      omega
    · show (Lib.itoa n).toArray.size ≤ 18
      rw [e]; simp; omega
    · show Lib.atoi (Lib.itoa n) = some n
      rw [e]
      obtain ⟨m, h2, h3⟩ := atoi_num hnum
      rw [dec_val] at h3
      have h3 : n.natAbs = m := by simpa using h3
      have hne : Lib.decDigits n.natAbs ≠ [] := fun e => by have := hnum.ne; rw [e] at this; simp at this
      simp only [Lib.atoi, Lib.decNat]
      cases hd : Lib.decDigits n.natAbs with
      | nil => exact absurd hd hne
      | cons b r =>
        rw [← hd, dec_val]
        simp
        exact ⟨_, ⟨hne, h3⟩, by omega⟩
  · have e := itoa_nn n (by omega)
    have ea : n.toNat = n.natAbs := by omega
    have hl2 : (Lib.itoa n).length = (Lib.decDigits n.natAbs).length := by rw [e, ea]
    refine numberS_any ⟨(Lib.itoa n).toArray⟩ ⟨(Lib.itoa n).toArray⟩ n D w hD ?_ (itoa_num n (by omega) h1) ?_ ?_ (itoa_atoi n (by omega) h1)
    · exact trim_num (itoa_num n (by omega) h1)
    · intro hz
      have := (itoa_num n (by omega) h1).zero hz
      show (Lib.itoa n).toArray.size = 1
      simpa using this
    · show (Lib.itoa n).toArray.size ≤ 18
      simp; omega
end Go.Proofs.YthikknnadmebgaaGreatDoor
