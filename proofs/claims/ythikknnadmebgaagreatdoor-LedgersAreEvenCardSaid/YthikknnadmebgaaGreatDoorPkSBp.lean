/- base.Number at a numeral. -/
import Derived.Test.YthikknnadmebgaaGreatDoorPkSBe
import Derived.Test.YthikknnadmebgaaGreatDoorPkSAk
import Derived.Test.YthikknnadmebgaaGreatDoorPkSAa
import Derived.Lib.AtoiErrMem
import Derived.Deep.DeepCutAuto
import Derived.Deep.RegionLaw
import Derived.WalkLawsBesides
import Derived.Deep.DrawnRows
namespace Go.Proofs.YthikknnadmebgaaGreatDoor
open Go.RowKit
attribute [local go_sem ↓] Go.wp_at_zero Go.wp_at_succ

theorem trim_num {p : List UInt8} (h : NumL p) : Lib.trimPrefix p [45] = p := by
  cases p with
  | nil => have := h.ne; simp at this
  | cons b r =>
    have hb := h.dig b (by simp)
    unfold Lib.trimPrefix
    rw [if_neg]
    intro e
    have : 45 = b := by simpa [Lib.hasPrefix] using e
    rw [← this] at hb
    revert hb
    decide
set_option maxRecDepth 100000 in
set_option maxHeartbeats 1000000 in
theorem number_any (s : ByteArray) (n : Int) (w : World) (h : NumL s.data.toList) (hn : Lib.atoi s.data.toList = some n) :
    Calls Tryz.prog 97 #[.string s, .int .i64 9] w fun e w' => e = .returned (.tuple #[.int .i64 n, .bool true]) ∧ w.grownBy w' none := by
  have hlen : s.data.toList.length = s.size := by simp
  have h0 : 0 < s.size := by have := h.ne; omega
  have h9 : s.size ≤ 9 := by have := h.len; omega
  have TP := Any.strings_TrimPrefix lays101 s ⟨#[45]⟩ w
  have ht : (⟨(Lib.trimPrefix s.data.toList [45]).toArray⟩ : ByteArray) = s := by rw [trim_num h]
  have ht2 : (⟨(Lib.trimPrefix s.data.toList (⟨#[45]⟩ : ByteArray).data.toList).toArray⟩ : ByteArray) = s := ht
  rw [ht2] at TP
  replace TP := Lib.hid TP
  have AT := Lib.hid (fun W => Any.strconv_Atoi lays172 s n (by omega) hn W)
  obtain ⟨r, hr⟩ := key_cons h0
  have hem : s.toList.isEmpty = false := by rw [ByteArray.toList_eq, hr]; rfl
  have DG : Hid (∀ k (hk : k < s.size), 48 ≤ s[k].toNat ∧ s[k].toNat ≤ 57) := fun k hk => h.dig _ (by
    have : s.data.toList[k]'(by omega) = s[k] := rfl
    rw [← this]
    exact List.getElem_mem _)
  have hs9 : decide ((9 : Int) < (s.size : Int)) = false := by simp; omega
  have Z0 : s[0].toNat = 48 → s.size = 1 := fun e => by
    have := h.zero (by rw [hr]; simp; exact UInt8.toNat_inj.1 (by rw [e]; rfl))
    omega
  replace Z0 := Lib.hid Z0
  clear hr hlen hn h ht ht2
  go_enter Tryz.func97, Tryz.ntmps97
  go_wp2_with (fail)
  refine TP.out.mono ?_
  rintro e w1 ⟨rfl, rfl⟩
  by_cases hz : s[0].toNat = 48
  · have hz1 : ((s[0].toNat : Int) == 48) = true := by rw [beq_iff_eq]; omega
    have hs1 : decide ((1 : Int) < (s.size : Int)) = false := by have := Z0.out hz; simp; omega
    clear hz
    go_wp2_with (fail)
    go_loop [39] (fun i => ∃ k : Nat, k ≤ s.size ∧ i = .int .i64 k) (fun i => s.size - (intOf i).toNat)
    case atStart => exact ⟨0, Nat.zero_le _, rfl⟩
    case round =>
      obtain ⟨k, hk, rfl⟩ := hrel
      by_cases hkn : k < s.size
      · obtain ⟨b1, b2⟩ := DG.out k hkn
        have c1 : decide ((s[k].toNat : Int) < 48) = false := by simp; omega
        have c2 : decide (57 < (s[k].toNat : Int)) = false := by simp; omega
        clear b1 b2
        go_wp2_with (fail)
        go_round
        case rel => exact ⟨k + 1, by omega, by go_num⟩
        case measure => simp [intOf]; omega
      · obtain rfl : k = s.size := by omega
        go_wp2_with (fail)
        refine (AT.out w1).mono ?_
        rintro e w2 ⟨rfl, t, rfl⟩
        have HG : Hid (w1.grownBy (Lib.bytesWorld w1 (lays172_ren.t 5) t) none) := gr_of_below (Lib.bytesWorld_below _ _ _)
        obtain ⟨w2, hw2⟩ : ∃ w2, w2 = Lib.bytesWorld w1 (lays172_ren.t 5) t := ⟨_, rfl⟩
        rw [← hw2] at HG
        rw [← hw2]
        clear hw2
        go_wp2_with (fail)
        go_region
        go_wp2_with (fail)
        go_ret2
        exact ⟨rfl, gr_drew HG.out⟩
  · have hz1 : ((s[0].toNat : Int) == 48) = false := beq_eq_false_iff_ne.2 (by omega)
    clear hz
    go_wp2_with (fail)
    go_loop [39] (fun i => ∃ k : Nat, k ≤ s.size ∧ i = .int .i64 k) (fun i => s.size - (intOf i).toNat)
    case atStart => exact ⟨0, Nat.zero_le _, rfl⟩
    case round =>
      obtain ⟨k, hk, rfl⟩ := hrel
      by_cases hkn : k < s.size
      · obtain ⟨b1, b2⟩ := DG.out k hkn
        have c1 : decide ((s[k].toNat : Int) < 48) = false := by simp; omega
        have c2 : decide (57 < (s[k].toNat : Int)) = false := by simp; omega
        clear b1 b2
        go_wp2_with (fail)
        go_round
        case rel => exact ⟨k + 1, by omega, by go_num⟩
        case measure => simp [intOf]; omega
      · obtain rfl : k = s.size := by omega
        go_wp2_with (fail)
        refine (AT.out w1).mono ?_
        rintro e w2 ⟨rfl, t, rfl⟩
        have HG : Hid (w1.grownBy (Lib.bytesWorld w1 (lays172_ren.t 5) t) none) := gr_of_below (Lib.bytesWorld_below _ _ _)
        obtain ⟨w2, hw2⟩ : ∃ w2, w2 = Lib.bytesWorld w1 (lays172_ren.t 5) t := ⟨_, rfl⟩
        rw [← hw2] at HG
        rw [← hw2]
        clear hw2
        go_wp2_with (fail)
        go_region
        go_wp2_with (fail)
        go_ret2
        exact ⟨rfl, gr_drew HG.out⟩
end Go.Proofs.YthikknnadmebgaaGreatDoor
