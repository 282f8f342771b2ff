/- Pieces, as the stream makes them. -/
import Derived.Test.YtoiclngamaadgaaLots
namespace Go.Proofs.Ytoiclngamaadgaa
open Go.RowKit
variable {lw : Nat}

def pcKeys : List ByteArray := [⟨#[108, 97]⟩, ⟨#[108, 98]⟩, ⟨#[108, 99]⟩, ⟨#[108, 100]⟩]
def pcOdd : List ByteArray := [⟨#[]⟩, ⟨#[122, 122]⟩, ⟨#[108, 97]⟩]
def pcsTo (l : List Int) (k : Nat) : Nat → List Piece
  | 0 => []
  | i + 1 => pcsTo l k i ++ [⟨oneS l (k + 2 * i) pcKeys, pickM l (k + 2 * i + 1) [1, 1, 2, 4]⟩]
theorem pcsTo_len (l : List Int) (k i : Nat) : (pcsTo l k i).length = i := by
  induction i with
  | zero => rfl
  | succ i ih => simp [pcsTo, ih]
def pcsN (l : List Int) (k : Nat) : Nat := (nxt l k 4).toNat
def pcsJ (l : List Int) (k : Nat) : Nat := k + 1 + 2 * pcsN l k
def pcsM (l : List Int) (k : Nat) : List Piece := if flipM l (pcsJ l k) 15 then pcsTo l (k + 1) (pcsN l k) ++ [⟨oneS l (pcsJ l k + 1) pcOdd, pickM l (pcsJ l k + 1 + 1) [0, -1, 1000, 1001]⟩] else pcsTo l (k + 1) (pcsN l k)
def pcsK (l : List Int) (k : Nat) : Nat := if flipM l (pcsJ l k) 15 then pcsJ l k + 1 + 1 + 1 else pcsJ l k + 1
def PcsPost (l : List Int) (k p lw : Nat) (w : World) (e : Ending) (w' : World) : Prop :=
  ∃ v, e = .returned v ∧ w'.ownsRow w.heap.size 147 2 v (pcsM l k).length (flat encPc (pcsM l k)) ∧ StreamAt w' p lw l (pcsK l k) ∧ w.grownBy w' (some p)
theorem pcsN_le (l : List Int) (k : Nat) : pcsN l k ≤ 3 ∧ ((pcsN l k : Nat) : Int) = nxt l k 4 := by
  have := nxt_range l k 4 (by decide)
  unfold pcsN
  omega
theorem pcsM_len (l : List Int) (k : Nat) : (pcsM l k).length ≤ 4 := by
  have := (pcsN_le l k).1
  unfold pcsM
  split
  · rw [List.length_append, pcsTo_len]; simp; omega
  · rw [pcsTo_len]; omega
theorem pcsK_le (l : List Int) (k : Nat) : pcsK l k ≤ k + 10 := by
  have := (pcsN_le l k).1
  unfold pcsK pcsJ
  split <;> omega
set_option maxRecDepth 100000 in
set_option maxHeartbeats 2000000 in
theorem pieces_any (l : List Int) (k : Nat) (p : Nat) (w : World) (hs : StreamAt w p lw l k) (hk : k < 800000000) :
    Calls Try.prog 42 #[.pointer (some ⟨p, 0, none⟩)] w (PcsPost l k p lw w) := by
  have hlt := hs.lt
  obtain ⟨hn3, hne⟩ := pcsN_le l k
  have HM : Hid (pcsM l k = if flipM l (pcsJ l k) 15 then pcsTo l (k + 1) (pcsN l k) ++ [⟨oneS l (pcsJ l k + 1) pcOdd, pickM l (pcsJ l k + 1 + 1) [0, -1, 1000, 1001]⟩] else pcsTo l (k + 1) (pcsN l k)) := rfl
  have HK : Hid (pcsK l k = if flipM l (pcsJ l k) 15 then pcsJ l k + 1 + 1 + 1 else pcsJ l k + 1) := rfl
  have HJ : Hid (pcsJ l k = k + 1 + 2 * pcsN l k) := rfl
  obtain ⟨n, hn⟩ : ∃ n, n = pcsN l k := ⟨_, rfl⟩
  rw [← hn] at hn3 hne HM HJ
  have HNE := Lib.hid hne
  clear hne hn
  go_enter Try.func42, Try.ntmps42
  go_wp2_with (fail)
  refine (next_any l k 4 p w hs (by omega) (by omega)).mono ?_
  rintro e w1 ⟨rfl, hs1, hg1⟩
  rw [← HNE.out]
  clear hs
  go_wp2_with (fail)
  go_loopw [3, 6] (fun v c wr => ∃ i : Nat, i ≤ n ∧ c = .int .i64 i ∧ wr.ownsRow w.heap.size 147 2 v (pcsTo l (k + 1) i).length (flat encPc (pcsTo l (k + 1) i)) ∧ StreamAt wr p lw l (k + 1 + 2 * i) ∧ w.grownBy wr (some p)) (fun _ c _ => n - (intOf c).toNat)
  case atStart => exact ⟨0, by omega, rfl, World.ownsRow_nil _ _ _ _, hs1, hg1⟩
  case round =>
    clear hs1 hg1
    obtain ⟨i, hi, rfl, hown, hsr, hgr⟩ := hrel
    obtain ⟨wo, rfl⟩ : ∃ wo : World, wo = wr := ⟨_, rfl⟩
    by_cases hin : i < n
    · have HST : Hid (pcsTo l (k + 1) (i + 1) = pcsTo l (k + 1) i ++ [⟨oneS l (k + 1 + 2 * i) pcKeys, pickM l (k + 1 + 2 * i + 1) [1, 1, 2, 4]⟩]) := rfl
      have hSl := pcsTo_len l (k + 1) i
      obtain ⟨S, hS⟩ : ∃ S, S = pcsTo l (k + 1) i := ⟨_, rfl⟩
      rw [← hS] at hown hSl HST
      have hSl5 : S.length ≤ 5 := by omega
      obtain ⟨q, hq⟩ : ∃ q, q = k + 1 + 2 * i := ⟨_, rfl⟩
      have hq2 : q < 900000000 := by omega
      rw [← hq] at hsr HST
      have HQ : Hid (k + 1 + 2 * (i + 1) = q + 1 + 1) := by show _ = _; omega
      have HOWN := Lib.hid hown
      have HGR := Lib.hid hgr
      have hz2 := hgr.size
      clear hS hSl hq hown hgr
      go_wp2_with (fail)
      refine (one_any l q pcKeys p wo hsr (by omega) (by decide) (by decide)).mono ?_
      rintro e w3 ⟨rfl, hs3, hg3⟩
      have HO3 := Lib.hid (own_keepS HOWN.out hg3 (by omega))
      have HG3 := Lib.hid (gr_trans HGR.out hg3)
      have hz3 := hg3.size
      clear hg3 hsr
      go_wp2_with (fail)
      refine (pick_any l (q + 1) [1, 1, 2, 4] p w3 hs3 (by omega) (by decide) (by decide)).mono ?_
      rintro e w5 ⟨rfl, hs5, hg5⟩
      have HO5 := Lib.hid (own_keepS HO3.out hg5 (by omega))
      have HG5 := Lib.hid (gr_trans HG3.out hg5)
      have hz5 := hg5.size
      clear hg5 hs3
      obtain ⟨y1, hy1⟩ : ∃ y, y = oneS l q pcKeys := ⟨_, rfl⟩
      obtain ⟨y2, hy2⟩ : ∃ y, y = pickM l (q + 1) [1, 1, 2, 4] := ⟨_, rfl⟩
      rw [← hy1, ← hy2] at HST
      rw [← hy1, ← hy2]
      clear hy1 hy2
      go_wp2_with (at_builtin; refine wpList_app1F ePc rfl _ _ rfl w.heap.size _ S.length (flat encPc S) rfl w5 #[.string y1, .int .i64 y2] rfl HO5.out _ rfl rfl rfl rfl (by omega) (by omega) ?_; intro v6 w6 ho6 g6 hlt6 hf6)
      have HO6 := Lib.hid ho6
      have hs6 := hs5.keep g6 (fun q hq => by have := hlt6 q hq; omega)
      have HG6 := Lib.hid (gr_grown HG5.out g6 (fun q hq => by have := hlt6 q hq; omega))
      clear ho6 g6 hlt6 hf6 hs5
      go_roundw
      case rel =>
        refine ⟨i + 1, by omega, by go_num, ?_, by rw [HQ.out]; exact hs6, HG6.out⟩
        rw [HST.out, List.length_append, flat_append, flat_one]
        exact HO6.out
      case measure => simp [intOf]; omega
    · obtain rfl : i = n := by omega
      have hSl := pcsTo_len l (k + 1) i
      obtain ⟨S, hS⟩ : ∃ S, S = pcsTo l (k + 1) i := ⟨_, rfl⟩
      rw [← hS] at hown hSl HM
      have hSl5 : S.length ≤ 5 := by omega
      obtain ⟨q, hq⟩ : ∃ q, q = k + 1 + 2 * i := ⟨_, rfl⟩
      have hq2 : q < 900000000 := by omega
      rw [← hq] at hsr HJ
      rw [HJ.out] at HM HK
      have HOWN := Lib.hid hown
      have HGR := Lib.hid hgr
      have hz2 := hgr.size
      clear hS hSl hq hown hgr HJ
      go_wp2_with (fail)
      refine (flip_any l q 15 p wo hsr (by omega) (by omega)).mono ?_
      rintro e w2 ⟨rfl, hs2, hg2⟩
      have HO2 := Lib.hid (own_keepS HOWN.out hg2 (by omega))
      have HG2 := Lib.hid (gr_trans HGR.out hg2)
      have hz3 := hg2.size
      clear hg2 hsr
      cases hf : flipM l q 15 with
      | false =>
        have HE : Hid (pcsM l k = S ∧ pcsK l k = q + 1) := by show _ ∧ _; rw [HM.out, HK.out, hf]; exact ⟨rfl, rfl⟩
        obtain ⟨va, vc, hv, -, -, -, -⟩ := own_shape HO2.out
        subst hv
        clear hf HM HK
        go_wp2_with (fail)
        go_ret
        exact ⟨_, rfl, by rw [HE.out.1]; exact HO2.out, by rw [HE.out.2]; exact hs2, HG2.out⟩
      | true =>
        have HE : Hid (pcsM l k = S ++ [⟨oneS l (q + 1) pcOdd, pickM l (q + 1 + 1) [0, -1, 1000, 1001]⟩] ∧ pcsK l k = q + 1 + 1 + 1) := by show _ ∧ _; rw [HM.out, HK.out, hf]; exact ⟨rfl, rfl⟩
        clear hf HM HK
        go_wp2_with (fail)
        refine (one_any l (q + 1) pcOdd p w2 hs2 (by omega) (by decide) (by decide)).mono ?_
        rintro e w3 ⟨rfl, hs3, hg3⟩
        have HO3 := Lib.hid (own_keepS HO2.out hg3 (by omega))
        have HG3 := Lib.hid (gr_trans HG2.out hg3)
        have hz4 := hg3.size
        clear hg3 hs2
        go_wp2_with (fail)
        refine (pick_any l (q + 1 + 1) [0, -1, 1000, 1001] p w3 hs3 (by omega) (by decide) (by decide)).mono ?_
        rintro e w5 ⟨rfl, hs5, hg5⟩
        have HO5 := Lib.hid (own_keepS HO3.out hg5 (by omega))
        have HG5 := Lib.hid (gr_trans HG3.out hg5)
        have hz5 := hg5.size
        clear hg5 hs3
        obtain ⟨y1, hy1⟩ : ∃ y, y = oneS l (q + 1) pcOdd := ⟨_, rfl⟩
        obtain ⟨y2, hy2⟩ : ∃ y, y = pickM l (q + 1 + 1) [0, -1, 1000, 1001] := ⟨_, rfl⟩
        rw [← hy1, ← hy2] at HE
        rw [← hy1, ← hy2]
        clear hy1 hy2
        go_wp2_with (at_builtin; refine wpList_app1F ePc rfl _ _ rfl w.heap.size _ S.length (flat encPc S) rfl w5 #[.string y1, .int .i64 y2] rfl HO5.out _ rfl rfl rfl rfl (by omega) (by omega) ?_; intro v6 w6 ho6 g6 hlt6 hf6)
        have HO6 := Lib.hid ho6
        have hs6 := hs5.keep g6 (fun q hq => by have := hlt6 q hq; omega)
        have HG6 := Lib.hid (gr_grown HG5.out g6 (fun q hq => by have := hlt6 q hq; omega))
        clear ho6 g6 hlt6 hf6 hs5
        go_wp2_with (fail)
        go_ret
        refine ⟨_, rfl, ?_, by rw [HE.out.2]; exact hs6, HG6.out⟩
        rw [HE.out.1, List.length_append, flat_append, flat_one]
        exact HO6.out
end Go.Proofs.Ytoiclngamaadgaa
