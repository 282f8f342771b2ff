/- Layouts, as the stream makes them. -/
import Derived.Test.YtdjnomeabadbnaaOffers
namespace Go.Proofs.Ytdjnomeabadbnaa
open Go.RowKit
variable {lw : Nat}

theorem offKey {B : Nat} {w : World} {a : Option Addr} {os : List Offer} (h : NestAt (OffR B) w 5 a os) (i : Nat) (hi : i < os.length) : ∃ b off, a = some ⟨b, off, none⟩ ∧ w.cell? ⟨b, off + i * 5, none⟩ = some (.string os[i].key) := by
  obtain ⟨b, off, c, rfl, _, ⟨v1, v2, v3, rfl, _⟩, hc⟩ := h.at i hi
  exact ⟨b, off, rfl, hc 0 _ rfl⟩
def layE (l : List Int) (k : Nat) (ks : List ByteArray) : ByteArray × Nat :=
  if ks.length = 0 then (⟨#[]⟩, k) else if flipM l k 4 then (⟨#[]⟩, k + 1) else (ks.getD (nxt l (k + 1) ks.length).toNat ⟨#[]⟩, k + 2)
def layTo (l : List Int) (k : Nat) (ks : List ByteArray) : Nat → List ByteArray × Nat
  | 0 => ([], k)
  | i + 1 => ((layTo l k ks i).1 ++ [(layE l (layTo l k ks i).2 ks).1], (layE l (layTo l k ks i).2 ks).2)
theorem layE_k (l : List Int) (k : Nat) (ks : List ByteArray) : (layE l k ks).2 ≤ k + 2 := by
  unfold layE
  split
  · omega
  · split <;> simp
theorem layTo_k (l : List Int) (k : Nat) (ks : List ByteArray) (i : Nat) : (layTo l k ks i).2 ≤ k + 2 * i := by
  induction i with
  | zero => simp [layTo]
  | succ i ih => have := layE_k l (layTo l k ks i).2 ks; simp only [layTo]; omega
theorem layTo_len (l : List Int) (k : Nat) (ks : List ByteArray) (i : Nat) : (layTo l k ks i).1.length = i := by
  induction i with
  | zero => rfl
  | succ i ih => simp [layTo, ih]
def layOne : List ByteArray := [⟨#[]⟩, ⟨#[97]⟩, ⟨#[122, 122]⟩, ⟨#[90]⟩]
def laySet : List ByteArray := [⟨#[122, 122]⟩, ⟨#[90]⟩, ⟨#[97]⟩]
def layA (l : List Int) (x : List ByteArray × Nat) : List ByteArray × Nat := if flipM l x.2 15 then (x.1 ++ [oneS l (x.2 + 1) layOne], x.2 + 2) else (x.1, x.2 + 1)
def layB (l : List Int) (x : List ByteArray × Nat) : List ByteArray × Nat :=
  if flipM l x.2 15 then (if x.1.length = 0 then (x.1, x.2 + 1) else (x.1.set (nxt l (x.2 + 1) x.1.length).toNat (oneS l (x.2 + 2) laySet), x.2 + 3)) else (x.1, x.2 + 1)
def layM (l : List Int) (k n : Nat) (ks : List ByteArray) : List ByteArray := (layB l (layA l (layTo l k ks n))).1
def layK (l : List Int) (k n : Nat) (ks : List ByteArray) : Nat := (layB l (layA l (layTo l k ks n))).2
theorem layA_k (l : List Int) (x : List ByteArray × Nat) : (layA l x).2 ≤ x.2 + 2 ∧ (layA l x).1.length ≤ x.1.length + 1 := by
  unfold layA
  split <;> simp
theorem layB_k (l : List Int) (x : List ByteArray × Nat) : (layB l x).2 ≤ x.2 + 3 ∧ (layB l x).1.length = x.1.length := by
  unfold layB
  split
  · split <;> simp
  · simp
theorem layM_len (l : List Int) (k n : Nat) (ks : List ByteArray) : (layM l k n ks).length ≤ n + 1 := by
  have h1 := layB_k l (layA l (layTo l k ks n))
  have h2 := layA_k l (layTo l k ks n)
  have h3 := layTo_len l k ks n
  unfold layM
  omega
theorem layK_le (l : List Int) (k n : Nat) (ks : List ByteArray) : layK l k n ks ≤ k + 2 * n + 5 := by
  have h1 := layB_k l (layA l (layTo l k ks n))
  have h2 := layA_k l (layTo l k ks n)
  have h3 := layTo_k l k ks n
  unfold layK
  omega
def keysOf (os : List Offer) : List ByteArray := os.map Offer.key
def LayoutPost (l : List Int) (k n p lw : Nat) (ks : List ByteArray) (w : World) (e : Ending) (w' : World) : Prop :=
  ∃ v, e = .returned v ∧ w'.ownsRow w.heap.size 9 1 v (layM l k n ks).length (strs (layM l k n ks)) ∧ StreamAt w' p lw l (layK l k n ks) ∧ w.grownBy w' (some p)
set_option maxRecDepth 100000 in
set_option maxHeartbeats 4000000 in
theorem layout_any (l : List Int) (k n : Nat) (os : List Offer) (la : Option Addr) (lc B p : Nat) (w : World) (hs : StreamAt w p lw l k) (hk : k < 800000000) (hn : n ≤ 60) (ho : OwnNest (OffR B) w B 91 5 (.slice la os.length lc) os) (hp : p < B) (hol : os.length ≤ 1000) :
    Calls Try.prog 16 #[.pointer (some ⟨p, 0, none⟩), .int .i64 n, .slice la os.length lc] w (LayoutPost l k n p lw (keysOf os) w) := by
  have hlt := hs.lt
  have hm1 : ¬ (70 : Int) < (n : Int) := by omega
  have HO := Lib.hid ho
  clear ho
  obtain ⟨ks, hks⟩ : ∃ ks, ks = keysOf os := ⟨_, rfl⟩
  have hkl : ks.length = os.length := by rw [hks]; simp [keysOf]
  have HKS := Lib.hid hks
  have HKL := Lib.hid hkl
  rw [← hks]
  clear hks hkl
  go_enter Try.func16, Try.ntmps16
  go_wp2_with (fail)
  go_loopw [7, 8, 12] (fun v _ c wr => ∃ i : Nat, i ≤ n ∧ c = .int .i64 i ∧ wr.ownsRow w.heap.size 9 1 v i (strs (layTo l k ks i).1) ∧ StreamAt wr p lw l (layTo l k ks i).2 ∧ w.grownBy wr (some p)) (fun _ _ c _ => n - (intOf c).toNat)
  case atStart => exact ⟨0, Nat.zero_le _, rfl, World.ownsRow_nil _ _ _ _, hs, gr_refl _ _⟩
  case round =>
    obtain ⟨i, hi, rfl, hown, hsr, hgr⟩ := hrel
    obtain ⟨wo, rfl⟩ : ∃ wo : World, wo = wr := ⟨_, rfl⟩
    have hjb := layTo_k l k ks i
    have hll := layTo_len l k ks i
    obtain ⟨j, hj⟩ : ∃ j, j = (layTo l k ks i).2 := ⟨_, rfl⟩
    obtain ⟨L, hL⟩ : ∃ L, L = (layTo l k ks i).1 := ⟨_, rfl⟩
    have hgsz := hgr.size
    by_cases hin : i < n
    · have htl : Hid (∀ (s : ByteArray) (j' : Nat) (v3 : Value) (w3 : World), layE l j ks = (s, j') → w3.ownsRow w.heap.size 9 1 v3 (i + 1) (strs L ++ [.string s]) → w3.ownsRow w.heap.size 9 1 v3 (i + 1) (strs (layTo l k ks (i + 1)).1) ∧ j' = (layTo l k ks (i + 1)).2) := by
        show ∀ (s : ByteArray) (j' : Nat) (v3 : Value) (w3 : World), _ → _ → _
        intro s j' v3 w3 he ho
        simp only [layTo]
        rw [← hj, ← hL, he]
        exact ⟨by simpa [strs] using ho, rfl⟩
      rw [← hj] at hsr hjb
      rw [← hL] at hown hll
      have HOWN := Lib.hid hown
      have hkl := HKL.out
      have HE : Hid (layE l j ks = if ks.length = 0 then (⟨#[]⟩, j) else if flipM l j 4 then (⟨#[]⟩, j + 1) else (ks.getD (nxt l (j + 1) ks.length).toNat ⟨#[]⟩, j + 2)) := rfl
      clear hj hL hown hll
      by_cases h0 : os.length = 0
      · have HE2 : Hid (layE l j ks = (⟨#[]⟩, j)) := by show _ = _; rw [HE.out, if_pos (by omega)]
        clear hkl
        go_wp2_with (at_builtin; refine wpList_app1F eStr rfl _ _ rfl w.heap.size _ i (strs L) rfl wo #[.string ⟨#[]⟩] rfl HOWN.out _ rfl rfl rfl rfl (by omega) (by omega) ?_; intro v3 w3 hown3 hg3 hlt3 hf3)
        go_roundw
        case rel =>
          obtain ⟨q1, q2⟩ := htl.out _ _ v3 w3 HE2.out hown3
          first
            | exact ⟨i + 1, by omega, by go_num, q1, by rw [← q2]; exact hsr.keep hg3 (fun q hq => by have := hlt3 q hq; omega), gr_grown hgr hg3 (fun q hq => hlt3 q hq)⟩
            | exact ⟨_, _, _, ⟨i + 1, by omega, by go_num, q1, by rw [← q2]; exact hsr.keep hg3 (fun q hq => by have := hlt3 q hq; omega), gr_grown hgr hg3 (fun q hq => hlt3 q hq)⟩, rfl, rfl, rfl⟩
        case measure => simp [intOf]; omega
      · have h0' : 0 < os.length := by omega
        go_wp2_with (fail)
        refine (flip_any l j 4 p wo hsr (by omega) (by decide)).mono ?_
        rintro e w2 ⟨rfl, hs2, hg2⟩
        have hown2 := own_keepS HOWN.out hg2 (by omega)
        have hgr2 := gr_trans hgr hg2
        have hz2 := hg2.size
        cases hf : flipM l j 4 with
        | true =>
          have HE2 : Hid (layE l j ks = (⟨#[]⟩, j + 1)) := by show _ = _; rw [HE.out, if_neg (by omega), if_pos hf]
          clear hf hkl
          go_wp2_with (at_builtin; refine wpList_app1F eStr rfl _ _ rfl w.heap.size _ i (strs L) rfl w2 #[.string ⟨#[]⟩] rfl hown2 _ rfl rfl rfl rfl (by omega) (by omega) ?_; intro v3 w3 hown3 hg3 hlt3 hf3)
          go_roundw
          case rel =>
            obtain ⟨q1, q2⟩ := htl.out _ _ v3 w3 HE2.out hown3
            first
              | exact ⟨i + 1, by omega, by go_num, q1, by rw [← q2]; exact hs2.keep hg3 (fun q hq => by have := hlt3 q hq; omega), gr_grown hgr2 hg3 (fun q hq => hlt3 q hq)⟩
              | exact ⟨_, _, _, ⟨i + 1, by omega, by go_num, q1, by rw [← q2]; exact hs2.keep hg3 (fun q hq => by have := hlt3 q hq; omega), gr_grown hgr2 hg3 (fun q hq => hlt3 q hq)⟩, rfl, rfl, rfl⟩
          case measure => simp [intOf]; omega
        | false =>
          have HE2 : Hid (layE l j ks = (ks.getD (nxt l (j + 1) ks.length).toNat ⟨#[]⟩, j + 2)) := by show _ = _; rw [HE.out, if_neg (by omega), if_neg (by rw [hf]; decide)]
          clear hf
          rw [hkl] at HE2
          clear hkl
          go_wp2_with (fail)
          refine (next_any l (j + 1) (os.length : Int) p w2 hs2 (by omega) (by omega)).mono ?_
          rintro e w3 ⟨rfl, hs3, hg3⟩
          have hnr := nxt_range l (j + 1) (os.length : Int) (by omega)
          obtain ⟨m, hm⟩ : ∃ m : Nat, nxt l (j + 1) (os.length : Int) = m := ⟨(nxt l (j + 1) (os.length : Int)).toNat, by omega⟩
          rw [hm] at HE2
          rw [hm]
          have hml : m < os.length := by omega
          have hgr3 := gr_trans hgr2 hg3
          have hown3 := own_keepS hown2 hg3 (by omega)
          have hN := HO.out.keepS hgr3 hp (fun y d h => OffR.keepS hgr3 hp y d h)
          obtain ⟨a', c', he', _, _, hna, _⟩ := hN.shape
          cases he'
          obtain ⟨b, off, rfl, hcell⟩ := offKey hna m hml
          obtain ⟨K, hK⟩ : ∃ K, K = os[m].key := ⟨_, rfl⟩
          rw [← hK] at hcell
          have hKe : ks.getD m ⟨#[]⟩ = K := by
            rw [hK, HKS.out]
            simp [keysOf, List.getD_eq_getElem?_getD, List.getElem?_eq_getElem hml]
          have HE3 : Hid (layE l j ks = (K, j + 2)) := by show _ = _; rw [HE2.out]; simp only [Int.toNat_natCast]; rw [hKe]
          have hz3 := hg3.size
          clear hnr hm hN hna hK hKe
          go_wp2_with (at_builtin; refine wpList_app1F eStr rfl _ _ rfl w.heap.size _ i (strs L) rfl w3 #[.string K] rfl hown3 _ rfl rfl rfl rfl (by omega) (by omega) ?_; intro v4 w4 hown4 hg4 hlt4 hf4)
          go_roundw
          case rel =>
            obtain ⟨q1, q2⟩ := htl.out _ _ v4 w4 HE3.out hown4
            first
              | exact ⟨i + 1, by omega, by go_num, q1, by rw [← q2]; exact hs3.keep hg4 (fun q hq => by have := hlt4 q hq; omega), gr_grown hgr3 hg4 (fun q hq => hlt4 q hq)⟩
              | exact ⟨_, _, _, ⟨i + 1, by omega, by go_num, q1, by rw [← q2]; exact hs3.keep hg4 (fun q hq => by have := hlt4 q hq; omega), gr_grown hgr3 hg4 (fun q hq => hlt4 q hq)⟩, rfl, rfl, rfl⟩
          case measure => simp [intOf]; omega
    · obtain rfl : i = n := by omega
      obtain ⟨va, vc, rfl, _, _, _, _⟩ := own_shape hown
      have hM : Hid (layM l k i ks = (layB l (layA l (layTo l k ks i))).1 ∧ layK l k i ks = (layB l (layA l (layTo l k ks i))).2) := ⟨rfl, rfl⟩
      have hP : layTo l k ks i = (L, j) := by rw [hL, hj]
      rw [hP] at hM
      rw [← hj] at hsr hjb
      rw [← hL] at hown hll
      have HOWN := Lib.hid hown
      clear hj hL hown hP
      have HLL := Lib.hid hll
      clear hll
      go_wp2_with (fail)
      refine (flip_any l j 15 p wo hsr (by omega) (by decide)).mono ?_
      rintro e w2 ⟨rfl, hs2, hg2⟩
      have hown2 := own_keepS HOWN.out hg2 (by omega)
      have hgr2 := gr_trans hgr hg2
      have hz2 := hg2.size
      cases hf : flipM l j 15 with
      | false =>
        have HM1 : Hid (layM l k i ks = (layB l (L, j + 1)).1 ∧ layK l k i ks = (layB l (L, j + 1)).2) := by
          show _ ∧ _
          rw [hM.out.1, hM.out.2]
          unfold layA
          rw [if_neg (by show ¬ flipM l j 15 = true; rw [hf]; decide)]
          exact ⟨rfl, rfl⟩
        clear hf hM
        go_wp2_with (fail)
        go_fit (flip_any l (j + 1) 15 p w2 hs2 (by omega) (by decide))
        rintro e wf ⟨rfl, hsf, hgf⟩
        have hownf := own_keepS hown2 hgf (by omega)
        have hgrf := gr_trans hgr2 hgf
        have hzf := hgf.size
        cases hb : flipM l (j + 1) 15 with
        | false =>
          have HM2 : Hid (layM l k i ks = L ∧ layK l k i ks = j + 1 + 1) := by
            show _ ∧ _
            rw [HM1.out.1, HM1.out.2]
            unfold layB
            rw [if_neg (by show ¬ flipM l (j + 1) 15 = true; rw [hb]; decide)]
            exact ⟨rfl, rfl⟩
          clear hb
          go_wp2_with (fail)
          go_ret
          exact ⟨.slice va i vc, rfl, by rw [HM2.out.1, HLL.out]; exact hownf, by rw [HM2.out.2]; exact hsf, hgrf⟩
        | true =>
          by_cases hz0 : i = 0
          · have HM2 : Hid (layM l k i ks = L ∧ layK l k i ks = j + 1 + 1) := by
              show _ ∧ _
              rw [HM1.out.1, HM1.out.2]
              unfold layB
              rw [if_pos (by exact hb), if_pos (by show List.length (L) = 0; rw [HLL.out]; exact hz0)]
              exact ⟨rfl, rfl⟩
            have hlf : ¬ 0 < i := by omega
            have HZ := Lib.hid hz0
            clear hb hz0
            go_wp2_with (fail)
            go_ret
            exact ⟨.slice va i vc, rfl, by rw [HM2.out.1, HLL.out]; exact hownf, by rw [HM2.out.2]; exact hsf, hgrf⟩
          · have hlf : 0 < i := by omega
            have HM2 : Hid (layM l k i ks = List.set (L) (nxt l (j + 1 + 1) ((i : Nat) : Int)).toNat (oneS l (j + 1 + 2) laySet) ∧ layK l k i ks = j + 1 + 3) := by
              show _ ∧ _
              rw [HM1.out.1, HM1.out.2]
              unfold layB
              rw [if_pos (by exact hb), if_neg (by show ¬ List.length (L) = 0; rw [HLL.out]; exact hz0)]
              simp only [HLL.out]
              exact ⟨trivial, trivial⟩
            clear hb
            obtain ⟨gq, gc, hq, _, _, _, _⟩ := own_some hownf hlf
            cases hq
            go_wp2_with (fail)
            go_fit (next_any l (j + 1 + 1) ((i : Nat) : Int) p wf hsf (by omega) (by omega))
            rintro e wg ⟨rfl, hsg, hgg⟩
            have hnr := nxt_range l (j + 1 + 1) ((i : Nat) : Int) (by omega)
            obtain ⟨m, hm⟩ : ∃ m : Nat, nxt l (j + 1 + 1) ((i : Nat) : Int) = m := ⟨(nxt l (j + 1 + 1) ((i : Nat) : Int)).toNat, by omega⟩
            rw [hm] at HM2
            rw [hm]
            have hml : m < i := by omega
            have howng := own_keepS hownf hgg (by omega)
            have hgrg := gr_trans hgrf hgg
            have hzg := hgg.size
            clear hnr hm
            go_wp2_with (fail)
            go_fit (one_any l (j + 1 + 1 + 1) laySet p wg hsg (by omega) (by decide) (by decide))
            rintro e wh ⟨rfl, hsh, hgh⟩
            have hownh := own_keepS howng hgh (by omega)
            have hgrh := gr_trans hgrg hgh
            obtain ⟨S, hS⟩ : ∃ S, S = oneS l (j + 1 + 1 + 1) laySet := ⟨_, rfl⟩
            rw [← hS]
            have c0 : ∃ u, wh.cell? ⟨gq, m, none⟩ = some u := by
              have := hownh.cellAt m (by omega)
              rw [this]
              exact ⟨_, List.getElem?_eq_getElem (by rw [strs_length, HLL.out]; exact hml)⟩
            obtain ⟨u0, c0⟩ := c0
            have f0 := hownh.frozenAt m
            obtain ⟨hst, hgst⟩ := hownh.stored m (.string S)
            have hqp : p < gq := by omega
            have hqw : w.heap.size ≤ gq := by omega
            have HS := Lib.hid hS
            clear hS
            go_wp2_with (fail)
            go_ret
            refine ⟨_, rfl, ?_, ?_, ?_⟩
            · rw [HM2.out.1, List.length_set, HLL.out]
              have e : strs (List.set (L) m S) = List.set (strs (L)) m (.string S) := by simp [strs, List.map_set]
              rw [show oneS l (j + 1 + 2) laySet = S from HS.out.symm, Int.toNat_natCast, e]
              exact hst
            · rw [HM2.out.2]
              exact hsh.keep hgst (fun q hq => by cases hq; omega)
            · exact gr_grown hgrh hgst (fun q hq => by cases hq; omega)

      | true =>
        have HM1 : Hid (layM l k i ks = (layB l (L ++ [oneS l (j + 1) layOne], j + 2)).1 ∧ layK l k i ks = (layB l (L ++ [oneS l (j + 1) layOne], j + 2)).2) := by
          show _ ∧ _
          rw [hM.out.1, hM.out.2]
          unfold layA
          rw [if_pos (by show flipM l j 15 = true; exact hf)]
          exact ⟨rfl, rfl⟩
        clear hf hM
        go_wp2_with (fail)
        go_fit (one_any l (j + 1) layOne p w2 hs2 (by omega) (by decide) (by decide))
        rintro e w3 ⟨rfl, hs3, hg3⟩
        have hown3 := own_keepS hown2 hg3 (by omega)
        have hgr3 := gr_trans hgr2 hg3
        have hz3 := hg3.size
        obtain ⟨T, hT⟩ : ∃ T, T = oneS l (j + 1) layOne := ⟨_, rfl⟩
        rw [← hT] at HM1
        rw [← hT]
        clear hT
        go_wp2_with (at_builtin; refine wpList_app1F eStr rfl _ _ rfl w.heap.size _ i (strs L) rfl w3 #[.string T] rfl hown3 _ rfl rfl rfl rfl (by omega) (by omega) ?_; intro v4 w4 hown4 hg4 hlt4 hf4; have hown4 : w4.ownsRow w.heap.size 9 1 v4 (i + 1) (strs (L ++ [T])) := (by simpa [strs] using hown4); obtain ⟨g4, c4, rfl, _, _, _, _⟩ := own_some hown4 (by omega))
        have hs4 := hs3.keep hg4 (fun q hq => by have := hlt4 q hq; omega)
        have hgr4 := gr_grown hgr3 hg4 (fun q hq => hlt4 q hq)
        have hz4 := hg4.size
        have HLL2 : Hid ((L ++ [T]).length = i + 1) := by show _ = _; rw [List.length_append, HLL.out]; rfl
        go_fit (flip_any l (j + 2) 15 p w4 hs4 (by omega) (by decide))
        rintro e wf ⟨rfl, hsf, hgf⟩
        have hownf := own_keepS hown4 hgf (by omega)
        have hgrf := gr_trans hgr4 hgf
        have hzf := hgf.size
        cases hb : flipM l (j + 2) 15 with
        | false =>
          have HM2 : Hid (layM l k i ks = L ++ [T] ∧ layK l k i ks = j + 2 + 1) := by
            show _ ∧ _
            rw [HM1.out.1, HM1.out.2]
            unfold layB
            rw [if_neg (by show ¬ flipM l (j + 2) 15 = true; rw [hb]; decide)]
            exact ⟨rfl, rfl⟩
          clear hb
          go_wp2_with (fail)
          go_ret
          exact ⟨.slice (some ⟨g4, 0, none⟩) (i + 1) c4, rfl, by rw [HM2.out.1, HLL2.out]; exact hownf, by rw [HM2.out.2]; exact hsf, hgrf⟩
        | true =>
          by_cases hz0 : i + 1 = 0
          · exact absurd hz0 (by omega)
          · have hlf : 0 < i + 1 := by omega
            have HM2 : Hid (layM l k i ks = List.set (L ++ [T]) (nxt l (j + 2 + 1) ((i + 1 : Nat) : Int)).toNat (oneS l (j + 2 + 2) laySet) ∧ layK l k i ks = j + 2 + 3) := by
              show _ ∧ _
              rw [HM1.out.1, HM1.out.2]
              unfold layB
              rw [if_pos (by exact hb), if_neg (by show ¬ List.length (L ++ [T]) = 0; rw [HLL2.out]; exact hz0)]
              simp only [HLL2.out]
              exact ⟨trivial, trivial⟩
            clear hb
            go_wp2_with (fail)
            go_fit (next_any l (j + 2 + 1) ((i + 1 : Nat) : Int) p wf hsf (by omega) (by omega))
            rintro e wg ⟨rfl, hsg, hgg⟩
            have hnr := nxt_range l (j + 2 + 1) ((i + 1 : Nat) : Int) (by omega)
            obtain ⟨m, hm⟩ : ∃ m : Nat, nxt l (j + 2 + 1) ((i + 1 : Nat) : Int) = m := ⟨(nxt l (j + 2 + 1) ((i + 1 : Nat) : Int)).toNat, by omega⟩
            rw [hm] at HM2
            rw [hm]
            have hml : m < i + 1 := by omega
            have howng := own_keepS hownf hgg (by omega)
            have hgrg := gr_trans hgrf hgg
            have hzg := hgg.size
            clear hnr hm
            go_wp2_with (fail)
            go_fit (one_any l (j + 2 + 1 + 1) laySet p wg hsg (by omega) (by decide) (by decide))
            rintro e wh ⟨rfl, hsh, hgh⟩
            have hownh := own_keepS howng hgh (by omega)
            have hgrh := gr_trans hgrg hgh
            obtain ⟨S, hS⟩ : ∃ S, S = oneS l (j + 2 + 1 + 1) laySet := ⟨_, rfl⟩
            rw [← hS]
            have c0 : ∃ u, wh.cell? ⟨g4, m, none⟩ = some u := by
              have := hownh.cellAt m (by omega)
              rw [this]
              exact ⟨_, List.getElem?_eq_getElem (by rw [strs_length, HLL2.out]; exact hml)⟩
            obtain ⟨u0, c0⟩ := c0
            have f0 := hownh.frozenAt m
            obtain ⟨hst, hgst⟩ := hownh.stored m (.string S)
            have hqp : p < g4 := by omega
            have hqw : w.heap.size ≤ g4 := by omega
            have HS := Lib.hid hS
            clear hS
            go_wp2_with (fail)
            go_ret
            refine ⟨_, rfl, ?_, ?_, ?_⟩
            · rw [HM2.out.1, List.length_set, HLL2.out]
              have e : strs (List.set (L ++ [T]) m S) = List.set (strs (L ++ [T])) m (.string S) := by simp [strs, List.map_set]
              rw [show oneS l (j + 2 + 2) laySet = S from HS.out.symm, Int.toNat_natCast, e]
              exact hst
            · rw [HM2.out.2]
              exact hsh.keep hgst (fun q hq => by cases hq; omega)
            · exact gr_grown hgrh hgst (fun q hq => by cases hq; omega)

end Go.Proofs.Ytdjnomeabadbnaa
