/- Package meter's someOn and Down. -/
import Derived.Test.YtehhmgbgkemidaaGreatDoorPkSAt
import Derived.Test.YtehhmgbgkemidaaGreatDoorPkSAu
import Derived.Test.YtehhmgbgkemidaaGreatDoorPkSAb
import Derived.Test.YtehhmgbgkemidaaGreatDoorPkSAg
import Derived.Test.YtehhmgbgkemidaaGreatDoorPkSAy
import Derived.Deep.RegionLaw
namespace Go.Proofs.YtehhmgbgkemidaaGreatDoor
open Go.RowKit
attribute [local go_sem ↓] Go.wp_at_zero Go.wp_at_succ

theorem wpList_appD {P : Program} {w : World} {ops : Array Oper} {rest : List Oper} {o : Oper} {a : Act} {Q : Exit → Act → World → Prop} {t e size bytes : Nat} {z : Value} (Et : ElemT P t e z size bytes) (hgd : o.guard = none) (s x : Operand)
    (ho : o.op = .call { callee := .builtin .append, args := #[s, x], argTypes := #[t, t] })
    (base : Nat) (v : Value) (n : Nat) (xs : List Value) (hs : a.eval s = v) (hown : w.ownsRow base e size v n xs)
    (ao : Option Addr) (m c : Nat) (news : List Value) (hx : a.eval x = .slice ao m c) (hl : news.length = m * size) (hc : CellsAt w ao news) (hnil : ao = none → c = 0) (h1 : ∀ u ∈ news, u.oneCell' = true)
    (hb : n + m ≤ 137438953472) (hbase : base ≤ w.heap.size)
    (h : ∀ v' w', w'.ownsRow base e size v' (n + m) (xs ++ news) → w.grownBy w' v.ownBlock → (∀ q, v.ownBlock = some q → base ≤ q) → (∀ k, v'.ownBlock = some k → v.ownBlock = some k ∨ w.heap.size ≤ k) → wpList P ops Q rest (a.put o.dst v') w') : wpList P ops Q (o :: rest) a w :=
  wpList_plain hgd fun _ hK => oper_appN Et s x ho base v n xs hs hown ao m c news hx hl hc hnil h1 hb hbase (fun v' w' h1 h2 h3 h4 => hK _ _ (h v' w' h1 h2 h3 h4))
def OnPost (l : List Cd) (Ks : List ByteArray) (w : World) (e : Ending) (w' : World) : Prop :=
  ∃ (v : Value) (J : List Win), e = .returned v ∧ w'.ownsRow w.heap.size 39 2 v J.length (flat encWin J) ∧ JoinOk (momW endM l) J (litAll endM l Ks) ∧ w.grownBy w' none
set_option maxRecDepth 100000 in
set_option maxHeartbeats 2000000 in
theorem someOn_any (l : List Cd) (Ks : List ByteArray) (a : Option Addr) (c : Nat) (ka : Option Addr) (kc : Nat) (w : World) (h : CellsAt w a (flat encCd l)) (hk : CellsAt w ka (strs Ks)) (ok : CdsOk endM l) (hl : l.length ≤ 10) (hkl : Ks.length ≤ 2) :
    Calls Tryz.prog 64 #[.slice a l.length c, .slice ka Ks.length kc] w (OnPost l Ks w) := by
  have H := Lib.hid h
  have HK := Lib.hid hk
  have hE : (0 : Int) ≤ endM := by decide
  have HLL : Hid (∀ K, 2 * (litM endM K l).length ≤ l.length + 2) := fun K => lit_len ok hE
  have HLA : Hid (∀ Q : List ByteArray, 2 * (litAll endM l Q).length ≤ Q.length * (l.length + 2)) := fun Q => litAll_len ok hE Q
  have HOK := Lib.hid ok
  clear h hk ok hE
  go_enter Tryz.func64, Tryz.ntmps64
  go_wp2_with (fail)
  go_loopw [5, 10] (fun v i wr => ∃ k : Nat, k ≤ Ks.length ∧ i = .int .i64 k ∧ wr.ownsRow w.heap.size 39 2 v (litAll endM l (Ks.take k)).length (flat encWin (litAll endM l (Ks.take k))) ∧ w.grownBy wr none) (fun _ i _ => Ks.length - (intOf i).toNat)
  case atStart => exact ⟨0, Nat.zero_le _, rfl, World.ownsRow_nil _ _ _ _, gr_refl _ _⟩
  case round =>
    obtain ⟨k, hk, rfl, hown, hgr⟩ := hrel
    obtain ⟨wo, rfl⟩ : ∃ wo : World, wo = wr := ⟨_, rfl⟩
    by_cases hlt : k < Ks.length
    · have hkg : (strs Ks)[k]? = some (.string Ks[k]) := by simp [strs, hlt]
      obtain ⟨b, off, rfl, d0⟩ := (HK.out.keep0 hgr) k _ hkg
      have hnx : litAll endM l (Ks.take (k + 1)) = litAll endM l (Ks.take k) ++ litM endM Ks[k] l := by
        rw [List.take_succ_eq_append_getElem hlt, litAll_snoc]
      have hll := HLL.out Ks[k]
      have hla := HLA.out (Ks.take k)
      have htk : (Ks.take k).length ≤ 2 := by rw [List.length_take]; omega
      have hla2 : (Ks.take k).length * (l.length + 2) ≤ 2 * 12 := Nat.mul_le_mul htk (by omega)
      have LT := Lib.hid (lit_any l Ks[k] a c wo (H.out.keep0 hgr) (by omega))
      obtain ⟨K, hK⟩ : ∃ K, K = Ks[k] := ⟨_, rfl⟩
      rw [← hK] at d0 hnx hll LT
      obtain ⟨A, hA⟩ : ∃ A, A = litAll endM l (Ks.take k) := ⟨_, rfl⟩
      rw [← hA] at hown hnx hla
      obtain ⟨B, hB⟩ : ∃ B, B = litM endM K l := ⟨_, rfl⟩
      rw [← hB] at hnx hll LT
      have HNX := Lib.hid hnx
      have HOWN := Lib.hid hown
      have HGR := Lib.hid hgr
      have hzo := hgr.size
      clear hkg hnx hK hA hB hown hgr htk
      go_wp2_with (fail)
      refine LT.out.mono ?_
      rintro e w1 ⟨v1, rfl, o1, g1⟩
      obtain ⟨a1, c1, rfl, -, -, hc1, -⟩ := own_shape o1
      have n1 : a1 = none → c1 = 0 := fun e => (own_nil o1 e).2
      have HO1 := Lib.hid (own_keep0 HOWN.out g1)
      have HG1 := Lib.hid (gr_trans HGR.out g1)
      have hz1 := g1.size
      have HC1 := Lib.hid hc1
      have N1 := Lib.hid n1
      clear o1 hc1 g1 n1 LT d0 HOWN HGR
      go_wp2_with (at_builtin; refine wpList_appD eWin rfl _ _ rfl w.heap.size _ A.length (flat encWin A) rfl HO1.out a1 B.length c1 (flat encWin B) rfl (flat_length (m := 2) (fun _ => rfl) B) HC1.out N1.out (flat_ones (fun _ => rfl) B) (by omega) (by omega) ?_; intro v7 w7 o7 g7 hl7 _; have O7 := Lib.hid o7; have G7 := Lib.hid (gr_grown HG1.out g7 hl7); clear o7 g7)
      go_wp2_with (fail)
      go_roundw
      case rel => exact ⟨k + 1, by omega, by go_num, by rw [HNX.out, flat_append, List.length_append]; exact O7.out, G7.out⟩
      case measure => simp [intOf]; omega
    · obtain rfl : k = Ks.length := by omega
      rw [List.take_length] at hown
      have hla := HLA.out Ks
      have hla2 : Ks.length * (l.length + 2) ≤ 2 * 12 := Nat.mul_le_mul hkl (by omega)
      have JN := Lib.hid (joined_any (litAll endM l Ks) _ w.heap.size wo hown (by omega))
      have HGR := Lib.hid hgr
      have HVL : Hid (∀ q, Value.ownBlock u5 = some q → w.heap.size ≤ q) := fun q e => (hown.lt q e).1
      have hzo := hgr.size
      clear hown hgr
      go_wp2_with (fail)
      refine JN.out.mono ?_
      rintro e w1 ⟨v1, O, rfl, o1, hp, hs, g1⟩
      have hJ := join_ok (momW endM l) (litAll endM l Ks) O hp hs (litAll_ok HOK.out (by decide) Ks).1 (litAll_ok HOK.out (by decide) Ks).2
      have HJ := Lib.hid hJ
      have O1 := Lib.hid (own_base o1 hzo)
      have G1 := Lib.hid (gr_grown HGR.out g1 HVL.out)
      clear hJ hp hs o1 g1
      go_wp2_with (fail)
      go_ret
      exact ⟨_, _, rfl, O1.out, HJ.out, G1.out⟩
theorem down1_fn : ∀ (args : Array Value) (w : World), (callFunc 60 args).run Tryz.prog w = .ok (.enter 60 args) w := fun _ _ => by kernel_rfl
theorem down1_any (s : ByteArray) (hs : s.size ≤ 100) (w : World) : Calls Tryz.prog 60 #[.string s] w fun e w' => e = .returned (.bool (oddK s)) ∧ w.grownBy w' none := by
  go_enter Tryz.func60, Tryz.ntmps60
  go_wp2_with (fail)
  refine (key_any s w (by omega)).mono ?_
  rintro e w1 ⟨rfl, rfl⟩
  go_wp2_with (fail)
  go_ret
  exact ⟨rfl, gr_refl _ _⟩
theorem bothM_len : ∀ (n : Nat) (a b : List Win), a.length + b.length ≤ n → (bothM a b).length ≤ n
  | _, [], b, _ => by rw [bothM_nil]; simp
  | _, x :: a, [], _ => by rw [bothM_nil2]; simp
  | 0, x :: a, y :: b, h => by simp at h
  | n + 1, x :: a, y :: b, h => by
    have h1 := bothM_len n a (y :: b) (by simp at h ⊢; omega)
    have h2 := bothM_len n (x :: a) b (by simp at h ⊢; omega)
    rw [bothM_cons, List.length_append]
    (repeat' split) <;> simp <;> omega
theorem lenW_take (N : List Win) (k : Nat) (h : k < N.length) : lenW (N.take (k + 1)) = lenW (N.take k) + (N[k].to - N[k].fr) := by
  rw [List.take_succ_eq_append_getElem h]
  unfold lenW
  rw [List.map_append, List.sum_append]
  simp
set_option maxRecDepth 100000 in
set_option maxHeartbeats 2000000 in
theorem down_any (l : List Cd) (Ks : List ByteArray) (x y : Int) (a : Option Addr) (c : Nat) (ka : Option Addr) (kc : Nat) (w : World) (h : CellsAt w a (flat encCd l)) (hk : CellsAt w ka (strs Ks)) (ok : CdsFull l) (hsm : ∀ x ∈ l, CdSm x) (hl : l.length ≤ 10) (hkl : Ks.length ≤ 2) (hK : ∀ s ∈ Ks, keyB s = true ∧ s.size ≤ 100)
    (hx : 0 ≤ x) (hxy : x ≤ y) (hy : y ≤ 5761440) :
    Calls Tryz.prog 12 #[.slice a l.length c, .slice ka Ks.length kc, .agg #[.int .i64 x, .int .i64 y]] w fun e w' => ∃ n, e = .returned (.tuple #[.int .i64 n, .int .i64 0]) ∧ DownIs endM l Ks x y n ∧ w.grownBy w' none := by
  have g1 := gr_alloc (gr_refl w none) (.cells #[.int .i64 x, .int .i64 y] 39)
  have hB := heap_alloc_new w (.cells #[.int .i64 x, .int .i64 y] 39)
  obtain ⟨w1, hw1⟩ : ∃ w1, w1 = w.alloc (.cells #[.int .i64 x, .int .i64 y] 39) := ⟨_, rfl⟩
  rw [← hw1] at g1 hB
  obtain ⟨V, hV⟩ : ∃ V, V = w.heap.size := ⟨_, rfl⟩
  rw [← hV] at hB
  have H := Lib.hid (h.keep0 g1)
  have HK := Lib.hid (hk.keep0 g1)
  have CC := Lib.hid (checkCodes_ok l a c w1 (h.keep0 g1) ok hsm (by omega))
  have HKK := Lib.hid hK
  have HB := Lib.hid hB
  have HW1 := Lib.hid hw1
  have HV := Lib.hid hV
  have HG1 := Lib.hid g1
  have HOK := Lib.hid ok.ok
  clear h hk ok hsm hK g1 hB hw1 hV
  go_enter Tryz.func12, Tryz.ntmps12
  go_wp2_with (fail)
  rw [← HW1.out, ← HV.out]
  go_wp2_with (fail)
  refine CC.out.mono ?_
  rintro e w2 ⟨rfl, g2⟩
  have HK2 := Lib.hid (HK.out.keep0 g2)
  have H2 := Lib.hid (H.out.keep0 g2)
  have HB2 := Lib.hid ((g2.block _ (lt_of_block HB.out) (by simp)).trans HB.out)
  have HG2 := Lib.hid (gr_trans HG1.out g2)
  clear g2 HK H HB HG1 CC HW1
  go_wp2_with (fail)
  refine (containsFunc_Str0 60 oddK Ks ka kc w2 (by rw [flatStr]; exact HK2.out) (by omega) down1_fn (fun s hs W _ => down1_any s (HKK.out s hs).2 W)).mono ?_
  rintro e w3 ⟨rfl, g3⟩
  rw [all_odd (fun s hs => (HKK.out s hs).1)]
  have HK3 := Lib.hid (HK2.out.keep0 g3)
  have H3 := Lib.hid (H2.out.keep0 g3)
  have HB3 := Lib.hid ((g3.block _ (lt_of_block HB2.out) (by simp)).trans HB2.out)
  have HG3 := Lib.hid (gr_trans HG2.out g3)
  have v0 : w3.cell? ⟨V, 0, none⟩ = some (.int .i64 x) := blkC HB3.out 0 rfl
  have v1 : w3.cell? ⟨V, 1, none⟩ = some (.int .i64 y) := blkC HB3.out 1 rfl
  have hVl := lt_of_block HB3.out
  clear g3 HK2 H2 HB2 HG2
  have hx0 : decide (x < 0) = false := decide_eq_false (by omega)
  have dP : (decide (y < x) || decide (5761440 < y)) = false := by simp; omega
  go_wp2_with (fail)
  refine (out_any y x 5761440 w3).mono ?_
  rintro e w4 ⟨rfl, rfl⟩
  rw [dP]
  clear dP hx0
  have SO : Hid (∀ W, w3.grownBy W none → Calls Tryz.prog 64 #[.slice a l.length c, .slice ka Ks.length kc] W fun e w' => ∃ (g : Option Addr) (J : List Win) (c' : Nat), e = .returned (.slice g J.length c') ∧ (CellsAt w' g (flat encWin J) ∧ (J.length ≤ c' ∧ c' ≤ maxLen) ∧ JoinOk (momW endM l) J (litAll endM l Ks)) ∧ W.grownBy w' none ∧ w3.grownBy w' none) := fun W gW => by
    refine (someOn_any l Ks a c ka kc W (H3.out.keep0 gW) (HK3.out.keep0 gW) HOK.out hl hkl).mono ?_
    rintro e w' ⟨v, J, rfl, ho, hJ, g⟩
    obtain ⟨g', c', rfl, h1, h2, hc, -⟩ := own_shape ho
    exact ⟨g', J, c', rfl, ⟨hc, ⟨h1, h2⟩, hJ⟩, g, gr_trans gW g⟩
  have BO : Hid (∀ (W : World) (g : Option Addr) (J : List Win) (c' b : Nat), CellsAt W g (flat encWin J) ∧ (J.length ≤ c' ∧ c' ≤ maxLen) ∧ JoinOk (momW endM l) J (litAll endM l Ks) → W.cell? ⟨b, 0, none⟩ = some (.int .i64 x) → W.cell? ⟨b, 1, none⟩ = some (.int .i64 y) → Calls Tryz.prog 63 #[.slice g J.length c', .slice (some ⟨b, 0, none⟩) 1 1] W fun e w' => ∃ (g2 : Option Addr) (c2 : Nat), e = .returned (.slice g2 (bothM J [⟨x, y⟩]).length c2) ∧ CellsAt w' g2 (flat encWin (bothM J [⟨x, y⟩])) ∧ W.grownBy w' none) := fun W g J c' b hJ q0 q1 => by
    have hjl := apart_few _ _ hJ.2.2.apart hJ.2.2.ends
    rw [momW_len] at hjl
    refine (both_any J [⟨x, y⟩] g (some ⟨b, 0, none⟩) c' 1 W hJ.1 (fun k v hk => ?_) (by omega) (by simp) hJ.2.1 ⟨by simp, by decide⟩).mono ?_
    · match k, hk with
      | 0, hk => cases hk; exact ⟨b, 0, rfl, q0⟩
      | 1, hk => cases hk; exact ⟨b, 0, rfl, q1⟩
      | k + 2, hk => simp [flat, encWin] at hk
    · rintro e w' ⟨v, rfl, ho, g⟩
      obtain ⟨g', c', rfl, -, -, hc, -⟩ := own_shape ho
      exact ⟨g', c', rfl, hc, g⟩
  clear HK3 H3
  go_upto_region 11 with (fail)
  go_cut [37, 38, 39] (fun s t u wx => ∃ (g : Option Addr) (J : List Win) (c' : Nat), s = .slice g (bothM J [⟨x, y⟩]).length c' ∧ t = .int .i64 (bothM J [⟨x, y⟩]).length ∧ u = .int .i64 0 ∧ CellsAt wx g (flat encWin (bothM J [⟨x, y⟩])) ∧ JoinOk (momW endM l) J (litAll endM l Ks) ∧ w3.grownBy wx none)
  case first =>
    go_region_law (first
      | (go_simp; go_at_call 64; (with_reducible refine (SO.out _ ?_).mono ?_); (· first | exact gr_drew (gr_refl _ _) | exact gr_alloc (gr_drew (gr_refl _ _)) _); rintro e w4 ⟨g4, J, c4, rfl, hJ4, hg4, hg34⟩; have p0 := (gr_cell hg34 hVl).trans v0; have p1 := (gr_cell hg34 hVl).trans v1; (try (have q0 : w4.cell? ⟨w3.heap.size, 0, none⟩ = some (.int .i64 x) := made_cell (w := w3.drew) (c := #[.int .i64 x, .int .i64 y]) (t := 39) hg4 0 rfl; have q1 : w4.cell? ⟨w3.heap.size, 1, none⟩ = some (.int .i64 y) := made_cell (w := w3.drew) (c := #[.int .i64 x, .int .i64 y]) (t := 39) hg4 1 rfl)))
      | (go_simp; go_at_call 63; revert hJ4; intro hJ4; (with_reducible refine (BO.out _ _ _ _ _ ?_ ?_ ?_).mono ?_); (· first | exact hJ4 | exact ⟨hJ4.1.keep0 (gr_alloc (gr_refl _ _) _), hJ4.2⟩); (· first | exact q0 | exact blkC (heap_alloc_new _ _) 0 rfl); (· first | exact q1 | exact blkC (heap_alloc_new _ _) 1 rfl); rintro e w6 ⟨g6, c6, rfl, hC6, hg6⟩)
      | fail)
    all_goals (try go_simp)
    all_goals (go_wp2_with (fail))
    all_goals go_meet
    all_goals
      revert hJ4
      intro hJ4
      first
        | exact ⟨g6, J, c6, rfl, rfl, rfl, hC6, hJ4.2.2, gr_trans hg34 hg6⟩
        | exact ⟨g6, J, c6, rfl, rfl, rfl, hC6, hJ4.2.2, gr_trans hg34 (gr_trans (gr_alloc (gr_refl _ _) _) hg6)⟩
  case rest =>
  obtain ⟨g, J, c', rfl, rfl, rfl, hC, hJ, hg⟩ := hcut
  obtain ⟨w6, rfl⟩ : ∃ w6 : World, w6 = wc := ⟨_, rfl⟩
  have hjl := apart_few _ _ hJ.apart hJ.ends
  rw [momW_len] at hjl
  have hdn := both_one x y J hJ.apart
  obtain ⟨B, hB⟩ : ∃ B, B = bothM J [⟨x, y⟩] := ⟨_, rfl⟩
  have hBok : ∀ z ∈ B, 0 ≤ z.to - z.fr ∧ z.to - z.fr ≤ 5761440 ∧ (0 ≤ z.fr ∧ z.fr ≤ 5761440) ∧ (0 ≤ z.to ∧ z.to ≤ 5761440) := fun z hz => by
    rw [hB] at hz
    obtain ⟨q1, _, ⟨v, hv, q2, q3⟩, _⟩ := both_in _ J [⟨x, y⟩] (Nat.le_refl _) z hz
    have e : v = ⟨x, y⟩ := by simpa using hv
    subst e
    simp only at q2 q3
    omega
  rw [← hB] at hC hdn
  rw [← hB]
  have DN : Hid (DownIs endM l Ks x y (lenW B)) := ⟨J, hJ, hdn⟩
  have hBl : B.length ≤ 100 := by
    have h1 := bothM_len _ J [⟨x, y⟩] (Nat.le_refl _)
    rw [hB]
    simp only [List.length_cons, List.length_nil] at h1
    omega
  have HC := Lib.hid hC
  have HG6 := Lib.hid (gr_trans HG3.out hg)
  have HBK := Lib.hid hBok
  clear hC hJ hg hjl hdn hB hBok v0 v1 hVl SO BO HB3 HG3
  go_wp2_with (fail)
  go_loopw [9, 39] (fun n i wr => ∃ k : Nat, k ≤ B.length ∧ i = .int .i64 k ∧ n = .int .i64 (lenW (B.take k)) ∧ (0 ≤ lenW (B.take k) ∧ lenW (B.take k) ≤ k * 5761440) ∧ w6.grownBy wr none) (fun _ i _ => B.length - (intOf i).toNat)
  case atStart => exact ⟨0, Nat.zero_le _, rfl, rfl, by simp [lenW], gr_refl _ _⟩
  case round =>
    obtain ⟨k, hk, rfl, rfl, hb, hgr⟩ := hrel
    obtain ⟨wo, rfl⟩ : ∃ wo : World, wo = wr := ⟨_, rfl⟩
    by_cases hlt : k < B.length
    · obtain ⟨b, off, rfl, d0, d1⟩ := win_cells (HC.out.keep0 hgr) k hlt
      have hz := HBK.out _ (List.getElem_mem hlt)
      have hnx := lenW_take B k hlt
      obtain ⟨z, hz0⟩ : ∃ z, z = B[k] := ⟨_, rfl⟩
      rw [← hz0] at d0 d1 hz hnx
      obtain ⟨z0, z1⟩ := z
      simp only at d0 d1 hz hnx
      obtain ⟨S, hS⟩ : ∃ S, S = lenW (B.take k) := ⟨_, rfl⟩
      rw [← hS] at hb hnx
      rw [← hS]
      have hV := heap_alloc_new wo (.cells #[.int .i64 z0, .int .i64 z1] 39)
      have g2 := gr_alloc (gr_refl wo none) (.cells #[.int .i64 z0, .int .i64 z1] 39)
      obtain ⟨w2, hw2⟩ : ∃ w2, w2 = wo.alloc (.cells #[.int .i64 z0, .int .i64 z1] 39) := ⟨_, rfl⟩
      rw [← hw2] at hV g2
      obtain ⟨V2, hVe⟩ : ∃ V2, V2 = wo.heap.size := ⟨_, rfl⟩
      rw [← hVe] at hV
      have v0 : w2.cell? ⟨V2, 0, none⟩ = some (.int .i64 z0) := blkC hV 0 rfl
      have v1 : w2.cell? ⟨V2, 1, none⟩ = some (.int .i64 z1) := blkC hV 1 rfl
      have HNX := Lib.hid hnx
      have HG7 := Lib.hid (gr_trans hgr g2)
      have HW2 := Lib.hid hw2
      have HVE := Lib.hid hVe
      clear hz0 hS hnx hV g2 hw2 hVe hgr
      go_upto_region 14 with (fail)
      rw [← HW2.out, ← HVE.out]
      clear d0 d1 HW2 HVE
      go_wp2_with (fail)
      go_roundw
      case rel => exact ⟨k + 1, by omega, by go_num, by rw [HNX.out], by rw [HNX.out]; omega, HG7.out⟩
      case measure => simp [intOf]; omega
    · obtain rfl : k = B.length := by omega
      rw [List.take_length]
      have HGR := Lib.hid hgr
      clear hgr
      go_wp2_with (fail)
      go_ret2
      exact ⟨_, rfl, DN.out, gr_trans HG6.out HGR.out⟩
end Go.Proofs.YtehhmgbgkemidaaGreatDoor
