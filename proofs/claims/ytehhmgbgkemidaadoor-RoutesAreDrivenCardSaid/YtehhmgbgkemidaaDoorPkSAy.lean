/- The walk of RoutesAreDriven. -/
import Derived.Test.YtehhmgbgkemidaaDoorPkSAq
import Derived.Test.YtehhmgbgkemidaaDoorPkSAo
import Derived.Test.YtehhmgbgkemidaaDoorPkSAv
import Derived.Test.YtehhmgbgkemidaaDoorPkSAx
import Derived.Test.YtehhmgbgkemidaaDoorPkSAe
import Derived.Test.YtehhmgbgkemidaaDoorPkSAc
import Derived.Test.YtehhmgbgkemidaaDoorPkSAk
namespace Go.Proofs.YtehhmgbgkemidaaDoor
open Go.RowKit
attribute [local go_sem ↓] Go.wp_at_zero Go.wp_at_succ

theorem stopsM_key2 (l : List Int) (k most : Nat) : ∀ x ∈ stopsM l k most, x.key.size ≤ 100 := by
  have hto : ∀ (k i : Nat), ∀ x ∈ (stopsTo l k i).1, x.key.size ≤ 100 := by
    intro k i
    induction i with
    | zero => intro x hx; simp [stopsTo] at hx
    | succ i ih =>
      intro x hx
      simp only [stopsTo, List.mem_append, List.mem_cons, List.not_mem_nil, or_false] at hx
      rcases hx with hx | rfl
      · exact ih x hx
      · have h1 := encode_size_le (97 + (i : Int))
        show (stopKey i).size ≤ 100
        unfold stopKey
        rw [ByteArray.size_append]
        have : (⟨#[115]⟩ : ByteArray).size = 1 := rfl
        omega
  intro x hx
  unfold stopsM at hx
  split at hx
  · rcases List.mem_append.1 hx with hx | hx
    · exact hto _ _ x hx
    · simp only [List.mem_cons, List.not_mem_nil, or_false] at hx
      subst hx
      have := oneS_mem l (stopsJ l k most + 1) [⟨#[]⟩, ⟨#[115, 97]⟩, ⟨#[122, 122]⟩] (by decide)
      simp only [List.mem_cons, List.not_mem_nil, or_false] at this
      show (oneS l (stopsJ l k most + 1) [⟨#[]⟩, ⟨#[115, 97]⟩, ⟨#[122, 122]⟩]).size ≤ 100
      rcases this with h | h | h <;> rw [h] <;> decide
  · exact hto _ _ x hx
theorem wpList_appN3 {P : Program} {w : World} {ops : Array Oper} {rest : List Oper} {o : Oper} {a : Act} {Q : Exit → Act → World → Prop} {t e size bytes : Nat} {z : Value} (Et : ElemT P t e z size bytes) (hgd : o.guard = none) (s x : Operand)
    (ho : o.op = .call { callee := .builtin .append, args := #[s, x], argTypes := #[t, t] })
    (base : Nat) (v : Value) (n : Nat) (xs : List Value) (hs : a.eval s = v) (hown : w.ownsRow base e size v n xs)
    (ao : Option Addr) (m c : Nat) (news : List Value) (hx : a.eval x = .slice ao m c) (hl : news.length = m * size) (hc : CellsAt w ao news) (hnil : ao = none → c = 0) (h1 : ∀ u ∈ news, u.oneCell' = true)
    (hb : n + m ≤ 137438953472) (hbase : base ≤ w.heap.size)
    (h : ∀ v' w', w'.ownsRow base e size v' (n + m) (xs ++ news) → w.grownBy w' v.ownBlock → (∀ q, v.ownBlock = some q → base ≤ q) → (∀ k, v'.ownBlock = some k → v.ownBlock = some k ∨ w.heap.size ≤ k) → wpList P ops Q rest (a.put o.dst v') w') : wpList P ops Q (o :: rest) a w :=
  wpList_plain hgd fun _ hK => oper_appN Et s x ho base v n xs hs hown ao m c news hx hl hc hnil h1 hb hbase (fun v' w' h1 h2 h3 h4 => hK _ _ (h v' w' h1 h2 h3 h4))
/-- The cars' routes, one behind the other. -/
def allR (T : List (List Int)) (q : Nat) : List Int := (T.take q).flatten
theorem allR_succ (T : List (List Int)) (q : Nat) (h : q < T.length) : allR T (q + 1) = allR T q ++ T.getD q [] := by
  unfold allR
  rw [List.take_add_one, List.getD_eq_getElem?_getD, List.getElem?_eq_getElem h, List.flatten_append]
  simp
theorem allR_two (T : List (List Int)) (h : T.length = 2) : allR T 2 = T.getD 0 [] ++ T.getD 1 [] := by
  rw [allR_succ T 1 (by omega), allR_succ T 0 (by omega)]
  rfl
theorem strict_of {S : List Int} (h : S.Pairwise (· ≤ ·)) (hn : S.Nodup) : S.Pairwise (· < ·) :=
  (List.Pairwise.and h hn).imp (fun ⟨h1, h2⟩ => by omega)
set_option maxRecDepth 100000 in
set_option maxHeartbeats 16000000 in
theorem routesAreDriven_any (l : List Int) (a : Option Addr) (cap : Nat) (w : World) (hc : CellsAt w a (ints l)) (hl : l.length ≤ 9223372036854775807) :
    Calls Tryd.prog 3 #[.slice a l.length cap] w fun e w' => e = .returned (.bool true) ∧ w.grownBy w' none := by
  have hg0 := gr_alloc (gr_refl w none) (.cells #[.slice a l.length cap, .int .i64 0] 25)
  have sa0 := StreamAt.made cap hc hl
  obtain ⟨w0, hw0⟩ : ∃ w0, w0 = w.alloc (.cells #[.slice a l.length cap, .int .i64 0] 25) := ⟨_, rfl⟩
  have hz0 : w0.heap.size = w.heap.size + 1 := by rw [hw0]; simp
  rw [← hw0] at sa0 hg0
  obtain ⟨p, hp⟩ : ∃ p, p = w.heap.size := ⟨_, rfl⟩
  rw [← hp] at sa0 hz0
  have HP := Lib.hid hp
  have HW0 := Lib.hid hw0
  have hXl := stopsM_len l 0 5
  have hk1 := stopsK_le l 0 5
  have HXK := Lib.hid (stopsM_key2 l 0 5)
  have SA := Lib.hid (stops_any l 0 5 p w0 sa0 (by omega) (by omega))
  have SAP : Hid (∀ e w', StopsPost l 0 5 p p w0 e w' → ∃ v, e = .returned v ∧ w'.ownsRow w0.heap.size 52 6 v (stopsM l 0 5).length (flat encStop (stopsM l 0 5)) ∧ StreamAt w' p p l (stopsK l 0 5) ∧ w0.grownBy w' (some p)) := fun e w' h => h
  clear hc hl hw0 sa0
  go_enter Tryd.func3, Tryd.ntmps3
  go_wp2_with (fail)
  rw [← HW0.out, ← HP.out]
  refine SA.out.mono ?_
  intro e w1 hst
  obtain ⟨v1, rfl, o1, sa1, g1⟩ := SAP.out e w1 hst
  clear hst SA SAP hp
  obtain ⟨X, hX⟩ : ∃ X, X = stopsM l 0 5 := ⟨_, rfl⟩
  obtain ⟨k1, hk1e⟩ : ∃ k1, k1 = stopsK l 0 5 := ⟨_, rfl⟩
  rw [← hX] at o1 hXl HXK
  rw [← hk1e] at sa1 hk1
  obtain ⟨xa, xc, rfl, hxc, -, -, -⟩ := own_shape o1
  have z1 := g1.size
  clear hX hk1e
  go_wp2_with (fail)
  refine (spot_any l k1 p w1 sa1 (by omega)).mono ?_
  rintro e w2 ⟨rfl, sa2, g2⟩
  have hk2 := spotK_le l k1
  obtain ⟨k2, hk2e⟩ : ∃ k2, k2 = spotK l k1 := ⟨_, rfl⟩
  rw [← hk2e] at sa2 hk2
  obtain ⟨hx, hhx⟩ : ∃ hx, hx = spotX l k1 := ⟨_, rfl⟩
  obtain ⟨hy, hhy⟩ : ∃ hy, hy = spotY l k1 := ⟨_, rfl⟩
  rw [← hhx, ← hhy]
  have z2 := g2.size
  have hplt := sa2.lt
  have o2 := own_keepS o1 g2 (by omega)
  clear hk2e hhx hhy sa1 o1
  have PK : Hid (Calls Tryd.prog 6 #[.pointer (some ⟨p, 0, none⟩), .slice (some ⟨w2.heap.size, 0, none⟩) 3 3] (w2.alloc (.cells #[.int .i64 0, .int .i64 5, .int .i64 30] 3)) fun e w' => e = .returned (.int .i64 (pickM l k2 [0, 5, 30])) ∧ StreamAt w' p p l (k2 + 1) ∧ (w2.alloc (.cells #[.int .i64 0, .int .i64 5, .int .i64 30] 3)).grownBy w' (some p)) :=
    pick_at l k2 [0, 5, 30] p w2.heap.size _ (sa2.keep0 (gr_alloc (gr_refl w2 none) _)) (by omega) (by simp) (by simp) (CellsAt.new w2 #[.int .i64 0, .int .i64 5, .int .i64 30] 3) (by omega)
  go_wp2_with (fail)
  refine PK.out.mono ?_
  rintro e w3 ⟨rfl, -, g3'⟩
  have g3 : w2.grownBy w3 (some p) := gr_trans (gr_alloc (gr_refl w2 (some p)) _) g3'
  have o3 := own_keepS o2 g3 (by omega)
  obtain ⟨st, hst⟩ : ∃ st, st = pickM l k2 [0, 5, 30] := ⟨_, rfl⟩
  rw [← hst]
  have hw3 : w.grownBy w3 none := gr_grown hg0 (gr_trans (gr_trans g1 g2) g3) (fun q e => by cases e; rw [HP.out]; exact Nat.le_refl _)
  have g4 := gr_alloc (gr_refl w3 none) (.cells #[.int .i64 hx, .int .i64 hy] 29)
  have b4 := heap_alloc_new w3 (.cells #[.int .i64 hx, .int .i64 hy] 29)
  obtain ⟨w4, hw4⟩ : ∃ w4, w4 = w3.alloc (.cells #[.int .i64 hx, .int .i64 hy] 29) := ⟨_, rfl⟩
  obtain ⟨S, hS⟩ : ∃ S, S = w3.heap.size := ⟨_, rfl⟩
  rw [← hw4] at g4 b4
  rw [← hS] at b4
  have HW4 := Lib.hid hw4
  have HS := Lib.hid hS
  have HG4 := Lib.hid (gr_trans hw3 g4)
  have hcx : CellsAt w4 xa (flat encStop X) := by
    obtain ⟨_, _, he, _, _, hcc, _⟩ := own_shape (own_keep0 o3 g4)
    cases he
    exact hcc
  have HCX := Lib.hid hcx
  have HB4 := Lib.hid b4
  clear PK sa2 g3' g1 g2 g3 o2 o3 hst hw3 g4 b4 hw4 hS hcx hg0 hz0 z1 z2 hplt HW0
  go_upto_region 3 with (fail)
  rw [← HW4.out, ← HS.out]
  clear HW4
  have s0 : w4.cell? ⟨S, 0, none⟩ = some (.int .i64 hx) := blkC HB4.out 0 rfl
  have s1 : w4.cell? ⟨S, 1, none⟩ = some (.int .i64 hy) := blkC HB4.out 1 rfl
  go_wp2_with (fail)
  refine (routeFault_any hx hy st X xa xc w4 HCX.out (by omega) hxc HXK.out).mono ?_
  rintro e w5 ⟨r, rfl, hr, g5⟩
  have hSlt := lt_of_cell s0
  by_cases hr0 : r = 0
  · subst hr0
    obtain ⟨hok, htr⟩ := hr rfl
    have HOK := Lib.hid hok
    have HTR := Lib.hid htr
    have HG5 := Lib.hid g5
    have a0 := (gr_cell g5 hSlt).trans s0
    have a1 := (gr_cell g5 hSlt).trans s1
    clear hr hok htr g5 s0 s1
    go_wp2_with (fail)
    refine (best_val hx hy st X xa xc w5 (HCX.out.keep0 HG5.out) (by omega) hxc HXK.out HOK.out HTR.out).mono ?_
    rintro e w6 ⟨v7, B, way, rb, rfl, oB, hBo, g6, hB⟩
    have hS5 := lt_of_cell a0
    have s0 := (gr_cell g6 hS5).trans a0
    have s1 := (gr_cell g6 hS5).trans a1
    have HG6 := Lib.hid (gr_trans HG5.out g6)
    have HB := Lib.hid hB
    have HBO := Lib.hid hBo
    obtain ⟨ba, bc, rfl, hbc, -, -, -⟩ := own_shape oB
    have HOB := Lib.hid oB
    clear a0 a1 hB hBo oB g6 hS5 HG5
    go_wp2_with (fail)
    refine (nearest_val hx hy st X xa xc w6 (HCX.out.keep0 HG6.out) (by omega) hxc HXK.out HOK.out HTR.out).mono ?_
    rintro e w7 ⟨v10, N, WN, rfl, oN, hNo, hNw, g7⟩
    have hS6 := lt_of_cell s0
    have a0 := (gr_cell g7 hS6).trans s0
    have a1 := (gr_cell g7 hS6).trans s1
    have HOB7 := Lib.hid (own_keep0 HOB.out g7)
    have HG7 := Lib.hid (gr_trans HG6.out g7)
    have HNO := Lib.hid hNo
    have HNW := Lib.hid hNw
    obtain ⟨na, nc, rfl, hnc, -, -, -⟩ := own_shape oN
    have HON := Lib.hid oN
    have hNl := nodup_full _ _ hNo
    clear s0 s1 hNo hNw oN g7 hS6 HOB HG6
    have hcN : CellsAt w7 na (ints N) := by
      obtain ⟨_, _, he, _, _, hcc, _⟩ := own_shape HON.out
      cases he
      exact hcc
    have HCN := Lib.hid hcN
    clear hcN
    go_wp2_with (fail)
    refine (driveE_val hx hy st X xa xc N na nc w7 (HCX.out.keep0 HG7.out) (by omega) hxc HXK.out HOK.out HTR.out HNO.out WN HNW.out HCN.out (by omega)).mono ?_
    rintro e w8 ⟨⟨da, dn, dc, dx, dz, rfl⟩, g8⟩
    have hS7 := lt_of_cell a0
    have g9 := gr_alloc g8 (.cells #[.slice da dn dc, .int .i64 dx, .int .i64 WN, .int .i64 dz] 40)
    have b9 := heap_alloc_new w8 (.cells #[.slice da dn dc, .int .i64 dx, .int .i64 WN, .int .i64 dz] 40)
    obtain ⟨w9, hw9⟩ : ∃ w9, w9 = w8.alloc (.cells #[.slice da dn dc, .int .i64 dx, .int .i64 WN, .int .i64 dz] 40) := ⟨_, rfl⟩
    obtain ⟨Q, hQ⟩ : ∃ Q, Q = w8.heap.size := ⟨_, rfl⟩
    rw [← hw9] at g9 b9
    rw [← hQ] at b9
    have s0 := (gr_cell g9 hS7).trans a0
    have s1 := (gr_cell g9 hS7).trans a1
    have HB9 := Lib.hid b9
    have HG9 := Lib.hid (gr_trans HG7.out g9)
    have HON9 := Lib.hid (own_keep0 HON.out g9)
    have HOB9 := Lib.hid (own_keep0 HOB7.out g9)
    have HW9 := Lib.hid hw9
    have HQ := Lib.hid hQ
    clear a0 a1 g8 g9 b9 hw9 hQ hS7 HG7 HON HOB7 HCN
    go_upto_region 8 with (fail)
    rw [← HW9.out, ← HQ.out]
    clear HW9
    go_upto_if 74 with (fail)
    go_cut [] from 75 to 119 (fun wx => w9.grownBy wx none)
    case first =>
      have q2 : w9.cell? ⟨Q, 2, none⟩ = some (.int .i64 WN) := blkC HB9.out 2 rfl
      have hS9 := lt_of_cell s0
      have hQ9 := lt_of_cell q2
      rcases HB.out with ⟨hrb, hBl, hBw, hw0, hmin⟩ | ⟨hrb, hno⟩
      · subst hrb
        have HBL := Lib.hid hBl
        have HBW := Lib.hid hBw
        have HMIN := Lib.hid hmin
        have hcB : CellsAt w9 ba (ints B) := by
          obtain ⟨_, _, he, _, _, hcc, _⟩ := own_shape HOB9.out
          cases he
          exact hcc
        have HCB := Lib.hid hcB
        clear hBl hBw hmin hcB
        go_wp2_with (fail)
        refine (driveE_val hx hy st X xa xc B ba bc w9 (HCX.out.keep0 HG9.out) (by omega) hxc HXK.out HOK.out HTR.out HBO.out way HBW.out HCB.out (by have := HBL.out; omega)).mono ?_
        rintro e w10 ⟨⟨ea, en, ec, ex, ez, rfl⟩, g10⟩
        have g11 := gr_alloc g10 (.cells #[.slice ea en ec, .int .i64 ex, .int .i64 way, .int .i64 ez] 40)
        have b11 := heap_alloc_new w10 (.cells #[.slice ea en ec, .int .i64 ex, .int .i64 way, .int .i64 ez] 40)
        obtain ⟨w11, hw11⟩ : ∃ w11, w11 = w10.alloc (.cells #[.slice ea en ec, .int .i64 ex, .int .i64 way, .int .i64 ez] 40) := ⟨_, rfl⟩
        obtain ⟨E, hE⟩ : ∃ E, E = w10.heap.size := ⟨_, rfl⟩
        rw [← hw11] at g11 b11
        rw [← hE] at b11
        have q2' := (gr_cell g11 hQ9).trans q2
        have e2 : w11.cell? ⟨E, 2, none⟩ = some (.int .i64 way) := blkC b11 2 rfl
        have HG11 := Lib.hid g11
        have HW11 := Lib.hid hw11
        have HE := Lib.hid hE
        clear g10 g11 b11 hw11 hE q2 s0 s1
        go_upto_region 12 with (fail)
        rw [← HW11.out, ← HE.out]
        have hbl : ((B.length : Int) != (X.length : Int)) = false := by rw [HBL.out]; simp
        have hbl2 : ((B.length : Int) == (X.length : Int)) = true := by rw [HBL.out]; simp
        by_cases hnl : N.length = X.length
        · have hn1 : ((N.length : Int) == (X.length : Int)) = true := by rw [hnl]; simp
          have hmn := HMIN.out N WN ⟨HNO.out, hnl⟩ HNW.out
          have hd : decide (WN < way) = false := decide_eq_false (by omega)
          clear hnl
          go_wp2_with (fail)
          go_meet
          exact HG11.out
        · have hn1 : ((N.length : Int) == (X.length : Int)) = false := by rw [beq_eq_false_iff_ne]; omega
          clear hnl
          go_wp2_with (fail)
          go_meet
          exact HG11.out
      · subst hrb
        have hn1 : ((N.length : Int) == (X.length : Int)) = false := by
          rw [beq_eq_false_iff_ne]
          intro e
          exact hno N WN ⟨HNO.out, by omega⟩ HNW.out
        clear hno
        go_wp2_with (fail)
        go_meet
        exact gr_refl _ _
    case rest =>
    obtain ⟨w10, rfl⟩ : ∃ w10 : World, w10 = wc := ⟨_, rfl⟩
    have hS9 := lt_of_cell s0
    have a0 := (gr_cell hcut hS9).trans s0
    have a1 := (gr_cell hcut hS9).trans s1
    have HG10 := Lib.hid (gr_trans HG9.out hcut)
    have HON10 := Lib.hid (own_keep0 HON9.out hcut)
    have HBQ := Lib.hid ((hcut.block Q (lt_of_block HB9.out) (by simp)).trans HB9.out)
    have hcN : CellsAt w10 na (ints N) := by
      obtain ⟨_, _, he, _, _, hcc, _⟩ := own_shape HON10.out
      cases he
      exact hcc
    have HCN := Lib.hid hcN
    have hnil := own_nil HON10.out
    have him := improve_val hx hy st X xa xc N na nc 20 w10 (HCX.out.keep0 HG10.out) (by omega) hxc HXK.out HOK.out HTR.out HNO.out WN HNW.out HCN.out (by omega) hnil (by omega)
    rw [show ((20 : Nat) : Int) = 20 from rfl] at him
    have IM := Lib.hid him
    clear s0 s1 hcut hS9 HG9 HON9 HOB9 HB9 hcN HB HBO hbc him
    have s0 := a0
    clear s0
    go_wp2_with (fail)
    refine IM.out.mono ?_
    rintro e w11 ⟨v16, I, y, rfl, hIl, hIo, hIw, hyw, oI, g11⟩
    obtain ⟨ia, ic, rfl, hic, -, -, -⟩ := own_shape oI
    have hS10 := lt_of_cell a0
    have s0 := (gr_cell g11 hS10).trans a0
    have s1 := (gr_cell g11 hS10).trans a1
    have HG11 := Lib.hid (gr_trans HG10.out g11)
    have HBQ11 := Lib.hid ((g11.block Q (lt_of_block HBQ.out) (by simp)).trans HBQ.out)
    have hcI : CellsAt w11 ia (ints I) := by
      obtain ⟨_, _, he, _, _, hcc, _⟩ := own_shape oI
      cases he
      exact hcc
    have HCI := Lib.hid hcI
    have HIO := Lib.hid hIo
    have HIW := Lib.hid hIw
    have HIL := Lib.hid hIl
    clear a0 a1 hIo hIw oI g11 hS10 HG10 HON10 HBQ hcI hnil HCN IM
    go_wp2_with (fail)
    have hdi := driveE_val hx hy st X xa xc I ia ic w11 (HCX.out.keep0 HG11.out) (by omega) hxc HXK.out HOK.out HTR.out HIO.out y HIW.out HCI.out (by omega)
    rw [HIL.out] at hdi
    refine hdi.mono ?_
    rintro e w12 ⟨⟨fa, fn, fc, fx, fz, rfl⟩, g12⟩
    have hS11 := lt_of_cell s0
    have g13 := gr_alloc g12 (.cells #[.slice fa fn fc, .int .i64 fx, .int .i64 y, .int .i64 fz] 40)
    have b13 := heap_alloc_new w12 (.cells #[.slice fa fn fc, .int .i64 fx, .int .i64 y, .int .i64 fz] 40)
    obtain ⟨w13, hw13⟩ : ∃ w13, w13 = w12.alloc (.cells #[.slice fa fn fc, .int .i64 fx, .int .i64 y, .int .i64 fz] 40) := ⟨_, rfl⟩
    obtain ⟨F, hF⟩ : ∃ F, F = w12.heap.size := ⟨_, rfl⟩
    rw [← hw13] at g13 b13
    rw [← hF] at b13
    have a0 := (gr_cell g13 hS11).trans s0
    have a1 := (gr_cell g13 hS11).trans s1
    have HG13 := Lib.hid (gr_trans HG11.out g13)
    have q2 : w13.cell? ⟨Q, 2, none⟩ = some (.int .i64 WN) := blkC ((g13.block Q (lt_of_block HBQ11.out) (by simp)).trans HBQ11.out) 2 rfl
    have f2 : w13.cell? ⟨F, 2, none⟩ = some (.int .i64 y) := blkC b13 2 rfl
    have HW13 := Lib.hid hw13
    have HF := Lib.hid hF
    clear g12 g13 b13 hw13 hF s0 s1 hS11 HG11 HBQ11 HCI hdi
    go_upto_region 18 with (fail)
    rw [← HW13.out, ← HF.out]
    clear HW13
    have hyy : (y != y) = false := by simp
    have hyq : decide (WN < y) = false := decide_eq_false (by omega)
    have hil : ((N.length : Int) != (N.length : Int)) = false := by simp
    have hS13 := lt_of_cell a0
    go_upto_region 20 with (fail)
    go_wp2_with (fail)
    refine (split_val hx hy st X xa xc w13 (HCX.out.keep0 HG13.out) (by omega) hxc HXK.out HOK.out HTR.out).mono ?_
    rintro e w14 ⟨g, gw, V, T, Y, rfl, hsp, hsk, g14⟩
    have s0 := (gr_cell g14 hS13).trans a0
    have s1 := (gr_cell g14 hS13).trans a1
    have hS14 := lt_of_cell s0
    have HG14 := Lib.hid (gr_trans HG13.out g14)
    have HSP := Lib.hid hsp
    have HSK := Lib.hid hsk
    have HTL := Lib.hid hsp.tl
    have S0 := Lib.hid s0
    have S1 := Lib.hid s1
    have HSLT := Lib.hid hS14
    clear hsp hsk g14 a0 a1 q2 f2 hyy hyq hil hS13 HG13 s0 s1 hS14
    go_upto_region 24 with (fail)
    go_wp2_with (fail)
    go_loopw [23, 178] (fun v i wr => ∃ q : Nat, q ≤ 2 ∧ i = .int .i64 q ∧ wr.ownsRow w14.heap.size 3 1 v (allR T q).length (ints (allR T q)) ∧ w14.grownBy wr none) (fun _ i _ => 2 - (intOf i).toNat)
    case atStart => exact ⟨0, by omega, rfl, World.ownsRow_nil _ _ _ _, gr_refl _ _⟩
    case round =>
      obtain ⟨q, hq, rfl, hown, hgr⟩ := hrel
      obtain ⟨wo, rfl⟩ : ∃ wo : World, wo = wr := ⟨_, rfl⟩
      have HGR := Lib.hid hgr
      by_cases hq2 : q < 2
      · have hSO := HSP.out.keep0 hgr
        obtain ⟨rc, -⟩ := hSO.row q hq2
        have hrow := hSO.own q hq2
        obtain ⟨hok, W, hW⟩ := HSK.out.ok q hq2
        obtain ⟨va, vc, hve, -, -, hvc, -⟩ := own_shape hrow
        rw [hve] at rc hrow
        have hvn := own_nil hrow
        have hrl := nodup_full _ _ hok
        have hall := allR_succ T q (by rw [HTL.out]; exact hq2)
        obtain ⟨R, hR⟩ : ∃ R, R = T.getD q [] := ⟨_, rfl⟩
        rw [← hR] at rc hrow hvc hok hvn hrl hW hall
        have HALL := Lib.hid hall
        have HOW := Lib.hid hown
        have s0 := (gr_cell hgr HSLT.out).trans S0.out
        have s1 := (gr_cell hgr HSLT.out).trans S1.out
        have HOKR := Lib.hid hok
        have HWR := Lib.hid hW
        have HVC := Lib.hid hvc
        have HVN := Lib.hid hvn
        clear hSO hrow hve hR hall hown hok hW hvc hvn
        go_wp2_with (fail)
        refine (driveE_val hx hy st X xa xc R va vc wo (HCX.out.keep0 (gr_trans HG14.out HGR.out)) (by omega) hxc HXK.out HOK.out HTR.out HOKR.out W HWR.out HVC.out (by omega)).mono ?_
        rintro e w15 ⟨⟨ja, jn, jc, jx, jz, rfl⟩, g15⟩
        have g16 := gr_alloc g15 (.cells #[.slice ja jn jc, .int .i64 jx, .int .i64 W, .int .i64 jz] 40)
        obtain ⟨w16, hw16⟩ : ∃ w16, w16 = w15.alloc (.cells #[.slice ja jn jc, .int .i64 jx, .int .i64 W, .int .i64 jz] 40) := ⟨_, rfl⟩
        rw [← hw16] at g16
        have HW16 := Lib.hid hw16
        have HO16 := Lib.hid (own_keep0 HOW.out g16)
        have HC16 := Lib.hid (HVC.out.keep0 g16)
        have HG16 := Lib.hid (gr_trans HGR.out g16)
        have hsz16 := HG16.out.size
        have hal : (allR T q).length ≤ 1000 := by
          have h3 := nodup_full _ _ (HSK.out.ok 0 (by omega)).1
          have h5 := HTL.out
          rcases (show q = 0 ∨ q = 1 by omega) with e | e
          · rw [e]
            show ([] : List Int).length ≤ 1000
            simp
          · rw [e, allR_succ T 0 (by omega), List.length_append]
            show ([] : List Int).length + _ ≤ 1000
            simp only [List.length_nil]
            omega
        clear g15 g16 hw16 s0 s1 rc hgr
        go_upto_region 30 with (fail)
        rw [← HW16.out]
        go_wp2_with (at_builtin; refine wpList_appN3 eInt rfl _ _ rfl w14.heap.size _ (allR T q).length (ints (allR T q)) rfl HO16.out va R.length vc (ints R) rfl (by rw [Nat.mul_one]; simp [ints]) HC16.out (fun e => (HVN.out e).2) (ints_one _) (by omega) hsz16 ?_; intro v7 w7 o7 g7 hl7 hk7)
        go_roundw
        case rel =>
          refine ⟨q + 1, by omega, by go_num, ?_, gr_grown HG16.out g7 hl7⟩
          rw [HALL.out, List.length_append, show ints (allR T q ++ R) = ints (allR T q) ++ ints R by simp [ints]]
          exact o7
        case measure => simp [intOf]; omega
      · obtain rfl : q = 2 := by omega
        have h2 := allR_two T HTL.out
        have hnd : (allR T 2).Nodup := by rw [h2]; exact HSK.out.nd
        have hlen : (allR T 2).length ≤ 1000 := by
          have h3 := nodup_full _ _ (HSK.out.ok 0 (by omega)).1
          have h4 := nodup_full _ _ (HSK.out.ok 1 (by omega)).1
          rw [h2, List.length_append]
          omega
        have SO := Lib.hid (sortInts_any u23 (allR T 2).length w14.heap.size (allR T 2) wo hown (by omega))
        have HND := Lib.hid hnd
        obtain ⟨A, hA⟩ : ∃ A, A = allR T 2 := ⟨_, rfl⟩
        rw [← hA] at SO HND hlen hown
        obtain ⟨aa, ac, rfl, -, -, -, -⟩ := own_shape hown
        clear h2 hnd hA hgr
        go_wp2_with (fail)
        refine SO.out.mono ?_
        rintro e w15 ⟨Sx, rfl, hp, hle, o15, g15⟩
        have hl15 : ∀ q, (Value.slice aa A.length ac).ownBlock = some q → w14.heap.size ≤ q := fun q e => (hown.lt q e).1
        have hg15 := gr_grown HGR.out g15 hl15
        have hslt := strict_of hle (hp.nodup_iff.2 HND.out)
        have hsl : Sx.length = A.length := hp.length_eq
        go_wp2_with (fail)
        refine (rounds_any w15).mono ?_
        rintro e w16 ⟨rfl, g16⟩
        have o16 := own_keep0 o15 g16
        have hc16 : CellsAt w16 aa (ints Sx) := by
          obtain ⟨_, _, he, _, _, hcc, _⟩ := own_shape o16
          cases he
          exact hcc
        have CL := Lib.hid (cloneInt_any aa A.length ac (ints Sx) w16 (by rw [Nat.mul_one]; simp [ints, hsl]) hc16 (own_nil o16) (ints_one _) (by omega))
        have HG16 := Lib.hid (gr_trans (gr_trans HG14.out hg15) g16)
        clear o15 g15 hg15 g16 o16 hc16 SO hown hl15
        go_wp2_with (fail)
        refine CL.out.mono ?_
        rintro e w17 ⟨v17, rfl, o17, g17⟩
        have CP := Lib.hid (compactInts_any v17 A.length w16.heap.size Sx w17 o17 (by omega) hslt)
        obtain ⟨ca, cc, rfl, -, -, -, -⟩ := own_shape o17
        go_wp2_with (fail)
        refine CP.out.mono ?_
        rintro e w18 ⟨⟨za, zc, rfl⟩, g18⟩
        have hg18 := gr_grown g17 g18 (fun q e => (o17.lt q e).1)
        have haa : ((A.length : Int) == (A.length : Int)) = true := by simp
        have HFIN := Lib.hid (gr_trans HG16.out hg18)
        clear o17 g17 g18 hg18 CL CP
        go_wp2_with (fail)
        go_ret
        exact ⟨rfl, gr_trans HG4.out HFIN.out⟩
  · have hr1 : (r != 0) = true := by simpa using hr0
    clear hr hr0 s0 s1
    go_wp2_with (fail)
    refine (rounds_any w5).mono ?_
    rintro e w6 ⟨rfl, g6⟩
    go_wp2_with (fail)
    go_ret
    exact ⟨rfl, gr_trans HG4.out (gr_trans g5 g6)⟩
end Go.Proofs.YtehhmgbgkemidaaDoor
