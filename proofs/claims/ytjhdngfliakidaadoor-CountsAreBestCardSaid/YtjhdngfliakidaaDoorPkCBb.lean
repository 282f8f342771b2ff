/- Package shelf: what so many slots could be worth at most. -/
import Derived.Test.YtjhdngfliakidaaDoorPkCBa
import Derived.Test.YtjhdngfliakidaaDoorPkCAv
import Derived.Test.YtjhdngfliakidaaDoorPkCAb
namespace Go.Proofs.YtjhdngfliakidaaDoor
open Go.RowKit
attribute [local go_sem ↓] Go.wp_at_zero Go.wp_at_succ

theorem wpList_appN2 {P : Program} {w : World} {ops : Array Oper} {rest : List Oper} {o : Oper} {a : Act} {Q : Exit → Act → World → Prop} {t e size bytes : Nat} {z : Value} (Et : ElemT P t e z size bytes) (hgd : o.guard = none) (s x : Operand)
    (ho : o.op = .call { callee := .builtin .append, args := #[s, x], argTypes := #[t, t] })
    (base : Nat) (v : Value) (n : Nat) (xs : List Value) (hs : a.eval s = v) (hown : w.ownsRow base e size v n xs)
    (ao : Option Addr) (m c : Nat) (news : List Value) (hx : a.eval x = .slice ao m c) (hl : news.length = m * size) (hc : CellsAt w ao news) (hnil : ao = none → c = 0) (h1 : ∀ u ∈ news, u.oneCell' = true)
    (hb : n + m ≤ 137438953472) (hbase : base ≤ w.heap.size)
    (h : ∀ v' w', w'.ownsRow base e size v' (n + m) (xs ++ news) → w.grownBy w' v.ownBlock → (∀ q, v.ownBlock = some q → base ≤ q) → (∀ k, v'.ownBlock = some k → v.ownBlock = some k ∨ w.heap.size ≤ k) → wpList P ops Q rest (a.put o.dst v') w') : wpList P ops Q (o :: rest) a w :=
  wpList_plain hgd fun _ hK => oper_appN Et s x ho base v n xs hs hown ao m c news hx hl hc hnil h1 hb hbase (fun v' w' h1 h2 h3 h4 => hK _ _ (h v' w' h1 h2 h3 h4))
theorem allP_mem (os : List Offer) (hok : OffersOk os) (k : Nat) : ∀ x ∈ allP os k, -1000000 ≤ x ∧ x ≤ 1000000 := by
  intro x hx
  unfold allP at hx
  obtain ⟨o, ho, hx⟩ := List.mem_flatMap.1 hx
  exact (hok.prof o (List.mem_of_mem_take ho)).2.2 x hx
theorem allP_len (os : List Offer) (hok : OffersOk os) : ∀ k, k ≤ os.length → (allP os k).length ≤ 10 * k
  | 0, _ => by simp [allP]
  | k + 1, h => by
    rw [allP_succ os k h, List.length_append, off_at os k h]
    have := allP_len os hok k (by omega)
    have := (hok.prof _ (List.getElem_mem h)).2.1
    omega
set_option maxRecDepth 100000 in
set_option maxHeartbeats 2000000 in
theorem bound_any (os : List Offer) (hok : OffersOk os) (S : Nat) (hS : S ≤ 60) (a : Option Addr) (vs : List OV) (c : Nat) (w : World) (h : OffsAt w a vs os) :
    Calls Tryd.prog 29 #[.slice a os.length c, .int .i64 S] w fun e w' => e = .returned (.tuple #[.int .i64 (boundM os S), .int .i64 0]) ∧ w.grownBy w' none := by
  have HS := Lib.hid h
  have HK := Lib.hid hok
  have hl := hok.len
  clear h hok
  go_enter Tryd.func29, Tryd.ntmps29
  go_wp2_with (fail)
  refine (checkOffers_ok os a vs c w HS.out HK.out).mono ?_
  rintro e w1 ⟨rfl, g1⟩
  have HG1 := Lib.hid g1
  clear g1
  go_wp2_with (fail)
  refine (out_any S 0 60 w1).mono ?_
  rintro e w2 ⟨rfl, rfl⟩
  have eo : (decide ((S : Int) < 0) || decide ((60 : Int) < S)) = false := by simp; omega
  rw [eo]
  clear eo
  go_wp2_with (fail)
  go_loopw [7, 22] (fun v i wr => ∃ k : Nat, k ≤ os.length ∧ i = .int .i64 k ∧ wr.ownsRow w.heap.size 3 1 v (allP os k).length (ints (allP os k)) ∧ w.grownBy wr none) (fun _ i _ => os.length - (intOf i).toNat)
  case atStart => exact ⟨0, Nat.zero_le _, rfl, World.ownsRow_nil _ _ _ _, HG1.out⟩
  case round =>
    obtain ⟨k, hk, rfl, hown, hgr⟩ := hrel
    obtain ⟨wo, rfl⟩ : ∃ wo : World, wo = wr := ⟨_, rfl⟩
    by_cases hlt : k < os.length
    · obtain ⟨b, off, v, rfl, hr, d0, d1, d2, d3, d4⟩ := (HS.out.keep0 hgr).at k hlt
      obtain ⟨p1, p2, p3⟩ := HK.out.prof os[k] (List.getElem_mem hlt)
      have hpn := hr.pn
      have hcap := hr.cap
      have CP := Lib.hid hr.pr
      have hsu := allP_succ os k hlt
      rw [off_at os k hlt] at hsu
      have hln := allP_len os HK.out k (by omega)
      obtain ⟨o, ho⟩ : ∃ o, o = os[k].profits := ⟨_, rfl⟩
      rw [← ho] at hpn CP p1 p2 hsu
      obtain ⟨A, hA⟩ : ∃ A, A = allP os k := ⟨_, rfl⟩
      rw [← hA] at hown hsu hln
      have HSU := Lib.hid hsu
      obtain ⟨vk, vg, pa, pn, pc, ha, hn', hc, ta, tn, tc⟩ := v
      simp only at hpn hcap CP d0 d1 d2 d3 d4
      subst hpn
      have hpnn : pa = none → pc = 0 := fun e => by
        obtain ⟨b, off, e2, _⟩ := CP.out 0 _ (ints_get o 0 p1)
        rw [e] at e2
        cases e2
      have HPN := Lib.hid hpnn
      have HOWN := Lib.hid hown
      have HGR := Lib.hid hgr
      have hO := heap_alloc_new wo (.cells #[.string vk, .string vg, .slice pa o.length pc, .slice ha hn' hc, .slice ta tn tc] 106)
      have hg5 := gr_alloc (gr_refl wo none) (.cells #[.string vk, .string vg, .slice pa o.length pc, .slice ha hn' hc, .slice ta tn tc] 106)
      obtain ⟨w5, hw5⟩ : ∃ w5, w5 = wo.alloc (.cells #[.string vk, .string vg, .slice pa o.length pc, .slice ha hn' hc, .slice ta tn tc] 106) := ⟨_, rfl⟩
      rw [← hw5] at hO hg5
      have HW5 := Lib.hid hw5
      have HG5 := Lib.hid (gr_trans hgr hg5)
      have HO5 := Lib.hid (own_keep0 hown hg5)
      have HC5 := Lib.hid (CP.out.keep0 hg5)
      have hz5 := HG5.out.size
      clear hr ho hA hsu hown hgr hg5 hw5 hpnn p3
      go_upto_region 10 with (fail)
      rw [← HW5.out]
      have c2 := blkC hO 2 rfl
      clear d0 d1 d2 d3 d4 hO
      go_wp2_with (at_builtin; refine wpList_appN2 eInt rfl _ _ rfl w.heap.size _ A.length (ints A) rfl HO5.out pa o.length pc (ints o) rfl (by simp [ints]) HC5.out HPN.out (ints_one _) (by omega) hz5 ?_; intro v7 w7 o7 g7 hl7 _)
      have HG7 := Lib.hid (gr_grown HG5.out g7 hl7)
      go_roundw
      case rel => exact ⟨k + 1, by omega, by go_num, by rw [HSU.out, List.length_append, show ints (A ++ o) = ints A ++ ints o by simp [ints]]; exact o7, HG7.out⟩
      case measure => simp [intOf]; omega
    · obtain rfl : k = os.length := by omega
      have hb := allP_mem os HK.out os.length
      have hln := allP_len os HK.out os.length (Nat.le_refl _)
      obtain ⟨L, hL⟩ : ∃ L, L = allP os os.length := ⟨_, rfl⟩
      have HB : Hid (boundM os S = ((sortD L).take (min S L.length)).sum) := by rw [hL]; rfl
      rw [← hL] at hown hb hln
      have hp := sortD_perm L
      have hpl := hp.length_eq
      have SB := Lib.hid (sum_bound (sortD L) (-1000000) 1000000 (by omega) (by omega) (fun x hx => hb x (hp.mem_iff.1 hx)))
      have HOWN := Lib.hid hown
      have HGR := Lib.hid hgr
      clear hL hown hgr hp hb
      go_wp2_with (fail)
      refine (sortI1_any _ L.length w.heap.size L wo HOWN.out rfl (by omega)).mono ?_
      rintro e w6 ⟨rfl, o6, g6⟩
      have HG6 := Lib.hid (gr_grown HGR.out g6 (fun b hb => (HOWN.out.lt b hb).1))
      obtain ⟨va, vc, rfl, hvn, hvm, hcs, -⟩ := own_shape HOWN.out
      obtain ⟨D, hD⟩ : ∃ D, D = sortD L := ⟨_, rfl⟩
      rw [← hD] at SB hpl
      obtain ⟨_, _, he, _, _, hc6, _⟩ := own_shape o6
      cases he
      rw [← hD] at hc6
      obtain ⟨m, hm⟩ : ∃ m, m = min S L.length := ⟨_, rfl⟩
      rw [← hD, ← hm] at HB
      have hmS : m ≤ S := by omega
      have hmL : m ≤ L.length := by omega
      have hmI : min (S : Int) (L.length : Int) = (m : Int) := by omega
      have hmI2 : max (m : Int) 0 = (m : Int) := by omega
      have HMI := Lib.hid hmI
      have HMI2 := Lib.hid hmI2
      have HM := Lib.hid hm
      have HC6 := Lib.hid hc6
      have hmD : m ≤ D.length := by omega
      clear hD o6 g6 hc6 hcs hm hmI hmI2
      go_wp2_with (fail)
      rw [HMI.out, HMI2.out, Int.toNat_natCast]
      go_loop [10, 40] (fun s i => ∃ k : Nat, k ≤ m ∧ i = .int .i64 k ∧ s = .int .i64 (D.take k).sum) (fun _ i => m - (intOf i).toNat)
      case atStart => exact ⟨0, Nat.zero_le _, rfl, rfl⟩
      case round =>
        obtain ⟨k, hk, rfl, rfl⟩ := hrel
        by_cases hlt : k < m
        · obtain ⟨b, off, rfl, d0⟩ := HC6.out k _ (ints_get D k (by omega))
          obtain ⟨b0, b1⟩ := SB.out k
          obtain ⟨b2, b3⟩ := SB.out (k + 1)
          have hnx := sum_next D k (by omega)
          obtain ⟨x, hx⟩ : ∃ x, x = D.getD k 0 := ⟨_, rfl⟩
          obtain ⟨s, hs⟩ : ∃ s, s = (D.take k).sum := ⟨_, rfl⟩
          rw [← hx] at d0 hnx
          rw [← hs] at hnx b0 b1
          rw [← hs]
          rw [hnx] at b2 b3
          have HNX := Lib.hid hnx; clear hnx
          have HX := Lib.hid hx; clear hx
          have HS2 := Lib.hid hs; clear hs
          go_wp2_with (fail)
          go_round
          case rel => exact ⟨k + 1, by omega, by go_num, by rw [HNX.out]⟩
          case measure => simp [intOf]; omega
        · obtain rfl : k = m := by omega
          go_wp2_with (fail)
          go_ret2
          exact ⟨by rw [HB.out] <;> rfl, HG6.out⟩
end Go.Proofs.YtjhdngfliakidaaDoor
