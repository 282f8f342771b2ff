/- Rules, as the stream makes them. -/
import Derived.Test.YtehhmgbgkemidaaGreatDoorPkSAv
import Derived.Test.YtehhmgbgkemidaaGreatDoorPkSAe
import Derived.Deep.DeepCutAuto
namespace Go.Proofs.YtehhmgbgkemidaaGreatDoor
open Go.RowKit
variable {lw : Nat}

/-- A rule's cells: what they hold lies below b2 and is made at base or later. -/
def RlR (base : Nat) (w : World) (o : Rl) (c : List Value) : Prop :=
  ∃ v1 v2, c = [.string o.fault, v1, v2, .int .i64 o.long] ∧ w.ownsRow base 9 1 v1 o.needs.length (strs o.needs) ∧ w.ownsRow base 9 1 v2 o.without.length (strs o.without)
theorem RlR.keep0 {base : Nat} {w w1 : World} (g : w.grownBy w1 none) (o : Rl) (c : List Value) (h : RlR base w o c) : RlR base w1 o c := by
  obtain ⟨v1, v2, rfl, h1, h2⟩ := h
  exact ⟨v1, v2, rfl, own_keep0 h1 g, own_keep0 h2 g⟩
theorem RlR.keepS {base p : Nat} {w w1 : World} (g : w.grownBy w1 (some p)) (hp : p < base) (o : Rl) (c : List Value) (h : RlR base w o c) : RlR base w1 o c := by
  obtain ⟨v1, v2, rfl, h1, h2⟩ := h
  exact ⟨v1, v2, rfl, own_keepS h1 g hp, own_keepS h2 g hp⟩
theorem RlR.keepU {base b2 e z n : Nat} {w w1 : World} {u : Value} {us : List Value} (hu : w.ownsRow b2 e z u n us) (hs : 9 ≠ e) (g : w.grownBy w1 u.ownBlock) (o : Rl) (c : List Value) (h : RlR base w o c) : RlR base w1 o c := by
  obtain ⟨v1, v2, rfl, q1, q2⟩ := h
  exact ⟨v1, v2, rfl, own_keepU q1 hu hs g, own_keepU q2 hu hs g⟩
/-- A block that is no row of strings is written. -/
theorem RlR.keepB {base p : Nat} {w w1 : World} {cs : Array Value} {t : TypeId} (hB : w.heap[p]? = some (.cells cs t (0, 0))) (ht : 9 ≠ t) (g : w.grownBy w1 (some p)) (o : Rl) (c : List Value) (h : RlR base w o c) : RlR base w1 o c := by
  obtain ⟨v1, v2, rfl, q1, q2⟩ := h
  exact ⟨v1, v2, rfl, own_keep q1 g (.inr (own_ne q1 hB ht)), own_keep q2 g (.inr (own_ne q2 hB ht))⟩
theorem eRl : ElemT Tryz.prog 28 46 (.agg #[.string ⟨#[]⟩, .slice none 0 0, .slice none 0 0, .int .i64 0]) 4 72 := ⟨by kernel_rfl, by kernel_rfl, by decide, by decide, by decide⟩
structure RlSm (x : Rl) : Prop where
  fault : x.fault.size ≤ 100
  needs : x.needs.length ≤ 2 ∧ ∀ s ∈ x.needs, s.size ≤ 100
  without : x.without.length ≤ 2 ∧ ∀ s ∈ x.without, s.size ≤ 100
  long : 0 ≤ x.long ∧ x.long ≤ 5761441
/-- What stands while a rule is made in block R. -/
structure RuleSt (l : List Int) (p lw q R : Nat) (w wx : World) (u : Value) (N : List Rl) (r : Rl) (v1 v2 : Value) : Prop where
  blk : wx.heap[R]? = some (.cells #[.string r.fault, v1, v2, .int .i64 r.long] 46 (0, 0))
  o1 : wx.ownsRow w.heap.size 9 1 v1 r.needs.length (strs r.needs)
  o2 : wx.ownsRow w.heap.size 9 1 v2 r.without.length (strs r.without)
  sm : RlSm r
  str : ∃ j, j ≤ q ∧ StreamAt wx p lw l j
  own : OwnNest (RlR w.heap.size) wx w.heap.size 46 4 u N
  gr : w.grownBy wx (some p)
section
variable {lw q q1 R p j : Nat} {l : List Int} {w wx w1 : World} {u v1 v2 : Value} {N : List Rl} {r : Rl}
theorem RuleSt.le (h : RuleSt l p lw q R w wx u N r v1 v2) (hq : q ≤ q1) : RuleSt l p lw q1 R w wx u N r v1 v2 :=
  ⟨h.blk, h.o1, h.o2, h.sm, by obtain ⟨j, h1, h2⟩ := h.str; exact ⟨j, by omega, h2⟩, h.own, h.gr⟩
theorem RuleSt.keep0 (h : RuleSt l p lw q R w wx u N r v1 v2) (g : wx.grownBy w1 none) : RuleSt l p lw q R w w1 u N r v1 v2 :=
  ⟨(g.block _ (lt_of_block h.blk) (by simp)).trans h.blk, own_keep0 h.o1 g, own_keep0 h.o2 g, h.sm, by obtain ⟨j, h1, h2⟩ := h.str; exact ⟨j, h1, h2.keep0 g⟩, h.own.keep0 g (fun x c h => h.keep0 g), gr_trans h.gr (gr_weak g _)⟩
theorem RuleSt.draw (h : RuleSt l p lw q R w wx u N r v1 v2) (hp : p < w.heap.size) (hR : w.heap.size ≤ R) (g : wx.grownBy w1 (some p)) (hs : StreamAt w1 p lw l j) (hj : j ≤ q1) : RuleSt l p lw q1 R w w1 u N r v1 v2 :=
  ⟨(g.block _ (lt_of_block h.blk) (by simp; omega)).trans h.blk, own_keepS h.o1 g hp, own_keepS h.o2 g hp, h.sm, ⟨j, hj, hs⟩, h.own.keepS g hp (fun x c h => h.keepS g hp), gr_trans h.gr g⟩
/-- A cell of the block is written. -/
theorem RuleSt.set (h : RuleSt l p lw q R w wx u N r v1 v2) (hp : p < w.heap.size) (hR : w.heap.size ≤ R) (hu : u.ownBlock ≠ some R) (o : Nat) (v : Value) (r' : Rl) (v1' v2' : Value)
    (hb : (#[.string r.fault, v1, v2, .int .i64 r.long] : Array Value).setIfInBounds o v = #[.string r'.fault, v1', v2', .int .i64 r'.long]) (q1 : wx.ownsRow w.heap.size 9 1 v1' r'.needs.length (strs r'.needs)) (q2 : wx.ownsRow w.heap.size 9 1 v2' r'.without.length (strs r'.without)) (sm : RlSm r') :
    RuleSt l p lw q R w (wx.setCell ⟨R, o, none⟩ v) u N r' v1' v2' := by
  have gx := gr_set (q := ⟨R, o, none⟩) (gr_refl wx (some R)) rfl v
  have hk := heap_setCell_same wx R o _ _ v h.blk
  rw [hb] at hk
  refine ⟨hk, own_keep q1 gx (.inr (own_ne q1 h.blk (by decide))), own_keep q2 gx (.inr (own_ne q2 h.blk (by decide))), sm, ?_, h.own.keepW gx (.inr hu) (fun x c hx => hx.keepB h.blk (by decide) gx), gr_grown h.gr gx (fun b e => by cases e; exact hR)⟩
  obtain ⟨j, h1, h2⟩ := h.str
  exact ⟨j, h1, h2.keep gx (fun b e => by cases e; omega)⟩
end
def RulesPost (l : List Int) (k p lw : Nat) (w : World) (e : Ending) (w' : World) : Prop :=
  ∃ v N, e = .returned v ∧ OwnNest (RlR w.heap.size) w' w.heap.size 46 4 v N ∧ N.length ≤ 3 ∧ (∀ x ∈ N, RlSm x) ∧ (∃ q, q ≤ k + 100 ∧ StreamAt w' p lw l q) ∧ w.grownBy w' (some p)
def rlDoor : ByteArray := ⟨#[100, 111, 111, 114]⟩
def rlHeat : ByteArray := ⟨#[104, 101, 97, 116]⟩
def rlJam : ByteArray := ⟨#[106, 97, 109]⟩
theorem own_heat {w : World} {base gl t : Nat} {a : Value} (hb : base ≤ gl) (h : w.heap[gl]? = some (.cells #[a] t (0, 0))) : w.ownsRow base t 1 (.slice (some ⟨gl, 0, none⟩) 1 1) 1 [a] :=
  ⟨rfl, .inr ⟨gl, 1, #[a], rfl, hb, h, Nat.le_refl _, by decide, rfl, rfl⟩⟩
theorem some_sm (l : List Int) (k : Nat) (n : Int) (xs : List ByteArray) (h : ∀ s ∈ xs, s.size ≤ 100) (h2 : xs.length ≤ 2) : (someM l k n xs).length ≤ 2 ∧ ∀ s ∈ someM l k n xs, s.size ≤ 100 :=
  ⟨Nat.le_trans (someM_len l k n xs) h2, fun s hs => h s ((someM_sub l k n xs).mem hs)⟩
set_option maxRecDepth 100000 in
set_option maxHeartbeats 4000000 in
theorem rules_any (l : List Int) (k : Nat) (p : Nat) (w : World) (hs : StreamAt w p lw l k) (hk : k < 800000000) :
    Calls Tryz.prog 7 #[.pointer (some ⟨p, 0, none⟩)] w (RulesPost l k p lw w) := by
  have hlt := hs.lt
  go_enter Tryz.func7, Tryz.ntmps7
  go_wp2_with (fail)
  refine (next_any l k 4 p w hs (by omega) (by omega)).mono ?_
  rintro e w2 ⟨rfl, hs2, hg2⟩
  have hnr := nxt_range l k 4 (by omega)
  obtain ⟨n, hn⟩ : ∃ n : Nat, (n : Int) = nxt l k 4 := ⟨(nxt l k 4).toNat, by omega⟩
  rw [← hn] at hnr
  rw [← hn]
  have hn3 : n ≤ 3 := by omega
  clear hn hnr
  go_wp2_with (fail)
  go_loopw [3, 7] (fun v c wr => ∃ (i q : Nat) (N : List Rl), i ≤ n ∧ c = .int .i64 i ∧ N.length ≤ i ∧ q ≤ k + 1 + 12 * i ∧ OwnNest (RlR w.heap.size) wr w.heap.size 46 4 v N ∧ (∀ x ∈ N, RlSm x) ∧ StreamAt wr p lw l q ∧ w.grownBy wr (some p)) (fun _ c _ => n - (intOf c).toNat)
  case atStart => exact ⟨0, k + 1, [], Nat.zero_le _, rfl, Nat.le_refl _, by omega, OwnNest.nil _ _ _ _, (fun x hx => by cases hx), hs2, hg2⟩
  case round =>
    clear hs hs2 hg2
    obtain ⟨i, q, N, hi, rfl, hN, hq, hown, hsm, hsr, hgr⟩ := hrel
    obtain ⟨wo, rfl⟩ : ∃ wo : World, wo = wr := ⟨_, rfl⟩
    by_cases hin : i < n
    · have hzo := hgr.size
      have HOWN := Lib.hid hown
      have HSM := Lib.hid hsm
      have HGR := Lib.hid hgr
      clear hown hsm hgr
      go_wp2_with (fail)
      refine (one_any l q [⟨#[99, 111, 111, 108, 101, 114]⟩, ⟨#[115, 112, 105, 114, 97, 108]⟩] p wo hsr (by omega) (by decide) (by decide)).mono ?_
      rintro e w3 ⟨rfl, hs3, hg3⟩
      have h1 := oneS_mem l q [⟨#[99, 111, 111, 108, 101, 114]⟩, ⟨#[115, 112, 105, 114, 97, 108]⟩] (by decide)
      obtain ⟨F, hF⟩ : ∃ F, F = oneS l q [⟨#[99, 111, 111, 108, 101, 114]⟩, ⟨#[115, 112, 105, 114, 97, 108]⟩] := ⟨_, rfl⟩
      rw [← hF] at h1
      rw [← hF]
      have hFs : F.size ≤ 100 := by
        simp only [List.mem_cons, List.not_mem_nil, or_false] at h1
        rcases h1 with rfl | rfl <;> decide
      have HO3 := Lib.hid (HOWN.out.keepS hg3 (by omega) (fun x c h => h.keepS hg3 (by omega)))
      have HG3 := Lib.hid (gr_trans HGR.out hg3)
      have hz3 := HG3.out.size
      clear hF h1 hsr hg3 HOWN HGR
      go_wp2_with (fail)
      refine (some_any l (q + 1) 2 [rlDoor, rlHeat] p w3 hs3 (by omega) (by omega) (by decide)).mono ?_
      rintro e w4 ⟨v4, rfl, o4, hs4, hg4⟩
      have sm4 := some_sm l (q + 1) 2 [rlDoor, rlHeat] (by decide) (by decide)
      obtain ⟨A, hA⟩ : ∃ A, A = someM l (q + 1) 2 [rlDoor, rlHeat] := ⟨_, rfl⟩
      rw [← hA] at o4 sm4
      have HO4 := Lib.hid (HO3.out.keepS hg4 (by omega) (fun x c h => h.keepS hg4 (by omega)))
      have HG4 := Lib.hid (gr_trans HG3.out hg4)
      have HA4 := Lib.hid (own_base o4 hz3)
      have HSA := Lib.hid sm4
      have hz4 := HG4.out.size
      simp only [List.length_cons, List.length_nil] at hs4
      obtain ⟨va, vca, rfl, -, -, -, -⟩ := own_shape o4
      clear hA o4 sm4 hs3 hg4 HO3 HG3
      go_wp2_with (fail)
      refine (some_any l (q + 1 + 2) 3 [rlDoor, rlJam] p w4 hs4 (by omega) (by omega) (by decide)).mono ?_
      rintro e w5 ⟨v5, rfl, o5, hs5, hg5⟩
      have sm5 := some_sm l (q + 1 + 2) 3 [rlDoor, rlJam] (by decide) (by decide)
      obtain ⟨B, hB⟩ : ∃ B, B = someM l (q + 1 + 2) 3 [rlDoor, rlJam] := ⟨_, rfl⟩
      rw [← hB] at o5 sm5
      have HO5 := Lib.hid (HO4.out.keepS hg5 (by omega) (fun x c h => h.keepS hg5 (by omega)))
      have HG5 := Lib.hid (gr_trans HG4.out hg5)
      have HA5 := Lib.hid (own_keepS HA4.out hg5 (by omega))
      have HB5 := Lib.hid (own_base o5 hz4)
      have HSB := Lib.hid sm5
      have hz5 := HG5.out.size
      simp only [List.length_cons, List.length_nil] at hs5
      obtain ⟨vb, vcb, rfl, -, -, -, -⟩ := own_shape o5
      clear hB o5 sm5 hs4 hg5 HO4 HG4 HA4
      go_wp2_with (fail)
      refine (pick_any l (q + 1 + 2 + 2) [1, 5, 15, 100] p w5 hs5 (by omega) (by decide) (by decide)).mono ?_
      rintro e w6 ⟨rfl, hs6, hg6⟩
      have hpk := pickM_mem l (q + 1 + 2 + 2) [1, 5, 15, 100] (by decide)
      simp only [List.mem_cons, List.not_mem_nil, or_false] at hpk
      obtain ⟨L, hL⟩ : ∃ L, L = pickM l (q + 1 + 2 + 2) [1, 5, 15, 100] := ⟨_, rfl⟩
      rw [← hL] at hpk
      rw [← hL]
      have g7 := gr_alloc (gr_refl w6 none) (.cells #[.string F, .slice va A.length vca, .slice vb B.length vcb, .int .i64 L] 46)
      have hR7 := heap_alloc_new w6 (.cells #[.string F, .slice va A.length vca, .slice vb B.length vcb, .int .i64 L] 46)
      obtain ⟨w7, hw7⟩ : ∃ w7, w7 = w6.alloc (.cells #[.string F, .slice va A.length vca, .slice vb B.length vcb, .int .i64 L] 46) := ⟨_, rfl⟩
      rw [← hw7] at g7 hR7
      obtain ⟨R, hR⟩ : ∃ R, R = w6.heap.size := ⟨_, rfl⟩
      rw [← hR] at hR7
      have hz6 := (gr_trans HG5.out hg6).size
      have hRw : w.heap.size ≤ R := by omega
      have hown6 := HO5.out.keepS hg6 (by omega) (fun x c h => h.keepS hg6 (by omega))
      have hu : u3.ownBlock ≠ some R := fun e => by
        obtain ⟨_, _, _, h3, _⟩ := hown6.ex
        have := (h3.lt R e).2
        omega
      have S0 : Hid (RuleSt l p lw (q + 6) R w w7 u3 N ⟨F, A, B, L⟩ (.slice va A.length vca) (.slice vb B.length vcb)) :=
        ⟨hR7, own_keep0 (own_keepS HA5.out hg6 (by omega)) g7, own_keep0 (own_keepS HB5.out hg6 (by omega)) g7, ⟨hFs, HSA.out, HSB.out, by simp only; omega⟩, ⟨q + 6, Nat.le_refl _, hs6.keep0 g7⟩, hown6.keep0 g7 (fun x c h => h.keep0 g7), gr_trans (gr_trans HG5.out hg6) (gr_weak g7 _)⟩
      have HW7 := Lib.hid hw7
      have HRE := Lib.hid hR
      clear hL hpk hs5 hs6 hg6 HO5 HG5 HA5 HB5 HSA HSB g7 hR7 hw7 hR hz6 hown6
      go_upto_region 5 with (fail)
      rw [← HW7.out, ← HRE.out]
      obtain ⟨v1, hv1⟩ : ∃ v1, v1 = Value.slice va A.length vca := ⟨_, rfl⟩
      obtain ⟨v2, hv2⟩ : ∃ v2, v2 = Value.slice vb B.length vcb := ⟨_, rfl⟩
      rw [← hv1, ← hv2] at S0
      have HV1 := Lib.hid hv1
      clear hv1 hv2 HW7 HRE
      go_cut [30] (fun s wx => ∃ b : Bool, s = .bool b ∧ RuleSt l p lw (q + 7) R w wx u3 N ⟨F, A, B, L⟩ v1 v2)
      case first =>
        have c1 : w7.cell? ⟨R, 1, none⟩ = some (.slice va A.length vca) := by have := blkC (v := v1) S0.out.blk 1 rfl; rw [HV1.out] at this; exact this
        by_cases hA0 : A.length = 0
        · obtain ⟨j, hj, hst⟩ := S0.out.str
          go_wp2_with (fail)
          refine (flip_any l j 8 p w7 hst (by omega) (by omega)).mono ?_
          rintro e w8 ⟨rfl, hs8, hg8⟩
          go_wp2_with (fail)
          go_meet
          exact ⟨_, rfl, S0.out.draw hlt hRw hg8 hs8 (by omega)⟩
        · go_wp2_with (fail)
          go_meet
          exact ⟨false, rfl, S0.out.le (by omega)⟩
      case rest =>
      obtain ⟨b, rfl, hS⟩ := hcut
      obtain ⟨w8, rfl⟩ : ∃ w8 : World, w8 = wc := ⟨_, rfl⟩
      have S1 := Lib.hid hS
      clear hS S0 HV1
      go_upto_if 30 with (fail)
      go_cut [] (fun wx => ∃ (A' : List ByteArray) (v1' : Value), RuleSt l p lw (q + 7) R w wx u3 N ⟨F, A', B, L⟩ v1' v2)
      case first =>
        cases b with
        | false =>
          go_wp2_with (fail)
          go_meet
          exact ⟨A, v1, S1.out⟩
        | true =>
          have hg9 := gr_alloc (gr_refl w8 none) (.cells #[.string ⟨#[104, 101, 97, 116]⟩] 9)
          have hH9 := heap_alloc_new w8 (.cells #[.string ⟨#[104, 101, 97, 116]⟩] 9)
          have S9 := Lib.hid (S1.out.keep0 hg9)
          have hz8 := S1.out.gr.size
          have c1 : (w8.alloc (.cells #[.string ⟨#[104, 101, 97, 116]⟩] 9)).cell? ⟨R, 1, none⟩ = some v1 := blkC S9.out.blk 1 rfl
          have f1 : (w8.alloc (.cells #[.string ⟨#[104, 101, 97, 116]⟩] 9)).frozen? ⟨R, 1, none⟩ = false := blkF S9.out.blk 1
          have HH9 := Lib.hid hH9
          clear hg9 hH9
          go_wp2_with (fail)
          go_meet
          exact ⟨[⟨#[104, 101, 97, 116]⟩], _, S9.out.set hlt hRw hu 1 (.slice (some ⟨w8.heap.size, 0, none⟩) 1 1) ⟨F, [⟨#[104, 101, 97, 116]⟩], B, L⟩ _ _ rfl (own_heat hz8 HH9.out) S9.out.o2 ⟨S9.out.sm.fault, ⟨by simp, fun s hs => by have e : s = ⟨#[104, 101, 97, 116]⟩ := (by simpa using hs); rw [e]; decide⟩, S9.out.sm.without, S9.out.sm.long⟩⟩
      case rest =>
      clear S1
      obtain ⟨A1, v3, hS⟩ := hcut
      obtain ⟨w9, rfl⟩ : ∃ w9 : World, w9 = wc := ⟨_, rfl⟩
      have S2 := Lib.hid hS
      clear hS
      go_upto_region 7 with (fail)
      go_cut [34] (fun s wx => ∃ b : Bool, s = .bool b ∧ RuleSt l p lw (q + 8) R w wx u3 N ⟨F, A1, B, L⟩ v3 v2)
      case first =>
        obtain ⟨j, hj, hst⟩ := S2.out.str
        go_wp2_with (fail)
        refine (flip_any l j 20 p w9 hst (by omega) (by omega)).mono ?_
        rintro e w8 ⟨rfl, hs8, hg8⟩
        go_wp2_with (fail)
        go_meet
        exact ⟨_, rfl, S2.out.draw hlt hRw hg8 hs8 (by omega)⟩
      case rest =>
      clear S2
      obtain ⟨b, rfl, hS⟩ := hcut
      obtain ⟨w10, rfl⟩ : ∃ w10 : World, w10 = wc := ⟨_, rfl⟩
      have S3 := Lib.hid hS
      clear hS
      go_upto_if 34 with (fail)
      go_cut [] (fun wx => ∃ (L' : Int), RuleSt l p lw (q + 9) R w wx u3 N ⟨F, A1, B, L'⟩ v3 v2)
      case first =>
        cases b with
        | false =>
          go_wp2_with (fail)
          go_meet
          exact ⟨L, S3.out.le (by omega)⟩
        | true =>
          obtain ⟨j, hj, hst⟩ := S3.out.str
          go_wp2_with (fail)
          refine (pick_any l j [0, 5761440, 5761441] p w10 hst (by omega) (by decide) (by decide)).mono ?_
          rintro e w8 ⟨rfl, hs8, hg8⟩
          have hpk := pickM_mem l j [0, 5761440, 5761441] (by decide)
          simp only [List.mem_cons, List.not_mem_nil, or_false] at hpk
          obtain ⟨L', hL⟩ : ∃ L', L' = pickM l j [0, 5761440, 5761441] := ⟨_, rfl⟩
          rw [← hL] at hpk
          rw [← hL]
          have S9 := Lib.hid (S3.out.draw (q1 := q + 9) hlt hRw hg8 hs8 (by omega))
          have c1 : w8.cell? ⟨R, 3, none⟩ = some (.int .i64 L) := blkC S9.out.blk 3 rfl
          have f1 : w8.frozen? ⟨R, 3, none⟩ = false := blkF S9.out.blk 3
          clear hL hst hs8 hg8
          go_wp2_with (fail)
          go_meet
          exact ⟨L', S9.out.set hlt hRw hu 3 (.int .i64 L') ⟨F, A1, B, L'⟩ _ _ rfl S9.out.o1 S9.out.o2 ⟨S9.out.sm.fault, S9.out.sm.needs, S9.out.sm.without, by simp only; omega⟩⟩
      case rest =>
      clear S3
      obtain ⟨L1, hS⟩ := hcut
      obtain ⟨w11, rfl⟩ : ∃ w11 : World, w11 = wc := ⟨_, rfl⟩
      have S4 := Lib.hid hS
      clear hS
      go_upto_region 9 with (fail)
      go_cut [40] (fun s wx => ∃ b : Bool, s = .bool b ∧ RuleSt l p lw (q + 10) R w wx u3 N ⟨F, A1, B, L1⟩ v3 v2)
      case first =>
        obtain ⟨j, hj, hst⟩ := S4.out.str
        go_wp2_with (fail)
        refine (flip_any l j 25 p w11 hst (by omega) (by omega)).mono ?_
        rintro e w8 ⟨rfl, hs8, hg8⟩
        go_wp2_with (fail)
        go_meet
        exact ⟨_, rfl, S4.out.draw hlt hRw hg8 hs8 (by omega)⟩
      case rest =>
      clear S4
      obtain ⟨b, rfl, hS⟩ := hcut
      obtain ⟨w12, rfl⟩ : ∃ w12 : World, w12 = wc := ⟨_, rfl⟩
      have S5 := Lib.hid hS
      clear hS
      go_upto_if 40 with (fail)
      go_cut [] (fun wx => ∃ (F' : ByteArray), RuleSt l p lw (q + 11) R w wx u3 N ⟨F', A1, B, L1⟩ v3 v2)
      case first =>
        cases b with
        | false =>
          go_wp2_with (fail)
          go_meet
          exact ⟨F, S5.out.le (by omega)⟩
        | true =>
          obtain ⟨j, hj, hst⟩ := S5.out.str
          go_wp2_with (fail)
          refine (one_any l j [⟨#[]⟩, ⟨#[70]⟩] p w12 hst (by omega) (by decide) (by decide)).mono ?_
          rintro e w8 ⟨rfl, hs8, hg8⟩
          have h1 := oneS_mem l j [⟨#[]⟩, ⟨#[70]⟩] (by decide)
          obtain ⟨F', hL⟩ : ∃ L', L' = oneS l j [⟨#[]⟩, ⟨#[70]⟩] := ⟨_, rfl⟩
          rw [← hL] at h1
          rw [← hL]
          have hF' : F'.size ≤ 100 := by
            simp only [List.mem_cons, List.not_mem_nil, or_false] at h1
            rcases h1 with rfl | rfl <;> decide
          have S9 := Lib.hid (S5.out.draw (q1 := q + 11) hlt hRw hg8 hs8 (by omega))
          have c1 : w8.cell? ⟨R, 0, none⟩ = some (.string F) := blkC S9.out.blk 0 rfl
          have f1 : w8.frozen? ⟨R, 0, none⟩ = false := blkF S9.out.blk 0
          clear hL hst hs8 hg8 h1
          go_wp2_with (fail)
          go_meet
          exact ⟨F', S9.out.set hlt hRw hu 0 (.string F') ⟨F', A1, B, L1⟩ _ _ rfl S9.out.o1 S9.out.o2 ⟨hF', S9.out.sm.needs, S9.out.sm.without, S9.out.sm.long⟩⟩
      case rest =>
      clear S5
      obtain ⟨F1, hS⟩ := hcut
      obtain ⟨w13, rfl⟩ : ∃ w13 : World, w13 = wc := ⟨_, rfl⟩
      obtain ⟨a3, n3, rfl, -, -, -, -⟩ := own_shape hS.o1
      obtain ⟨a2, n2, rfl, -, -, -, -⟩ := own_shape hS.o2
      have S6 := Lib.hid hS
      obtain ⟨cs, hrow, hpush⟩ := hS.own.push
      have HROW := Lib.hid hrow
      have HPUSH := Lib.hid hpush
      have HX : Hid (RlR w.heap.size w13 ⟨F1, A1, B, L1⟩ [.string F1, .slice a3 A1.length n3, .slice a2 B.length n2, .int .i64 L1]) := ⟨_, _, rfl, hS.o1, hS.o2⟩
      have d0 : w13.cell? ⟨R, 0, none⟩ = some (.string F1) := blkC hS.blk 0 rfl
      have d1 : w13.cell? ⟨R, 1, none⟩ = some (.slice a3 A1.length n3) := blkC hS.blk 1 rfl
      have d2 : w13.cell? ⟨R, 2, none⟩ = some (.slice a2 B.length n2) := blkC hS.blk 2 rfl
      have d3 : w13.cell? ⟨R, 3, none⟩ = some (.int .i64 L1) := blkC hS.blk 3 rfl
      have hz13 := hS.gr.size
      clear hS hrow hpush
      go_wp2_with (at_builtin; refine wpList_app1F eRl rfl _ _ rfl w.heap.size _ N.length (flat id cs) rfl w13 #[.string F1, .slice a3 A1.length n3, .slice a2 B.length n2, .int .i64 L1] rfl HROW.out _ rfl rfl rfl rfl (by omega) hz13 ?_; intro v7 w14 o7 g7 hl7 _; have O7 := Lib.hid o7; have G7 := Lib.hid g7; clear o7 g7)
      go_roundw
      case rel =>
        have hx10 := RlR.keepU HROW.out (by decide) G7.out _ _ HX.out
        have hp10 := HPUSH.out w14 v7 _ _ O7.out rfl (fun y d h => RlR.keepU HROW.out (by decide) G7.out y d h) hx10
        obtain ⟨j, hj, hst⟩ := S6.out.str
        refine ⟨i + 1, j, N ++ [⟨F1, A1, B, L1⟩], by omega, by go_num, by rw [List.length_append]; simp; omega, by omega, hp10, fun x hx => ?_, hst.keep G7.out (fun b e => by have := hl7 b e; omega), gr_grown S6.out.gr G7.out hl7⟩
        rcases List.mem_append.1 hx with hx | hx
        · exact HSM.out x hx
        · have : x = ⟨F1, A1, B, L1⟩ := by simpa using hx
          rw [this]; exact S6.out.sm
      case measure => simp [intOf]; omega
    · obtain rfl : i = n := by omega
      obtain ⟨va, vc, rfl, _, _, _, _⟩ := hown.shape
      have HOWN := Lib.hid hown
      have HSM := Lib.hid hsm
      have HGR := Lib.hid hgr
      clear hown hsm hgr
      go_wp2_with (fail)
      go_ret
      exact ⟨_, N, rfl, HOWN.out, by omega, HSM.out, ⟨q, by omega, hsr⟩, HGR.out⟩
end Go.Proofs.YtehhmgbgkemidaaGreatDoor
