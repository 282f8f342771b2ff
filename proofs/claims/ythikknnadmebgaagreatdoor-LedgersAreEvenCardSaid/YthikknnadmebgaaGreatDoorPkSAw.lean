/- till.CheckEntry at right entries. -/
import Derived.Test.YthikknnadmebgaaGreatDoorPkSAr
import Derived.Test.YthikknnadmebgaaGreatDoorPkSAu
import Derived.Test.YthikknnadmebgaaGreatDoorPkSAv
import Derived.Test.YthikknnadmebgaaGreatDoorPkSAa
import Derived.WalkLawsBesides
namespace Go.Proofs.YthikknnadmebgaaGreatDoor
open Go.RowKit
attribute [local go_sem ↓] Go.wp_at_zero Go.wp_at_succ

def lnIs (K : ByteArray) (x : Nm) : Bool := x.key.toList == K.toList
structure EntOk (L : List Nm) : Prop where
  l0 : 2 ≤ L.length
  l1 : L.length ≤ 20
  key : ∀ x ∈ L, keyB x.key = true ∧ x.key.size ≤ 40
  apart : ∀ j (hj : j < L.length), (L.take j).any (lnIs L[j].key) = false
  many : ∀ x ∈ L, x.many ≠ 0 ∧ -1000000000 ≤ x.many ∧ x.many ≤ 1000000000
  sum : (L.map Nm.many).sum = 0
theorem checkEnt1_fn : ∀ (args : Array Value) (w : World), (callFunc 89 args).run Tryz.prog w = .ok (.enter 89 args) w := fun _ _ => by kernel_rfl
theorem checkEnt1_any (x : Nm) (K : ByteArray) (q0 : Nat) (w : World) (h : w.cell? ⟨q0, 0, none⟩ = some (.string K)) : Calls Tryz.prog 89 #[.agg #[.string x.key, .int .i64 x.many], .pointer (some ⟨q0, 0, none⟩)] w fun e w' => e = .returned (.bool (lnIs K x)) ∧ w.grownBy w' none := by
  have hqlt := lt_of_cell h
  go_enter Tryz.func89, Tryz.ntmps89
  go_wp2_with (fail)
  go_ret
  exact ⟨rfl, gr_alloc (gr_refl w none) _⟩
theorem lnAny (B : List Nm) (k : Nat) (hk : k ≤ B.length) (a : Option Addr) (c : Nat) (w : World) (h : CellsAt w a (flat encNm B)) (hl : B.length ≤ 100) (K : ByteArray) (q : Nat) (hq : w.cell? ⟨q, 0, none⟩ = some (.string K)) :
    Calls Tryz.prog 88 #[.slice a k c, .func (.func 89) #[] #[.pointer (some ⟨q, 0, none⟩)]] w fun e w' => e = .returned (.bool ((B.take k).any (lnIs K))) ∧ w.grownBy w' none := by
  have htl : (B.take k).length = k := by simp; omega
  have h2 := containsFunc_Ln 89 q (lnIs K) (B.take k) a c w (flat_pre h k) (by omega) checkEnt1_fn (fun x _ w1 g1 => checkEnt1_any x K q w1 ((gr_cell g1 (lt_of_cell hq)).trans hq))
  rw [htl] at h2
  exact h2
set_option maxRecDepth 100000 in
set_option maxHeartbeats 1500000 in
theorem checkEntry_ok (day : Int) (T : ByteArray) (L : List Nm) (a : Option Addr) (c : Nat) (w : World) (E : EnvW w) (hc : CellsAt w a (flat encNm L)) (hcap : L.length ≤ c) (ok : EntOk L) (hT : PlainS T) (hT1 : 1 ≤ T.size) (hT2 : T.size ≤ 60) (hd0 : 0 ≤ day) (hd1 : day ≤ 4000) :
    Calls Tryz.prog 39 #[.agg #[.int .i64 day, .string T, .slice a L.length c]] w fun e w' => e = .returned (.int .i64 0) ∧ w.grownBy w' none := by
  have hV := heap_alloc_new w (.cells #[.int .i64 day, .string T, .slice a L.length c] 34)
  have g1 := gr_alloc (gr_refl w none) (.cells #[.int .i64 day, .string T, .slice a L.length c] 34)
  obtain ⟨w1, hw1⟩ : ∃ w1, w1 = w.alloc (.cells #[.int .i64 day, .string T, .slice a L.length c] 34) := ⟨_, rfl⟩
  rw [← hw1] at hV g1
  obtain ⟨V, hVe⟩ : ∃ V, V = w.heap.size := ⟨_, rfl⟩
  rw [← hVe] at hV
  have PL := Lib.hid (fun (W : World) (g : w.grownBy W none) => plain_ok T hT W (E.keep g))
  have HW1 := Lib.hid hw1
  have HVE := Lib.hid hVe
  have HV := Lib.hid hV
  have HG1 := Lib.hid g1
  have HC := Lib.hid hc
  have HOK := Lib.hid ok
  have hl0 := ok.l0
  have hl1 := ok.l1
  have dD : (decide (day < 0) || decide (4000 < day)) = false := by simp; omega
  have dT : (decide ((T.size : Int) < 1) || decide (60 < (T.size : Int))) = false := by simp; omega
  have p0 : w1.cell? ⟨V, 0, none⟩ = some (.int .i64 day) := blkC hV 0 rfl
  have p1 : w1.cell? ⟨V, 1, none⟩ = some (.string T) := blkC hV 1 rfl
  have S0 : Hid ((0 : Int) = ((L.take 0).map Nm.many).sum) := by show _ = _; rfl
  clear hV g1 hw1 hVe E hc ok hT
  go_enter Tryz.func39, Tryz.ntmps39
  go_wp2_with (fail)
  rw [← HW1.out, ← HVE.out]
  go_wp2_with (fail)
  refine (dayL_any day w1).mono ?_
  rintro e w2 ⟨rfl, rfl⟩
  rw [dD]
  go_wp2_with (fail)
  refine (out_any (T.size : Int) 1 60 w1).mono ?_
  rintro e w2 ⟨rfl, rfl⟩
  rw [dT]
  go_wp2_with (fail)
  refine (PL.out w1 HG1.out).mono ?_
  rintro e w2 ⟨rfl, g2⟩
  have hV2 := (g2.block _ (lt_of_block HV.out) (by simp)).trans HV.out
  have p2 : w2.cell? ⟨V, 2, none⟩ = some (.slice a L.length c) := blkC hV2 2 rfl
  have HV2 := Lib.hid hV2
  have HG2 := Lib.hid (gr_trans HG1.out g2)
  clear p0 p1 g2 hV2 dD dT PL
  go_wp2_with (fail)
  go_loopw [3, 35] (fun s i wr => ∃ k : Nat, k ≤ L.length ∧ i = .int .i64 k ∧ s = .int .i64 ((L.take k).map Nm.many).sum ∧ w2.grownBy wr none) (fun _ i _ => L.length - (intOf i).toNat)
  case atStart => exact ⟨0, Nat.zero_le _, rfl, congrArg _ S0.out, gr_refl _ _⟩
  case round =>
    clear S0 p2
    obtain ⟨k, hk, rfl, rfl, hgr⟩ := hrel
    obtain ⟨wo, rfl⟩ : ∃ wo : World, wo = wr := ⟨_, rfl⟩
    have hV3 := (hgr.block _ (lt_of_block HV2.out) (by simp)).trans HV2.out
    by_cases hlt : k < L.length
    · obtain ⟨b, off, rfl, d0, d1⟩ := bk_cells (HC.out.keep0 (gr_trans HG2.out hgr)) k hlt
      obtain ⟨o1, o2⟩ := HOK.out.key _ (List.getElem_mem hlt)
      obtain ⟨o3, o4, o5⟩ := HOK.out.many _ (List.getElem_mem hlt)
      have o6 := HOK.out.apart k hlt
      have NX : ((L.take (k + 1)).map Nm.many).sum = ((L.take k).map Nm.many).sum + L[k].many := by
        have e : L.take (k + 1) = L.take k ++ [L[k]] := by simp
        rw [e, List.map_append, List.sum_append]
        simp
      have hbs := sum_bound ((L.take k).map Nm.many) (-1000000000) 1000000000 (by omega) (by omega) (fun y hy => by
        obtain ⟨z, hz, rfl⟩ := List.mem_map.1 hy
        exact (HOK.out.many z (List.mem_of_mem_take hz)).2) k
      rw [List.take_of_length_le (by simp; omega)] at hbs
      have CF := Lib.hid (fun (W : World) (g : wo.grownBy W none) (q : Nat) (hq : W.cell? ⟨q, 0, none⟩ = some (.string L[k].key)) => lnAny L k hk (some ⟨b, off, none⟩) c W (HC.out.keep0 (gr_trans (gr_trans HG2.out hgr) g)) (by omega) L[k].key q hq)
      rw [o6] at CF
      obtain ⟨x, hx⟩ : ∃ x, x = L[k] := ⟨_, rfl⟩
      rw [← hx] at d0 d1 o1 o2 o3 o4 o5 NX CF
      obtain ⟨K, M⟩ := x
      simp only at d0 d1 o1 o2 o3 o4 o5 NX CF
      obtain ⟨S, hS⟩ : ∃ S, S = ((L.take k).map Nm.many).sum := ⟨_, rfl⟩
      rw [← hS] at NX hbs
      rw [← hS]
      have HNX := Lib.hid NX
      have HO1 := Lib.hid o1
      have hX := heap_alloc_new wo (.cells #[.string K, .int .i64 M] 89)
      have ga := gr_alloc (gr_refl wo none) (.cells #[.string K, .int .i64 M] 89)
      obtain ⟨w3, hw3⟩ : ∃ w3, w3 = wo.alloc (.cells #[.string K, .int .i64 M] 89) := ⟨_, rfl⟩
      rw [← hw3] at hX ga
      obtain ⟨Q, hQ⟩ : ∃ Q, Q = wo.heap.size := ⟨_, rfl⟩
      rw [← hQ] at hX
      have hV4 := (ga.block _ (lt_of_block hV3) (by simp)).trans hV3
      have x0 : w3.cell? ⟨Q, 0, none⟩ = some (.string K) := blkC hX 0 rfl
      have p2 : w3.cell? ⟨V, 2, none⟩ = some (.slice (some ⟨b, off, none⟩) L.length c) := blkC hV4 2 rfl
      have CF3 := Lib.hid (CF.out w3 ga Q x0)
      have HX := Lib.hid hX
      have HG3 := Lib.hid (gr_trans hgr ga)
      have HW3 := Lib.hid hw3
      have HQ := Lib.hid hQ
      have hkc : k ≤ c := by omega
      have hM0 : (M == 0) = false := beq_eq_false_iff_ne.2 o3
      have dM : (decide (M < -1000000000) || decide (1000000000 < M)) = false := by simp; omega
      have hwS : IntKind.i64.wrap (S + M) = S + M := IntWalk.i64_in _ (by omega)
      clear hx hS NX o1 o3 o6 hX ga hw3 hQ hgr hV3 hV4
      go_upto_region 13 with (fail)
      rw [← HW3.out, ← HQ.out]
      clear d0 d1
      go_wp2_with (fail)
      refine (key_any K w3 (by omega)).mono ?_
      rintro e w4 ⟨rfl, rfl⟩
      rw [HO1.out]
      go_wp2_with (fail)
      refine CF3.out.mono ?_
      rintro e w5 ⟨rfl, g5⟩
      have x1 : w5.cell? ⟨Q, 1, none⟩ = some (.int .i64 M) := blkC ((g5.block _ (lt_of_block HX.out) (by simp)).trans HX.out) 1 rfl
      have HG5 := Lib.hid (gr_trans HG3.out g5)
      clear x0 p2 g5
      go_wp2_with (fail)
      refine (out_any M (-1000000000) 1000000000 w5).mono ?_
      rintro e w6 ⟨rfl, rfl⟩
      rw [dM]
      go_wp2_with (fail)
      go_roundw
      case rel => exact ⟨k + 1, by omega, by go_num, by rw [HNX.out], HG5.out⟩
      case measure => simp [intOf]; omega
    · obtain rfl : k = L.length := by omega
      have hS : ((L.take L.length).map Nm.many).sum = 0 := by rw [List.take_length]; exact HOK.out.sum
      rw [hS]
      have HGR := Lib.hid (gr_trans HG2.out hgr)
      clear hS hgr hV3
      go_wp2_with (fail)
      go_ret
      exact ⟨rfl, HGR.out⟩
end Go.Proofs.YthikknnadmebgaaGreatDoor

/-! The entries that the stream makes are right: no program in sight. -/
namespace Go.Proofs.YthikknnadmebgaaGreatDoor
open Go.RowKit

theorem accS_key (i : Nat) (h : i < 4) : keyB (accS i) = true ∧ (accS i).size ≤ 40 := by
  have : i = 0 ∨ i = 1 ∨ i = 2 ∨ i = 3 := by omega
  rcases this with rfl | rfl | rfl | rfl <;> exact ⟨by kernel_rfl, by decide⟩
def accNe (i j : Nat) : Bool := i == j || !((accS i).toList == (accS j).toList)
theorem accNe_all : ((List.range 4).all fun i => (List.range 4).all fun j => accNe i j) = true := by kernel_rfl
theorem accS_ne (i j : Nat) (hi : i < 4) (hj : j < 4) (h : i ≠ j) : ((accS i).toList == (accS j).toList) = false := by
  have h1 := List.all_eq_true.1 accNe_all i (List.mem_range.2 hi)
  have h2 := List.all_eq_true.1 h1 j (List.mem_range.2 hj)
  have h3 : (i == j || !((accS i).toList == (accS j).toList)) = true := h2
  rw [beq_false_of_ne h, Bool.false_or, Bool.not_eq_true'] at h3
  exact h3
theorem ord_three {O : List Int} (h : IsOrder 4 O) : ∃ a b c : Nat, a < 4 ∧ b < 4 ∧ c < 4 ∧ a ≠ b ∧ a ≠ c ∧ b ≠ c ∧ O.getD 0 0 = (a : Int) ∧ O.getD 1 0 = (b : Int) ∧ O.getD 2 0 = (c : Int) := by
  have hl := h.len
  have hnd : O.Nodup := by
    have h2 : ((List.range 4).map fun k : Nat => (k : Int)).Nodup := by decide
    exact h.nodup_iff.2 h2
  have key : ∀ i, i < 4 → ∃ a : Nat, a < 4 ∧ O.getD i 0 = (a : Int) := by
    intro i hi
    have hm := (h.mem (O.getD i 0)).1 (by rw [getD_eq _ i 0 (by omega)]; exact List.getElem_mem _)
    exact ⟨(O.getD i 0).toNat, by omega, by omega⟩
  obtain ⟨a, ha, ea⟩ := key 0 (by omega)
  obtain ⟨b, hb, eb⟩ := key 1 (by omega)
  obtain ⟨c, hc, ec⟩ := key 2 (by omega)
  have ne : ∀ i j, i < j → j < 4 → O.getD i 0 ≠ O.getD j 0 := by
    intro i j hij hj e
    rw [getD_eq _ i 0 (by omega), getD_eq _ j 0 (by omega)] at e
    have := (List.pairwise_iff_getElem.1 hnd) i j (by omega) (by omega) hij
    exact this e
  refine ⟨a, b, c, ha, hb, hc, ?_, ?_, ?_, ea, eb, ec⟩
  · intro e; exact ne 0 1 (by omega) (by omega) (by rw [ea, eb, e])
  · intro e; exact ne 0 2 (by omega) (by omega) (by rw [ea, ec, e])
  · intro e; exact ne 1 2 (by omega) (by omega) (by rw [eb, ec, e])
theorem entN_in (l : List Int) (k : Nat) : 1 ≤ entN l k ∧ entN l k ≤ 100 := by
  have h := pickM_mem l (k + 1) [1, 50, 100] (by decide)
  simp only [List.mem_cons, List.not_mem_nil, or_false] at h
  unfold entN
  omega
theorem entL_ok (l : List Int) (k : Nat) (h : IsOrder 4 (ordM l (k + 2) 4)) : EntOk (entL l k) := by
  obtain ⟨a, b, c, ha, hb, hc, hab, hac, hbc, ea, eb, ec⟩ := ord_three h
  have n1 := entN_in l k
  have e0 : entA l k 0 = accS a := by unfold entA; rw [ea]
  have e1 : entA l k 1 = accS b := by unfold entA; rw [eb]
  have e2 : entA l k 2 = accS c := by unfold entA; rw [ec]
  unfold entL
  rw [e0, e1, e2]
  obtain ⟨n, hn⟩ : ∃ n, n = entN l k := ⟨_, rfl⟩
  rw [← hn] at n1 ⊢
  split
  · refine ⟨by simp, by simp, ?_, ?_, ?_, by simp; omega⟩
    · intro x hx
      simp only [List.mem_cons, List.not_mem_nil, or_false] at hx
      rcases hx with rfl | rfl | rfl
      · exact accS_key a ha
      · exact accS_key b hb
      · exact accS_key c hc
    · intro j hj
      have : j = 0 ∨ j = 1 ∨ j = 2 := by simp at hj; omega
      rcases this with rfl | rfl | rfl
      · rfl
      · simp [lnIs, accS_ne a b ha hb hab]
      · simp [lnIs, accS_ne a c ha hc hac, accS_ne b c hb hc hbc]
    · intro x hx
      simp only [List.mem_cons, List.not_mem_nil, or_false] at hx
      rcases hx with rfl | rfl | rfl <;> simp only <;> omega
  · refine ⟨by simp, by simp, ?_, ?_, ?_, by simp; omega⟩
    · intro x hx
      simp only [List.mem_cons, List.not_mem_nil, or_false] at hx
      rcases hx with rfl | rfl
      · exact accS_key a ha
      · exact accS_key b hb
    · intro j hj
      have : j = 0 ∨ j = 1 := by simp at hj; omega
      rcases this with rfl | rfl
      · rfl
      · simp [lnIs, accS_ne a b ha hb hab]
    · intro x hx
      simp only [List.mem_cons, List.not_mem_nil, or_false] at hx
      rcases hx with rfl | rfl <;> simp only <;> omega
theorem entT_in (l : List Int) (k : Nat) : PlainS (entT l k) ∧ 1 ≤ (entT l k).size ∧ (entT l k).size ≤ 60 := by
  have h := oneS_mem l k entTs (by decide)
  simp only [List.mem_cons, List.not_mem_nil, or_false] at h
  have h2 : entT l k = ⟨#[98, 97, 103, 32, 111, 110, 101]⟩ ∨ entT l k = ⟨#[120]⟩ ∨ entT l k = ⟨#[195, 169, 116, 195, 169]⟩ := h
  refine ⟨plain_lits _ h2, ?_⟩
  rcases h2 with e | e | e <;> rw [e] <;> decide
end Go.Proofs.YthikknnadmebgaaGreatDoor

/-! slices.Clone at []coilrack/api.Line. Written by mkclone.py. -/
namespace Go.Proofs.YthikknnadmebgaaGreatDoor
open Go.RowKit

theorem cloneLn_any (a : Option Addr) (n c : Nat) (xs : List Value) (w : World) (hn : xs.length = n * 2) (hc : CellsAt w a xs) (hnil : a = none → n = 0 ∧ c = 0) (h1 : ∀ u ∈ xs, u.oneCell' = true) (hb : n ≤ 137438953472) :
    Calls Tryz.prog 40 #[.slice a n c] w fun e w' => ∃ v, e = .returned v ∧ w'.ownsRow w.heap.size 89 2 v n xs ∧ w.grownBy w' none := by
  have q22 : ∀ (w : World) (a : Option Addr) (n c n' c' : Nat), (binOp .eql 32 (.slice a n c) (.slice none n' c')).run Tryz.prog w = .ok (.bool a.isNone) w := fun w a n c n' c' => Lib.run_eql_slice_nil w _ _ a n c n' c' Tryz.underlying32
  cases a with
  | none =>
    obtain ⟨hn0, hc0⟩ := hnil rfl
    subst hn0 hc0
    have hx : xs = [] := List.eq_nil_of_length_eq_zero (by omega)
    subst hx
    clear hnil hn
    go_enter Tryz.func40, Tryz.ntmps40
    go_wp2
    go_ret
    exact ⟨_, rfl, World.ownsRow_nil _ _ _ _, gr_refl _ _⟩
  | some ad =>
    have HN := Lib.hid hn
    clear hnil hn
    go_enter Tryz.func40, Tryz.ntmps40
    go_wp2_with (at_builtin; refine wpList_app eLn rfl _ _ rfl w.heap.size _ _ _ rfl (World.ownsRow_made w #[] 0 (Nat.le_refl _) (Nat.zero_le _) rfl) (some ad) n c xs rfl ?c1 ?c2 ?c3 ?c4 ?c5 ?c6 ?_)
    case c1 => rw [HN.out]
    case c2 => exact hc.alloc _
    case c3 => intro h; cases h
    case c4 => exact h1
    case c5 => omega
    case c6 => simp
    intro v' w1 hown hg
    go_wp2
    go_ret
    refine ⟨v', rfl, by simpa using hown, ?_⟩
    exact gr_grown (gr_alloc (gr_refl _ _) _) hg (by intro k hk; simp [Value.ownBlock] at hk; omega)
end Go.Proofs.YthikknnadmebgaaGreatDoor

/-! slices.Equal at []coilrack/api.Named, of the same contents. Written by mkequal.py. -/
namespace Go.Proofs.YthikknnadmebgaaGreatDoor
open Go.RowKit

set_option maxRecDepth 100000 in
theorem equal_Nm (xs : List Nm) (a b : Option Addr) (c d : Nat) (w : World) (ha : CellsAt w a (flat encNm xs)) (hb : CellsAt w b (flat encNm xs)) (hl : xs.length ≤ 1000000) :
    Calls Tryz.prog 16 #[.slice a xs.length c, .slice b xs.length d] w fun e w' => e = .returned (.bool true) ∧ w.grownBy w' none := by
  go_enter Tryz.func16, Tryz.ntmps16
  go_wp2_with (fail)
  go_loopw [13] (fun i wr => ∃ k : Nat, k ≤ xs.length ∧ i = .int .i64 k ∧ w.grownBy wr none) (fun i _ => xs.length - (intOf i).toNat)
  case atStart => exact ⟨0, Nat.zero_le _, rfl, gr_refl _ _⟩
  case round =>
    obtain ⟨k, hk, rfl, hgr⟩ := hrel
    obtain ⟨wo, rfl⟩ : ∃ wo : World, wo = wr := ⟨_, rfl⟩
    by_cases hlt : k < xs.length
    · obtain ⟨b1, o1, rfl, hcs⟩ := flat_cells (enc := encNm) (m := 2) (fun _ => rfl) (by decide) (ha.keep0 hgr) (by omega)
      obtain ⟨b2, o2, rfl, hcs2⟩ := flat_cells (enc := encNm) (m := 2) (fun _ => rfl) (by decide) (hb.keep0 hgr) (by omega)
      obtain ⟨s, hs⟩ : ∃ s, s = xs[k] := ⟨_, rfl⟩
      obtain ⟨y0, y1⟩ := s
      have e0 : wo.cell? ⟨b1, o1 + k * 2, none⟩ = some (.string y0) := hcs k hlt 0 _ (by rw [← hs]; rfl)
      have e1 : wo.cell? ⟨b1, o1 + k * 2 + 1, none⟩ = some (.int .i64 y1) := hcs k hlt 1 _ (by rw [← hs]; rfl)
      have d0 : wo.cell? ⟨b2, o2 + k * 2, none⟩ = some (.string y0) := hcs2 k hlt 0 _ (by rw [← hs]; rfl)
      have d1 : wo.cell? ⟨b2, o2 + k * 2 + 1, none⟩ = some (.int .i64 y1) := hcs2 k hlt 1 _ (by rw [← hs]; rfl)
      clear hs hcs hcs2
      go_wp2_with (fail)
      go_region
      all_goals (go_wp2_with (fail))
      all_goals go_roundw
      case rel => exact ⟨k + 1, by omega, by go_num, gr_drew hgr⟩
      case measure => simp [intOf]; omega
    · go_wp2_with (fail)
      go_ret
      exact ⟨rfl, hgr⟩
end Go.Proofs.YthikknnadmebgaaGreatDoor
