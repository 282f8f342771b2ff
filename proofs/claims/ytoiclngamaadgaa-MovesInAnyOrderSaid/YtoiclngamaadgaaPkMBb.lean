/- What moves add up to for each ware: as a map, and as a sorted list of names; depot.Shelf. -/
import Derived.Test.YtoiclngamaadgaaPkMAu
import Derived.Test.YtoiclngamaadgaaPkMBa
namespace Go.Proofs.Ytoiclngamaadgaa
open Go.RowKit
attribute [local go_sem ↓] Go.wp_at_zero Go.wp_at_succ

set_option maxRecDepth 100000 in
set_option maxHeartbeats 2000000 in
theorem mvSums_any (N : List Mv) (a : Option Addr) (c : Nat) (w : World) (h : CellsAt w a (flat encMv N)) (hsm : ∀ x ∈ N, MvSm x) (hl : N.length ≤ 1000) :
    Calls Try.prog 84 #[.slice a N.length c] w fun e w' => e = .returned (.map (some w.heap.size)) ∧ MapIs w' w.heap.size N.length (mvMap N) ∧ w.grownBy w' none := by
  have H := Lib.hid h
  have HSM := Lib.hid hsm
  have hm0 := Lib.hid (MapIs.made w)
  have hg0 := Lib.hid (gr_alloc (gr_refl w none) (.map #[] 0))
  have hmm := @run_makeMap Try.prog
  have E0 : Hid ((fun _ => none) = mvMap (N.take 0)) := by show _ = _; funext s; rfl
  rw [E0.out] at hm0
  clear h hsm
  go_enter Try.func84, Try.ntmps84
  go_wp2_with (fail)
  clear hmm
  go_loopw [9] (fun i wr => ∃ k : Nat, k ≤ N.length ∧ i = .int .i64 k ∧ MapIs wr w.heap.size k (mvMap (N.take k)) ∧ w.grownBy wr none) (fun i _ => N.length - (intOf i).toNat)
  case atStart => exact ⟨0, Nat.zero_le _, rfl, hm0.out, hg0.out⟩
  case round =>
    clear hm0 hg0 E0
    obtain ⟨k, hk, rfl, hmp, hgr⟩ := hrel
    obtain ⟨wo, rfl⟩ : ∃ wo : World, wo = wr := ⟨_, rfl⟩
    by_cases hlt : k < N.length
    · obtain ⟨b, off, rfl, d0, d1, d2, d3, d4⟩ := mv_cells (H.out.keep0 hgr) k hlt
      have hs := HSM.out _ (List.getElem_mem hlt)
      have hw4 := hs.ware.2
      have hm4 := hs.many
      have hbd := mvSum_bd (N.take k) N[k].ware (fun x hx => HSM.out x (List.mem_of_mem_take hx))
      rw [← mvMap_get, List.length_take, Nat.min_eq_left hk] at hbd
      have hnx : Hid (∀ t, mvMap (N.take (k + 1)) t = if t = N[k].ware then some ((mvMap (N.take k) N[k].ware).getD 0 + N[k].many) else mvMap (N.take k) t) := mvMap_next N k hlt
      obtain ⟨x, hx⟩ : ∃ x, x = N[k] := ⟨_, rfl⟩
      rw [← hx] at d0 d1 d2 d3 d4 hw4 hm4 hbd hnx
      obtain ⟨P, no, dy, R, M⟩ := x
      simp only at d0 d1 d2 d3 d4 hw4 hm4 hbd hnx
      obtain ⟨f, hf⟩ : ∃ f, f = mvMap (N.take k) := ⟨_, rfl⟩
      rw [← hf] at hmp hbd hnx
      obtain ⟨g, hg⟩ : ∃ g, g = (f R).getD 0 := ⟨_, rfl⟩
      rw [← hg] at hbd hnx
      obtain ⟨hb0, hb1⟩ := hbd
      have NX : Hid ((fun t => if t = R then some (g + M) else f t) = mvMap (N.take (k + 1))) := by show _ = _; funext t; rw [hnx.out]
      have g3 := gr_alloc (gr_refl wo none) (.cells #[.string P, .int .i64 no, .int .i64 dy, .string R, .int .i64 M] 71)
      have HM3 := Lib.hid (hmp.keep0 g3)
      have HG := Lib.hid (gr_trans hgr g3)
      have HGV := Lib.hid hg
      clear hx hf hmp hgr g3 hg hnx hs
      go_wp2_with (first
        | (at_lookup; refine wpList_getSI rfl _ _ rfl w.heap.size k f rfl HM3.out R rfl (by omega) ?_; rw [← HGV.out])
        | (at_mapUpdate; refine wpList_putSI rfl _ _ _ rfl w.heap.size k f rfl HM3.out (by omega) R rfl (by omega) (g + M) rfl (by omega) ?_; intro w6 hm6 g6; rw [NX.out] at hm6; have HM6 := Lib.hid hm6; have HG6 := Lib.hid g6; clear hm6 g6))
      go_roundw
      case rel => exact ⟨k + 1, by omega, by go_num, HM6.out, gr_grown HG.out HG6.out (fun q hq => by cases hq; exact Nat.le_refl _)⟩
      case measure => simp [intOf]; omega
    · obtain rfl : k = N.length := by omega
      have HM := Lib.hid hmp
      clear hmp
      go_wp2_with (fail)
      go_ret
      exact ⟨rfl, by have := HM.out; rw [List.take_length] at this; exact this, hgr⟩
theorem sub_len {α : Type} [DecidableEq α] : ∀ (L K : List α), L.Nodup → (∀ x ∈ L, x ∈ K) → L.length ≤ K.length := by
  intro L
  induction L with
  | nil => intro K _ _; exact Nat.zero_le _
  | cons x L ih =>
    intro K hn h
    have hx := h x (by simp)
    have hn2 := List.nodup_cons.1 hn
    have := ih (K.erase x) hn2.2 (fun y hy => (List.mem_erase_of_ne (fun e => hn2.1 (by rw [← e]; exact hy))).2 (h y (by simp [hy])))
    rw [List.length_erase_of_mem hx] at this
    have hp : 0 < K.length := List.length_pos_of_mem hx
    simp only [List.length_cons]
    omega
theorem skey_same (s : ByteArray) : (skey s).sameKey (skey s) = true := by simp [skey, Lit.sameKey]
/-- What stands while a map is read into a list. -/
structure NamedSt (f : ByteArray → Option Int) (left : Lit → Bool) (R : List Nm) : Prop where
  got : ∀ x ∈ R, f x.key = some x.many ∧ left (skey x.key) = false
  nd : R.Pairwise (fun a b => a.key ≠ b.key)
  has : ∀ s v, f s = some v → left (skey s) = false → ∃ x ∈ R, x.key = s ∧ x.many = v
theorem NamedSt.start {f : ByteArray → Option Int} {left : Lit → Bool} (h : ∀ s, left (skey s) = (f s).isSome) : NamedSt f left [] :=
  ⟨fun x hx => (by cases hx), List.Pairwise.nil, fun s v h1 h2 => by rw [h s, h1] at h2; cases h2⟩
theorem NamedSt.next {f : ByteArray → Option Int} {left : Lit → Bool} {R : List Nm} (h : NamedSt f left R) (s : ByteArray) (x : Int) (h1 : f s = some x) (h2 : left (skey s) = true) : NamedSt f (fun z => left z && !z.sameKey (skey s)) (R ++ [⟨s, x⟩]) := by
  refine ⟨fun y hy => ?_, ?_, fun t v ht hl => ?_⟩
  · rcases List.mem_append.1 hy with hy | hy
    · have := h.got y hy
      exact ⟨this.1, by show (left (skey y.key) && _) = false; rw [this.2]; rfl⟩
    · have : y = ⟨s, x⟩ := by simpa using hy
      subst this
      exact ⟨h1, by show (left (skey s) && !(skey s).sameKey (skey s)) = false; rw [skey_same]; simp⟩
  · rw [List.pairwise_append]
    refine ⟨h.nd, by simp, fun a ha b hb e => ?_⟩
    have : b = ⟨s, x⟩ := by simpa using hb
    subst this
    have := (h.got a ha).2
    rw [e] at this
    rw [this] at h2
    cases h2
  · have hl : (left (skey t) && !(skey t).sameKey (skey s)) = false := hl
    by_cases e : t = s
    · subst e
      rw [h1] at ht
      cases ht
      exact ⟨⟨t, x⟩, by simp, rfl, rfl⟩
    · have hne : skey t ≠ skey s := fun e2 => e (skey_inj e2)
      rw [Maps.sameKey_ne hne] at hl
      obtain ⟨y, hy, e1⟩ := h.has t v ht (by simpa using hl)
      exact ⟨y, List.mem_append_left _ hy, e1⟩
theorem NamedSt.le {f : ByteArray → Option Int} {left : Lit → Bool} {R : List Nm} (h : NamedSt f left R) (K : List ByteArray) (hK : ∀ s v, f s = some v → s ∈ K) : R.length ≤ K.length := by
  have := sub_len (R.map Nm.key) K (by unfold List.Nodup; rw [List.pairwise_map]; exact h.nd) (fun y hy => by
    obtain ⟨x, hx, rfl⟩ := List.mem_map.1 hy
    exact hK _ _ (h.got x hx).1)
  simpa using this
/-- A map's entries, sorted by name. -/
structure NamesOf (f : ByteArray → Option Int) (O : List Nm) : Prop where
  srt : O.Pairwise keyLt
  got : ∀ x ∈ O, f x.key = some x.many
  has : ∀ s v, f s = some v → ∃ x ∈ O, x.key = s ∧ x.many = v
  len : O.length ≤ 12
def nmK (x y : Nm) : Int := cmpB x.key y.key
theorem nmK_ok : CmpOk nmK := by
  refine ⟨fun a b h => ?_, fun a b c h1 h2 h3 => ?_⟩
  · unfold nmK at *
    rw [cmpB_anti a.key b.key]; omega
  · unfold nmK at *
    rw [cmpB_neg] at h1 h2 h3
    rcases compareBytes_sign b.key.data.toList a.key.data.toList with ⟨_, g⟩ | ⟨_, g⟩ | ⟨_, g⟩
    · exact h1 g
    · rw [g] at h2; exact h2 h3
    · exact h2 (ltL_trans h3 g)
theorem NamedSt.sorted {f : ByteArray → Option Int} {left : Lit → Bool} {R O : List Nm} (h : NamedSt f left R) (hd : ∀ kl, left kl = false) (hp : O.Perm R) (hs : Srt nmK nmD O O.length) (hl : R.length ≤ 12) : NamesOf f O := by
  have nd : O.Pairwise (fun a b => a.key ≠ b.key) := (hp.symm.pairwise_iff (fun hxy e => hxy e.symm)).1 h.nd
  refine ⟨?_, fun x hx => (h.got x (hp.mem_iff.1 hx)).1, fun s v hv => ?_, by rw [hp.length_eq]; exact hl⟩
  · rw [List.pairwise_iff_getElem]
    intro i j hi hj hij
    have h1 := hs i j hij hj
    rw [getD_eq O j _ hj, getD_eq O i _ hi] at h1
    have h2 := (List.pairwise_iff_getElem.1 nd) i j hi hj hij
    have h3 : ¬ cmpB O[i].key O[j].key = 0 := fun e => h2 (cmpB_zero.1 e)
    unfold keyLt
    unfold nmK at h1
    rw [cmpB_anti O[i].key O[j].key] at h1
    omega
  · obtain ⟨x, hx, e⟩ := h.has s v hv (hd _)
    exact ⟨x, hp.mem_iff.2 hx, e⟩
theorem named1_fn : ∀ (args : Array Value) (w : World), (callFunc 120 args).run Try.prog w = .ok (.enter 120 args) w := fun _ _ => by kernel_rfl
theorem named1_any (x y : Nm) (w : World) : Calls Try.prog 120 #[.agg #[.string x.key, .int .i64 x.many], .agg #[.string y.key, .int .i64 y.many]] w fun e w' => e = .returned (.int .i64 (nmK x y)) ∧ w.grownBy w' none := by
  obtain ⟨x0, x1⟩ := x
  obtain ⟨y0, y1⟩ := y
  have g2 := gr_alloc (gr_alloc (gr_refl w none) (.cells #[.string x0, .int .i64 x1] 34)) (.cells #[.string y0, .int .i64 y1] 34)
  obtain ⟨hA, hB⟩ := heap_2 w (.cells #[.string x0, .int .i64 x1] 34) (.cells #[.string y0, .int .i64 y1] 34)
  obtain ⟨w2, hw2⟩ : ∃ w2, w2 = (w.alloc (.cells #[.string x0, .int .i64 x1] 34)).alloc (.cells #[.string y0, .int .i64 y1] 34) := ⟨_, rfl⟩
  rw [← hw2] at g2 hA hB
  have p0 := blkC hA 0 rfl
  have r0 := blkC hB 0 rfl
  have HW := Lib.hid hw2
  show Calls _ _ _ _ _
  clear hA hB hw2
  simp only
  go_enter Try.func120, Try.ntmps120
  go_wp2_with (fail)
  rw [← HW.out]
  go_wp2_with (fail)
  refine (compare_any x0 y0 w2).mono ?_
  rintro e w5 ⟨rfl, rfl⟩
  go_wp2_with (fail)
  go_ret
  exact ⟨rfl, g2⟩
set_option maxRecDepth 100000 in
set_option maxHeartbeats 2000000 in
theorem named_any (B n : Nat) (f : ByteArray → Option Int) (K : List ByteArray) (w : World) (hm : MapIs w B n f) (hK : ∀ s v, f s = some v → s ∈ K) (hKl : K.length ≤ 12) :
    Calls Try.prog 83 #[.map (some B)] w fun e w' => ∃ v O, e = .returned v ∧ w'.ownsRow w.heap.size 34 2 v O.length (flat encNm O) ∧ NamesOf f O ∧ w.grownBy w' none := by
  have hBl := hm.lt
  have HM := Lib.hid hm
  have HK := Lib.hid hK
  clear hm hK
  go_enter Try.func83, Try.ntmps83
  go_wp2_with (first | (at_range; refine wpList_rangeSI rfl _ rfl B n f rfl HM.out ?_; intro w5 left cnt hr hleft g5 hz5))
  go_frame
  have K0 : Hid (RangeIs w5 B w.heap.size n f left cnt ∧ NamedSt f left [] ∧ w.grownBy w5 none) := ⟨hr, NamedSt.start hleft, g5⟩
  have hz5' : w.heap.size + 1 ≤ w5.heap.size := by omega
  obtain ⟨ib, hib⟩ : ∃ b, b = w.heap.size := ⟨_, rfl⟩
  rw [← hib] at K0
  rw [← hib]
  have HIB := Lib.hid hib
  have hibB : B < ib := by omega
  have hibw : w.heap.size ≤ ib := by omega
  clear hr hleft g5 hz5 hib
  go_loopw [3, 8] (fun v _ wr => ∃ left cnt R, RangeIs wr B ib n f left cnt ∧ NamedSt f left R ∧ wr.ownsRow (ib + 1) 34 2 v R.length (flat encNm R) ∧ ib + 1 ≤ wr.heap.size ∧ w.grownBy wr none) (fun _ _ wr => wr.rangeLeft B ib)
  case atStart => exact ⟨_, _, [], K0.out.1, K0.out.2.1, World.ownsRow_nil _ _ _ _, by have := HIB.out; omega, K0.out.2.2⟩
  case round =>
    clear K0
    obtain ⟨left, cnt, R, hr, hN, hO, hzi, hgr⟩ := hrel
    obtain ⟨wi, rfl⟩ : ∃ wi : World, wi = wr := ⟨_, rfl⟩
    have hRl := hN.le K HK.out
    have HO := Lib.hid hO
    have HN := Lib.hid hN
    clear hO hN
    go_wp2_with (first | (at_next; refine wpList_nextSI rfl _ rfl B ib n f left cnt rfl hr ?_ ?_))
    · intro hdone
      have HGR := Lib.hid hgr
      obtain ⟨va, vc, rfl, -, -, -, -⟩ := own_shape HO.out
      have SF := Lib.hid (sortFNm_few 120 R.length nmK _ (ib + 1) R wi HO.out rfl (by omega) named1_fn nmK_ok (fun x y W _ _ _ => named1_any x y W))
      have HD := Lib.hid hdone
      have LT := Lib.hid HO.out.lt
      clear hr hgr hdone HO
      go_wp2_with (fail)
      refine SF.out.mono ?_
      rintro e w3 ⟨O, rfl, o3, hp3, hs3, g3⟩
      have hOl : O.length = R.length := hp3.length_eq
      have HNM : Hid (NamesOf f O) := HN.out.sorted HD.out hp3 (by rw [hOl]; exact hs3) (by omega)
      have HG3 := Lib.hid (gr_grown HGR.out g3 (fun q hq => by have := (LT.out q hq).1; omega))
      have ho3 : w3.ownsRow (ib + 1) 34 2 (.slice va R.length vc) O.length (flat encNm O) := by rw [hOl]; exact o3
      have HO3 := Lib.hid ho3
      clear SF hp3 hs3 g3 o3 ho3
      go_wp2_with (fail)
      go_ret
      exact ⟨_, O, rfl, own_base HO3.out (by omega), HNM.out, HG3.out⟩
    · intro s x w22 cnt' hfs hl2 hr22 hlt g22 hz22 hen
      have HN2 := Lib.hid (HN.out.next s x hfs hl2)
      have HO22 := Lib.hid (own_keepS HO.out g22 (by omega))
      have HG22 := Lib.hid (gr_grown hgr g22 (fun k hk => by cases hk; exact hibw))
      have HLT := Lib.hid hlt
      have HR22 := Lib.hid hr22
      have HRo := Lib.hid hr
      have hz23 : ib + 1 ≤ w22.heap.size := by omega
      clear hfs hl2 hlt g22 hz22 hr hgr hr22 HO HN
      go_wp2_with (at_builtin; refine wpList_app1F eNm rfl _ _ rfl (ib + 1) _ R.length (flat encNm R) rfl w22 #[.string s, .int .i64 x] rfl HO22.out _ rfl rfl rfl rfl (by omega) (by omega) ?_; intro v7 w7 o7 g7 hl7 hk7)
      have HO7 : Hid (w7.ownsRow (ib + 1) 34 2 v7 (R ++ [(⟨s, x⟩ : Nm)]).length (flat encNm (R ++ [⟨s, x⟩]))) := by
        show World.ownsRow _ _ _ _ _ _ _
        rw [List.length_append, flat_append, flat_one]; exact o7
      have HR7 := Lib.hid (HR22.out.keep g7 (fun e => by have := hl7 B e.symm; omega) (fun e => by have := hl7 ib e.symm; omega))
      have HG7 := Lib.hid (gr_grown HG22.out g7 (fun q hq => by have := hl7 q hq; omega))
      have hz7 := g7.size
      have hz77 : ib + 1 ≤ w7.heap.size := by omega
      clear o7 g7 hl7 hk7 HO22 HG22 hz7
      go_wp2_with (fail)
      go_roundw
      case rel => exact ⟨_, _, _, HR7.out, HN2.out, HO7.out, hz77, HG7.out⟩
      case measure => rw [HR7.out.left, HRo.out.left]; exact HLT.out
end Go.Proofs.Ytoiclngamaadgaa
