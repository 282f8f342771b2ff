/- depot.Shelf and depot.Thefts of right moves: what is counted as it is shows no theft. -/
import Derived.Test.YtoiclngamaadgaaPkMBb
import Derived.Test.YtoiclngamaadgaaPkMAy
import Derived.Test.YtoiclngamaadgaaPkMAv
import Derived.WalkLawsBesides
namespace Go.Proofs.Ytoiclngamaadgaa
open Go.RowKit
attribute [local go_sem ↓] Go.wp_at_zero Go.wp_at_succ

theorem nm_cellsT {w : World} {a : Option Addr} {p : List Nm} (h : CellsAt w a (flat encNm p)) (k : Nat) (hk : k < p.length) : ∃ b off, a = some ⟨b, off, none⟩ ∧ w.cell? ⟨b, off + k * 2, none⟩ = some (.string p[k].key) ∧ w.cell? ⟨b, off + k * 2 + 1, none⟩ = some (.int .i64 p[k].many) := by
  obtain ⟨b, off, rfl, hcs⟩ := flat_cells (enc := encNm) (m := 2) (fun _ => rfl) (by decide) h (by omega)
  exact ⟨b, off, rfl, by have := hcs k hk 0 _ rfl; simpa using this, by have := hcs k hk 1 _ rfl; simpa using this⟩
theorem bytesLess_inv : ∀ (x y : List UInt8), Op.bytesLess x y = true → x < y
  | [], [], h => by simp [Op.bytesLess] at h
  | _ :: _, [], h => by simp [Op.bytesLess] at h
  | [], _ :: _, _ => List.Lex.nil
  | a :: x, b :: y, h => by
    simp only [Op.bytesLess, Bool.or_eq_true, Bool.and_eq_true, decide_eq_true_eq, beq_iff_eq] at h
    rcases h with h | ⟨rfl, h⟩
    · exact List.Lex.rel h
    · exact List.Lex.cons (bytesLess_inv x y h)
theorem leS_of_lt {a b : ByteArray} (h : b.data.toList < a.data.toList) : (Op.bytesLess a.toList b.toList || a.toList == b.toList) = false := by
  rw [Bool.or_eq_false_iff, ByteArray.toList_eq, ByteArray.toList_eq]
  refine ⟨?_, ?_⟩
  · cases e : Op.bytesLess a.data.toList b.data.toList with
    | false => rfl
    | true => exact absurd (ltL_trans h (bytesLess_inv _ _ e)) (ltL_irrefl _)
  · refine beq_eq_false_iff_ne.2 (fun e => ?_)
    rw [e] at h
    exact ltL_irrefl _ h
theorem mvMap_mem {N : List Mv} {s : ByteArray} {x : Int} (hx : mvMap N s = some x) : s ∈ N.map Mv.ware := by
  unfold mvMap at hx
  split at hx
  · rename_i hy
    obtain ⟨y, hy, e⟩ := List.any_eq_true.1 hy
    have e : y.ware = s := by simpa using e
    exact List.mem_map.2 ⟨y, hy, e⟩
  · cases hx
def ShelfPost (L : List Mv) (w : World) (e : Ending) (w' : World) : Prop := ∃ v O, e = .returned (.tuple #[v, .int .i64 0]) ∧ w'.ownsRow w.heap.size 34 2 v O.length (flat encNm O) ∧ NamesOf (mvMap L) O ∧ w.grownBy w' none
set_option maxRecDepth 100000 in
theorem shelf_any (L : List Mv) (a : Option Addr) (c : Nat) (w : World) (h : CellsAt w a (flat encMv L)) (hok : MvsOk L) (hl : L.length ≤ 12) :
    Calls Try.prog 30 #[.slice a L.length c] w (ShelfPost L w) := by
  have CS := Lib.hid (checkShelf_ok L a c w h hok (by omega))
  have SM := Lib.hid (fun W (g : w.grownBy W none) => mvSums_any L a c W (h.keep0 g) hok.all (by omega))
  go_enter Try.func30, Try.ntmps30
  go_wp2_with (fail)
  refine CS.out.mono ?_
  rintro e w1 ⟨rfl, g1⟩
  go_wp2_with (fail)
  refine (SM.out w1 g1).mono ?_
  rintro e w2 ⟨rfl, hm2, g2⟩
  have G2 := Lib.hid (gr_trans g1 g2)
  have NM := Lib.hid (named_any w1.heap.size L.length (mvMap L) (L.map Mv.ware) w2 hm2 (fun s v e => mvMap_mem e) (by simpa using hl))
  clear hm2 g2 g1
  go_wp2_with (fail)
  refine NM.out.mono ?_
  rintro e w3 ⟨v, O, rfl, o3, hO, g3⟩
  have HO3 := Lib.hid (own_base o3 G2.out.size)
  have HNO := Lib.hid hO
  have G3 := Lib.hid (gr_trans G2.out g3)
  obtain ⟨va, vc, rfl, -, -, -, -⟩ := own_shape o3
  clear o3 hO g3 NM
  go_wp2_with (fail)
  go_ret2
  exact ⟨_, O, rfl, HO3.out, HNO.out, G3.out⟩
set_option maxRecDepth 100000 in
set_option maxHeartbeats 1000000 in
/-- Each element is deleted. -/
theorem deleteAll_Nm (F : FuncId) (xs : List Nm) (v : Value) (base : Nat) (w : World) (hown : w.ownsRow base 34 2 v xs.length (flat encNm xs)) (hl : xs.length ≤ 1000)
    (hE : ∀ (args : Array Value) (w : World), (callFunc F args).run Try.prog w = .ok (.enter F args) w)
    (hF : ∀ x ∈ xs, ∀ W, Calls Try.prog F #[.agg #[.string x.key, .int .i64 x.many]] W fun e w2 => e = .returned (.bool true) ∧ W.grownBy w2 none) :
    Calls Try.prog 87 #[v, .func (.func F) #[] #[]] w fun e w' => ∃ a c, e = .returned (.slice a 0 c) ∧ w.grownBy w' v.ownBlock := by
  obtain ⟨va, vc, rfl, _, _, hcc, _⟩ := own_shape hown
  have IX := Lib.hid (indexFunc_Nm0 F (fun _ => true) xs va vc w hcc (by omega) hE (fun x hx w1 _ => hF x hx w1))
  have HOWN := Lib.hid hown
  have HF := Lib.hid hF
  clear hown hcc hF
  go_enter Try.func87, Try.ntmps87
  rcases Nat.eq_zero_or_pos xs.length with h0 | h0
  · have e0 : findA (fun _ => true) xs = -1 := findA_none (fun j hj => by omega)
    rw [e0] at IX
    have H0 := Lib.hid h0
    clear e0 h0
    go_wp2_with (fail)
    refine IX.out.mono ?_
    rintro e w1 ⟨rfl, g1⟩
    go_wp2_with (fail)
    go_ret
    exact ⟨va, vc, by rw [H0.out]; rfl, gr_weak g1 _⟩
  · have e0 : findA (fun _ => true) xs = 0 := findA_at (k := 0) h0 rfl (fun j hj => by omega)
    rw [e0] at IX
    clear e0
    go_wp2_with (fail)
    refine IX.out.mono ?_
    rintro e w1 ⟨rfl, g1⟩
    have HO1 := Lib.hid (own_keep0 HOWN.out g1)
    have HG1 := Lib.hid g1
    clear g1 IX
    obtain ⟨g, gc, hge, hgb, _, _, _⟩ := own_some HO1.out h0
    cases hge
    go_wp2_with (fail)
    go_loopw [5, 6] (fun z i wr => ∃ k : Nat, k + 1 ≤ xs.length ∧ i = .int .i64 (k + 1 : Nat) ∧ z = .int .i64 0 ∧ w1.grownBy wr none) (fun _ i _ => xs.length - (intOf i).toNat)
    case atStart => exact ⟨0, h0, rfl, rfl, gr_refl _ _⟩
    case round =>
      obtain ⟨k, hk, rfl, rfl, hgr⟩ := hrel
      obtain ⟨wo, rfl⟩ : ∃ wo : World, wo = wr := ⟨_, rfl⟩
      have o5 := own_keep0 HO1.out hgr
      by_cases hlt : k + 1 < xs.length
      · obtain ⟨_, _, e, _, _, hcc, _⟩ := own_shape o5
        cases e
        obtain ⟨_, _, e, d0, d1⟩ := nm_cellsT hcc (k + 1) hlt
        cases e
        have HFX := Lib.hid (HF.out xs[k + 1] (List.getElem_mem _))
        obtain ⟨x, hx⟩ : ∃ x, x = xs[k + 1] := ⟨_, rfl⟩
        rw [← hx] at d0 d1 HFX
        obtain ⟨s, m⟩ := x
        simp only [Nat.zero_add] at d0 d1 HFX
        have hq2 : (0 : Int) ≤ (k : Int) + 1 := by omega
        have hq3 : (k : Int) + 1 < (xs.length : Int) := by omega
        have hq4 : ((k : Int) + 1).toNat = k + 1 := by omega
        have HGR := Lib.hid hgr
        clear hx hcc o5 hgr
        go_wp2_with (fail)
        refine (HFX.out _).mono ?_
        rintro e w6 ⟨rfl, g6⟩
        have G6 := Lib.hid (gr_trans (gr_alloc HGR.out _) g6)
        clear g6
        go_wp2_with (fail)
        go_roundw
        case rel => exact ⟨k + 1, by omega, by go_num, rfl, G6.out⟩
        case measure => simp [intOf]; omega
      · have HO5 := Lib.hid o5
        have HG5 := Lib.hid (gr_trans HG1.out hgr)
        have hd2 : decide ((k : Int) + 1 < (xs.length : Int)) = false := decide_eq_false (by omega)
        clear o5 hgr
        go_wp2_with (refine wpList_clear eNm rfl _ rfl base g xs.length vc 0 (flat encNm xs) HO5.out h0 _ rfl (by decide) ?_; intro w9 o9 g9)
        have HG9 := Lib.hid (gr_trans (gr_weak HG5.out (some g)) g9)
        clear o9 g9
        go_wp2_with (fail)
        go_ret
        exact ⟨_, _, rfl, HG9.out⟩
theorem thefts1_fn : ∀ (args : Array Value) (w : World), (callFunc 88 args).run Try.prog w = .ok (.enter 88 args) w := fun _ _ => by kernel_rfl
theorem thefts1_any (x : Nm) (w : World) : Calls Try.prog 88 #[.agg #[.string x.key, .int .i64 x.many]] w fun e w' => e = .returned (.bool (x.many == 0)) ∧ w.grownBy w' none := by
  obtain ⟨x0, x1⟩ := x
  simp only
  have hg := gr_alloc (gr_refl w none) (.cells #[.string x0, .int .i64 x1] 34)
  go_enter Try.func88, Try.ntmps88
  go_wp2_with (fail)
  go_ret
  exact ⟨rfl, hg⟩
def paid (f : ByteArray → Option Int) (O : List Nm) (s : ByteArray) : Option Int := if O.any (fun x => decide (x.key = s)) = true then some 0 else f s
theorem paid_next (f : ByteArray → Option Int) (O : List Nm) (k : Nat) (hk : k < O.length) : (fun t => if t = O[k].key then some 0 else paid f (O.take k) t) = paid f (O.take (k + 1)) := by
  funext t
  rw [nm_snoc O k hk]
  unfold paid
  rw [List.any_append]
  by_cases h : t = O[k].key
  · subst h; simp
  · have h2 : ¬ O[k].key = t := fun e => h e.symm
    simp [h, h2]
theorem NamesOf.paid_get {f : ByteArray → Option Int} {O : List Nm} (h : NamesOf f O) (k : Nat) (hk : k < O.length) : paid f (O.take k) O[k].key = some O[k].many := by
  unfold paid
  rw [if_neg, h.got _ (List.getElem_mem hk)]
  intro e
  obtain ⟨y, hy, e1⟩ := List.any_eq_true.1 e
  have e1 : y.key = O[k].key := by simpa using e1
  obtain ⟨j, hj, rfl⟩ := List.mem_take_iff_getElem.1 hy
  have hlt := (List.pairwise_iff_getElem.1 h.srt) j k (by omega) hk (by omega)
  unfold keyLt at hlt
  rw [e1, cmpB_neg] at hlt
  exact ltL_irrefl _ hlt
theorem NamesOf.paid_all {f : ByteArray → Option Int} {O O2 : List Nm} (h : NamesOf f O) (h2 : NamesOf (paid f O) O2) : ∀ x ∈ O2, x.many = 0 := by
  intro x hx
  have h3 := h2.got x hx
  unfold paid at h3
  split at h3
  · injection h3 with h3
    exact h3.symm
  · rename_i hn
    obtain ⟨y, hy, e, _⟩ := h.has _ _ h3
    exact absurd (List.any_eq_true.2 ⟨y, hy, by simpa using e⟩) hn
theorem paid_mem {f : ByteArray → Option Int} {O : List Nm} (h : NamesOf f O) {K : List ByteArray} (hK : ∀ s v, f s = some v → s ∈ K) : ∀ s v, paid f O s = some v → s ∈ K := by
  intro s v hs
  unfold paid at hs
  split at hs
  · rename_i hy
    obtain ⟨y, hy, e⟩ := List.any_eq_true.1 hy
    have e : y.key = s := by simpa using e
    rw [← e]
    exact hK _ _ (h.got y hy)
  · exact hK _ _ hs
set_option maxRecDepth 100000 in
set_option maxHeartbeats 2000000 in
theorem thefts_none (L : List Mv) (a : Option Addr) (c : Nat) (O : List Nm) (b0 : Option Addr) (d : Nat) (w : World) (h : CellsAt w a (flat encMv L)) (hb : CellsAt w b0 (flat encNm O)) (hok : MvsOk L) (hl : L.length ≤ 12) (hO : NamesOf (mvMap L) O) (hp : ∀ x ∈ O, 0 ≤ x.many) :
    Calls Try.prog 35 #[.slice a L.length c, .slice b0 O.length d] w fun e w' => ∃ a c, e = .returned (.tuple #[.slice a 0 c, .int .i64 0]) ∧ w.grownBy w' none := by
  have CS := Lib.hid (checkShelf_ok L a c w h hok (by omega))
  have SM := Lib.hid (fun W (g : w.grownBy W none) => mvSums_any L a c W (h.keep0 g) hok.all (by omega))
  have HB := Lib.hid hb
  have HO := Lib.hid hO
  have HP := Lib.hid hp
  have HOK := Lib.hid hok
  have hOl := hO.len
  have d200 : decide ((200 : Int) < (O.length : Int)) = false := decide_eq_false (by omega)
  clear h hb hok hO hp
  go_enter Try.func35, Try.ntmps35
  go_wp2_with (fail)
  refine CS.out.mono ?_
  rintro e w1 ⟨rfl, g1⟩
  go_wp2_with (fail)
  refine (SM.out w1 g1).mono ?_
  rintro e w2 ⟨rfl, hm2, g2⟩
  have G2 := Lib.hid (gr_trans g1 g2)
  obtain ⟨B, hB⟩ : ∃ B, B = w1.heap.size := ⟨_, rfl⟩
  rw [← hB] at hm2
  rw [← hB]
  have hBw : w.heap.size ≤ B := by rw [hB]; exact g1.size
  have K0 : Hid (MapIs w2 B L.length (paid (mvMap L) (O.take 0))) := hm2
  clear hm2 g2 g1 hB CS SM
  go_wp2_with (fail)
  go_loopw [26] (fun i wr => ∃ k : Nat, k ≤ O.length ∧ i = .int .i64 k ∧ MapIs wr B (L.length + k) (paid (mvMap L) (O.take k)) ∧ w.grownBy wr none) (fun i _ => O.length - (intOf i).toNat)
  case atStart => exact ⟨0, Nat.zero_le _, rfl, K0.out, G2.out⟩
  case round =>
    clear K0 G2
    obtain ⟨k, hk, rfl, hmp, hgr⟩ := hrel
    obtain ⟨wo, rfl⟩ : ∃ wo : World, wo = wr := ⟨_, rfl⟩
    by_cases hlt : k < O.length
    · have hcb := HB.out.keep0 hgr
      obtain ⟨b, off, rfl, d0, d1⟩ := nm_cellsT hcb k hlt
      have hgot := HO.out.got _ (List.getElem_mem hlt)
      obtain ⟨kk, ks, kv⟩ := mvMap_key HOK.out.all hgot
      have hpos := HP.out _ (List.getElem_mem hlt)
      have hbd := mvSum_bd L O[k].key HOK.out.all
      rw [← kv] at hbd
      have hpg := HO.out.paid_get k hlt
      have hnx := paid_next (mvMap L) O k hlt
      have PRV : Hid (∀ i, ∀ hi : k = i + 1, ∃ y : ByteArray, wo.cell? ⟨b, off + i * 2, none⟩ = some (.string y) ∧ y.data.toList < O[k].key.data.toList) := fun i hi => by
        subst hi
        obtain ⟨_, _, e, e0, -⟩ := nm_cellsT hcb i (by omega)
        cases e
        have h1 := (List.pairwise_iff_getElem.1 HO.out.srt) i (i + 1) (by omega) hlt (by omega)
        unfold keyLt at h1
        rw [cmpB_neg] at h1
        exact ⟨_, e0, h1⟩
      obtain ⟨x, hx⟩ : ∃ x, x = O[k] := ⟨_, rfl⟩
      rw [← hx] at d0 d1 kk ks hbd hpg hnx PRV hpos
      obtain ⟨S, M⟩ := x
      simp only at d0 d1 kk ks hbd hpg hnx PRV hpos
      obtain ⟨f, hf⟩ : ∃ f, f = paid (mvMap L) (O.take k) := ⟨_, rfl⟩
      rw [← hf] at hmp hpg hnx
      have HNX := Lib.hid hnx
      have hget : Hid ((f S).getD 0 = M) := by show _ = _; rw [hpg]; rfl
      have hmo : (decide (M < 0) || decide (1000000 < M)) = false := by simp; omega
      have g1 := gr_alloc (gr_refl wo none) (.cells #[.string S, .int .i64 M] 34)
      have hQ := heap_alloc_new wo (.cells #[.string S, .int .i64 M] 34)
      have HM1 := Lib.hid (hmp.keep0 g1)
      have HG1 := Lib.hid (gr_trans hgr g1)
      have PRV1 : Hid (∀ i, k = i + 1 → ∃ y : ByteArray, (wo.alloc (.cells #[.string S, .int .i64 M] 34)).cell? ⟨b, off + i * 2, none⟩ = some (.string y) ∧ y.data.toList < S.data.toList) := fun i hi => by
        obtain ⟨y, e0, h1⟩ := PRV.out i hi
        exact ⟨y, (gr_cell g1 (lt_of_cell e0)).trans e0, h1⟩
      clear hx hf hmp hgr hpg hnx hgot kv hcb PRV hbd hpos
      go_wp2_with (fail)
      obtain ⟨w3, hw3⟩ : ∃ w3, w3 = wo.alloc (.cells #[.string S, .int .i64 M] 34) := ⟨_, rfl⟩
      rw [← hw3] at hQ HM1 HG1 PRV1
      rw [← hw3]
      obtain ⟨Q, hQe⟩ : ∃ Q, Q = wo.heap.size := ⟨_, rfl⟩
      rw [← hQe] at hQ
      rw [← hQe]
      have q0 := blkC hQ 0 rfl
      have q1 := blkC hQ 1 rfl
      clear hw3 hQe hQ d0 d1 g1
      refine (key_any S w3 (by omega)).mono ?_
      rintro e w9 ⟨rfl, rfl⟩
      rw [kk]
      go_wp2_with (fail)
      have REST : ∃ bv : Bool, bv = false := ⟨false, rfl⟩
      clear REST
      rcases Nat.eq_zero_or_pos k with hk0 | hk0
      · subst hk0
        have hz : decide ((0 : Int) < 0) = false := by decide
        have gq0 := grew_cell q0
        have gq1 := grew_cell q1
        clear q0 q1
        refine wp_region_grew (by kernel_rfl) (by kernel_rfl) ?_
        repeat (go_big_quiet_step (fail))
        refine wpQuiet_nil ?_
        rintro wq ⟨nn, rfl⟩
        have q0 := gq0 nn
        have q1 := gq1 nn
        have HM4 := Lib.hid (HM1.out.keep0 nn.gr)
        have HG4 := Lib.hid (gr_trans HG1.out nn.gr)
        obtain ⟨w4, hw4⟩ : ∃ wn, wn = nn.w := ⟨_, rfl⟩
        rw [← hw4] at q0 q1 HM4 HG4
        rw [← hw4]
        clear hw4 gq0 gq1 HM1 HG1 PRV1
        go_wp2_with (fail)
        refine (out_any M 0 1000000 w4).mono ?_
        rintro e w9 ⟨rfl, rfl⟩
        rw [hmo]
        have hMM : M - M = 0 := by omega
        go_wp2_with (first
          | (at_lookup; refine wpList_getSI rfl _ _ rfl B (L.length + 0) f rfl HM4.out S rfl (by omega) ?_; rw [hget.out])
          | (at_mapUpdate; refine wpList_putSI rfl _ _ _ rfl B (L.length + 0) f rfl HM4.out (by omega) S rfl (by omega) 0 (by first | rfl | (simp; done)) (by omega) ?_; intro w6 hm6 g6; rw [HNX.out] at hm6; have HM6 := Lib.hid hm6; have HG6 := Lib.hid g6; clear hm6 g6))
        go_roundw
        case rel => exact ⟨0 + 1, by omega, by go_num, HM6.out, gr_grown HG4.out HG6.out (fun q hq => by cases hq; exact hBw)⟩
        case measure => simp [intOf]; omega
      · obtain ⟨i, hi⟩ : ∃ i, i = k - 1 := ⟨_, rfl⟩
        have hik : k = i + 1 := by omega
        subst hik
        obtain ⟨y, e0, hyl⟩ := PRV1.out i rfl
        have hle := leS_of_lt hyl
        have hi1 : ((i : Int) + 1 - 1) = i := by omega
        have hwi : IntKind.i64.wrap (((i : Int) + 1) - 1) = i := by rw [hi1]; exact IntWalk.i64_in _ (by omega)
        have hq0 : (0 : Int) ≤ (i : Int) := by omega
        have hq1 : (i : Int) < (O.length : Int) := by omega
        have hq5 : decide ((0 : Int) < (i : Int) + 1) = true := decide_eq_true (by omega)
        have gq0 := grew_cell q0
        have gq1 := grew_cell q1
        have ge0 := grew_cell e0
        clear q0 q1 e0 PRV1 hi hi1 hyl
        refine wp_region_grew (by kernel_rfl) (by kernel_rfl) ?_
        repeat (go_big_quiet_step (fail))
        refine wpQuiet_nil ?_
        rintro wq ⟨nn, rfl⟩
        have q0 := gq0 nn
        have q1 := gq1 nn
        have HM4 := Lib.hid (HM1.out.keep0 nn.gr)
        have HG4 := Lib.hid (gr_trans HG1.out nn.gr)
        obtain ⟨w4, hw4⟩ : ∃ wn, wn = nn.w := ⟨_, rfl⟩
        rw [← hw4] at q0 q1 HM4 HG4
        rw [← hw4]
        clear hw4 gq0 gq1 ge0 HM1 HG1 hle hwi
        go_wp2_with (fail)
        refine (out_any M 0 1000000 w4).mono ?_
        rintro e w9 ⟨rfl, rfl⟩
        rw [hmo]
        have hMM : M - M = 0 := by omega
        go_wp2_with (first
          | (at_lookup; refine wpList_getSI rfl _ _ rfl B (L.length + (i + 1)) f rfl HM4.out S rfl (by omega) ?_; rw [hget.out])
          | (at_mapUpdate; refine wpList_putSI rfl _ _ _ rfl B (L.length + (i + 1)) f rfl HM4.out (by omega) S rfl (by omega) 0 (by first | rfl | (simp; done)) (by omega) ?_; intro w6 hm6 g6; rw [HNX.out] at hm6; have HM6 := Lib.hid hm6; have HG6 := Lib.hid g6; clear hm6 g6))
        go_roundw
        case rel => exact ⟨i + 1 + 1, by omega, by go_num, HM6.out, gr_grown HG4.out HG6.out (fun q hq => by cases hq; exact hBw)⟩
        case measure => simp [intOf]; omega
    · obtain rfl : k = O.length := by omega
      rw [List.take_length] at hmp
      have NM := Lib.hid (named_any B _ (paid (mvMap L) O) (L.map Mv.ware) wo hmp (paid_mem HO.out (fun s v e => mvMap_mem e)) (by simpa using hl))
      have HGR := Lib.hid hgr
      clear hmp hgr
      go_wp2_with (fail)
      refine NM.out.mono ?_
      rintro e w3 ⟨v, O2, rfl, o3, hO2, g3⟩
      have hz := HO.out.paid_all hO2
      have hO2l := hO2.len
      have DA := Lib.hid (deleteAll_Nm 88 O2 v wo.heap.size w3 o3 (by omega) thefts1_fn (fun x hx W => (thefts1_any x W).mono (fun e w' h => ⟨by rw [h.1, hz x hx]; rfl, h.2⟩)))
      have G3 := Lib.hid (gr_trans HGR.out g3)
      have LT := Lib.hid o3.lt
      have hzw := HGR.out.size
      clear o3 hO2 g3 hz NM
      go_wp2_with (fail)
      refine DA.out.mono ?_
      rintro e w4 ⟨ra, rc, rfl, g4⟩
      have G4 := Lib.hid (gr_grown G3.out g4 (fun q hq => by have := (LT.out q hq).1; omega))
      clear g4
      go_wp2_with (fail)
      go_ret2
      exact ⟨_, _, rfl, G4.out⟩
end Go.Proofs.Ytoiclngamaadgaa
