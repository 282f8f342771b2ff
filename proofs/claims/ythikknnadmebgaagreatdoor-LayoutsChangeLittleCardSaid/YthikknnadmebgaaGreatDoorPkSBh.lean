/- shelf.Arrange of right arguments. -/
import Derived.Test.YthikknnadmebgaaGreatDoorPkSBc
import Derived.Test.YthikknnadmebgaaGreatDoorPkSAs
import Derived.Test.YthikknnadmebgaaGreatDoorPkSAb
import Derived.Deep.RegionHeld3
import Derived.Test.YthikknnadmebgaaGreatDoorPkSAa
import Derived.Test.YthikknnadmebgaaGreatDoorPkSAe
namespace Go.Proofs.YthikknnadmebgaaGreatDoor
open Go.RowKit
attribute [local go_sem ↓] Go.wp_at_zero Go.wp_at_succ

theorem bytes_eqA (a b : ByteArray) : (a.toList == b.toList) = true → a = b := by
  intro h
  have h := eq_of_beq h
  rw [ByteArray.toList_eq, ByteArray.toList_eq] at h
  cases a; cases b
  simp at h
  rw [h]
theorem findA_orA {α : Type} (P : α → Bool) (xs : List α) : findA P xs = -1 ∨ ∃ (k : Nat) (hk : k < xs.length), findA P xs = k ∧ P xs[k] = true := by
  rcases Nat.lt_or_ge (xs.findIdx P) xs.length with h | h
  · refine .inr ⟨xs.findIdx P, h, ?_, List.findIdx_getElem⟩
    unfold findA
    rw [if_pos h]
  · refine .inl ?_
    unfold findA
    rw [if_neg (by omega)]
theorem offIx_key (os : List Offer) (y : ByteArray) (j : Nat) (h : offIx os y = (j : Int)) : ∃ hj : j < os.length, os[j].key = y := by
  unfold offIx at h
  rcases findA_orA (fun o : Offer => o.key.toList == y.toList) os with e | ⟨k, hk, e, hp⟩
  · rw [e] at h; omega
  · rw [e] at h
    have : k = j := by omega
    subst this
    exact ⟨hk, bytes_eqA _ _ hp⟩
theorem own_blkA {w : World} {base e size n : Nat} {v : Value} {xs : List Value} (h : w.ownsRow base e size v n xs) {z : Nat} (hz : v.ownBlock = some z) : ∃ cs, w.heap[z]? = some (.cells cs e (0, 0)) := by
  rcases h.2 with ⟨rfl, _⟩ | ⟨g', cap, cur, rfl, _, hh, _⟩
  · simp [Value.ownBlock] at hz
  · simp [Value.ownBlock] at hz
    subst hz
    exact ⟨_, hh⟩
theorem empty_e0 {y : ByteArray} (h : y.toList.isEmpty = true) : y = e0B := by
  rw [ByteArray.toList_eq] at h
  cases y with
  | mk d =>
    have : d.toList = [] := by simpa using h
    have : d = #[] := by simpa using this
    rw [this]
theorem strs_setA (l : List ByteArray) (k : Nat) (x : ByteArray) : (strs l).set k (.string x) = strs (l.set k x) := by simp [strs, List.map_set]
theorem ints_setA (l : List Int) (k : Nat) (x : Int) : (ints l).set k (.int .i64 x) = ints (l.set k x) := by simp [ints, List.map_set]
/-- Right arguments of Arrange. -/
structure ArrOk (os : List Offer) (xs : List ByteArray) (cs : List Int) : Prop where
  ok : OffersOk os
  nd : (e0B :: keysOf os).Nodup
  lf : listF os xs = 0
  co : CountsOk os cs
  tot : cs.sum ≤ (xs.length : Int)
  l1 : 1 ≤ xs.length
theorem ArrOk.l60 {os : List Offer} {xs : List ByteArray} {cs : List Int} (h : ArrOk os xs cs) : xs.length ≤ 60 ∧ xs.any (strangeB os) = false := by
  have h1 := h.lf
  unfold listF at h1
  split at h1
  · cases h1
  · refine ⟨by omega, ?_⟩
    cases hb : xs.any (strangeB os) with
    | true => rw [hb] at h1; cases h1
    | false => rfl
theorem ArrOk.c {os : List Offer} {xs : List ByteArray} {cs : List Int} (h : ArrOk os xs cs) : ArC (keysOf os) xs cs := by
  have hkl : (keysOf os).length = os.length := by unfold keysOf; rw [List.length_map]
  refine ⟨h.nd, fun y hy => ?_, by rw [hkl]; exact h.co.len, fun o ho => (h.co.all o (by rw [← hkl]; exact ho)).1, h.tot⟩
  have h1 := List.any_eq_false.1 h.l60.2 y hy
  unfold strangeB at h1
  cases he : y.toList.isEmpty with
  | true => rw [empty_e0 he]; exact List.mem_cons_self ..
  | false =>
    rw [he] at h1
    simp at h1
    obtain ⟨j, hj⟩ : ∃ j : Nat, offIx os y = (j : Int) := ⟨(offIx os y).toNat, by omega⟩
    obtain ⟨hjl, e⟩ := offIx_key os y j hj
    refine List.mem_cons_of_mem _ ?_
    rw [← e]
    exact List.mem_map_of_mem (List.getElem_mem hjl)
theorem keysOf_get (os : List Offer) (o : Nat) (h : o < (keysOf os).length) : (keysOf os)[o] = (os[o]'(by unfold keysOf at h; simpa using h)).key := by
  simp [keysOf]
set_option maxRecDepth 100000 in
set_option maxHeartbeats 4000000 in
theorem arrange_any (os : List Offer) (xs : List ByteArray) (cs : List Int) (hA : ArrOk os xs cs) (a xa ca : Option Addr) (vs : List OV) (c xc cc : Nat) (w : World) (h : OffsAt w a vs os) (hx : CellsAt w xa (strs xs)) (hc : CellsAt w ca (ints cs)) (hcn : ca = none → os.length = 0 ∧ cc = 0) :
    Calls Tryz.prog 27 #[.slice a os.length c, .slice xa xs.length xc, .slice ca os.length cc] w fun e w' => ∃ v A, e = .returned (.tuple #[v, .int .i64 0]) ∧ ArrIs (keysOf os) xs cs A ∧ w'.ownsRow w.heap.size 9 1 v xs.length (strs A) ∧ w.grownBy w' none := by
  have hol := hA.ok.len
  have hcl := hA.co.len
  obtain ⟨h60, hst⟩ := hA.l60
  have hl1 := hA.l1
  have C := Lib.hid hA.c
  have hkl : (keysOf os).length = os.length := by unfold keysOf; rw [List.length_map]
  have HKL := Lib.hid hkl
  have HA := Lib.hid hA
  have HC := Lib.hid hc
  have HCN := Lib.hid hcn
  have H := Lib.hid h
  have HX := Lib.hid hx
  have HST := Lib.hid hst
  have HCL := Lib.hid hcl
  have hcsum : ∀ x ∈ cs, -1000000000000 ≤ x ∧ x ≤ 1000000000000 := by
    intro x hx
    obtain ⟨i, hi, rfl⟩ := List.mem_iff_getElem.1 hx
    have h1 := hA.co.all i (by omega)
    have h2 := (hA.ok.prof os[i] (List.getElem_mem _)).2.1
    rw [getD_eq cs i 0 hi] at h1
    omega
  have hct := shelfTotal_any cs ca cc
  have HCS := Lib.hid hcsum
  have htot := hA.tot
  clear h hx hc hcn hA hst hkl hcl hcsum hct
  go_enter Tryz.func27, Tryz.ntmps27
  go_wp2_with (fail)
  refine (counts_any os xs a xa vs c xc w H.out HA.out.ok HX.out (by omega)).mono ?_
  rintro e w1 ⟨v1, n1, L1, rfl, ho1, _, g1⟩
  rw [HA.out.lf]
  clear ho1
  go_wp2_with (fail)
  refine (countsFault_ok os cs a ca vs c cc w1 (H.out.keep0 g1) (HC.out.keep0 g1) HA.out.co (by omega)).mono ?_
  rintro e w2 ⟨rfl, rfl⟩
  go_wp2_with (fail)
  have ht := shelfTotal_any cs ca cc w1 (HC.out.keep0 g1) (by rw [HCL.out]; omega) HCS.out
  rw [HCL.out] at ht
  refine ht.mono ?_
  rintro e w2 ⟨rfl, g2⟩
  have g2 := gr_trans g1 g2
  have dt : decide ((xs.length : Int) < cs.sum) = false := decide_eq_false (by omega)
  clear g1 ht
  go_wp2_with (fail)
  refine (cloneInt_any ca os.length cc (ints cs) w2 (by simp [ints, HCL.out]) (HC.out.keep0 g2) HCN.out (ints_one _) (by omega)).mono ?_
  rintro e w3 ⟨v3, rfl, ho3, g3⟩
  have hz := g3.size
  have hz2 := g2.size
  have g3 := gr_trans g2 g3
  have HO3 := Lib.hid (own_base ho3 hz2)
  obtain ⟨la, lc, rfl, _, _, cL, _⟩ := own_shape ho3
  clear ho3 cL
  have hle : w.heap.size ≤ w3.heap.size := by omega
  clear g2 hz hz2 dt
  go_wp2_with (refine wpList_mkZ w3 eStr rfl (by decide) rfl _ _ rfl w.heap.size _ xs.length rfl rfl rfl (by omega) hle ?_)
  intro w4 ho4 g4
  obtain ⟨ob, hob⟩ : ∃ ob, ob = w3.heap.size := ⟨_, rfl⟩
  rw [← hob] at ho4
  rw [← hob]
  have e0 : (List.replicate xs.length (Value.string { data := #[] })) = strs (List.replicate xs.length e0B) := by simp [strs]
  rw [e0] at ho4
  have Z1 : Hid (Ar1 (keysOf os) xs cs 0 (List.replicate xs.length e0B) cs [] ∧ w4.ownsRow w.heap.size 9 1 (.slice (some ⟨ob, 0, none⟩) xs.length xs.length) xs.length (strs (List.replicate xs.length e0B)) ∧ w4.ownsRow w.heap.size 3 1 (.slice la os.length lc) os.length (ints cs) ∧ w.grownBy w4 none) := ⟨Ar1.start C.out, ho4, own_keep0 HO3.out g4, gr_trans g3 g4⟩
  have hlaw : ∀ b off, la = some ⟨b, off, none⟩ → b < w4.heap.size := fun b off e => by
    obtain ⟨_, _, he, _, _, _, hb⟩ := own_shape HO3.out
    cases he
    have := (hb b off e).2.1
    have := g4.size
    omega
  have hobw : ob < w4.heap.size := (ho4.lt ob rfl).2
  have HLA := Lib.hid hlaw
  have hlbw : ∀ q, (Value.slice la os.length lc).ownBlock = some q → q < w4.heap.size := fun q hq => by
    have h1 := (HO3.out.lt q hq).2
    have := g4.size
    omega
  have HLB := Lib.hid hlbw
  obtain ⟨wb, hwb⟩ : ∃ wb, wb = w4.heap.size := ⟨_, rfl⟩
  have hwbl : wb ≤ w4.heap.size := Nat.le_of_eq hwb
  rw [← hwb] at HLA HLB hobw
  have hwwb : w.heap.size ≤ wb := by have := g4.size; omega
  clear ho4 g4 e0 hob HO3 g3 hle hlaw hlbw hwb
  go_wp2_with (fail)
  go_loopw [13, 48] (fun f i wr => ∃ (k : Nat) (out : List ByteArray) (L F : List Int), i = .int .i64 k ∧ Ar1 (keysOf os) xs cs k out L F ∧ F.length ≤ k ∧ wr.ownsRow w.heap.size 9 1 (.slice (some ⟨ob, 0, none⟩) xs.length xs.length) xs.length (strs out) ∧ wr.ownsRow w.heap.size 3 1 (.slice la os.length lc) os.length (ints L) ∧ wr.ownsRow wb 3 1 f F.length (ints F) ∧ w.grownBy wr none ∧ wb ≤ wr.heap.size) (fun _ i _ => xs.length - (intOf i).toNat)
  case atStart => exact ⟨0, _, cs, [], rfl, Z1.out.1, Nat.le_refl _, Z1.out.2.1, Z1.out.2.2.1, World.ownsRow_nil _ _ _ _, Z1.out.2.2.2, hwbl⟩
  case round =>
    clear Z1
    obtain ⟨k, out, L, F, rfl, h1, hFk, hO, hLo, hF, hgr, hzw⟩ := hrel
    obtain ⟨wo, rfl⟩ : ∃ wo : World, wo = wr := ⟨_, rfl⟩
    obtain ⟨fa, fc, rfl, _, _, _, _⟩ := own_shape hF
    by_cases hlt : k < xs.length
    · obtain ⟨b, off, rfl, d0⟩ := str_cell (HX.out.keep0 hgr) k hlt
      have hst := strange_off HST.out k hlt
      rw [getD_eq xs k _ hlt] at d0 hst
      cases he : xs[k].toList.isEmpty with
      | true =>
        have hs := h1.skip hlt (empty_e0 he)
        have he2 : xs[k].toList = [] := by simpa using he
        obtain ⟨y, hy⟩ : ∃ y, y = xs[k] := ⟨_, rfl⟩
        rw [← hy] at d0 he2
        have K := Lib.hid (And.intro hs (And.intro hO (And.intro hLo (And.intro hF hgr))))
        clear hst he hs h1 hO hLo hF hgr hy
        go_wp2_with (fail)
        go_roundw
        case rel => exact ⟨k + 1, out, L, F, by go_num, K.out.1, by omega, K.out.2.1, K.out.2.2.1, K.out.2.2.2.1, K.out.2.2.2.2, hzw⟩
        case measure => simp [intOf]; omega
      | false =>
        have h0 := hst he
        obtain ⟨j, hj⟩ : ∃ j : Nat, offIx os xs[k] = (j : Int) := ⟨(offIx os xs[k]).toNat, by omega⟩
        obtain ⟨hjl, hkey⟩ := offIx_key os xs[k] j hj
        have hjk : j < (keysOf os).length := by rw [HKL.out]; exact hjl
        have hkk : xs[k] = (keysOf os)[j] := by rw [keysOf_get, hkey]
        have hcb := (HA.out.co.all j hjl).2
        have hpr := (HA.out.ok.prof os[j] (List.getElem_mem _)).2.1
        obtain ⟨hc1, hc2⟩ := h1.cnt j hjk
        have hn10 : L.getD j 0 ≤ 10 := by omega
        have he3 : ¬ xs[k].toList = [] := by intro e; rw [e] at he; cases he
        have KP := fun hL => h1.keep C.out hlt j hjk hkk hL
        have LP := fun hL => h1.lose hlt j hjk hkk hL
        rw [← hkk] at KP
        obtain ⟨y, hy⟩ : ∃ y, y = xs[k] := ⟨_, rfl⟩
        rw [← hy] at d0 he3 hj KP he
        have he2 : (!y.toList.isEmpty) = true := by rw [he]; rfl
        have OA := Lib.hid (offer_any y os a vs c wo (H.out.keep0 hgr) (by omega))
        have HJ := Lib.hid hj
        have HKP := Lib.hid KP
        have HLP := Lib.hid LP
        have HO := Lib.hid hO
        have HLo := Lib.hid hLo
        have HF := Lib.hid hF
        have HG := Lib.hid hgr
        have holn := h1.ol
        have hLl := h1.ll
        clear h1 hO hLo hF hgr hst h0 hj hkey hkk hcb hpr hc1 KP LP hy
        go_wp2_with (fail)
        refine OA.out.mono ?_
        rintro e w5 ⟨rfl, g5⟩
        rw [HJ.out]
        have HO5 := Lib.hid (own_keep0 HO.out g5)
        have HL5 := Lib.hid (own_keep0 HLo.out g5)
        have HF5 := Lib.hid (own_keep0 HF.out g5)
        have HG5 := Lib.hid (gr_trans HG.out g5)
        have hz5 : wb ≤ w5.heap.size := by have := g5.size; omega
        obtain ⟨lg, lcc, he5, hlgw, _, _, _⟩ := own_some HL5.out (by omega)
        cases he5
        obtain ⟨d1, t1, u1⟩ := own_int HL5.out j hjl
        have hlwb : lg < wb := HLA.out lg 0 rfl
        have c2 := HO5.out.cellAt k (by omega)
        rw [strs_get out k (by omega)] at c2
        have t2 := HO5.out.frozenAt k
        have hne : ob ≠ lg := by
          intro e
          have h1 := own_blkA HO5.out rfl
          have h2 := own_blkA HL5.out rfl
          obtain ⟨_, h1⟩ := h1
          obtain ⟨_, h2⟩ := h2
          rw [e, h2] at h1
          simp at h1
        have U1 := Lib.hid u1
        obtain ⟨n, hn⟩ : ∃ n, n = L.getD j 0 := ⟨_, rfl⟩
        rw [← hn] at d1 hn10 hc2
        have HN := Lib.hid hn
        clear g5 OA u1 hn HO HLo HF HG
        by_cases hpos : 0 < n
        · have dpos : decide (0 < n) = true := decide_eq_true hpos
          have hw : IntKind.i64.wrap (n - 1) = n - 1 := IntWalk.i64_in _ (by omega)
          have K1 := Lib.hid (HKP.out (by rw [← HN.out]; exact hpos))
          have r1 := HL5.out.stored j (.int .i64 (n - 1))
          have o1 := own_keep HO5.out r1.2 (.inr (fun e => hne (by simpa [Value.ownBlock] using e)))
          have f1 := own_keep HF5.out r1.2 (by
            rcases hb : (Value.slice fa F.length fc).ownBlock with _ | q
            · exact .inl rfl
            · refine .inr (fun e => ?_)
              have h1 := (HF5.out.lt q hb).1
              cases e
              omega)
          have o2 := o1.stored k (.string y)
          have l2 := own_keep r1.1 o2.2 (.inr (fun e => hne (by simpa [Value.ownBlock] using e.symm)))
          have f2 := own_keep f1 o2.2 (by
            rcases hb : (Value.slice fa F.length fc).ownBlock with _ | q
            · exact .inl rfl
            · refine .inr (fun e => ?_)
              have h1 := (HF5.out.lt q hb).1
              cases e
              omega)
          have hgo : w.heap.size ≤ ob := (HO5.out.lt ob rfl).1
          have R := Lib.hid (And.intro o2.1 (And.intro l2 (And.intro f2 (gr_grown (gr_grown HG5.out r1.2 (fun q e => by cases e; omega)) o2.2 (fun q e => by cases e; omega)))))
          have hzR : wb ≤ ((w5.setCell ⟨lg, j, none⟩ (.int .i64 (n - 1))).setCell ⟨ob, k, none⟩ (.string y)).heap.size := by have := r1.2.size; have := o2.2.size; omega
          clear r1 o1 f1 o2 l2 f2 hc2
          go_wp2_with (fail)
          go_roundw
          case rel =>
            refine ⟨k + 1, out.set k y, L.set j (L.getD j 0 - 1), F, by go_num, K1.out, by omega, ?_, ?_, R.out.2.2.1, R.out.2.2.2, hzR⟩
            · rw [← strs_setA]; exact R.out.1
            · rw [← ints_setA, ← HN.out]; exact R.out.2.1
          case measure => simp [intOf]; omega
        · have dpos : decide (0 < n) = false := decide_eq_false hpos
          have K1 := Lib.hid (HLP.out (by rw [← HN.out]; omega))
          clear hc2 c2 t2
          go_wp2_with (at_builtin; refine wpList_app1 eInt rfl _ _ rfl wb _ F.length (ints F) rfl w5 #[.int .i64 k] rfl HF5.out _ rfl rfl rfl rfl (by omega) hz5 ?_)
          intro v6 w6 ho6 g6 hlt6
          have hnl : (Value.slice fa F.length fc).ownBlock ≠ some lg := fun e => by have := hlt6 lg e; omega
          have hno : (Value.slice fa F.length fc).ownBlock ≠ some ob := fun e => by have := hlt6 ob e; omega
          have R := Lib.hid (And.intro (own_keep HO5.out g6 (.inr (fun e => hno e.symm))) (And.intro (own_keep HL5.out g6 (.inr (fun e => hnl e.symm))) (And.intro ho6 (gr_grown HG5.out g6 (fun q e => by have := hlt6 q e; omega)))))
          have hz6 := g6.size
          clear ho6 g6 hlt6 hnl hno
          go_wp2_with (fail)
          go_roundw
          case rel => exact ⟨k + 1, out, L, F ++ [(k : Int)], by go_num, K1.out, by simp; omega, R.out.1, R.out.2.1, by simpa [ints] using R.out.2.2.1, R.out.2.2.2, by omega⟩
          case measure => simp [intOf]; omega
    · obtain rfl : k = xs.length := by have := h1.kl; omega
      have HR1 := Lib.hid h1
      have Z2 := Lib.hid (And.intro hO (And.intro hLo (And.intro hF hgr)))
      have hF60 : F.length ≤ 60 := by omega
      clear h1 hO hLo hF hgr hFk
      go_wp2_with (fail)
      go_loopw [13, 80] (fun f i wr => ∃ (k : Nat) (E : List Int), i = .int .i64 k ∧ k ≤ xs.length ∧ Ar2 xs k E ∧ E.length ≤ k ∧ wr.ownsRow w.heap.size 9 1 (.slice (some ⟨ob, 0, none⟩) xs.length xs.length) xs.length (strs out) ∧ wr.ownsRow w.heap.size 3 1 (.slice la os.length lc) os.length (ints L) ∧ wr.ownsRow wb 3 1 f (F ++ E).length (ints (F ++ E)) ∧ w.grownBy wr none ∧ wb ≤ wr.heap.size) (fun _ i _ => xs.length - (intOf i).toNat)
      case atStart => exact ⟨0, [], rfl, Nat.zero_le _, Ar2.start xs, Nat.le_refl _, Z2.out.1, Z2.out.2.1, by rw [List.append_nil]; exact Z2.out.2.2.1, Z2.out.2.2.2, hzw⟩
      case round =>
        clear Z2
        obtain ⟨k, E, rfl, hk, h2, hEk, hO, hLo, hF, hgr, hzw⟩ := hrel
        obtain ⟨wo, rfl⟩ : ∃ wo : World, wo = wr := ⟨_, rfl⟩
        obtain ⟨ga, gc, rfl, _, _, _, _⟩ := own_shape hF
        have hFE : (F ++ E).length = F.length + E.length := List.length_append
        obtain ⟨G, hG⟩ : ∃ G, G = F ++ E := ⟨_, rfl⟩
        rw [← hG] at hF hFE
        rw [← hG]
        have HGE := Lib.hid hG
        have HFE := Lib.hid hFE
        have hG120 : G.length ≤ 120 := by omega
        clear hG hFE
        by_cases hlt : k < xs.length
        · obtain ⟨b, off, rfl, d0⟩ := str_cell (HX.out.keep0 hgr) k hlt
          rw [getD_eq xs k _ hlt] at d0
          have SK := fun hne => h2.skip hlt hne
          have AD := fun hne => h2.add hlt hne
          obtain ⟨y, hy⟩ : ∃ y, y = xs[k] := ⟨_, rfl⟩
          rw [← hy] at d0 SK AD
          have K := Lib.hid (And.intro hO (And.intro hLo (And.intro hF hgr)))
          have HSK := Lib.hid SK
          have HAD := Lib.hid AD
          clear SK AD hy h2 hO hLo hF hgr
          cases he : y.toList.isEmpty with
          | false =>
            have he3 : ¬ y.toList = [] := by intro e; rw [e] at he; cases he
            have hy0 : y ≠ e0B := by rintro rfl; simp at he
            have K2 := Lib.hid (HSK.out hy0)
            clear hy0
            go_wp2_with (fail)
            go_roundw
            case rel => exact ⟨k + 1, E, by go_num, by omega, K2.out, by omega, K.out.1, K.out.2.1, by rw [← HGE.out]; exact K.out.2.2.1, K.out.2.2.2, hzw⟩
            case measure => simp [intOf]; omega
          | true =>
            have he2 : y.toList = [] := by simpa using he
            have K2 := Lib.hid (HAD.out (empty_e0 he))
            go_wp2_with (at_builtin; refine wpList_app1 eInt rfl _ _ rfl wb _ G.length (ints G) rfl wo #[.int .i64 k] rfl K.out.2.2.1 _ rfl rfl rfl rfl (by omega) hzw ?_)
            intro v6 w6 ho6 g6 hlt6
            have hobw2 : ob < wb := hobw
            have hno : (Value.slice ga G.length gc).ownBlock ≠ some ob := fun e => by have := hlt6 ob e; omega
            have hl6 := own_keep K.out.2.1 g6 (by
              rcases hb : (Value.slice la os.length lc).ownBlock with _ | q
              · exact .inl rfl
              · refine .inr (fun e => ?_)
                have h1 := hlt6 q e.symm
                have := HLB.out q hb
                omega)
            have R := Lib.hid (And.intro (own_keep K.out.1 g6 (.inr (fun e => hno e.symm))) (And.intro hl6 (And.intro ho6 (gr_grown K.out.2.2.2 g6 (fun q e => by have := hlt6 q e; omega)))))
            have hz6 := g6.size
            clear ho6 g6 hlt6 hno hl6
            go_wp2_with (fail)
            go_roundw
            case rel => exact ⟨k + 1, E ++ [(k : Int)], by go_num, by omega, K2.out, by simp; omega, R.out.1, R.out.2.1, by rw [← List.append_assoc, ← HGE.out]; simpa [ints] using R.out.2.2.1, R.out.2.2.2, by omega⟩
            case measure => simp [intOf]; omega
        · obtain rfl : k = xs.length := by omega
          have A3 := Ar3.start C.out HR1.out h2
          rw [← HGE.out] at A3
          have HR2 := Lib.hid h2
          obtain ⟨fb, hfb⟩ : ∃ fb, 0 < G.length → ga = some ⟨fb, 0, none⟩ := by
            rcases Nat.eq_zero_or_pos G.length with h0 | h0
            · exact ⟨0, fun h => by omega⟩
            · obtain ⟨g2, c2, he2, _⟩ := own_some hF h0
              cases he2
              exact ⟨g2, fun _ => rfl⟩
          have hgc : G.length ≤ gc := by
            obtain ⟨_, _, he2, h5, _⟩ := own_shape hF
            cases he2
            exact h5
          have Z3 := Lib.hid (And.intro A3 (And.intro hO (And.intro hLo (And.intro hF hgr))))
          have HFB := Lib.hid hfb
          clear A3 h2 hO hLo hF hgr hfb
          go_wp2_with (fail)
          go_loopw [13, 94] (fun f i wr => ∃ (o t : Nat) (ou : List ByteArray) (fa : Option Addr) (fc : Nat), i = .int .i64 o ∧ o ≤ os.length ∧ f = .slice fa (G.length - t) fc ∧ (t < G.length → fa = some ⟨fb, t, none⟩) ∧ G.length - t ≤ fc ∧ Ar3 (keysOf os) xs cs L G o (L.getD o 0) t ou ∧ wr.ownsRow w.heap.size 9 1 (.slice (some ⟨ob, 0, none⟩) xs.length xs.length) xs.length (strs ou) ∧ wr.ownsRow w.heap.size 3 1 (.slice la os.length lc) os.length (ints L) ∧ wr.ownsRow wb 3 1 (.slice ga G.length gc) G.length (ints G) ∧ w.grownBy wr none) (fun _ i _ => os.length - (intOf i).toNat)
          case atStart => exact ⟨0, 0, out, ga, gc, rfl, Nat.zero_le _, rfl, HFB.out, hgc, Z3.out.1, Z3.out.2.1, Z3.out.2.2.1, Z3.out.2.2.2.1, Z3.out.2.2.2.2⟩
          case round =>
            clear Z3
            obtain ⟨o, t, ou, fa, fc, rfl, ho, rfl, hfa, hfc, hA3, hO, hLo, hF, hgr⟩ := hrel
            obtain ⟨wo, rfl⟩ : ∃ wo : World, wo = wr := ⟨_, rfl⟩
            by_cases hlt2 : o < os.length
            · obtain ⟨lg, lcc, he5, hlgw, _, _, _⟩ := own_some hLo (by omega)
              cases he5
              obtain ⟨d1, _, _⟩ := own_int hLo o hlt2
              have hn0 := hA3.L0 o (by rw [HKL.out]; exact hlt2)
              have hn10 : L.getD o 0 ≤ 10 := by
                have h1 := (HR1.out.cnt o (by rw [HKL.out]; exact hlt2)).1
                have h2 := (HA.out.co.all o hlt2).2
                have h3 := (HA.out.ok.prof os[o] (List.getElem_mem _)).2.1
                omega
              obtain ⟨n, hn⟩ : ∃ n : Nat, (n : Int) = L.getD o 0 := ⟨(L.getD o 0).toNat, by omega⟩
              rw [← hn] at d1 hn10
              have Z4 := Lib.hid (And.intro hA3 (And.intro hO (And.intro hLo (And.intro hF hgr))))
              have HN := Lib.hid hn
              have hlwb : lg < wb := HLA.out lg 0 rfl
              clear hA3 hO hLo hF hgr hn hn0
              go_wp2_with (fail)
              go_loopw [13, 100] (fun f i wx => ∃ (q t : Nat) (ou : List ByteArray) (fa : Option Addr) (fc : Nat), i = .int .i64 q ∧ q ≤ n ∧ f = .slice fa (G.length - t) fc ∧ (t < G.length → fa = some ⟨fb, t, none⟩) ∧ G.length - t ≤ fc ∧ Ar3 (keysOf os) xs cs L G o ((n : Int) - q) t ou ∧ wx.ownsRow w.heap.size 9 1 (.slice (some ⟨ob, 0, none⟩) xs.length xs.length) xs.length (strs ou) ∧ wx.ownsRow w.heap.size 3 1 (.slice (some ⟨lg, 0, none⟩) os.length lc) os.length (ints L) ∧ wx.ownsRow wb 3 1 (.slice ga G.length gc) G.length (ints G) ∧ w.grownBy wx none) (fun _ i _ => n - (intOf i).toNat)
              case atStart => exact ⟨0, t, ou, fa, fc, rfl, Nat.zero_le _, rfl, hfa, hfc, by rw [HN.out, Int.natCast_zero, Int.sub_zero]; exact Z4.out.1, Z4.out.2.1, Z4.out.2.2.1, Z4.out.2.2.2.1, Z4.out.2.2.2.2⟩
              case round =>
                clear Z4 d1
                obtain ⟨q, t, ou, fa, fc, rfl, hq, rfl, hfa, hfc, hA3, hO, hLo, hF, hgr⟩ := hrel
                obtain ⟨wx, rfl⟩ : ∃ wx : World, wx = wr := ⟨_, rfl⟩
                by_cases hqn : q < n
                · have hok2 : o < (keysOf os).length := by rw [HKL.out]; exact hlt2
                  have hr : (0 : Int) < (n : Int) - q := by omega
                  have ht := hA3.room C.out hok2 hr
                  obtain rfl := hfa ht
                  have hmem : G[t] ∈ G.drop t := by rw [List.drop_eq_getElem_cons ht]; exact List.mem_cons_self ..
                  obtain ⟨i, hi, -, -⟩ := hA3.free _ hmem
                  obtain ⟨hix, hput⟩ := hA3.put C.out hok2 hr (by rw [← HN.out]; omega) ht hi
                  obtain ⟨gb, hgb⟩ : ∃ gb, ga = some ⟨fb, 0, none⟩ ∧ gb = 0 := ⟨0, HFB.out (by omega), rfl⟩
                  obtain ⟨rfl, -⟩ := hgb
                  obtain ⟨d2, _, _⟩ := own_int hF t ht
                  rw [getD_eq G t 0 ht, hi] at d2
                  obtain ⟨kb, koff, V, rfl, hr2, k0, -⟩ := (H.out.keep0 hgr).at o hlt2
                  rw [hr2.key] at k0
                  have c2 := hO.cellAt i (by omega)
                  rw [strs_get ou i (by rw [hA3.ol]; exact hix)] at c2
                  have t2 := hO.frozenAt i
                  have d2d : wx.drew.cell? ⟨fb, t, none⟩ = some (.int .i64 (i : Int)) := d2
                  have k0d : wx.drew.cell? ⟨kb, koff + o * 5, none⟩ = some (.string os[o].key) := k0
                  have st := hO.stored i (.string os[o].key)
                  have hfbw : wb ≤ fb := (hF.lt fb rfl).1
                  have hgo : w.heap.size ≤ ob := (hO.lt ob rfl).1
                  have hLo2 := own_keep hLo st.2 (.inr (fun e => by
                    obtain ⟨_, h1⟩ := own_blkA hO rfl
                    obtain ⟨_, h2⟩ := own_blkA hLo rfl
                    have e : lg = ob := by simpa [Value.ownBlock] using e
                    rw [e, h1] at h2
                    simp at h2))
                  have hF2 := own_keep hF st.2 (.inr (fun e => by
                    have e : fb = ob := by simpa [Value.ownBlock] using e
                    omega))
                  have R := Lib.hid (And.intro st.1 (And.intro hLo2 (And.intro hF2 (gr_grown hgr st.2 (fun q e => by cases e; omega)))))
                  have hkbw : kb < w.heap.size := by
                    obtain ⟨kb2, koff2, V2, he2, -, k02, -⟩ := H.out.at o hlt2
                    cases he2
                    exact lt_of_cell k02
                  have d2s : (wx.setCell ⟨ob, i, none⟩ (.string os[o].key)).drew.cell? ⟨fb, t, none⟩ = some (.int .i64 (i : Int)) := st.2.cell d2 (fun e => by have e : fb = ob := (by simpa using e); omega)
                  have k0s : (wx.setCell ⟨ob, i, none⟩ (.string os[o].key)).drew.cell? ⟨kb, koff + o * 5, none⟩ = some (.string os[o].key) := st.2.cell k0 (fun e => by have e : kb = ob := (by simpa using e); omega)
                  have HPUT := Lib.hid hput
                  obtain ⟨key, hkey⟩ : ∃ key, key = os[o].key := ⟨_, rfl⟩
                  rw [← hkey] at k0 k0d k0s d2s R
                  have HKEY := Lib.hid hkey
                  have hgl : 0 < G.length - t := by omega
                  clear hO hLo hF hgr hA3 hput st hLo2 hF2 hkey hr2 hmem hi hfa
                  go_upto_region 33 with (fail)
                  go_region_held3 (fun w' => w'.cell? ⟨fb, t, none⟩ = some (.int .i64 (i : Int)) ∧ w'.cell? ⟨kb, koff + o * 5, none⟩ = some (.string key))
                    (first | (with_reducible exact ⟨d2, k0⟩) | (with_reducible exact ⟨d2d, k0d⟩) | (with_reducible exact ⟨d2s, k0s⟩))
                    (fail)
                  clear d2 k0 c2 t2 d2d k0d d2s k0s
                  go_wp2_with (fail)
                  go_roundw
                  case rel =>
                    refine ⟨q + 1, t + 1, ou.set i key, (if fc = 1 then some ⟨fb, t, none⟩ else some ⟨fb, t + 1, none⟩), fc - 1, by go_num, by omega, by rw [Nat.sub_sub], fun h => by rw [if_neg (by omega)], by omega, ?_, ?_, ?_, ?_, ?_⟩
                    · have h := HPUT.out
                      rw [keysOf_get, ← HKEY.out] at h
                      rw [show (n : Int) - ((q + 1 : Nat) : Int) = (n : Int) - q - 1 by omega]
                      exact h
                    · rw [← strs_setA]; exact own_keep0 R.out.1 (gr_drew (gr_refl _ none))
                    · exact own_keep0 R.out.2.1 (gr_drew (gr_refl _ none))
                    · exact own_keep0 R.out.2.2.1 (gr_drew (gr_refl _ none))
                    · exact gr_drew R.out.2.2.2
                  case measure => simp [intOf]; omega
                · obtain rfl : q = n := by omega
                  have K3 := hA3
                  rw [Int.sub_self] at K3
                  have K4 := Lib.hid (K3.next (by rw [HR1.out.ll]))
                  have K := Lib.hid (And.intro hO (And.intro hLo (And.intro hF hgr)))
                  clear K3 hA3 hO hLo hF hgr
                  go_wp2_with (fail)
                  go_roundw
                  case rel => exact ⟨o + 1, t, ou, fa, fc, by go_num, by omega, rfl, hfa, hfc, K4.out, K.out.1, K.out.2.1, K.out.2.2.1, K.out.2.2.2⟩
                  case measure => simp [intOf]; omega
            · obtain rfl : o = os.length := by omega
              have hlast : ArrIs (keysOf os) xs cs ou := by
                have h3 := hA3
                rw [← HKL.out] at h3
                have h4 : Ar3 (keysOf os) xs cs L (F ++ E) (keysOf os).length (L.getD (keysOf os).length 0) t ou := by rw [← HGE.out]; exact h3
                exact Ar3.last C.out HR1.out HR2.out h4
              have K := Lib.hid (And.intro hlast (And.intro hO hgr))
              clear hlast hA3 hO hLo hF hgr
              go_wp2_with (fail)
              go_ret2
              exact ⟨_, ou, rfl, K.out.1, K.out.2.1, K.out.2.2⟩
end Go.Proofs.YthikknnadmebgaaGreatDoor

/-! shelf.Changed: the slots at which layouts differ. -/
namespace Go.Proofs.YthikknnadmebgaaGreatDoor
open Go.RowKit
attribute [local go_sem ↓] Go.wp_at_zero Go.wp_at_succ

def chgTo (x a : List ByteArray) : Nat → List Int
  | 0 => []
  | k + 1 => chgTo x a k ++ if x.getD k e0B = a.getD k e0B then [] else [(k : Int)]
theorem chgTo_le (x a : List ByteArray) : ∀ k, (chgTo x a k).length ≤ k
  | 0 => Nat.le_refl _
  | k + 1 => by
    have := chgTo_le x a k
    show (chgTo x a k ++ _).length ≤ _
    rw [List.length_append]
    split <;> simp <;> omega
theorem diffB_app : ∀ (x a : List ByteArray) (y z : ByteArray), a.length = x.length → diffB (x ++ [y]) (a ++ [z]) = diffB x a + (if y = z then 0 else 1)
  | [], [], y, z, _ => by show (if y = z then 0 else 1) + 0 = 0 + _; omega
  | u :: x, v :: a, y, z, h => by
    have := diffB_app x a y z (by simpa using h)
    show (if u = v then 0 else 1) + diffB (x ++ [y]) (a ++ [z]) = (if u = v then 0 else 1) + diffB x a + _
    omega
theorem chgTo_len (x a : List ByteArray) (h : a.length = x.length) : (chgTo x a x.length).length = diffB x a := by
  have key : ∀ k, k ≤ x.length → (chgTo x a k).length = diffB (x.take k) (a.take k) := by
    intro k
    induction k with
    | zero => intro _; rfl
    | succ k ih =>
      intro hk
      have hkx : k < x.length := hk
      have hka : k < a.length := by rw [h]; exact hk
      rw [List.take_succ_eq_append_getElem hkx, List.take_succ_eq_append_getElem hka, diffB_app _ _ _ _ (by rw [List.length_take, List.length_take]; omega), ← ih (by omega)]
      show (chgTo x a k ++ _).length = _
      rw [List.length_append, getD_eq x k _ hkx, getD_eq a k _ hka]
      split <;> rfl
  have := key x.length (Nat.le_refl _)
  rw [List.take_length, ← h, List.take_length] at this
  rw [← h]
  exact this
/-- Which slots these are. -/
theorem chgTo_mem (x a : List ByteArray) : ∀ k, ∀ z ∈ chgTo x a k, ∃ i : Nat, z = (i : Int) ∧ i < k ∧ x.getD i e0B ≠ a.getD i e0B
  | 0, z, h => by cases h
  | k + 1, z, h => by
    rcases List.mem_append.1 (show z ∈ chgTo x a k ++ _ from h) with h | h
    · obtain ⟨i, e, hi, r⟩ := chgTo_mem x a k z h
      exact ⟨i, e, by omega, r⟩
    · split at h
      · cases h
      · rename_i hne
        have : z = (k : Int) := by simpa using h
        exact ⟨k, this, by omega, hne⟩
theorem eq_bytesA (y z : ByteArray) : (y.toList == z.toList) = decide (y = z) := by
  by_cases e : y = z
  · rw [e]; simp
  · rw [decide_eq_false e]
    cases h : (y.toList == z.toList) with
    | false => rfl
    | true => exact absurd (bytes_eqA y z h) e
set_option maxRecDepth 100000 in
set_option maxHeartbeats 2000000 in
theorem changed_any (x a : List ByteArray) (hl : a.length = x.length) (h60 : x.length ≤ 60) (xa aa : Option Addr) (xc ac : Nat) (w : World) (hx : CellsAt w xa (strs x)) (ha : CellsAt w aa (strs a)) :
    Calls Tryz.prog 28 #[.slice xa x.length xc, .slice aa x.length ac] w fun e w' => ∃ v, e = .returned (.tuple #[v, .int .i64 0]) ∧ w'.ownsRow w.heap.size 3 1 v (chgTo x a x.length).length (ints (chgTo x a x.length)) ∧ w.grownBy w' none := by
  have HX := Lib.hid hx
  have HA := Lib.hid ha
  have HL := Lib.hid hl
  have d60 : decide ((60 : Int) < (x.length : Int)) = false := decide_eq_false (by omega)
  clear hx ha hl
  go_enter Tryz.func28, Tryz.ntmps28
  go_wp2_with (fail)
  go_loopw [6, 20] (fun f i wr => ∃ k : Nat, k ≤ x.length ∧ i = .int .i64 k ∧ wr.ownsRow w.heap.size 3 1 f (chgTo x a k).length (ints (chgTo x a k)) ∧ w.grownBy wr none) (fun _ i _ => x.length - (intOf i).toNat)
  case atStart => exact ⟨0, Nat.zero_le _, rfl, World.ownsRow_nil _ _ _ _, gr_refl _ _⟩
  case round =>
    obtain ⟨k, hk, rfl, hF, hgr⟩ := hrel
    obtain ⟨wo, rfl⟩ : ∃ wo : World, wo = wr := ⟨_, rfl⟩
    obtain ⟨fa, fc, rfl, _, _, _, _⟩ := own_shape hF
    have hcl := chgTo_le x a k
    by_cases hlt : k < x.length
    · obtain ⟨b1, o1, rfl, d1⟩ := str_cell (HX.out.keep0 hgr) k hlt
      obtain ⟨b2, o2, rfl, d2⟩ := str_cell (HA.out.keep0 hgr) k (by rw [HL.out]; exact hlt)
      have hst : chgTo x a (k + 1) = chgTo x a k ++ if x.getD k e0B = a.getD k e0B then [] else [(k : Int)] := rfl
      obtain ⟨y, hy⟩ : ∃ y, y = x.getD k ⟨#[]⟩ := ⟨_, rfl⟩
      obtain ⟨z, hz⟩ : ∃ z, z = a.getD k ⟨#[]⟩ := ⟨_, rfl⟩
      rw [← hy] at d1
      rw [← hz] at d2
      rw [← hy, ← hz] at hst
      have hE := eq_bytesA y z
      obtain ⟨bb, hbb⟩ : ∃ bb, bb = decide (y = z) := ⟨_, rfl⟩
      rw [← hbb] at hE
      have HBB := Lib.hid hbb
      clear hbb
      have HST := Lib.hid hst
      have HF := Lib.hid hF
      have HG := Lib.hid hgr
      have hzo := hgr.size
      clear hst hF hgr hy hz
      go_upto_region 9 with (fail)
      have y1 := grew_cell d1
      have y2 := grew_cell d2
      clear d1 d2
      refine wp_region_grew (by kernel_rfl) (by kernel_rfl) ?_
      repeat (go_big_quiet_step (fail))
      refine wpQuiet_nil ?_
      rintro wq ⟨nn, rfl⟩
      have gq := nn.gr
      have HFq := Lib.hid (own_keep0 HF.out gq)
      have HGq := Lib.hid (gr_trans HG.out gq)
      have hzq := HGq.out.size
      cases bb with
      | true =>
        have e : y = z := of_decide_eq_true HBB.out.symm
        have HST2 : Hid (chgTo x a (k + 1) = chgTo x a k) := by show _ = _; rw [HST.out, if_pos e, List.append_nil]
        clear e
        go_wp2_with (fail)
        go_roundw
        case rel => exact ⟨k + 1, by omega, by go_num, by rw [HST2.out]; exact HFq.out, HGq.out⟩
        case measure => simp [intOf]; omega
      | false =>
        have e : ¬ y = z := of_decide_eq_false HBB.out.symm
        have HST2 : Hid (chgTo x a (k + 1) = chgTo x a k ++ [(k : Int)]) := by show _ = _; rw [HST.out, if_neg e]
        clear e
        go_wp2_with (at_builtin; refine wpList_app1 eInt rfl _ _ rfl w.heap.size _ (chgTo x a k).length (ints (chgTo x a k)) rfl nn.w #[.int .i64 k] rfl HFq.out _ rfl rfl rfl rfl (by omega) hzq ?_)
        intro v6 w6 ho6 g6 hlt6
        have HO6 := Lib.hid ho6
        have HG6 := Lib.hid (gr_grown HGq.out g6 (fun q e => hlt6 q e))
        clear ho6 g6 hlt6
        go_wp2_with (fail)
        go_roundw
        case rel => exact ⟨k + 1, by omega, by go_num, by rw [HST2.out]; simpa [ints] using HO6.out, HG6.out⟩
        case measure => simp [intOf]; omega
    · obtain rfl : k = x.length := by omega
      have HF := Lib.hid hF
      have HG := Lib.hid hgr
      clear hF hgr hcl
      go_wp2_with (fail)
      go_ret2
      exact ⟨_, rfl, HF.out, HG.out⟩
end Go.Proofs.YthikknnadmebgaaGreatDoor

/-! shelf.Tasks: what makes a layout of another one. -/
namespace Go.Proofs.YthikknnadmebgaaGreatDoor
open Go.RowKit
attribute [local go_sem ↓] Go.wp_at_zero Go.wp_at_succ

theorem cellUpT {w : World} {b o : Nat} {v : Value} (h : w.cell? ⟨b, o, none⟩ = some v) (ob : Obj) : (w.alloc ob).cell? ⟨b, o, none⟩ = some v := (gr_cell (gr_alloc (gr_refl w none) ob) (lt_of_cell h)).trans h
theorem cellUpDr {w : World} {b o : Nat} {v : Value} (h : w.cell? ⟨b, o, none⟩ = some v) (ob : Obj) : (w.alloc ob).drew.cell? ⟨b, o, none⟩ = some v := cellUpT h ob
theorem eTask : ElemT Tryz.prog 67 133 (.agg #[.int .i64 0, .string ⟨#[]⟩, .string ⟨#[]⟩]) 3 40 := ⟨by kernel_rfl, by kernel_rfl, by decide, by decide, by decide⟩
def encTk (x a : List ByteArray) (z : Int) : List Value := [.int .i64 z, .string (x.getD z.toNat e0B), .string (a.getD z.toNat e0B)]
theorem odd_fnT : ∀ (args : Array Value) (w : World), (callFunc 74 args).run Tryz.prog w = .ok (.enter 74 args) w := fun _ _ => by kernel_rfl
/-- A layout of products that may be. -/
def EvenB (x : List ByteArray) : Prop := ∀ y ∈ x, oddB y = false ∧ y.size ≤ 100000
theorem anyOdd (x : List ByteArray) (hx : EvenB x) (xa : Option Addr) (xc : Nat) (w : World) (hc : CellsAt w xa (strs x)) (hl : x.length ≤ 1000) :
    Calls Tryz.prog 73 #[.slice xa x.length xc, .func (.func 74) #[] #[]] w fun e w' => e = .returned (.bool false) ∧ w.grownBy w' none := by
  have h := containsFunc_Str0 74 oddB x xa xc w (by rw [strs_flat]; exact hc) (by omega) odd_fnT (fun y hy W _ => odd_any y W (by have := (hx y hy).2; omega))
  have e : x.any oddB = false := List.any_eq_false.2 (fun y hy => by rw [(hx y hy).1]; simp)
  rw [e] at h
  exact h
set_option maxRecDepth 100000 in
set_option maxHeartbeats 2000000 in
theorem tasks_any (x a : List ByteArray) (hl : a.length = x.length) (h60 : x.length ≤ 60) (hx0 : EvenB x) (ha0 : EvenB a) (xa aa : Option Addr) (xc ac : Nat) (w : World) (hx : CellsAt w xa (strs x)) (ha : CellsAt w aa (strs a)) :
    Calls Tryz.prog 30 #[.slice xa x.length xc, .slice aa x.length ac] w fun e w' => ∃ v, e = .returned (.tuple #[v, .int .i64 0]) ∧ w'.ownsRow w.heap.size 133 3 v (chgTo x a x.length).length (flat (encTk x a) (chgTo x a x.length)) ∧ w.grownBy w' none := by
  have HX := Lib.hid hx
  have HA := Lib.hid ha
  have HL := Lib.hid hl
  have HX0 := Lib.hid hx0
  have HA0 := Lib.hid ha0
  have CH := Lib.hid (changed_any x a hl h60 xa aa xc ac w hx ha)
  have hmem := chgTo_mem x a x.length
  have hlen := chgTo_le x a x.length
  obtain ⟨G, hG⟩ : ∃ G, G = chgTo x a x.length := ⟨_, rfl⟩
  rw [← hG] at CH hmem hlen
  rw [← hG]
  have HM := Lib.hid hmem
  have OA := Lib.hid (fun (W : World) (g : w.grownBy W none) => by have h := anyOdd a HA0.out aa ac W (HA.out.keep0 g) (by rw [hl]; omega); rw [hl] at h; exact h)
  clear hx ha hl hx0 ha0 hG hmem
  go_enter Tryz.func30, Tryz.ntmps30
  go_wp2_with (fail)
  refine CH.out.mono ?_
  rintro e w1 ⟨v1, rfl, o1, g1⟩
  obtain ⟨ga, gc, rfl, _, _, hGc, _⟩ := own_shape o1
  have HGC := Lib.hid hGc
  have HG1 := Lib.hid g1
  clear o1 hGc g1 CH
  go_wp2_with (fail)
  refine (anyOdd x HX0.out xa xc w1 (HX.out.keep0 HG1.out) (by omega)).mono ?_
  rintro e w2 ⟨rfl, g2⟩
  have HG2 := Lib.hid g2
  clear g2
  go_wp2_with (fail)
  refine (OA.out w2 (gr_trans HG1.out HG2.out)).mono ?_
  rintro e w3 ⟨rfl, g3⟩
  have HG3 := Lib.hid (gr_trans HG2.out g3)
  have HGW := Lib.hid (gr_trans HG1.out (gr_trans HG2.out g3))
  have hz3 := HGW.out.size
  clear g3 OA
  go_wp2_with (fail)
  go_loopw [8, 28] (fun f i wr => ∃ k : Nat, k ≤ G.length ∧ i = .int .i64 k ∧ wr.ownsRow w3.heap.size 133 3 f k (flat (encTk x a) (G.take k)) ∧ w3.grownBy wr none) (fun _ i _ => G.length - (intOf i).toNat)
  case atStart => exact ⟨0, Nat.zero_le _, rfl, World.ownsRow_nil _ _ _ _, gr_refl _ _⟩
  case round =>
    obtain ⟨k, hk, rfl, hF, hgr⟩ := hrel
    obtain ⟨wo, rfl⟩ : ∃ wo : World, wo = wr := ⟨_, rfl⟩
    obtain ⟨fa, fc, rfl, _, _, _, _⟩ := own_shape hF
    by_cases hlt : k < G.length
    · obtain ⟨gb, goff, rfl, d0⟩ := ((HGC.out.keep0 HG3.out).keep0 hgr) k (.int .i64 G[k]) (by simp [ints, List.getElem?_eq_getElem hlt])
      obtain ⟨i, hi, hix, -⟩ := HM.out G[k] (List.getElem_mem hlt)
      rw [hi] at d0
      obtain ⟨b1, o1, rfl, d1⟩ := str_cell ((HX.out.keep0 HGW.out).keep0 hgr) i hix
      obtain ⟨b2, o2, rfl, d2⟩ := str_cell ((HA.out.keep0 HGW.out).keep0 hgr) i (by rw [HL.out]; exact hix)
      have hb1 : b1 < w.heap.size := by
        obtain ⟨_, _, he, dd⟩ := str_cell HX.out i hix
        cases he
        exact lt_of_cell dd
      have hb2 : b2 < w.heap.size := by
        obtain ⟨_, _, he, dd⟩ := str_cell HA.out i (by rw [HL.out]; exact hix)
        cases he
        exact lt_of_cell dd
      have hst : flat (encTk x a) (G.take (k + 1)) = flat (encTk x a) (G.take k) ++ [.int .i64 (i : Int), .string (x.getD i ⟨#[]⟩), .string (a.getD i ⟨#[]⟩)] := by
        rw [List.take_succ_eq_append_getElem hlt, flat_append, flat_one]
        unfold encTk
        rw [hi, Int.toNat_natCast]
      obtain ⟨y, hy⟩ : ∃ y, y = x.getD i ⟨#[]⟩ := ⟨_, rfl⟩
      obtain ⟨z, hz⟩ : ∃ z, z = a.getD i ⟨#[]⟩ := ⟨_, rfl⟩
      rw [← hy] at d1
      rw [← hz] at d2
      rw [← hy, ← hz] at hst
      have d1d : wo.drew.cell? ⟨b1, o1 + i, none⟩ = some (.string y) := d1
      have d2d : wo.drew.cell? ⟨b2, o2 + i, none⟩ = some (.string z) := d2
      have HST := Lib.hid hst
      have HFD := Lib.hid (own_keep0 hF (gr_drew (gr_refl wo none)))
      have HG := Lib.hid hgr
      have hzo := hgr.size
      have hzd : w3.heap.size ≤ wo.drew.heap.size := hzo
      clear hst hF hgr hy hz hi
      go_upto_region 10 with (fail)
      clear d0
      go_region_held3 (fun w' => w'.cell? ⟨b1, o1 + i, none⟩ = some (.string y) ∧ w'.cell? ⟨b2, o2 + i, none⟩ = some (.string z))
        (first | (with_reducible exact ⟨d1, d2⟩) | (with_reducible exact ⟨d1d, d2d⟩) | (with_reducible exact ⟨cellUpT d1d _, cellUpT d2d _⟩) | (with_reducible exact ⟨cellUpDr d1 _, cellUpDr d2 _⟩) | (with_reducible exact ⟨q1, q2⟩))
        (first | (refine step_app1 eTask rfl _ _ rfl w3.heap.size _ k (flat (encTk x a) (G.take k)) rfl wo.drew #[.int .i64 (i : Int), .string y, .string z] rfl HFD.out _ rfl rfl rfl rfl (by omega) hzd ?_; intro v6 w6 o6 g6 hl6 hk6; have q1 := hk6 _ _ _ d1d (fun e => absurd (hl6 _ e) (by omega)); have q2 := hk6 _ _ _ d2d (fun e => absurd (hl6 _ e) (by omega)))
               | fail)
      have R := Lib.hid (And.intro o6 (gr_grown (gr_drew HG.out) g6 (fun q e => hl6 q e)))
      clear o6 g6 hl6 hk6 q1 q2 d1 d2 d1d d2d
      go_wp2_with (fail)
      go_roundw
      case rel => exact ⟨k + 1, by omega, by go_num, by rw [HST.out]; exact R.out.1, R.out.2⟩
      case measure => simp [intOf]; omega
    · obtain rfl : k = G.length := by omega
      rw [List.take_length] at hF
      have K := Lib.hid (And.intro hF hgr)
      clear hF hgr
      go_wp2_with (fail)
      go_ret2
      exact ⟨_, rfl, own_base K.out.1 hz3, gr_trans HGW.out K.out.2⟩
end Go.Proofs.YthikknnadmebgaaGreatDoor
