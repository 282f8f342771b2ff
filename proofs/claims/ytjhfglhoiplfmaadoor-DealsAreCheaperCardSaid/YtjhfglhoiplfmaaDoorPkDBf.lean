/- The walk of DealsAreCheaper. -/
import Derived.Test.YtjhfglhoiplfmaaDoorPkDAx
import Derived.Test.YtjhfglhoiplfmaaDoorPkDAr
import Derived.Test.YtjhfglhoiplfmaaDoorPkDBe
namespace Go.Proofs.YtjhfglhoiplfmaaDoor
open Go.RowKit
attribute [local go_sem ↓] Go.wp_at_zero Go.wp_at_succ

def one1 (x : De) : De := ⟨x.key, x.group, x.many, 1⟩
def oneTo (D : List De) (k : Nat) : List De := (D.take k).map one1 ++ D.drop k
theorem oneTo_len (D : List De) (k : Nat) : (oneTo D k).length = D.length := by simp [oneTo]; omega
theorem oneTo_zero (D : List De) : oneTo D 0 = D := by simp [oneTo]
theorem oneTo_all (D : List De) : oneTo D D.length = D.map one1 := by simp [oneTo]
theorem oneTo_get (D : List De) (k : Nat) (h : k < D.length) : (oneTo D k)[k]'(by rw [oneTo_len]; exact h) = D[k] := by
  unfold oneTo
  rw [List.getElem_append_right (by simp; omega)]
  simp [Nat.min_eq_left (Nat.le_of_lt h)]
theorem oneTo_next (D : List De) (k : Nat) (h : k < D.length) : (oneTo D k).set k (one1 D[k]) = oneTo D (k + 1) := by
  have e : D.take (k + 1) = D.take k ++ [D[k]] := by simp
  unfold oneTo
  rw [e, List.map_append, List.set_append_right _ _ (by simp; omega), List.length_map, List.length_take, Nat.min_eq_left (Nat.le_of_lt h), Nat.sub_self, List.drop_eq_getElem_cons h, List.set_cons_zero]
  simp
theorem desOk_one {D : List De} (h : DesOk D) : DesOk (D.map one1) := by
  intro j hj
  have hj2 : j < D.length := by simpa using hj
  obtain ⟨⟨a1, a2, a3, a4, a5, a6⟩, b, c⟩ := h j hj2
  have e : (D.map one1)[j] = one1 D[j] := by simp
  refine ⟨?_, fun h0 => ?_, ?_⟩
  · rw [e]; exact ⟨a1, a2, a3, a4, by show (1 : Int) ≤ 1; omega, by show (1 : Int) ≤ D[j].many - 1; omega⟩
  · have e2 : ((D.map one1)[j - 1]'(by omega)) = one1 (D[j - 1]'(by omega)) := by simp
    rw [e, e2]
    exact b h0
  · rw [e, ← List.map_take, List.any_map]
    exact c
theorem deSm_one {D : List De} (h : ∀ x ∈ D, DeSm x) : ∀ x ∈ D.map one1, DeSm x := by
  intro x hx
  obtain ⟨y, hy, rfl⟩ := List.mem_map.1 hx
  obtain ⟨a, b, c, d⟩ := h y hy
  exact ⟨a, b, c, by show (0 : Int) ≤ 1; omega, by show (1 : Int) ≤ 21; omega⟩
def more1 (x : Nm) : Nm := ⟨x.key, x.many + 1⟩
theorem bksOk_more {N : List Wr} {B : List Nm} (h : BksOk N B) (hs : ∀ x ∈ B, BkSm x) (i : Nat) (hi : i < B.length) : BksOk N (B.set i (more1 B[i])) := by
  have key : ∀ j (hj : j < B.length), ((B.set i (more1 B[i]))[j]'(by simpa using hj)).key = B[j].key := by
    intro j hj
    by_cases e : j = i
    · subst e; simp [more1]
    · rw [List.getElem_set_ne (fun h => e h.symm)]
  intro j hj
  have hj2 : j < B.length := by simpa using hj
  obtain ⟨⟨a1, a2, a3⟩, b⟩ := h j hj2
  refine ⟨⟨by rw [key j hj2]; exact a1, ?_, ?_⟩, fun h0 => by rw [key j hj2, key (j - 1) (by omega)]; exact b h0⟩
  · by_cases e : j = i
    · subst e; simp [more1]; omega
    · rw [List.getElem_set_ne (fun h => e h.symm)]; exact a2
  · by_cases e : j = i
    · subst e
      have := (hs _ (List.getElem_mem hj2)).2
      simp [more1]; omega
    · rw [List.getElem_set_ne (fun h => e h.symm)]; exact a3
theorem itms_more (N : List Wr) (B : List Nm) (i : Nat) (hi : i < B.length) : itms N (B.set i (more1 B[i])) = dlMore (itms N B) i := by
  have hil : i < (itms N B).length := by simpa [itms] using hi
  have e1 : (itms N B)[i]? = some (itm N B[i]) := by
    unfold itms
    rw [List.getElem?_map, List.getElem?_eq_getElem hi]
    rfl
  unfold dlMore
  rw [e1]
  have e2 : B.set i (more1 B[i]) = B.take i ++ [more1 B[i]] ++ B.drop (i + 1) := by
    rw [List.set_eq_take_append_cons_drop, if_pos hi]
    simp
  rw [e2]
  unfold itms
  rw [List.map_append, List.map_append, List.map_take, List.map_drop]
  rfl
theorem price_nil (N : List Wr) (B : List Nm) : priceM N [] B = dlTot (itms N B) := by
  unfold priceM
  rw [show dlOff (itms N B) (dls []) = 0 from rfl]
  omega
theorem price_cheap {N : List Wr} {B : List Nm} {D : List De} (h : WrsOk N) (hB : BksOk N B) (hD : DesOk D) : 0 ≤ priceM N D B ∧ priceM N D B ≤ priceM N [] B := by
  have := price_bd h hB hD D.length
  rw [List.take_length] at this
  rw [price_nil]
  exact this
theorem price_more {N : List Wr} {B : List Nm} {D : List De} (h : WrsOk N) (hB : BksOk N B) (hD : DesOk (D.map one1)) (i : Nat) (hi : i < B.length) : priceM N (D.map one1) B ≤ priceM N (D.map one1) (B.set i (more1 B[i])) := by
  unfold priceM
  rw [itms_more N B i hi]
  have hok := dls_ok hD (D.map one1).length
  rw [List.take_length] at hok
  refine more_price (itms N B) (itms_bd h hB).ok _ hok (fun d hd => ?_) i (by simpa [itms] using hi)
  obtain ⟨y, hy, rfl⟩ := List.mem_map.1 hd
  obtain ⟨j, hj, rfl⟩ := List.getElem_of_mem hy
  obtain ⟨⟨-, -, h2, -, -, -⟩, -⟩ := hD j hj
  have e : (D.map one1)[j] = one1 (D[j]'(by simpa using hj)) := by simp
  rw [e] at h2 ⊢
  exact ⟨rfl, by show 0 < (one1 _).many.toNat; omega⟩
theorem ownC {w : World} {base e size n cap : Nat} {a : Option Addr} {xs : List Value} (h : w.ownsRow base e size (.slice a n cap) n xs) : CellsAt w a xs := by
  obtain ⟨_, _, ev, -, -, hc, -⟩ := own_shape h
  cases ev
  exact hc
structure DlW (wr w : World) (b0 b1 b2 : Nat) (l : List Int) (q : Nat) (N : List Wr) (wa : Option Addr) (wc : Nat) (B : List Nm) (ba : Option Addr) (bc : Nat) (D : List De) (da : Option Addr) (dc : Nat) : Prop where
  ow : wr.ownsRow b0 97 3 (.slice wa N.length wc) N.length (flat encWr N)
  ob : wr.ownsRow b1 42 2 (.slice ba B.length bc) B.length (flat encNm B)
  od : wr.ownsRow b2 40 4 (.slice da D.length dc) D.length (flat encDe D)
  st : StreamAt wr w.heap.size w.heap.size l q
  gr : w.grownBy wr none
  p0 : w.heap.size < b0
  p1 : w.heap.size < b1
  p2 : w.heap.size < b2
section
variable {wr w w1 : World} {b0 b1 b2 q q2 wc bc dc g : Nat} {l : List Int} {N : List Wr} {B : List Nm} {D : List De} {wa ba da : Option Addr}
theorem DlW.keep0 (h : DlW wr w b0 b1 b2 l q N wa wc B ba bc D da dc) (g : wr.grownBy w1 none) : DlW w1 w b0 b1 b2 l q N wa wc B ba bc D da dc :=
  ⟨own_keep0 h.ow g, own_keep0 h.ob g, own_keep0 h.od g, h.st.keep0 g, gr_trans h.gr g, h.p0, h.p1, h.p2⟩
theorem DlW.draw (h : DlW wr w b0 b1 b2 l q N wa wc B ba bc D da dc) (g : wr.grownBy w1 (some w.heap.size)) (hs : StreamAt w1 w.heap.size w.heap.size l q2) : DlW w1 w b0 b1 b2 l q2 N wa wc B ba bc D da dc :=
  ⟨own_keepS h.ow g h.p0, own_keepS h.ob g h.p1, own_keepS h.od g h.p2, hs, gr_grown h.gr g (fun k e => by cases e; exact Nat.le_refl _), h.p0, h.p1, h.p2⟩
theorem DlW.setD (h : DlW wr w b0 b1 b2 l q N wa wc B ba bc D (some ⟨g, 0, none⟩) dc) (j : Nat) (v : Value) {D' : List De} (hl : D'.length = D.length) (ho : (wr.setCell ⟨g, j, none⟩ v).ownsRow b2 40 4 (.slice (some ⟨g, 0, none⟩) D.length dc) D.length (flat encDe D')) : DlW (wr.setCell ⟨g, j, none⟩ v) w b0 b1 b2 l q N wa wc B ba bc D' (some ⟨g, 0, none⟩) dc := by
  have gs : wr.grownBy (wr.setCell ⟨g, j, none⟩ v) (some g) := gr_set (q := ⟨g, j, none⟩) (gr_refl wr (some g)) rfl v
  have hg : b2 ≤ g := (h.od.lt g rfl).1
  exact ⟨own_keepU h.ow h.od (by decide) gs, own_keepU h.ob h.od (by decide) gs, by rw [hl]; exact ho, h.st.keep gs (fun b e => by cases e; have := h.p2; omega), gr_grown h.gr gs (fun k e => by cases e; have := h.p2; omega), h.p0, h.p1, h.p2⟩
theorem DlW.setB (h : DlW wr w b0 b1 b2 l q N wa wc B (some ⟨g, 0, none⟩) bc D da dc) (j : Nat) (v : Value) {B' : List Nm} (hl : B'.length = B.length) (ho : (wr.setCell ⟨g, j, none⟩ v).ownsRow b1 42 2 (.slice (some ⟨g, 0, none⟩) B.length bc) B.length (flat encNm B')) : DlW (wr.setCell ⟨g, j, none⟩ v) w b0 b1 b2 l q N wa wc B' (some ⟨g, 0, none⟩) bc D da dc := by
  have gs : wr.grownBy (wr.setCell ⟨g, j, none⟩ v) (some g) := gr_set (q := ⟨g, j, none⟩) (gr_refl wr (some g)) rfl v
  have hg : b1 ≤ g := (h.ob.lt g rfl).1
  exact ⟨own_keepU h.ow h.ob (by decide) gs, by rw [hl]; exact ho, own_keepU h.od h.ob (by decide) gs, h.st.keep gs (fun b e => by cases e; have := h.p1; omega), gr_grown h.gr gs (fun k e => by cases e; have := h.p1; omega), h.p0, h.p1, h.p2⟩
end
set_option maxRecDepth 100000 in
set_option maxHeartbeats 1500000 in
theorem dealsCheaper_any (l : List Int) (a : Option Addr) (cap : Nat) (w : World) (hc : CellsAt w a (ints l)) (hl : l.length ≤ 9223372036854775807) :
    Calls Tryd.prog 3 #[.slice a l.length cap] w fun e w' => e = .returned (.bool true) ∧ w.grownBy w' none := by
  have hg0 := gr_alloc (gr_refl w none) (.cells #[.slice a l.length cap, .int .i64 0] 25)
  have sa0 := StreamAt.made cap hc hl
  obtain ⟨w0, hw0⟩ : ∃ w0, w0 = w.alloc (.cells #[.slice a l.length cap, .int .i64 0] 25) := ⟨_, rfl⟩
  have hz0 : w0.heap.size = w.heap.size + 1 := by rw [hw0]; simp
  rw [← hw0] at sa0 hg0
  have HW0 := Lib.hid hw0
  clear hw0 hc hl
  go_enter Tryd.func3, Tryd.ntmps3
  go_wp2_with (fail)
  rw [← HW0.out]
  have WA := wares_any l 0 _ w0 sa0 (by omega)
  unfold WaresPost at WA
  refine WA.mono ?_
  rintro e w1 ⟨wv, N, rfl, ow, hNl, hNs, ⟨q1, hq1, sa1⟩, g1⟩
  have hgr1 := gr_grown hg0 g1 (fun k e => by cases e; omega)
  have hz1 := g1.size
  clear WA sa0 hg0 g1 HW0
  go_wp2_with (fail)
  have BA := basket_any l q1 _ w1 sa1 (by omega)
  unfold BasketPost at BA
  refine BA.mono ?_
  rintro e w2 ⟨bv, B, rfl, ob, hBl, hBs, ⟨q2, hq2, sa2⟩, g2⟩
  have ow2 := own_keepS ow g2 (by omega)
  have hgr2 := gr_grown hgr1 g2 (fun k e => by cases e; omega)
  have hz2 := g2.size
  clear BA sa1 hgr1 g2 ow
  go_wp2_with (fail)
  have DA := deals_any l q2 _ w2 sa2 (by omega)
  unfold DealsPost at DA
  refine DA.mono ?_
  rintro e w3 ⟨dv, D, rfl, od, hDl, hDs, ⟨q3, hq3, sa3⟩, g3⟩
  have ow3 := own_keepS ow2 g3 (by omega)
  have ob3 := own_keepS ob g3 (by omega)
  have hgr3 := gr_grown hgr2 g3 (fun k e => by cases e; omega)
  have hz3 := g3.size
  obtain ⟨wa, wc, rfl, -, -, hcw, -⟩ := own_shape ow3
  obtain ⟨ba, bc, rfl, -, -, hcb, -⟩ := own_shape ob3
  obtain ⟨da, dc, rfl, hdc, -, hcd, -⟩ := own_shape od
  have DF := dealsFault_any N wa wc D da dc w3 hcw hNs hNl hcd hDs hDl hdc
  unfold WrPost at DF
  have DF := Lib.hid DF
  have BF := Lib.hid (fun (W : World) (g : w3.grownBy W none) => basketFault_any N wa wc B ba bc W (hcw.keep0 g) hNs hNl (hcb.keep0 g) hBs hBl)
  have HNS := Lib.hid hNs
  have HBS := Lib.hid hBs
  have HDS := Lib.hid hDs
  have HOW := Lib.hid ow3
  have HOB := Lib.hid ob3
  have HOD := Lib.hid od
  have HST := Lib.hid sa3
  have HG3 := Lib.hid hgr3
  clear DA sa2 hgr2 g3 ow2 ob ow3 ob3 od hcw hcb hcd hNs hBs hDs sa3 hgr3
  go_wp2_with (fail)
  refine DF.out.mono ?_
  rintro e w4 ⟨r4, rfl, hr4, g4⟩
  have HR4 := Lib.hid hr4
  have HG4 := Lib.hid g4
  clear hr4 g4 DF
  by_cases r40 : r4 = 0
  case neg =>
    have hrb : (r4 != 0) = true := by simpa using r40
    clear r40
    go_wp2_with (fail)
    refine (depots_any w4).mono ?_
    rintro e w8 ⟨rfl, g8⟩
    have g8 := gr_trans (gr_trans HG3.out HG4.out) g8
    go_wp2_with (fail)
    go_ret
    exact ⟨rfl, g8⟩
  have hok := HR4.out r40
  subst r40
  have HOKD := Lib.hid hok.2
  clear hok HR4
  go_wp2_with (fail)
  have BF4 := BF.out w4 HG4.out
  unfold WrPost at BF4
  refine BF4.mono ?_
  rintro e w5 ⟨r5, rfl, hr5, g5⟩
  have HR5 := Lib.hid hr5
  have HG5 := Lib.hid (gr_trans HG4.out g5)
  clear hr5 g5 BF BF4 HG4
  by_cases r50 : r5 = 0
  case neg =>
    have hrb : (r5 != 0) = true := by simpa using r50
    clear r50
    go_wp2_with (fail)
    refine (depots_any w5).mono ?_
    rintro e w8 ⟨rfl, g8⟩
    have g8 := gr_trans (gr_trans HG3.out HG5.out) g8
    go_wp2_with (fail)
    go_ret
    exact ⟨rfl, g8⟩
  obtain ⟨okW, okB⟩ := HR5.out r50
  subst r50
  have PR := Lib.hid (fun (D' : List De) (a1 : Option Addr) (c1 : Nat) (B' : List Nm) (W : World) (h1 : CellsAt W wa (flat encWr N)) (h2 : CellsAt W a1 (flat encDe D')) (h3 : ∀ x ∈ D', DeSm x) (h4 : D'.length ≤ 4) (h5 : D'.length ≤ c1) (h6 : CellsAt W ba (flat encNm B')) (h7 : B'.length ≤ 6) (h8 : DesOk D') (h9 : BksOk N B') => price_any N wa wc D' a1 c1 B' ba bc W h1 HNS.out hNl h2 h3 h4 h5 h6 h7 okW h8 h9)
  have HOKW := Lib.hid okW
  have HOKB := Lib.hid okB
  have W5 : Hid (DlW w5 w w0.heap.size w1.heap.size w2.heap.size l q3 N wa wc B ba bc D da dc) := ⟨own_keep0 HOW.out HG5.out, own_keep0 HOB.out HG5.out, own_keep0 HOD.out HG5.out, HST.out.keep0 HG5.out, gr_trans HG3.out HG5.out, by omega, by omega, by omega⟩
  have hq3b : q3 ≤ 300 := by omega
  obtain ⟨pc0, pc1⟩ := price_cheap okW okB HOKD.out
  have PM := Lib.hid (fun i hi => price_more okW okB (desOk_one HOKD.out) i hi)
  clear okW okB HR5 HOW HOB HOD HST HG3 HG5 hq1 hq2 hq3
  have P1 := PR.out D da dc B w5 (ownC W5.out.ow) (ownC W5.out.od) HDS.out hDl hdc (ownC W5.out.ob) hBl HOKD.out HOKB.out
  unfold PricePost at P1
  have P1 := Lib.hid P1
  obtain ⟨p1, hp1⟩ : ∃ p, p = priceM N D B := ⟨_, rfl⟩
  rw [← hp1] at P1 pc0 pc1
  obtain ⟨p2, hp2⟩ : ∃ p, p = priceM N [] B := ⟨_, rfl⟩
  rw [← hp2] at pc1
  have HP2 := Lib.hid hp2
  clear hp1 hp2
  go_wp2_with (fail)
  refine P1.out.mono ?_
  rintro e w6 ⟨v6, K6, rfl, o6, -, g6⟩
  have W6 := Lib.hid (W5.out.keep0 g6)
  have P2 := PR.out [] none 0 B w6 (ownC W6.out.ow) (CellsAt.nil _ _) (fun x hx => by cases hx) (by simp) (by simp) (ownC W6.out.ob) hBl (fun j hj => by cases hj) HOKB.out
  unfold PricePost at P2
  rw [← HP2.out] at P2
  have P2 := Lib.hid P2
  clear o6 g6 W5 P1
  go_wp2_with (fail)
  refine P2.out.mono ?_
  rintro e w7 ⟨v7, K7, rfl, o7, hK7, g7⟩
  have hK70 : K7 = [] := List.eq_nil_of_length_eq_zero (by simpa using hK7)
  subst hK70
  obtain ⟨va7, vc7, rfl, -, -, -, -⟩ := own_shape o7
  have W7 := Lib.hid (W6.out.keep0 g7)
  have f1 : decide (p2 < p1) = false := decide_eq_false (by omega)
  have f2 : decide (p1 < 0) = false := decide_eq_false (by omega)
  have W7' : Hid (DlW w7 w w0.heap.size w1.heap.size w2.heap.size l q3 N wa wc B ba bc (oneTo D 0) da dc ∧ (oneTo D 0).length = D.length) := ⟨by rw [oneTo_zero]; exact W7.out, by rw [oneTo_zero]⟩
  clear o7 hK7 g7 W6 P2 W7
  go_wp2_with (fail)
  clear f1 f2
  go_loopw [77] (fun i wr => ∃ k : Nat, k ≤ D.length ∧ i = .int .i64 k ∧ DlW wr w w0.heap.size w1.heap.size w2.heap.size l q3 N wa wc B ba bc (oneTo D k) da dc) (fun i _ => D.length - (intOf i).toNat)
  case atStart => exact ⟨0, Nat.zero_le _, rfl, W7'.out.1⟩
  case round =>
    clear W7'
    obtain ⟨k, hk, rfl, hW⟩ := hrel
    obtain ⟨wo, rfl⟩ : ∃ wo : World, wo = wr := ⟨_, rfl⟩
    have HW := Lib.hid hW
    by_cases hlt : k < D.length
    · have hol := oneTo_len D k
      obtain ⟨g, cap', ev, -⟩ := own_some hW.od (by omega)
      cases ev
      have hge := oneTo_get D k hlt
      have hce := own_cellE encDe_len hW.od k (by omega) 3 (by omega) (.int .i64 (oneTo D k)[k].free) rfl rfl
      obtain ⟨c0, c1, c2⟩ := hce
      have ho := c2 (.int .i64 1) (one1 (oneTo D k)[k]) rfl
      have e : (oneTo D k).set k (one1 (oneTo D k)[k]) = oneTo D (k + 1) := by rw [hge]; exact oneTo_next D k hlt
      rw [e] at ho
      have HS := Lib.hid (hW.setD (k * 4 + 3) (.int .i64 1) (D' := oneTo D (k + 1)) (by simp only [oneTo_len]) ho)
      obtain ⟨x, hx⟩ : ∃ x, x = (oneTo D k)[k].free := ⟨_, rfl⟩
      rw [← hx] at c0
      have hol2 : Hid ((oneTo D k).length = D.length) := hol
      have hlt2 : k < (oneTo D k).length := by omega
      clear hW hge c2 ho e hx hol
      go_wp2_with (fail)
      go_roundw
      case rel => exact ⟨k + 1, by omega, by go_num, HS.out⟩
      case measure => simp [intOf]; omega
    · obtain rfl : k = D.length := by omega
      have hW2 := HW.out
      rw [oneTo_all] at hW2
      have HW2 := Lib.hid hW2
      have HDO := Lib.hid (desOk_one HOKD.out)
      have P3 := PR.out (D.map one1) da dc B wo (ownC hW2.ow) (ownC hW2.od) (deSm_one HDS.out) (by rw [List.length_map]; exact hDl) (by rw [List.length_map]; exact hdc) (ownC hW2.ob) hBl HDO.out HOKB.out
      unfold PricePost at P3
      rw [List.length_map] at P3
      have P3 := Lib.hid P3
      clear hW hW2 HW
      go_wp2_with (fail)
      refine P3.out.mono ?_
      rintro e w8 ⟨v8, K8, rfl, o8, -, g8⟩
      have W8 := Lib.hid (HW2.out.keep0 g8)
      obtain ⟨p3, hp3⟩ : ∃ p, p = priceM N (D.map one1) B := ⟨_, rfl⟩
      rw [← hp3]
      rw [← hp3] at PM
      clear o8 g8 HW2 P3 hp3
      by_cases hb0 : B.length = 0
      · have hbb : ((B.length : Int) == 0) = true := beq_iff_eq.2 (by omega)
        have HB0 := Lib.hid hb0
        clear hb0
        go_wp2_with (fail)
        refine (depots_any w8).mono ?_
        rintro e w9 ⟨rfl, g9⟩
        have g9 := gr_trans W8.out.gr g9
        go_wp2_with (fail)
        go_ret
        exact ⟨rfl, g9⟩
      · have hbb : ((B.length : Int) == 0) = false := beq_eq_false_iff_ne.2 (by omega)
        have hnr := nxt_range l q3 (B.length : Int) (by omega)
        have NX := Lib.hid (next_any l q3 (B.length : Int) _ w8 W8.out.st (by omega) (by omega))
        go_wp2_with (fail)
        refine NX.out.mono ?_
        rintro e w9 ⟨rfl, s9, g9⟩
        have W9 := Lib.hid (W8.out.draw g9 s9)
        obtain ⟨i, hi⟩ : ∃ i : Nat, nxt l q3 (B.length : Int) = (i : Int) := ⟨(nxt l q3 (B.length : Int)).toNat, by omega⟩
        rw [hi] at hnr
        rw [hi]
        have hil : i < B.length := by omega
        obtain ⟨g, cap', ev, -⟩ := own_some W9.out.ob (by omega)
        cases ev
        obtain ⟨c0, c1, c2⟩ := own_cellE encNm_len W9.out.ob i hil 1 (by omega) (.int .i64 B[i].many) rfl rfl
        have ho := c2 (.int .i64 (B[i].many + 1)) (more1 B[i]) rfl
        have HS := Lib.hid (W9.out.setB (i * 2 + 1) (.int .i64 (B[i].many + 1)) (B' := B.set i (more1 B[i])) (by rw [List.length_set]) ho)
        have PM2 := PM.out i hil
        have hbs := HBS.out _ (List.getElem_mem hil)
        have P4 := PR.out (D.map one1) da dc (B.set i (more1 B[i])) _ (ownC HS.out.ow) (ownC HS.out.od) (deSm_one HDS.out) (by rw [List.length_map]; exact hDl) (by rw [List.length_map]; exact hdc) (ownC HS.out.ob) (by rw [List.length_set]; exact hBl) HDO.out (bksOk_more HOKB.out HBS.out i hil)
        unfold PricePost at P4
        rw [List.length_map, List.length_set] at P4
        have P4 := Lib.hid P4
        have HGS := Lib.hid HS.out.gr
        obtain ⟨p4, hp4⟩ : ∃ p, p = priceM N (D.map one1) (B.set i (more1 B[i])) := ⟨_, rfl⟩
        rw [← hp4] at PM2 P4
        obtain ⟨x, hx⟩ : ∃ x, x = B[i].many := ⟨_, rfl⟩
        have hxb : 0 ≤ x ∧ x ≤ 101 := by rw [hx]; obtain ⟨-, h1, h2⟩ := hbs; omega
        rw [← hx] at c0 P4 HGS
        have hw1 : IntKind.i64.wrap (x + 1) = x + 1 := IntWalk.i64_in _ (by omega)
        have hge : decide (p3 ≤ p4) = true := decide_eq_true PM2
        clear hi c2 ho PM hbs hp4 hx s9 g9 NX W9 W8 HS
        go_wp2_with (fail)
        refine P4.out.mono ?_
        rintro e w10 ⟨v10, K10, rfl, o10, -, g10⟩
        have HG10 := Lib.hid (gr_trans HGS.out g10)
        clear o10 g10 P4
        go_wp2_with (fail)
        refine (depots_any w10).mono ?_
        rintro e w11 ⟨rfl, g11⟩
        have g11 := gr_trans HG10.out g11
        go_wp2_with (fail)
        go_ret
        exact ⟨rfl, g11⟩
end Go.Proofs.YtjhfglhoiplfmaaDoor
