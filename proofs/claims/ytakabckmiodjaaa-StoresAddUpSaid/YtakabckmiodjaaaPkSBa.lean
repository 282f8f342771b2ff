/- Where the units of a lot are. -/
import Derived.Test.YtakabckmiodjaaaPkSAx
import Derived.Test.YtakabckmiodjaaaPkSAz
import Derived.Test.YtakabckmiodjaaaPkSAt
import Derived.Test.YtakabckmiodjaaaPkSAb
namespace Go.Proofs.Ytakabckmiodjaaa
open Go.RowKit
attribute [local go_sem ↓] Go.wp_at_zero Go.wp_at_succ

def xS : ByteArray := { data := #[120] }
def yS : ByteArray := { data := #[121] }
theorem xy_ne : xS ≠ yS := by decide
def nmSum (R : List Nm) : Int := (R.map Nm.many).sum
theorem nmSum_app (a b : List Nm) : nmSum (a ++ b) = nmSum a + nmSum b := by simp [nmSum]
theorem nmSum_perm {a b : List Nm} (h : a.Perm b) : nmSum a = nmSum b := sum_perm (h.map _)
theorem skey_sm (s : ByteArray) : (skey s).sameKey (skey s) = true := by simp [skey, Lit.sameKey]
/-- What has been read of a map at two places. -/
structure WhTo (f : ByteArray → Option Int) (left : Lit → Bool) (R : List Nm) : Prop where
  sum : nmSum R = (if left (skey xS) then 0 else (f xS).getD 0) + (if left (skey yS) then 0 else (f yS).getD 0)
  len : R.length ≤ (if left (skey xS) then 0 else 1) + (if left (skey yS) then 0 else 1)
  pos : ∀ x ∈ R, 1 ≤ x.many
theorem WhTo.start {f : ByteArray → Option Int} {left : Lit → Bool} (h : ∀ s, left (skey s) = (f s).isSome) : WhTo f left [] := by
  refine ⟨?_, by simp, fun x hx => by cases hx⟩
  rw [h, h]
  cases f xS <;> cases f yS <;> simp [nmSum]
theorem WhTo.next {f : ByteArray → Option Int} {left : Lit → Bool} {R : List Nm} {s : ByteArray} {x : Int} (h : WhTo f left R) (hs : s = xS ∨ s = yS) (hf : f s = some x) (hl : left (skey s) = true) (hx : 0 ≤ x) :
    WhTo f (fun z => left z && !z.sameKey (skey s)) (if 0 < x then R ++ [⟨s, x⟩] else R) := by
  obtain ⟨h1, h2, h3⟩ := h
  have hxy : (skey xS).sameKey (skey yS) = false := Maps.sameKey_ne (fun e => xy_ne (skey_inj e))
  have hyx : (skey yS).sameKey (skey xS) = false := Maps.sameKey_ne (fun e => xy_ne (skey_inj e).symm)
  have hp : ∀ y ∈ (if 0 < x then R ++ [⟨s, x⟩] else R), 1 ≤ y.many := by
    intro y hy
    split at hy
    · rename_i h0
      rcases List.mem_append.1 hy with hy | hy
      · exact h3 y hy
      · obtain rfl : y = ⟨s, x⟩ := by simpa using hy
        show 1 ≤ x; omega
    · exact h3 y hy
  have hsum : nmSum (if 0 < x then R ++ [(⟨s, x⟩ : Nm)] else R) = nmSum R + x := by
    split
    · rw [nmSum_app]; simp [nmSum]
    · omega
  have hlen : (if 0 < x then R ++ [(⟨s, x⟩ : Nm)] else R).length ≤ R.length + 1 := by
    split
    · simp
    · omega
  rcases hs with rfl | rfl
  · rw [hl] at h1 h2
    refine ⟨?_, ?_, hp⟩
    · rw [hsum]
      simp only [skey_sm, hyx, hf, Bool.not_true, Bool.and_false, Bool.not_false, Bool.and_true]
      simp only [if_true] at h1
      simp; omega
    · refine Nat.le_trans hlen ?_
      simp only [skey_sm, hyx, Bool.not_true, Bool.and_false, Bool.not_false, Bool.and_true]
      simp only [if_true] at h2
      simp; omega
  · rw [hl] at h1 h2
    refine ⟨?_, ?_, hp⟩
    · rw [hsum]
      simp only [skey_sm, hxy, hf, Bool.not_true, Bool.and_false, Bool.not_false, Bool.and_true]
      simp only [if_true] at h1
      simp; omega
    · refine Nat.le_trans hlen ?_
      simp only [skey_sm, hxy, Bool.not_true, Bool.and_false, Bool.not_false, Bool.and_true]
      simp only [if_true] at h2
      simp; omega
theorem WhTo.done {f : ByteArray → Option Int} {left : Lit → Bool} {R O : List Nm} (h : WhTo f left R) (hp : O.Perm R) (hl : ∀ kl, left kl = false) : nmSum O = (f xS).getD 0 + (f yS).getD 0 := by
  rw [nmSum_perm hp, h.sum, hl, hl]; rfl
def whK (x y : Nm) : Int := cmpB x.key y.key
theorem whK_ok : CmpOk whK := by
  refine ⟨fun a b h => ?_, fun a b c h1 h2 h3 => ?_⟩
  · unfold whK at *
    rw [cmpB_anti a.key b.key]; omega
  · unfold whK at *
    rw [cmpB_neg] at h1 h2 h3
    rcases compareBytes_sign b.key.data.toList a.key.data.toList with ⟨_, g⟩ | ⟨_, g⟩ | ⟨_, g⟩
    · exact h1 g
    · rw [g] at h2; exact h2 h3
    · exact h2 (ltL_trans h3 g)
theorem where1_fn : ∀ (args : Array Value) (w : World), (callFunc 86 args).run Try.prog w = .ok (.enter 86 args) w := fun _ _ => by kernel_rfl
theorem where1_any (x y : Nm) (w : World) : Calls Try.prog 86 #[.agg #[.string x.key, .int .i64 x.many], .agg #[.string y.key, .int .i64 y.many]] w fun e w' => e = .returned (.int .i64 (whK x y)) ∧ w.grownBy w' none := by
  obtain ⟨x0, x1⟩ := x
  obtain ⟨y0, y1⟩ := y
  have g2 := gr_alloc (gr_alloc (gr_refl w none) (.cells #[.string x0, .int .i64 x1] 82)) (.cells #[.string y0, .int .i64 y1] 82)
  obtain ⟨hA, hB⟩ := heap_2 w (.cells #[.string x0, .int .i64 x1] 82) (.cells #[.string y0, .int .i64 y1] 82)
  obtain ⟨w2, hw2⟩ : ∃ w2, w2 = (w.alloc (.cells #[.string x0, .int .i64 x1] 82)).alloc (.cells #[.string y0, .int .i64 y1] 82) := ⟨_, rfl⟩
  rw [← hw2] at g2 hA hB
  have p0 := blkC hA 0 rfl
  have r0 := blkC hB 0 rfl
  have HW := Lib.hid hw2
  show Calls _ _ _ _ _
  clear hA hB hw2
  simp only
  go_enter Try.func86, Try.ntmps86
  go_wp2_with (fail)
  rw [← HW.out]
  go_wp2_with (fail)
  refine (compare_any x0 y0 w2).mono ?_
  rintro e w5 ⟨rfl, rfl⟩
  go_wp2_with (fail)
  go_ret
  exact ⟨rfl, g2⟩
set_option maxRecDepth 100000 in
set_option maxHeartbeats 4000000 in
theorem where_any {xs : List Lot} {P : Nat → ByteArray → Option Int} (Bs : List Nat) (base S mx : Nat) (w : World) (h : StoreM w base S mx xs Bs P) (hn : xs.length ≤ 5) (hd : Apart xs) (i : Nat) (hi : i < xs.length) (K : ByteArray) (hK : (lotN xs i).id = K)
    (hP : ∀ s v, P i s = some v → 0 ≤ v ∧ (s = xS ∨ s = yS)) :
    Calls Try.prog 34 #[.pointer (some ⟨S, 0, none⟩), .string K] w fun e w' =>
      ∃ v O, e = .returned (.tuple #[v, .int .i64 0]) ∧ w'.ownsRow w.heap.size 82 2 v O.length (flat encNm O) ∧ O.length ≤ 2 ∧ nmSum O = (P i xS).getD 0 + (P i yS).getD 0 ∧ (∀ x ∈ O, 1 ≤ x.many) ∧ w.grownBy w' none := by
  obtain ⟨va, vc, ua, uc, hS, c0, c1, hcv, -, hu1, hu2, hmq⟩ := h.cells
  have LO := Lib.hid (lot_any K xs va vc w hcv (by omega))
  rw [lotIx_of hd hi hK] at LO
  have hbj : ∃ c, Bs[i]? = some c := ⟨_, List.getElem?_eq_getElem (by have := h.len; omega)⟩
  obtain ⟨c, hc⟩ := hbj
  obtain ⟨gg, rfl, m0⟩ := hmq i c hc
  obtain ⟨hbc, mm, hmm, hmp⟩ := h.maps i c hc
  have HMP := Lib.hid hmp
  have HP := Lib.hid hP
  unfold maxLen at hu2
  clear h hd hK hP hS hcv hmq hc hmp
  go_enter Try.func34, Try.ntmps34
  go_wp2_with (fail)
  refine LO.out.mono ?_
  rintro e w1 ⟨rfl, g1⟩
  have s1 := (gr_cell g1 (lt_of_cell c1)).trans c1
  have m1 := (gr_cell g1 (lt_of_cell m0)).trans m0
  have HM1 := Lib.hid (HMP.out.keep0 g1)
  have HG1 := Lib.hid g1
  clear HMP g1 LO c0 c1 m0
  go_wp2_with (first | (at_range; refine wpList_rangeSI rfl _ rfl c mm (P i) rfl HM1.out ?_; intro w5 left cnt hr hleft g5 hz5))
  go_frame
  have hz1 := HG1.out.size
  have HR5 := Lib.hid hr
  have HO5 : Hid (WhTo (P i) left []) := WhTo.start hleft
  have HG5 := Lib.hid (gr_trans HG1.out g5)
  have hz5' : w1.heap.size + 1 ≤ w5.heap.size := by omega
  obtain ⟨ib, hib⟩ : ∃ b, b = w1.heap.size := ⟨_, rfl⟩
  rw [← hib] at HR5
  rw [← hib]
  have hibw : w.heap.size ≤ ib := by omega
  have hcib : c < ib := by have := HM1.out.lt; omega
  rw [← hib] at hz5'
  clear hr hleft g5 hz5 hib HG1 s1 m1 HM1
  go_loopw [7, 26] (fun v _ wr => ∃ left cnt R, RangeIs wr c ib mm (P i) left cnt ∧ WhTo (P i) left R ∧ wr.ownsRow (ib + 1) 82 2 v R.length (flat encNm R) ∧ ib + 1 ≤ wr.heap.size ∧ w.grownBy wr none) (fun _ _ wr => wr.rangeLeft c ib)
  case atStart => exact ⟨_, _, [], HR5.out, HO5.out, World.ownsRow_nil _ _ _ _, hz5', HG5.out⟩
  case round =>
    clear HR5 HO5 HG5
    obtain ⟨left, cnt, R, hr, hN, hO, hzi, hgr⟩ := hrel
    obtain ⟨wi, rfl⟩ : ∃ wi : World, wi = wr := ⟨_, rfl⟩
    have hRl : R.length ≤ 2 := by have := hN.len; split at this <;> split at this <;> omega
    have HO := Lib.hid hO
    have HN := Lib.hid hN
    clear hO hN
    go_wp2_with (first | (at_next; refine wpList_nextSI rfl _ rfl c ib mm (P i) left cnt rfl hr ?_ ?_))
    · intro hdone
      have HGR := Lib.hid hgr
      obtain ⟨va, vc, rfl, -, -, -, -⟩ := own_shape HO.out
      have SF := Lib.hid (sortFNm_few 86 R.length whK _ (ib + 1) R wi HO.out rfl (by omega) where1_fn whK_ok (fun x y W _ _ _ => where1_any x y W))
      have HD := Lib.hid hdone
      have LT := Lib.hid HO.out.lt
      clear hr hgr hdone HO
      go_wp2_with (fail)
      refine SF.out.mono ?_
      rintro e w3 ⟨O, rfl, o3, hp3, hs3, g3⟩
      have hOl : O.length = R.length := hp3.length_eq
      have HSUM := Lib.hid (HN.out.done hp3 HD.out)
      have HPOS : Hid (∀ x ∈ O, 1 ≤ x.many) := fun x hx => HN.out.pos x (hp3.mem_iff.1 hx)
      have HG3 := Lib.hid (gr_grown HGR.out g3 (fun q hq => by have := (LT.out q hq).1; omega))
      have ho3 : w3.ownsRow (ib + 1) 82 2 (.slice va R.length vc) O.length (flat encNm O) := by rw [hOl]; exact o3
      have HO3 := Lib.hid ho3
      have hO2 : O.length ≤ 2 := by omega
      clear SF hp3 hs3 g3 o3 ho3 hOl
      go_wp2_with (fail)
      go_ret2
      exact ⟨_, O, rfl, own_base HO3.out (by omega), hO2, HSUM.out, HPOS.out, HG3.out⟩
    · intro s x w22 cnt' hfs hl2 hr22 hlt g22 hz22 hen
      obtain ⟨hx0, hsxy⟩ := HP.out s x hfs
      have HN2 := Lib.hid (HN.out.next hsxy hfs hl2 hx0)
      have HO22 := Lib.hid (own_keepS HO.out g22 (by omega))
      have HG22 := Lib.hid (gr_grown hgr g22 (fun k hk => by cases hk; exact hibw))
      have HLT := Lib.hid hlt
      have HR22 := Lib.hid hr22
      have HRo := Lib.hid hr
      have hz23 : ib + 1 ≤ w22.heap.size := by omega
      clear hfs hl2 hlt g22 hz22 hr hgr hr22 HO HN
      by_cases hx1 : 0 < x
      · have HN2 : Hid (WhTo (P i) (fun z => left z && !z.sameKey (skey s)) (R ++ [⟨s, x⟩])) := by have := HN2.out; rw [if_pos hx1] at this; exact this
        go_wp2_with (at_builtin; refine wpList_app1F eNm rfl _ _ rfl (ib + 1) _ R.length (flat encNm R) rfl w22 #[.string s, .int .i64 x] rfl HO22.out _ rfl rfl rfl rfl (by omega) (by omega) ?_; intro v7 w7 o7 g7 hl7 hk7)
        have HO7 : Hid (w7.ownsRow (ib + 1) 82 2 v7 (R ++ [(⟨s, x⟩ : Nm)]).length (flat encNm (R ++ [⟨s, x⟩]))) := by
          show World.ownsRow _ _ _ _ _ _ _
          rw [List.length_append, flat_append, flat_one]; exact o7
        have HR7 := Lib.hid (HR22.out.keep g7 (fun e => by have := hl7 c e.symm; omega) (fun e => by have := hl7 ib e.symm; omega))
        have HG7 := Lib.hid (gr_grown HG22.out g7 (fun q hq => by have := hl7 q hq; omega))
        have hz7 := g7.size
        have hz77 : ib + 1 ≤ w7.heap.size := by omega
        clear o7 g7 hl7 hk7 HO22 HG22 hz7
        go_wp2_with (fail)
        go_roundw
        case rel => exact ⟨_, _, _, HR7.out, HN2.out, HO7.out, hz77, HG7.out⟩
        case measure => rw [HR7.out.left, HRo.out.left]; exact HLT.out
      · have HN2 : Hid (WhTo (P i) (fun z => left z && !z.sameKey (skey s)) R) := by have := HN2.out; rw [if_neg hx1] at this; exact this
        go_wp2_with (fail)
        go_roundw
        case rel => exact ⟨_, _, _, HR22.out, HN2.out, HO22.out, hz23, HG22.out⟩
        case measure => rw [HR22.out.left, HRo.out.left]; exact HLT.out
end Go.Proofs.Ytakabckmiodjaaa
