/- Versions, as the stream makes them: the walk. -/
import Derived.Test.YtdjnomeabadbnaaDoorVersReg
namespace Go.Proofs.YtdjnomeabadbnaaDoor
open Go.RowKit
variable {lw : Nat}
attribute [local go_sem ↓] Go.wp_at_zero Go.wp_at_succ

theorem blk2C {w : World} {g t : Nat} {a b : Value} (h : w.heap[g]? = some (.cells #[a, b] t (0, 0))) : w.cell? ⟨g, 0, none⟩ = some a ∧ w.cell? ⟨g, 1, none⟩ = some b := ⟨blkC h 0 rfl, blkC h 1 rfl⟩
def VersPost (l : List Int) (k p lw : Nat) (w : World) (e : Ending) (w' : World) : Prop :=
  ∃ v, e = .returned v ∧ VersAt w' w.heap.size v (versM l k) ∧ StreamAt w' p lw l (versK l k) ∧ w.grownBy w' (some p)
set_option maxRecDepth 100000 in
set_option maxHeartbeats 4000000 in
theorem vers_any (l : List Int) (k : Nat) (p : Nat) (w : World) (hs : StreamAt w p lw l k) (hk : k < 800000000) :
    Calls Tryd.prog 21 #[.pointer (some ⟨p, 0, none⟩)] w (VersPost l k p lw w) := by
  have hlt := hs.lt
  go_enter Tryd.func21, Tryd.ntmps21
  go_wp2_with (fail)
  go_fit (next_any l k 4 p w hs (by omega) (by omega))
  rintro e w2 ⟨rfl, hs2, hg2⟩
  have r1 := nxt_range l k 4 (by omega)
  obtain ⟨n, hn⟩ : ∃ n, n = vN l k := ⟨_, rfl⟩
  have hne : nxt l k 4 = (n : Int) := by rw [hn]; unfold vN; omega
  rw [hne] at r1
  rw [hne]
  have hn4 : n ≤ 3 := by omega
  have HN := Lib.hid hn
  clear hn hne r1 hs
  go_wp2_with (fail)
  go_fit (next_any l (k + 1) 4 p w2 hs2 (by omega) (by omega))
  rintro e w3 ⟨rfl, hs3, hg3⟩
  have r2 := nxt_range l (k + 1) 4 (by omega)
  obtain ⟨d, hd⟩ : ∃ d, d = vD l k := ⟨_, rfl⟩
  rw [show nxt l (k + 1) 4 = d by rw [hd]; rfl] at r2
  rw [show nxt l (k + 1) 4 = d by rw [hd]; rfl]
  obtain ⟨hd0, hd4⟩ := r2
  have HD := Lib.hid hd
  clear hd hs2
  go_wp2_with (fail)
  go_fit (next_any l (k + 1 + 1) 5 p w3 hs3 (by omega) (by omega))
  rintro e w4 ⟨rfl, hs4, hg4⟩
  have r3 := nxt_range l (k + 1 + 1) 5 (by omega)
  obtain ⟨m, hm⟩ : ∃ m, m = vM l k := ⟨_, rfl⟩
  have hme : nxt l (k + 1 + 1) 5 = (m : Int) := by rw [hm]; show nxt l (k + 2) 5 = _; unfold vM; have : nxt l (k + 1 + 1) 5 = nxt l (k + 2) 5 := rfl; omega
  rw [hme] at r3
  rw [hme]
  have hm5 : m ≤ 4 := by omega
  have HM := Lib.hid hm
  have hgr4 := gr_trans (gr_trans hg2 hg3) hg4
  clear hm hme r3 hs3 hg2 hg3 hg4
  go_wp2_with (fail)
  go_loopw [3, 5, 14] (fun v q c wr => ∃ i : Nat, i ≤ m ∧ c = .int .i64 i ∧ q = .int .i64 (versTo l (k + 3) n d i).day ∧ NestS (VerR w.heap.size) wr w.heap.size 151 2 v (versTo l (k + 3) n d i).vs ∧ StreamAt wr p lw l (versTo l (k + 3) n d i).j ∧ w.grownBy wr (some p)) (fun _ _ c _ => m - (intOf c).toNat)
  case atStart => exact ⟨0, Nat.zero_le _, rfl, rfl, NestS.nil _ _ _ _, hs4, hgr4⟩
  case round =>
    clear hs4 hgr4
    obtain ⟨i, hi, rfl, rfl, hown, hsr, hgr⟩ := hrel
    obtain ⟨wo, rfl⟩ : ∃ wo : World, wo = wr := ⟨_, rfl⟩
    have hj := versTo_j l (k + 3) n d i
    have hjb : (versTo l (k + 3) n d i).j < 810000000 := by
      rw [hj]
      have : (n + 1) * i ≤ 4 * 4 := Nat.mul_le_mul (by omega) (by omega)
      omega
    have hlen := versTo_len l (k + 3) n d i
    obtain ⟨D0, D1⟩ := versTo_day l (k + 3) n d i
    obtain ⟨st, hst⟩ : ∃ st, st = versTo l (k + 3) n d i := ⟨_, rfl⟩
    rw [← hst] at hown hsr hjb hlen D0 D1 ⊢
    obtain ⟨vs, j, day⟩ := st
    have HST := Lib.hid hst
    have HLEN := Lib.hid hlen
    have hzo := hgr.size
    clear hst hlen hj
    by_cases hin : i < m
    · have HOWN := Lib.hid hown
      clear hown
      go_wp2_with (fail)
      have hV5 := heap_alloc_new wo (.cells #[.int .i64 day, .slice none 0 0] 151)
      have hg5 := gr_alloc (gr_refl wo none) (.cells #[.int .i64 day, .slice none 0 0] 151)
      obtain ⟨w5, hw5⟩ : ∃ w5, w5 = wo.alloc (.cells #[.int .i64 day, .slice none 0 0] 151) := ⟨_, rfl⟩
      rw [← hw5] at hV5 hg5
      rw [← hw5]
      obtain ⟨V, hV⟩ : ∃ V, V = wo.heap.size := ⟨_, rfl⟩
      rw [← hV] at hV5
      rw [← hV]
      have hVo : wo.heap.size ≤ V := by omega
      have hs5 : StreamAt w5 p lw l j := hsr.keep0 hg5
      clear hw5 hV
      go_loopw [19] (fun c wr => ∃ t : Nat, t ≤ n ∧ c = .int .i64 t ∧ (∃ lv, wr.heap[V]? = some (.cells #[.int .i64 day, lv] 151 (0, 0)) ∧ wr.ownsRow wo.heap.size 9 1 lv t (strs (verTo l j t))) ∧ StreamAt wr p lw l (j + t) ∧ wo.grownBy wr (some p)) (fun c _ => n - (intOf c).toNat)
      case atStart => exact ⟨0, Nat.zero_le _, rfl, ⟨_, hV5, World.ownsRow_nil _ _ _ _⟩, hs5, gr_weak hg5 _⟩
      case round =>
        clear hV5 hs5 hg5
        obtain ⟨t, ht, rfl, ⟨lv, hVr, hlv⟩, hsi, hgi⟩ := hrel
        obtain ⟨wi, rfl⟩ : ∃ wi : World, wi = wr := ⟨_, rfl⟩
        obtain ⟨la, lc, rfl, _, _, _, _⟩ := own_shape hlv
        have hzi := hgi.size
        have hVl := lt_of_block hVr
        obtain ⟨d0, d1⟩ := blk2C hVr
        by_cases htn : t < n
        · have ONE : Hid (Calls Tryd.prog 70 #[.pointer (some ⟨p, 0, none⟩), .slice (some ⟨wi.heap.size, 0, none⟩) 3 3] (wi.alloc (.cells #[.string ⟨#[]⟩, .string ⟨#[97]⟩, .string ⟨#[98]⟩] 9)).drew fun e w' => e = .returned (.string (oneS l (j + t) verOne)) ∧ StreamAt w' p lw l (j + t + 1) ∧ wi.drew.grownBy w' (some p)) :=
            one_any l (j + t) verOne p wi.drew (hsi.keep0 (gr_drew (gr_refl _ _))) (by show j + t < 1000000000; have : (⟨vs, j, day⟩ : VerSt).j < 810000000 := hjb; have : j < 810000000 := this; omega) (by decide) (by decide)
          have HLV := Lib.hid hlv
          have HVR := Lib.hid hVr
          have hL : (verTo l j t).length = t := verTo_len l j t
          obtain ⟨L, hLe⟩ : ∃ L, L = verTo l j t := ⟨_, rfl⟩
          rw [← hLe] at HLV
          have HLE := Lib.hid hLe
          obtain ⟨x, hx⟩ : ∃ x, x = oneS l (j + t) verOne := ⟨_, rfl⟩
          rw [← hx] at ONE
          have HX := Lib.hid hx
          have hgd := gr_drew (gr_refl wi (some p))
          clear hlv hVr hLe hx hL d0
          go_wp2_with (fail)
          go_region_law (first
            | (refine step_app1 eStr rfl _ _ rfl wo.heap.size _ t (strs L) rfl w7 _ rfl hlv7 _ rfl rfl rfl rfl ?_ ?_ ?_; (· omega); (· omega); intro v8 w8 hown8 hg8 hlt8 hk8; have hV8 := (hg8.block V hV7l (fun e => own_ne hlv7 hV7 (by decide) e.symm)).trans hV7; obtain ⟨_, e8⟩ := blk2C hV8; have z8 := blkF hV8 1; obtain ⟨g8, c8, rfl, _, _, _, _⟩ := own_some hown8 (by omega))
            | (go_simp; go_at_call 70; (with_reducible refine ONE.out.mono ?_); rintro e w7 ⟨rfl, hs7, hg7'⟩; have hg7 := gr_trans hgd hg7'; have hlv7 := own_keepS HLV.out hg7 (by omega); have hV7 := (hg7.block V hVl (by simp; omega)).trans HVR.out; have hV7l := lt_of_block hV7; have hz7 := hg7.size; obtain ⟨_, e7⟩ := blk2C hV7)
            | fail)
          all_goals (go_wp2_with (fail))
          all_goals go_roundw
          all_goals first
            | (simp [intOf]; omega)
            | (have gs : w8.grownBy _ (some V) := gr_set (q := ⟨V, 1, none⟩) (gr_refl w8 (some V)) rfl (.slice (some ⟨g8, 0, none⟩) (t + 1) c8)
               refine ⟨t + 1, by omega, by go_num, ⟨_, heap_setCell_same w8 V 1 _ _ _ hV8, ?_⟩, (hs7.keep hg8 (fun q hq => by have := hlt8 q hq; omega)).keep gs (fun q hq => by cases hq; omega), gr_grown (gr_grown (gr_trans hgi hg7) hg8 (fun q hq => hlt8 q hq)) gs (fun q hq => by cases hq; omega)⟩
               have := own_keep hown8 gs (.inr (own_ne hown8 hV8 (by decide)))
               simp only [verTo]
               rw [← HLE.out, ← HX.out]
               simpa [strs] using this)
        · obtain rfl : t = n := by omega
          have HLV := Lib.hid hlv
          have HVR := Lib.hid hVr
          obtain ⟨cs, hrow0, hpush⟩ := HOWN.out.push
          have hrow := own_keepS hrow0 hgi hlt
          have HROW := Lib.hid hrow
          have HPUSH := Lib.hid hpush
          have hvl : vs.length = i := HLEN.out
          have HVL := Lib.hid hvl
          have hjb2 : j < 810000000 := hjb
          clear hlv hVr hrow0 hrow hpush hvl
          go_wp2_with (at_builtin; refine wpList_app1F eVer rfl _ _ rfl w.heap.size _ vs.length (flat id cs) rfl wi #[.int .i64 day, .slice la t lc] rfl HROW.out _ rfl rfl rfl rfl (by have := HVL.out; omega) (by omega) ?_; intro v9 w9 hown9 hg9 hlt9 hf9)
          have hgo9 := gr_grown (gr_trans hgr hgi) hg9 (fun q hq => hlt9 q hq)
          have hs9 := hsi.keep hg9 (fun q hq => by have := hlt9 q hq; omega)
          have hk9 : ∀ (y : Ver) (d : List Value), VerR w.heap.size wo y d → VerR w.heap.size w9 y d := fun y d h => VerR.keepU HROW.out (by decide) hg9 y d (VerR.keepS hgi hlt y d h)
          have hvl : (verTo l j t).length = t := verTo_len l j t
          have hx9 : VerR w.heap.size w9 ⟨day, verTo l j t⟩ [.int .i64 day, .slice la t lc] := by
            refine VerR.keepU HROW.out (by decide) hg9 _ _ ⟨_, rfl, ?_⟩
            show World.ownsRow _ _ _ _ _ (verTo l j t).length _
            rw [hvl]
            exact own_base HLV.out hzo
          have hp9 := HPUSH.out wo.heap.size w9 v9 ⟨day, verTo l j t⟩ _ hown9 rfl hk9 (fun y d h => VerR.lt h) (by
            intro u hu q hq
            simp only [List.mem_cons, List.not_mem_nil, or_false] at hu
            rcases hu with rfl | rfl
            · simp [Value.ownBlock] at hq
            · exact (HLV.out.lt q hq).1) hx9
          have HP9 := Lib.hid hp9
          clear hown9 hg9 hlt9 hf9 hk9 hvl hx9 hp9 hsi hgi
          go_fit (pick_any l (j + t) [1, 2, 5] p w9 hs9 (by omega) (by decide) (by decide))
          rintro e w10 ⟨rfl, hs10, hg10⟩
          have hpb := pickM_mem l (j + t) [1, 2, 5] (by decide)
          simp only [List.mem_cons, List.not_mem_nil, or_false] at hpb
          obtain ⟨x, hx⟩ : ∃ x, x = pickM l (j + t) [1, 2, 5] := ⟨_, rfl⟩
          rw [← hx] at hpb ⊢
          have hx1 : 1 ≤ x := by omega
          have hx5 : x ≤ 5 := by omega
          have HX := Lib.hid hx
          have hD0 : d ≤ day := D0
          have hD1 : day ≤ d + 5 * i := D1
          clear hpb hx
          go_wp2_with (fail)
          go_roundw
          case rel =>
            have e1 : (versTo l (k + 3) t d (i + 1)) = ⟨vs ++ [⟨day, verTo l j t⟩], j + t + 1, day + x⟩ := by
              simp only [versTo]
              rw [← HST.out]
              simp only
              rw [← HX.out]
            refine ⟨i + 1, by omega, by go_num, by rw [e1], ?_, ?_, gr_trans hgo9 hg10⟩
            · rw [e1]
              exact HP9.out.keepS hg10 hlt (fun y d h => VerR.keepS hg10 hlt y d h)
            · rw [e1]
              exact hs10
          case measure => simp [intOf]; omega
    · obtain rfl : i = m := by omega
      have HH : Hid (versH l k = ⟨vs, j, day⟩) := by
        show _ = _
        unfold versH
        rw [← HN.out, ← HD.out, ← HM.out]
        exact HST.out.symm
      have hjb : j < 810000000 := hjb
      have HLAY : Hid (∀ v ∈ vs, v.lay.length ≤ 1000) := by
        show ∀ v ∈ vs, _
        intro v hv
        have h1 := versTo_lay l (k + 3) n d i v (by rw [← HST.out]; exact hv)
        omega
      have hvlb : vs.length ≤ 4 := by have : vs.length = i := HLEN.out; omega
      have hown : NestS (VerR w.heap.size) wo w.heap.size 151 2 _ vs := hown
      obtain ⟨va, vc, rfl, _, _, _, _⟩ := hown.own.shape
      have HOWN := Lib.hid hown
      clear hown D0 D1
      go_wp2_with (fail)
      go_fit (flip_any l j 12 p wo hsr (by omega) (by decide))
      rintro e w2 ⟨rfl, hs2, hg2⟩
      have hown2 := HOWN.out.keepS hg2 hlt (fun y d h => VerR.keepS hg2 hlt y d h)
      have hgr2 := gr_trans hgr hg2
      have HOWN2 := Lib.hid hown2
      clear hown2 hsr hgr hg2
      cases hf : flipM l j 12 with
      | false =>
        have HE : Hid (versM l k = vs ∧ versK l k = j + 1) := by
          show _ ∧ _
          unfold versM versK
          rw [HH.out]
          unfold versF
          simp only [hf]
          exact ⟨rfl, rfl⟩
        clear hf
        go_wp2_with (fail)
        go_ret
        exact ⟨.slice va vs.length vc, rfl, by rw [HE.out.1]; exact VersAt.of HOWN2.out.own, by rw [HE.out.2]; exact hs2, hgr2⟩
      | true =>
        by_cases h0 : vs.length = 0
        · have HE : Hid (versM l k = vs ∧ versK l k = j + 1) := by
            show _ ∧ _
            unfold versM versK
            rw [HH.out]
            unfold versF
            simp only [hf, h0, if_true]
            first
              | exact ⟨rfl, rfl⟩
              | exact ⟨trivial, trivial⟩
          have hlf : ¬ 0 < vs.length := by omega
          clear hf h0
          go_wp2_with (fail)
          go_ret
          exact ⟨.slice va vs.length vc, rfl, by rw [HE.out.1]; exact VersAt.of HOWN2.out.own, by rw [HE.out.2]; exact hs2, hgr2⟩
        · have hlf : 0 < vs.length := by omega
          have HE : Hid (versM l k = vs.set (nxt l (j + 1) vs.length).toNat (verTurn l j (vs.getD (nxt l (j + 1) vs.length).toNat ⟨0, []⟩)).1 ∧ versK l k = (verTurn l j ⟨0, []⟩).2) := by
            show _ ∧ _
            unfold versM versK
            rw [HH.out]
            unfold versF
            simp only [hf, h0, if_true, if_false]
            exact ⟨trivial, trivial⟩
          clear hf h0
          obtain ⟨cs, hrow, _⟩ := HOWN2.out.push
          obtain ⟨g, gc, hq, _, _, _, _⟩ := own_some hrow hlf
          cases hq
          clear hrow
          go_wp2_with (fail)
          go_fit (next_any l (j + 1) (vs.length : Int) p w2 hs2 (by omega) (by omega))
          rintro e w3 ⟨rfl, hs3, hg3⟩
          have hnr := nxt_range l (j + 1) (vs.length : Int) (by omega)
          obtain ⟨q, hq⟩ : ∃ q : Nat, nxt l (j + 1) (vs.length : Int) = q := ⟨(nxt l (j + 1) (vs.length : Int)).toNat, by omega⟩
          rw [hq] at HE ⊢
          have hql : q < vs.length := by omega
          have hown3 := HOWN2.out.keepS hg3 hlt (fun y d h => VerR.keepS hg3 hlt y d h)
          have hgr3 := gr_trans hgr2 hg3
          have HOWN3 := Lib.hid hown3
          have HVQ : Hid (vs.getD q ⟨0, []⟩ = vs[q]) := by show _ = _; exact getD_eq vs q _ hql
          clear hown3 hnr hq hs2 hgr2 hg3
          go_wp2_with (fail)
          go_fit (next_any l (j + 1 + 1) 3 p w3 hs3 (by omega) (by decide))
          rintro e w4 ⟨rfl, hs4, hg4⟩
          have hzr := nxt_range l (j + 1 + 1) 3 (by decide)
          have hown4 := HOWN3.out.keepS hg4 hlt (fun y d h => VerR.keepS hg4 hlt y d h)
          have hgr4 := gr_trans hgr3 hg4
          have HOWN4 := Lib.hid hown4
          obtain ⟨z, hz⟩ : ∃ z, z = nxt l (j + 1 + 1) 3 := ⟨_, rfl⟩
          rw [← hz] at hzr ⊢
          have HZ := Lib.hid hz
          clear hown4 hs3 hgr3 hg4 hz
          by_cases hz0 : z = 0
          · subst hz0
            clear hzr
            have HT : Hid (∀ v, verTurn l j v = (⟨pickM l (j + 3) [-1, 0, 4001], v.lay⟩, j + 4)) := by
              show ∀ v, _ = _
              intro v
              unfold verTurn
              rw [if_pos (show nxt l (j + 2) 3 = 0 from HZ.out.symm)]
            go_wp2_with (fail)
            go_fit (pick_any l (j + 1 + 1 + 1) [-1, 0, 4001] p w4 hs4 (by omega) (by decide) (by decide))
            rintro e w5 ⟨rfl, hs5, hg5⟩
            have hown5 := HOWN4.out.keepS hg5 hlt (fun y d h => VerR.keepS hg5 hlt y d h)
            have hgr5 := gr_trans hgr4 hg5
            obtain ⟨x, hx⟩ : ∃ x, x = pickM l (j + 1 + 1 + 1) [-1, 0, 4001] := ⟨_, rfl⟩
            rw [← hx]
            have HX := Lib.hid hx
            obtain ⟨cur, lv, hgb, hc0, hc1, hlv, hgB, hput⟩ := vers_elem hown5 q hql
            obtain ⟨la, lc, rfl, _, _, hcl, hlb⟩ := own_shape hlv
            have hnl := own_nil' hlv la _ lc rfl
            have d0 := blkC hgb _ hc0
            have z0 := blkF hgb (q * 2)
            have hgl := lt_of_block hgb
            have hres := hput w5 ⟨x, vs[q].lay⟩ 0 (.int .i64 x) la lc rfl (fun _ _ _ h _ => h) (by decide)
              (by
                have := (Array.getElem?_eq_some_iff.1 hc0).1
                simp [this])
              (by rw [Array.getElem?_setIfInBounds, if_neg (by omega)]; exact hc1) hcl (fun b off e => ⟨(hlb b off e).1, fun e2 => by
                have h1 := (hlb b off e).2.2
                rw [e2] at h1
                exact own_ne hlv hgb (by decide) h1⟩) hnl
            have gs : w5.grownBy (w5.setCell ⟨g, q * 2, none⟩ (.int .i64 x)) (some g) := gr_set (q := ⟨g, q * 2, none⟩) (gr_refl w5 (some g)) rfl _
            have HRES := Lib.hid hres
            clear hput hlv hcl hlb hnl hc0 hc1 hgb hown5 hx hres
            go_wp2_with (fail)
            go_ret
            refine ⟨.slice (some ⟨g, 0, none⟩) vs.length vc, rfl, ?_, ?_, gr_grown hgr5 gs (fun q hq => by cases hq; omega)⟩
            · rw [HE.out.1, Int.toNat_natCast, HVQ.out, HT.out]
              rw [show pickM l (j + 3) [-1, 0, 4001] = x from HX.out.symm]
              have hb := HRES.out
              obtain ⟨a9, c9, e9, h9⟩ := hb.ex
              exact ⟨⟨a9, c9, by rw [List.length_set] at e9 ⊢; exact e9, h9⟩⟩
            · rw [HE.out.2, HT.out]
              exact hs5.keep gs (fun q hq => by cases hq; omega)
          · by_cases hz1 : z = 1
            · subst hz1
              clear hzr
              have HT : Hid (∀ v, verTurn l j v = (⟨v.day, v.lay ++ [⟨#[97]⟩]⟩, j + 3)) := by
                show ∀ v, _ = _
                intro v
                have hz : nxt l (j + 2) 3 = 1 := HZ.out.symm
                unfold verTurn
                rw [if_neg (by rw [hz]; decide), if_pos hz]
              obtain ⟨cur, lv, hgb, hc0, hc1, hlv, hgB, hput⟩ := vers_elem HOWN4.out q hql
              have hyl : vs[q].lay.length ≤ 1000 := HLAY.out _ (List.getElem_mem hql)
              obtain ⟨y, hy⟩ : ∃ y, y = vs[q] := ⟨_, rfl⟩
              rw [← hy] at hlv hc0 hyl HVQ
              obtain ⟨la, lc, rfl, _, _, _, _⟩ := own_shape hlv
              have d1 := blkC hgb _ hc1
              have hgl := lt_of_block hgb
              have HLV := Lib.hid hlv; have HGB := Lib.hid hgb; have HC0 := Lib.hid hc0; have HC1 := Lib.hid hc1
              have HPUT := Lib.hid hput
              clear hy hlv hgb hc0 hc1 hput
              go_wp2_with (at_builtin; refine wpList_app1F eStr rfl _ _ rfl w.heap.size _ y.lay.length (strs y.lay) rfl w4 #[.string ⟨#[97]⟩] rfl HLV.out _ rfl rfl rfl rfl (by omega) (by omega) ?_; intro v6 w6 hown6 hg6 hlt6 hf6; have hgq := hg6.block g hgl (fun e => own_ne HLV.out HGB.out (by decide) e.symm); have d6 := blkC (hgq.trans HGB.out) _ HC1.out; have z6 := blkF (hgq.trans HGB.out) (q * 2 + 1); have HGQ := Lib.hid hgq; clear hgq; obtain ⟨g6, c6, rfl, _, _, _, _⟩ := own_some hown6 (by omega))
              go_ret
              have gs : w6.grownBy (w6.setCell ⟨g, q * 2 + 1, none⟩ (.slice (some ⟨g6, 0, none⟩) (y.lay.length + 1) c6)) (some g) := gr_set (q := ⟨g, q * 2 + 1, none⟩) (gr_refl w6 (some g)) rfl _
              have hown6' : w6.ownsRow w.heap.size 9 1 (.slice (some ⟨g6, 0, none⟩) (y.lay.length + 1) c6) (y.lay.length + 1) (strs (y.lay ++ [⟨#[97]⟩])) := by simpa [strs] using hown6
              obtain ⟨_, _, he, _, _, hcl, hlb⟩ := own_shape hown6'
              cases he
              have hll : (y.lay ++ [(⟨#[97]⟩ : ByteArray)]).length = y.lay.length + 1 := by simp
              have hres := HPUT.out w6 ⟨y.day, y.lay ++ [⟨#[97]⟩]⟩ 1 (.slice (some ⟨g6, 0, none⟩) (y.lay.length + 1) c6) (some ⟨g6, 0, none⟩) c6 HGQ.out
                (fun lv2 n2 xs2 h hne => own_keep h hg6 (by
                  cases hb : lv2.ownBlock with
                  | none => exact .inl rfl
                  | some b => exact .inr (fun e => hne b hb e.symm))) (by decide)
                (by rw [Array.getElem?_setIfInBounds, if_neg (by omega)]; exact HC0.out)
                (by
                  have := (Array.getElem?_eq_some_iff.1 HC1.out).1
                  rw [Array.getElem?_setIfInBounds, if_pos rfl, if_pos this]
                  show _ = some (Value.slice _ (y.lay ++ [(⟨#[97]⟩ : ByteArray)]).length _)
                  rw [hll]) hcl (fun b off e => ⟨(hlb b off e).1, fun e2 => by
                    have h1 := (hlb b off e).2.2
                    rw [e2] at h1
                    exact own_ne hown6' (HGQ.out.trans HGB.out) (by decide) h1⟩) (fun e => by cases e)
              refine ⟨.slice (some ⟨g, 0, none⟩) vs.length vc, rfl, ?_, ?_, gr_grown (gr_grown hgr4 hg6 (fun q hq => hlt6 q hq)) gs (fun q hq => by cases hq; omega)⟩
              · rw [HE.out.1, Int.toNat_natCast, HVQ.out, HT.out]
                obtain ⟨a9, c9, e9, h9⟩ := hres.ex
                exact ⟨⟨a9, c9, by rw [List.length_set] at e9 ⊢; exact e9, h9⟩⟩
              · rw [HE.out.2, HT.out]
                exact (hs4.keep hg6 (fun q hq => by have := hlt6 q hq; omega)).keep gs (fun q hq => by cases hq; omega)
            · have hz2 : z = 2 := by omega
              subst hz2
              clear hzr
              have HT : Hid (∀ v, verTurn l j v = (⟨v.day, if v.lay.length = 0 then [] else v.lay ++ [oneS l (j + 3) verLast]⟩, j + 4)) := by
                show ∀ v, _ = _
                intro v
                have hz : nxt l (j + 2) 3 = 2 := HZ.out.symm
                unfold verTurn
                rw [if_neg (by rw [hz]; decide), if_neg (by rw [hz]; decide)]
              obtain ⟨cur, lv, hgb, hc0, hc1, hlv, hgB, hput⟩ := vers_elem HOWN4.out q hql
              have hyl : vs[q].lay.length ≤ 1000 := HLAY.out _ (List.getElem_mem hql)
              obtain ⟨y, hy⟩ : ∃ y, y = vs[q] := ⟨_, rfl⟩
              rw [← hy] at hlv hc0 hyl HVQ
              have hnl := own_nil' hlv
              obtain ⟨la, lc, rfl, _, _, hcl, hlb⟩ := own_shape hlv
              have hnl := hnl la _ lc rfl
              have hgl := lt_of_block hgb
              have hgp : g ≠ p := by omega
              have hpl4 : p < w4.heap.size := by omega
              have HPUT := Lib.hid hput; have HCL := Lib.hid hcl; have HLB := Lib.hid (fun (b off : Nat) e => (hlb b off e).1); have HNL := Lib.hid hnl
              obtain ⟨s, hsx⟩ : ∃ s, s = oneS l (j + 1 + 1 + 1) verLast := ⟨_, rfl⟩
              have HSX := Lib.hid hsx
              clear hy hput hcl hnl hsx
              go_wp2_with (fail)
              refine wp_region_planA (by kernel_rfl) (by kernel_rfl) (by kernel_rfl) (by decide) (by kernel_rfl) 12 (fun _ _ _ => True) (fun j v _ => VrV (⟨w4, p, lw, j + 1 + 1 + 1, l, g, q, cur, la, lc, y.lay, s⟩ : VrC) j v) (fun _ _ _ _ _ _ _ _ _ h _ => h) (VrS (⟨w4, p, lw, j + 1 + 1 + 1, l, g, q, cur, la, lc, y.lay, s⟩ : VrC) 96) ⟨fun _ => ⟨gr_drew (gr_refl _ _), rfl, hs4.keep0 (gr_drew (gr_refl _ _)), fun h => absurd h (by decide), fun h => absurd h (by decide), fun h => absurd h (by decide), fun h => absurd h (by decide), fun h => absurd h (by decide)⟩, fun h => absurd h (by decide)⟩ ?_ ?_
              · intro i o listed a wx ho hls hun hpre hde hld hS hout hval
                have hi : i < 22 := (List.getElem?_eq_some_iff.1 ho).1
                have e0 : a.eval (.tmp 0) = .pointer (some ⟨p, 0, none⟩) := hout 0 (by decide)
                have e0' : a.tmps[0]?.getD undef = .pointer (some ⟨p, 0, none⟩) := (Array.getD_eq_getD_getElem? ..).symm.trans e0
                have e7 : a.eval (.tmp 7) = .pointer (some ⟨g, q * 2, none⟩) := hout 7 (by decide)
                have e7' : a.tmps[7]?.getD undef = .pointer (some ⟨g, q * 2, none⟩) := (Array.getD_eq_getD_getElem? ..).symm.trans e7
                have hls' : listed.size = 22 := hls
                obtain rfl | rfl | rfl | rfl | rfl | rfl | rfl | rfl | rfl | rfl | rfl | rfl | rfl | rfl | rfl | rfl | rfl | rfl | rfl | rfl | rfl | rfl : i = 0 ∨ i = 1 ∨ i = 2 ∨ i = 3 ∨ i = 4 ∨ i = 5 ∨ i = 6 ∨ i = 7 ∨ i = 8 ∨ i = 9 ∨ i = 10 ∨ i = 11 ∨ i = 12 ∨ i = 13 ∨ i = 14 ∨ i = 15 ∨ i = 16 ∨ i = 17 ∨ i = 18 ∨ i = 19 ∨ i = 20 ∨ i = 21 := by omega
                · (change some _ = some o at ho; injection ho with ho; subst ho)
                  have h21 : listed.getD 21 false = false := hde 21 (by kernel_rfl)
                  have hP := hS.pre h21
                  go_simp
                  exact ⟨_, rfl, trivial, rfl, ⟨fun _ => hP.skip _ (by decide) (by decide) (gr_refl _ _), fun h => absurd h (by rw [getD_set_off (by decide), h21]; decide)⟩⟩
                · (change some _ = some o at ho; injection ho with ho; subst ho)
                  have h21 : listed.getD 21 false = false := hde 21 (by kernel_rfl)
                  have hP := hS.pre h21
                  go_simp
                  exact ⟨_, rfl, trivial, rfl, ⟨fun _ => hP.skip _ (by decide) (by decide) (gr_refl _ _), fun h => absurd h (by rw [getD_set_off (by decide), h21]; decide)⟩⟩
                · (change some _ = some o at ho; injection ho with ho; subst ho)
                  have h21 : listed.getD 21 false = false := hde 21 (by kernel_rfl)
                  have hP := hS.pre h21
                  have v56 : a.eval (.tmp 56) = .pointer (some ⟨g, q * 2, none⟩) := hval 1 _ 56 rfl rfl (hld 1 (by kernel_rfl))
                  have v56' : a.tmps[56]?.getD undef = .pointer (some ⟨g, q * 2, none⟩) := (Array.getD_eq_getD_getElem? ..).symm.trans v56
                  go_simp
                  exact ⟨_, rfl, trivial, rfl, ⟨fun _ => hP.skip _ (by decide) (by decide) (gr_refl _ _), fun h => absurd h (by rw [getD_set_off (by decide), h21]; decide)⟩⟩
                · (change some _ = some o at ho; injection ho with ho; subst ho)
                  have h21 : listed.getD 21 false = false := hde 21 (by kernel_rfl)
                  have hP := hS.pre h21
                  have v57 : a.eval (.tmp 57) = .pointer (some ⟨g, q * 2, none⟩) := hval 2 _ 57 rfl rfl (hld 2 (by kernel_rfl))
                  have v57' : a.tmps[57]?.getD undef = .pointer (some ⟨g, q * 2, none⟩) := (Array.getD_eq_getD_getElem? ..).symm.trans v57
                  go_simp
                  exact ⟨_, rfl, trivial, rfl, ⟨fun _ => hP.skip _ (by decide) (by decide) (gr_refl _ _), fun h => absurd h (by rw [getD_set_off (by decide), h21]; decide)⟩⟩
                · (change some _ = some o at ho; injection ho with ho; subst ho)
                  have h21 : listed.getD 21 false = false := hde 21 (by kernel_rfl)
                  have hP := hS.pre h21
                  have v58 : a.eval (.tmp 58) = .pointer (some ⟨g, q * 2 + 1, none⟩) := hval 3 _ 58 rfl rfl (hld 3 (by kernel_rfl))
                  have v58' : a.tmps[58]?.getD undef = .pointer (some ⟨g, q * 2 + 1, none⟩) := (Array.getD_eq_getD_getElem? ..).symm.trans v58
                  have c0 : wx.cell? ⟨g, q * 2 + 1, none⟩ = some (.slice la y.lay.length lc) := blkC ((hP.gr.block g hgl (fun e => hgp (Option.some.inj e))).trans hgb) _ hc1
                  go_simp
                  exact ⟨_, rfl, trivial, rfl, ⟨fun _ => hP.skip _ (by decide) (by decide) (gr_refl _ _), fun h => absurd h (by rw [getD_set_off (by decide), h21]; decide)⟩⟩
                · (change some _ = some o at ho; injection ho with ho; subst ho)
                  have h21 : listed.getD 21 false = false := hde 21 (by kernel_rfl)
                  have hP := hS.pre h21
                  have v59 : a.eval (.tmp 59) = .slice la y.lay.length lc := hval 4 _ 59 rfl rfl (hld 4 (by kernel_rfl))
                  have v59' : a.tmps[59]?.getD undef = .slice la y.lay.length lc := (Array.getD_eq_getD_getElem? ..).symm.trans v59
                  go_simp
                  refine (cloneStr_any la y.lay.length lc (strs y.lay) wx (by simp [strs]) (HCL.out.keep hP.gr (fun b off e e2 => by have h1 := HLB.out b off e; have h2 : b = p := Option.some.inj e2; omega)) HNL.out (strs_one _) (by omega)).mono ?_
                  rintro e wy ⟨v, rfl, ho, hg⟩
                  exact ⟨v, rfl, trivial, trivial, ⟨fun _ => hP.clone hls (by decide) v hg ho, fun h => absurd h (by rw [getD_set_off (by decide), h21]; decide)⟩⟩
                · (change some _ = some o at ho; injection ho with ho; subst ho)
                  have h21 : listed.getD 21 false = false := hde 21 (by kernel_rfl)
                  have hP := hS.pre h21
                  go_simp
                  exact ⟨_, rfl, trivial, rfl, ⟨fun _ => hP.skip _ (by decide) (by decide) (gr_refl _ _), fun h => absurd h (by rw [getD_set_off (by decide), h21]; decide)⟩⟩
                · (change some _ = some o at ho; injection ho with ho; subst ho)
                  have h21 : listed.getD 21 false = false := hde 21 (by kernel_rfl)
                  have hP := hS.pre h21
                  go_simp
                  exact ⟨_, rfl, trivial, trivial, ⟨fun _ => hP.bs hls (by decide) _ rfl (gr_alloc (gr_refl _ _) _) (heap_alloc_new _ _), fun h => absurd h (by rw [getD_set_off (by decide), h21]; decide)⟩⟩
                · (change some _ = some o at ho; injection ho with ho; subst ho)
                  have h21 : listed.getD 21 false = false := hde 21 (by kernel_rfl)
                  have hP := hS.pre h21
                  have v61 : a.eval (.tmp 61) = .pointer (some ⟨p, 0, none⟩) := hval 6 _ 61 rfl rfl (hld 6 (by kernel_rfl))
                  have v61' : a.tmps[61]?.getD undef = .pointer (some ⟨p, 0, none⟩) := (Array.getD_eq_getD_getElem? ..).symm.trans v61
                  have h8 : listed.getD 8 false = false := by
                    have := hun
                    rw [Array.getD_eq_getD_getElem?, Array.getElem?_eq_getElem (by rw [hls]; decide)] at this ⊢
                    exact this
                  obtain ⟨b, hb, hbR, hbh⟩ := hP.i7 (hld 7 (by kernel_rfl)) h8
                  have v62 : a.eval (.tmp 62) = .slice (some ⟨b, 0, none⟩) 2 2 := hb
                  have v62' : a.tmps[62]?.getD undef = .slice (some ⟨b, 0, none⟩) 2 2 := (Array.getD_eq_getD_getElem? ..).symm.trans hb
                  have hst : StreamAt wx p lw l (j + 1 + 1 + 1) := by have := hP.str; rw [h8] at this; exact this
                  have hbR' : w4.heap.size ≤ b := hbR
                  go_simp
                  refine (one_in l (j + 1 + 1 + 1) verLast p b wx hst (by omega) (by decide) (by decide) (by omega) (fun i hi => blkC hbh i (by have : i = 0 ∨ i = 1 := (by have : i < 2 := hi; omega); rcases this with rfl | rfl <;> rfl))).mono ?_
                  rintro e wy ⟨rfl, hs', hg⟩
                  rw [← HSX.out]
                  exact ⟨_, rfl, trivial, rfl, ⟨fun _ => hP.one hls (by decide) hpl4 _ hg hs', fun h => absurd h (by rw [getD_set_off (by decide), h21]; decide)⟩⟩
                · (change some _ = some o at ho; injection ho with ho; subst ho)
                  have h21 : listed.getD 21 false = false := hde 21 (by kernel_rfl)
                  have hP := hS.pre h21
                  have v63 : a.eval (.tmp 63) = .string s := hval 8 _ 63 rfl rfl (hld 8 (by kernel_rfl))
                  have v63' : a.tmps[63]?.getD undef = .string s := (Array.getD_eq_getD_getElem? ..).symm.trans v63
                  go_simp
                  exact ⟨_, rfl, trivial, trivial, ⟨fun _ => hP.bs2 hls (by decide) (gr_alloc (gr_refl _ _) _) (heap_alloc_new _ _), fun h => absurd h (by rw [getD_set_off (by decide), h21]; decide)⟩⟩
                · (change some _ = some o at ho; injection ho with ho; subst ho)
                  have h21 : listed.getD 21 false = false := hde 21 (by kernel_rfl)
                  have hP := hS.pre h21
                  have h10 : listed.getD 10 false = false := by
                    have := hun
                    rw [Array.getD_eq_getD_getElem?, Array.getElem?_eq_getElem (by rw [hls]; decide)] at this ⊢
                    exact this
                  have ho5 := hP.i5 (hld 5 (by kernel_rfl)) h10
                  obtain ⟨b, hb, hbR, hbh⟩ := hP.i9 (hld 9 (by kernel_rfl)) h10
                  obtain ⟨u, hu⟩ : ∃ u, u = a.tmps.getD 60 undef := ⟨_, rfl⟩
                  rw [← hu] at ho5
                  refine oper_app eStr (.tmp 60) (.tmp 64) rfl w4.heap.size u y.lay.length (strs y.lay) hu.symm #[.string s] b hb hbh ho5 rfl rfl (by omega) hP.gr.size ?_
                  intro v' wy ho' hg'
                  have ho2 : wy.ownsRow w4.heap.size 9 1 v' (y.lay.length + 1) (strs (y.lay ++ [s])) := by simpa [strs] using ho'
                  exact ⟨v', rfl, trivial, trivial, ⟨fun _ => hP.app hls (by decide) hpl4 v' u (hld 8 (by kernel_rfl)) (hde 18 (by kernel_rfl)) (fun q hq => (ho5.lt q hq).1) hg' ho2, fun h => absurd h (by rw [getD_set_off (by decide), h21]; decide)⟩⟩
                · (change some _ = some o at ho; injection ho with ho; subst ho)
                  have h21 : listed.getD 21 false = false := hde 21 (by kernel_rfl)
                  have hP := hS.pre h21
                  go_simp
                  exact ⟨_, rfl, trivial, rfl, ⟨fun _ => hP.skip _ (by decide) (by decide) (gr_refl _ _), fun h => absurd h (by rw [getD_set_off (by decide), h21]; decide)⟩⟩
                · (change some _ = some o at ho; injection ho with ho; subst ho)
                  have h21 : listed.getD 21 false = false := hde 21 (by kernel_rfl)
                  have hP := hS.pre h21
                  have v66 : a.eval (.tmp 66) = .pointer (some ⟨g, q * 2, none⟩) := hval 11 _ 66 rfl rfl (hld 11 (by kernel_rfl))
                  have v66' : a.tmps[66]?.getD undef = .pointer (some ⟨g, q * 2, none⟩) := (Array.getD_eq_getD_getElem? ..).symm.trans v66
                  go_simp
                  exact ⟨_, rfl, trivial, rfl, ⟨fun _ => hP.skip _ (by decide) (by decide) (gr_refl _ _), fun h => absurd h (by rw [getD_set_off (by decide), h21]; decide)⟩⟩
                · (change some _ = some o at ho; injection ho with ho; subst ho)
                  have h21 : listed.getD 21 false = false := hde 21 (by kernel_rfl)
                  have hP := hS.pre h21
                  have v67 : a.eval (.tmp 67) = .pointer (some ⟨g, q * 2, none⟩) := hval 12 _ 67 rfl rfl (hld 12 (by kernel_rfl))
                  have v67' : a.tmps[67]?.getD undef = .pointer (some ⟨g, q * 2, none⟩) := (Array.getD_eq_getD_getElem? ..).symm.trans v67
                  go_simp
                  exact ⟨_, rfl, trivial, rfl, ⟨fun _ => hP.skip _ (by decide) (by decide) (gr_refl _ _), fun h => absurd h (by rw [getD_set_off (by decide), h21]; decide)⟩⟩
                · (change some _ = some o at ho; injection ho with ho; subst ho)
                  have h21 : listed.getD 21 false = false := hde 21 (by kernel_rfl)
                  have hP := hS.pre h21
                  have v68 : a.eval (.tmp 68) = .pointer (some ⟨g, q * 2 + 1, none⟩) := hval 13 _ 68 rfl rfl (hld 13 (by kernel_rfl))
                  have v68' : a.tmps[68]?.getD undef = .pointer (some ⟨g, q * 2 + 1, none⟩) := (Array.getD_eq_getD_getElem? ..).symm.trans v68
                  have c0 : wx.cell? ⟨g, q * 2 + 1, none⟩ = some (.slice la y.lay.length lc) := blkC ((hP.gr.block g hgl (fun e => hgp (Option.some.inj e))).trans hgb) _ hc1
                  go_simp
                  exact ⟨_, rfl, trivial, rfl, ⟨fun _ => hP.skip _ (by decide) (by decide) (gr_refl _ _), fun h => absurd h (by rw [getD_set_off (by decide), h21]; decide)⟩⟩
                · (change some _ = some o at ho; injection ho with ho; subst ho)
                  have h21 : listed.getD 21 false = false := hde 21 (by kernel_rfl)
                  have hP := hS.pre h21
                  have v69 : a.eval (.tmp 69) = .slice la y.lay.length lc := hval 14 _ 69 rfl rfl (hld 14 (by kernel_rfl))
                  have v69' : a.tmps[69]?.getD undef = .slice la y.lay.length lc := (Array.getD_eq_getD_getElem? ..).symm.trans v69
                  go_simp
                  exact ⟨_, rfl, trivial, rfl, ⟨fun _ => hP.skip _ (by decide) (by decide) (gr_refl _ _), fun h => absurd h (by rw [getD_set_off (by decide), h21]; decide)⟩⟩
                · (change some _ = some o at ho; injection ho with ho; subst ho)
                  have h21 : listed.getD 21 false = false := hde 21 (by kernel_rfl)
                  have hP := hS.pre h21
                  have v70 : a.eval (.tmp 70) = .int .i64 y.lay.length := hval 15 _ 70 rfl rfl (hld 15 (by kernel_rfl))
                  have v70' : a.tmps[70]?.getD undef = .int .i64 y.lay.length := (Array.getD_eq_getD_getElem? ..).symm.trans v70
                  by_cases hn0 : y.lay.length = 0
                  · have hb : (y.lay.length : Int) = 0 := by omega
                    rw [hb] at v70 v70'
                    go_simp
                    exact ⟨_, rfl, trivial, by show _ = _; rw [if_pos hn0]; first | done | rfl, ⟨fun _ => hP.skip _ (by decide) (by decide) (gr_refl _ _), fun h => absurd h (by rw [getD_set_off (by decide), h21]; decide)⟩⟩
                  · have hb1 : ¬ (y.lay.length : Int) < 1 := by omega
                    go_simp
                    exact ⟨_, rfl, trivial, by show _ = _; rw [if_neg hn0]; first | rfl | (split <;> first | rfl | (congr 1; omega)), ⟨fun _ => hP.skip _ (by decide) (by decide) (gr_refl _ _), fun h => absurd h (by rw [getD_set_off (by decide), h21]; decide)⟩⟩
                · (change some _ = some o at ho; injection ho with ho; subst ho)
                  have h21 : listed.getD 21 false = false := hde 21 (by kernel_rfl)
                  have hP := hS.pre h21
                  have v71 : a.eval (.tmp 71) = .int .i64 (if y.lay.length = 0 then 0 else 1) := hval 16 _ 71 rfl rfl (hld 16 (by kernel_rfl))
                  have v71' : a.tmps[71]?.getD undef = .int .i64 (if y.lay.length = 0 then 0 else 1) := (Array.getD_eq_getD_getElem? ..).symm.trans v71
                  by_cases hn0 : y.lay.length = 0
                  · rw [if_pos hn0] at v71 v71'
                    go_simp
                    exact ⟨_, rfl, trivial, by show _ = _; rw [if_pos hn0]; first | done | rfl, ⟨fun _ => hP.skip _ (by decide) (by decide) (gr_refl _ _), fun h => absurd h (by rw [getD_set_off (by decide), h21]; decide)⟩⟩
                  · rw [if_neg hn0] at v71 v71'
                    go_simp
                    exact ⟨_, rfl, trivial, by show _ = _; rw [if_neg hn0]; first | rfl | (split <;> first | rfl | (congr 1; omega)), ⟨fun _ => hP.skip _ (by decide) (by decide) (gr_refl _ _), fun h => absurd h (by rw [getD_set_off (by decide), h21]; decide)⟩⟩
                · (change some _ = some o at ho; injection ho with ho; subst ho)
                  have h21 : listed.getD 21 false = false := hde 21 (by kernel_rfl)
                  have hP := hS.pre h21
                  have v72 : a.eval (.tmp 72) = .int .i64 (if y.lay.length = 0 then 1 else 0) := hval 17 _ 72 rfl rfl (hld 17 (by kernel_rfl))
                  have v72' : a.tmps[72]?.getD undef = .int .i64 (if y.lay.length = 0 then 1 else 0) := (Array.getD_eq_getD_getElem? ..).symm.trans v72
                  have ho10 := hP.i10 (hld 10 (by kernel_rfl))
                  obtain ⟨b, c, hb, hbR, _, hnc, hcm⟩ := own_some ho10 (Nat.succ_pos _)
                  rw [hb] at ho10
                  obtain ⟨_, _, he, _, _, hcl2, _⟩ := own_shape ho10
                  cases he
                  have v65 : a.eval (.tmp 65) = .slice (some ⟨b, 0, none⟩) (y.lay.length + 1) c := hb
                  have v65' : a.tmps[65]?.getD undef = .slice (some ⟨b, 0, none⟩) (y.lay.length + 1) c := (Array.getD_eq_getD_getElem? ..).symm.trans hb
                  have hnc' : y.lay.length + 1 ≤ c := hnc
                  unfold maxLen at hcm
                  by_cases hn0 : y.lay.length = 0
                  · rw [if_pos hn0] at v72 v72'
                    have hF : VrC.F (⟨w4, p, lw, j + 1 + 1 + 1, l, g, q, cur, la, lc, y.lay, s⟩ : VrC) = [] := if_pos hn0
                    by_cases hc1' : c = 1
                    · subst hc1'
                      rw [hn0] at v65 v65'
                      go_simp
                      exact ⟨_, rfl, trivial, trivial, ⟨fun _ => hP.cut hls (by decide) b 0 0 _ (by rw [hF]; rfl) hbR (by rw [hF]; exact CellsAt.nil _ _), fun h => absurd h (by rw [getD_set_off (by decide), h21]; decide)⟩⟩
                    · rw [hn0] at v65 v65'
                      have : (1 : Int) ≤ (c : Int) := by omega
                      go_simp
                      exact ⟨_, rfl, trivial, trivial, ⟨fun _ => hP.cut hls (by decide) b 1 (c - 1) _ (by rw [hF]; rfl) hbR (by rw [hF]; exact CellsAt.nil _ _), fun h => absurd h (by rw [getD_set_off (by decide), h21]; decide)⟩⟩
                  · rw [if_neg hn0] at v72 v72'
                    have hF : VrC.F (⟨w4, p, lw, j + 1 + 1 + 1, l, g, q, cur, la, lc, y.lay, s⟩ : VrC) = y.lay ++ [s] := if_neg hn0
                    have hn1 : (0 : Int) ≤ (y.lay.length : Int) + 1 := by omega
                    go_simp
                    exact ⟨_, rfl, trivial, trivial, ⟨fun _ => hP.cut hls (by decide) b 0 c _ (by rw [hF]; simp) hbR (by rw [hF]; exact hcl2), fun h => absurd h (by rw [getD_set_off (by decide), h21]; decide)⟩⟩
                · (change some _ = some o at ho; injection ho with ho; subst ho)
                  have h21 : listed.getD 21 false = false := hde 21 (by kernel_rfl)
                  have hP := hS.pre h21
                  have v55 : a.eval (.tmp 55) = .pointer (some ⟨g, q * 2, none⟩) := hval 0 _ 55 rfl rfl (hld 0 (by kernel_rfl))
                  have v55' : a.tmps[55]?.getD undef = .pointer (some ⟨g, q * 2, none⟩) := (Array.getD_eq_getD_getElem? ..).symm.trans v55
                  go_simp
                  exact ⟨_, rfl, trivial, rfl, ⟨fun _ => hP.skip _ (by decide) (by decide) (gr_refl _ _), fun h => absurd h (by rw [getD_set_off (by decide), h21]; decide)⟩⟩
                · (change some _ = some o at ho; injection ho with ho; subst ho)
                  have h21 : listed.getD 21 false = false := hde 21 (by kernel_rfl)
                  have hP := hS.pre h21
                  have v74 : a.eval (.tmp 74) = .pointer (some ⟨g, q * 2, none⟩) := hval 19 _ 74 rfl rfl (hld 19 (by kernel_rfl))
                  have v74' : a.tmps[74]?.getD undef = .pointer (some ⟨g, q * 2, none⟩) := (Array.getD_eq_getD_getElem? ..).symm.trans v74
                  go_simp
                  exact ⟨_, rfl, trivial, rfl, ⟨fun _ => hP.skip _ (by decide) (by decide) (gr_refl _ _), fun h => absurd h (by rw [getD_set_off (by decide), h21]; decide)⟩⟩
                · (change some _ = some o at ho; injection ho with ho; subst ho)
                  have v75 : a.eval (.tmp 75) = .pointer (some ⟨g, q * 2 + 1, none⟩) := hval 20 _ 75 rfl rfl (hld 20 (by kernel_rfl))
                  have v75' : a.tmps[75]?.getD undef = .pointer (some ⟨g, q * 2 + 1, none⟩) := (Array.getD_eq_getD_getElem? ..).symm.trans v75
                  have h21 : listed.getD 21 false = false := by
                    have := hun
                    rw [Array.getD_eq_getD_getElem?, Array.getElem?_eq_getElem (by rw [hls]; decide)] at this ⊢
                    exact this
                  have hP := hS.pre h21
                  have c0 : wx.cell? ⟨g, q * 2 + 1, none⟩ = some (.slice la y.lay.length lc) := blkC ((hP.gr.block g hgl (fun e => hgp (Option.some.inj e))).trans hgb) _ hc1
                  have z0 : wx.frozen? ⟨g, q * 2 + 1, none⟩ = false := blkF ((hP.gr.block g hgl (fun e => hgp (Option.some.inj e))).trans hgb) _
                  obtain ⟨b, off, c, hb, hbR, hcl2⟩ := hP.i18 (hld 18 (by kernel_rfl))
                  obtain ⟨nF, hnF⟩ : ∃ nF, nF = (VrC.F (⟨w4, p, lw, j + 1 + 1 + 1, l, g, q, cur, la, lc, y.lay, s⟩ : VrC)).length := ⟨_, rfl⟩
                  rw [← hnF] at hb
                  have v73 : a.eval (.tmp 73) = .slice (some ⟨b, off, none⟩) nF c := hb
                  have v73' : a.tmps[73]?.getD undef = .slice (some ⟨b, off, none⟩) nF c := (Array.getD_eq_getD_getElem? ..).symm.trans hb
                  have hst : StreamAt wx p lw l (j + 1 + 1 + 1 + 1) := by have := hP.str; rw [hld 8 (by kernel_rfl)] at this; exact this
                  go_simp
                  refine ⟨undef, rfl, trivial, trivial, ⟨fun h => absurd h (by rw [getD_set_eq (by rw [hls]; decide)]; decide), fun _ => ⟨wx, b, off, c, rfl, hP.gr, hst, hbR, hcl2⟩⟩⟩
              · intro vs' listed wx hls hall hS hval
                obtain ⟨wy, b, off, c, rfl, hgy, hsy, hbR, hcl2⟩ := (hS.fin (getD_tf2 (by rw [hls]; decide) (hall 21 (by decide)))).ex
                clear hS hval hall
                simp only [putAll]
                go_wp2_with (fail)
                go_ret
                have hF : VrC.F (⟨w4, p, lw, j + 1 + 1 + 1, l, g, q, cur, la, lc, y.lay, s⟩ : VrC) = (if y.lay.length = 0 then [] else y.lay ++ [oneS l (j + 3) verLast]) := by
                  show (if y.lay.length = 0 then [] else y.lay ++ [s]) = _
                  rw [HSX.out]
                obtain ⟨F, hFe⟩ : ∃ F, F = VrC.F (⟨w4, p, lw, j + 1 + 1 + 1, l, g, q, cur, la, lc, y.lay, s⟩ : VrC) := ⟨_, rfl⟩
                rw [← hFe] at hcl2 hF ⊢
                have hgl4 : w.heap.size ≤ w4.heap.size := hgr4.size
                have hbR' : w4.heap.size ≤ b := hbR
                have hgyg := hgy.block g hgl (fun e => hgp (Option.some.inj e))
                have gs : wy.grownBy (wy.setCell ⟨g, q * 2 + 1, none⟩ (.slice (some ⟨b, off, none⟩) F.length c)) (some g) := gr_set (q := ⟨g, q * 2 + 1, none⟩) (gr_refl wy (some g)) rfl _
                have hres := HPUT.out wy ⟨y.day, F⟩ 1 (.slice (some ⟨b, off, none⟩) F.length c) (some ⟨b, off, none⟩) c hgyg
                  (fun lv2 n2 xs2 h hne => own_keepS h hgy hlt) (by decide)
                  (by rw [Array.getElem?_setIfInBounds, if_neg (by omega)]; exact hc0)
                  (by
                    have := (Array.getElem?_eq_some_iff.1 hc1).1
                    rw [Array.getElem?_setIfInBounds, if_pos rfl, if_pos this]) hcl2 (fun b' off' e => by cases e; omega) (fun e => by cases e)
                refine ⟨.slice (some ⟨g, 0, none⟩) vs.length vc, rfl, ?_, ?_, gr_grown (gr_trans hgr4 hgy) gs (fun q hq => by cases hq; omega)⟩
                · rw [HE.out.1, Int.toNat_natCast, HVQ.out, HT.out, ← hF]
                  obtain ⟨a9, c9, e9, h9⟩ := hres.ex
                  exact ⟨⟨a9, c9, by rw [List.length_set] at e9 ⊢; exact e9, h9⟩⟩
                · rw [HE.out.2, HT.out]
                  exact hsy.keep gs (fun q hq => by cases hq; omega)
end Go.Proofs.YtdjnomeabadbnaaDoor
