/- What is wrong with a basket: the document's answer, and the program's. -/
import Derived.Test.YtjhfglhoiplfmaaDoorPkDAq
import Derived.WalkLawsBesides
namespace Go.Proofs.YtjhfglhoiplfmaaDoor
open Go.RowKit
attribute [local go_sem ↓] Go.wp_at_zero Go.wp_at_succ

structure BkOk (N : List Wr) (x : Nm) : Prop where
  has : N.any (wrIs x.key) = true
  m0 : 1 ≤ x.many
  m1 : x.many ≤ 100
def BkAt (N : List Wr) (B : List Nm) (j : Nat) (hj : j < B.length) : Prop := BkOk N B[j] ∧ ∀ (_ : 0 < j), leS B[j].key (B[j - 1]'(by omega)).key = false
def BksOk (N : List Wr) (B : List Nm) : Prop := ∀ j (hj : j < B.length), BkAt N B j hj
set_option maxRecDepth 100000 in
set_option maxHeartbeats 1000000 in
theorem basketFault_any (N : List Wr) (a : Option Addr) (c : Nat) (B : List Nm) (a2 : Option Addr) (c2 : Nat) (w : World) (h : CellsAt w a (flat encWr N)) (hsm : ∀ x ∈ N, WrSm x) (hl : N.length ≤ 6) (h2 : CellsAt w a2 (flat encNm B)) (hsm2 : ∀ x ∈ B, BkSm x) (hl2 : B.length ≤ 6) :
    Calls Tryd.prog 11 #[.slice a N.length c, .slice a2 B.length c2] w (WrPost (WrsOk N ∧ BksOk N B) w) := by
  have HN := Lib.hid h
  have H := Lib.hid h2
  have HSM := Lib.hid hsm2
  have WF := waresFault_any N a c w h hsm hl
  unfold WrPost at WF
  have WF := Lib.hid WF
  clear h hsm h2 hsm2
  go_enter Tryd.func11, Tryd.ntmps11
  go_wp2_with (fail)
  refine WF.out.mono ?_
  rintro e w1 ⟨r, rfl, hr, g1⟩
  have HR := Lib.hid hr
  have HG1 := Lib.hid g1
  clear hr g1 WF
  by_cases hr0 : r = 0
  case neg =>
    have hrb : (r != 0) = true := by simpa using hr0
    have HR0 := Lib.hid hr0
    clear hr0
    go_wp2_with (fail)
    go_ret
    exact ⟨r, rfl, (fun e => absurd e HR0.out), HG1.out⟩
  have HWOK := Lib.hid (HR.out hr0)
  subst hr0
  clear HR
  go_wp2_with (fail)
  go_loopw [20] (fun i wr => ∃ k : Nat, k ≤ B.length ∧ i = .int .i64 k ∧ (∀ j (hj : j < B.length), j < k → BkAt N B j hj) ∧ w.grownBy wr none) (fun i _ => B.length - (intOf i).toNat)
  case atStart => exact ⟨0, Nat.zero_le _, rfl, fun j _ h => absurd h (Nat.not_lt_zero _), HG1.out⟩
  case round =>
    obtain ⟨k, hk, rfl, hok, hgr⟩ := hrel
    obtain ⟨wo, rfl⟩ : ∃ wo : World, wo = wr := ⟨_, rfl⟩
    by_cases hlt : k < B.length
    · obtain ⟨b, off, rfl, d0, d1⟩ := bk_cells (H.out.keep0 hgr) k hlt
      obtain ⟨hs1, hs2, hs3⟩ := HSM.out _ (List.getElem_mem hlt)
      have MK : Hid (N.any (wrIs B[k].key) = true → (∀ (h : 0 < k), leS B[k].key (B[k - 1]'(by omega)).key = false) → 1 ≤ B[k].many → B[k].many ≤ 100 → ∀ j (hj : j < B.length), j < k + 1 → BkAt N B j hj) := fun h1 h3 h4 h5 j hj hjk => by
        by_cases e : j = k
        · subst e; exact ⟨⟨h1, h4, h5⟩, h3⟩
        · exact hok j hj (by omega)
      have PV : Hid (∀ (h : 0 < k), ∃ y, wo.cell? ⟨b, off + (k - 1) * 2, none⟩ = some (.string y) ∧ (B[k - 1]'(by omega)).key = y) := fun h => by
        obtain ⟨b', off', e', y0, -⟩ := bk_cells (H.out.keep0 hgr) (k - 1) (by omega)
        cases e'
        exact ⟨_, y0, rfl⟩
      obtain ⟨x, hx⟩ : ∃ x, x = B[k] := ⟨_, rfl⟩
      rw [← hx] at d0 d1 hs1 hs2 hs3 MK
      obtain ⟨K, P⟩ := x
      simp only at d0 d1 hs1 hs2 hs3 MK
      have HGR := Lib.hid hgr
      have hV := heap_alloc_new wo (.cells #[.string K, .int .i64 P] 42)
      have hg2 := gr_alloc (gr_refl wo none) (.cells #[.string K, .int .i64 P] 42)
      obtain ⟨w2, hw2⟩ : ∃ w2, w2 = wo.alloc (.cells #[.string K, .int .i64 P] 42) := ⟨_, rfl⟩
      rw [← hw2] at hV hg2
      obtain ⟨V, hVe⟩ : ∃ V, V = wo.heap.size := ⟨_, rfl⟩
      rw [← hVe] at hV
      have WO := wareOf_any N K a c w2 (HN.out.keep0 (gr_trans hgr hg2)) (by omega)
      unfold WofPost at WO
      have WO := Lib.hid WO
      have HV := Lib.hid hV
      have HG2 := Lib.hid hg2
      have HW2 := Lib.hid hw2
      have HVE := Lib.hid hVe
      clear hx hok hgr hV hg2 hw2 hVe
      go_upto_region 9 with (fail)
      rw [← HW2.out, ← HVE.out]
      have v0 : w2.cell? ⟨V, 0, none⟩ = some (.string K) := blkC HV.out 0 rfl
      go_wp2_with (fail)
      refine WO.out.mono ?_
      rintro e w3 ⟨s, g, p, rfl, g3⟩
      obtain ⟨ba, hba⟩ : ∃ ba, ba = N.any (wrIs K) := ⟨_, rfl⟩
      rw [← hba]
      rw [← hba] at MK
      have ga := gr_alloc g3 (.cells #[.string s, .int .i64 p, .string g] 97)
      have HV3 := Lib.hid ((ga.block _ (lt_of_block HV.out) (by simp)).trans HV.out)
      have HG4 := Lib.hid (gr_trans HG2.out ga)
      obtain ⟨w4, hw4⟩ : ∃ w4, w4 = w3.alloc (.cells #[.string s, .int .i64 p, .string g] 97) := ⟨_, rfl⟩
      rw [← hw4] at HV3 HG4
      have HW4 := Lib.hid hw4
      clear v0 g3 d0 d1 ga hw4 hba
      cases ba with
      | false =>
        have GQ := Lib.hid (gr_trans HGR.out HG4.out)
        go_wp2_with (fail)
        rw [← HW4.out]
        go_wp2_with (fail)
        go_ret
        exact ⟨8, rfl, (fun e => by cases e), GQ.out⟩
      | true =>
        have MK2 := Lib.hid (MK.out rfl)
        clear MK
        go_upto_region 12 with (fail)
        rw [← HW4.out]
        have v0 : w4.cell? ⟨V, 0, none⟩ = some (.string K) := blkC HV3.out 0 rfl
        have v1 : w4.cell? ⟨V, 1, none⟩ = some (.int .i64 P) := blkC HV3.out 1 rfl
        go_cut [35] (fun s wx => ∃ b : Bool, s = .bool b ∧ (b = false → ∀ (h : 0 < k), leS K (B[k - 1]'(by omega)).key = false) ∧ ∃ nx, wx = w4.drewN nx)
        case first =>
          by_cases hk0 : 0 < k
          · obtain ⟨y, y0, hy⟩ := PV.out hk0
            have y0 := (gr_cell HG4.out (lt_of_cell y0)).trans y0
            have hint1 : (0 : Int) ≤ (k : Int) - 1 := by omega
            have hint2 : (k : Int) - 1 < (B.length : Int) := by omega
            have hint3 : (0 : Int) < (k : Int) := by omega
            have htn : ((k : Int) - 1).toNat = k - 1 := by omega
            have hwr : IntKind.i64.wrap ((k : Int) - 1) = (k : Int) - 1 := IntWalk.i64_in _ (by omega)
            obtain ⟨lb, hlb⟩ : ∃ lb, leS K y = lb := ⟨_, rfl⟩
            have hlb2 : (Op.bytesLess K.toList y.toList || K.toList == y.toList) = lb := hlb
            have UP : Hid (lb = false → ∀ (h : 0 < k), leS K (B[k - 1]'(by omega)).key = false) := fun e _ => by rw [hy, hlb, e]
            clear hlb hy PV
            go_quiet (fail)
            go_wp2_with (fail)
            go_meet
            exact ⟨lb, rfl, UP.out, _, rfl⟩
          · have hdf : decide (0 < k) = false := decide_eq_false (by omega)
            have hk00 : Hid (¬ 0 < k) := hk0
            clear hk0 PV
            go_quiet (fail)
            go_wp2_with (fail)
            go_meet
            exact ⟨false, rfl, (fun _ h => absurd h hk00.out), _, rfl⟩
        case rest =>
        obtain ⟨b, rfl, hb, nq, rfl⟩ := hcut
        have GQ := Lib.hid (gr_trans HGR.out (gr_drewN HG4.out nq))
        cases b with
        | true =>
          clear hb
          go_wp2_with (fail)
          go_ret
          exact ⟨7, rfl, (fun e => by cases e), GQ.out⟩
        | false =>
          have MK3 := Lib.hid (MK2.out (hb rfl))
          clear hb MK2
          by_cases h0 : P < 1
          · go_wp2_with (fail)
            go_ret
            exact ⟨1, rfl, (fun e => by cases e), GQ.out⟩
          · by_cases h1 : 100 < P
            · go_wp2_with (fail)
              go_ret
              exact ⟨1, rfl, (fun e => by cases e), GQ.out⟩
            · have MK4 := Lib.hid (MK3.out (by omega) (by omega))
              clear MK3
              go_wp2_with (fail)
              go_roundw
              case rel => exact ⟨k + 1, by omega, by go_num, MK4.out, GQ.out⟩
              case measure => simp [intOf]; omega
    · obtain rfl : k = B.length := by omega
      have HOK : Hid (BksOk N B) := fun j hj => hok j hj hj
      clear hok
      go_wp2_with (fail)
      go_ret
      exact ⟨0, rfl, fun _ => ⟨HWOK.out, HOK.out⟩, hgr⟩
theorem findA_has {α : Type} {P : α → Bool} {xs : List α} (h : xs.any P = true) : ∃ i : Nat, i < xs.length ∧ findA P xs = (i : Int) ∧ i = xs.findIdx P := by
  rw [List.any_eq_true] at h
  have h1 := List.findIdx_lt_length.2 h
  exact ⟨_, h1, by unfold findA; rw [if_pos h1], rfl⟩
set_option maxRecDepth 100000 in
set_option maxHeartbeats 1000000 in
theorem basketCheck_ok (N : List Wr) (a : Option Addr) (c : Nat) (B : List Nm) (a2 : Option Addr) (c2 : Nat) (w : World) (h : CellsAt w a (flat encWr N)) (hsm : ∀ x ∈ N, WrSm x) (hl : N.length ≤ 6) (h2 : CellsAt w a2 (flat encNm B)) (hl2 : B.length ≤ 6) (hok : WrsOk N) (hbk : BksOk N B) :
    Calls Tryd.prog 56 #[.slice a N.length c, .slice a2 B.length c2] w fun e w' => e = .returned (.int .i64 0) ∧ w.grownBy w' none := by
  have HN := Lib.hid h
  have H := Lib.hid h2
  have HB := Lib.hid hbk
  have WC := Lib.hid (waresCheck_ok N a c w h hsm hl hok)
  clear h hsm hok h2 hbk
  go_enter Tryd.func56, Tryd.ntmps56
  go_wp2_with (fail)
  refine WC.out.mono ?_
  rintro e w1 ⟨rfl, g1⟩
  have HG1 := Lib.hid g1
  clear g1 WC
  go_wp2_with (fail)
  go_loopw [18] (fun i wr => ∃ k : Nat, k ≤ B.length ∧ i = .int .i64 k ∧ w.grownBy wr none) (fun i _ => B.length - (intOf i).toNat)
  case atStart => exact ⟨0, Nat.zero_le _, rfl, HG1.out⟩
  case round =>
    obtain ⟨k, hk, rfl, hgr⟩ := hrel
    obtain ⟨wo, rfl⟩ : ∃ wo : World, wo = wr := ⟨_, rfl⟩
    by_cases hlt : k < B.length
    · obtain ⟨b, off, rfl, d0, d1⟩ := bk_cells (H.out.keep0 hgr) k hlt
      obtain ⟨⟨o1, o2, o3⟩, o5⟩ := HB.out k hlt
      have PV : Hid (∀ (h : 0 < k), ∃ y, wo.cell? ⟨b, off + (k - 1) * 2, none⟩ = some (.string y) ∧ leS B[k].key y = false) := fun h => by
        obtain ⟨b', off', e', y0, -⟩ := bk_cells (H.out.keep0 hgr) (k - 1) (by omega)
        cases e'
        exact ⟨_, y0, o5 h⟩
      obtain ⟨x, hx⟩ : ∃ x, x = B[k] := ⟨_, rfl⟩
      rw [← hx] at d0 d1 o1 o2 o3 PV
      obtain ⟨K, P⟩ := x
      simp only at d0 d1 o1 o2 o3 PV
      obtain ⟨wi, hwi, hfi, -⟩ := findA_has o1
      have HGR := Lib.hid hgr
      have hV := heap_alloc_new wo (.cells #[.string K, .int .i64 P] 42)
      have hg2 := gr_alloc (gr_refl wo none) (.cells #[.string K, .int .i64 P] 42)
      obtain ⟨w2, hw2⟩ : ∃ w2, w2 = wo.alloc (.cells #[.string K, .int .i64 P] 42) := ⟨_, rfl⟩
      rw [← hw2] at hV hg2
      obtain ⟨V, hVe⟩ : ∃ V, V = wo.heap.size := ⟨_, rfl⟩
      rw [← hVe] at hV
      have WO := ware_any N K a c w2 (HN.out.keep0 (gr_trans hgr hg2)) (by omega)
      rw [hfi] at WO
      have WO := Lib.hid WO
      have HV := Lib.hid hV
      have HG2 := Lib.hid hg2
      have HW2 := Lib.hid hw2
      have HVE := Lib.hid hVe
      clear hx hgr hV hg2 hw2 hVe o5 o1 hfi
      go_upto_region 9 with (fail)
      rw [← HW2.out, ← HVE.out]
      have v0 : w2.cell? ⟨V, 0, none⟩ = some (.string K) := blkC HV.out 0 rfl
      go_wp2_with (fail)
      refine WO.out.mono ?_
      rintro e w3 ⟨rfl, g3⟩
      have HV3 := Lib.hid ((g3.block _ (lt_of_block HV.out) (by simp)).trans HV.out)
      have HG3 := Lib.hid (gr_trans HG2.out g3)
      clear v0 g3 d0 d1
      have v0 : w3.cell? ⟨V, 0, none⟩ = some (.string K) := blkC HV3.out 0 rfl
      have v1 : w3.cell? ⟨V, 1, none⟩ = some (.int .i64 P) := blkC HV3.out 1 rfl
      have hng : decide ((wi : Int) < 0) = false := decide_eq_false (by omega)
      go_upto_region 11 with (fail)
      go_cut [29] (fun s wx => s = .bool false ∧ ∃ nx, wx = w3.drewN nx)
      case first =>
        by_cases hk0 : 0 < k
        · obtain ⟨y, y0, hy⟩ := PV.out hk0
          have y0 := (gr_cell HG3.out (lt_of_cell y0)).trans y0
          have hint1 : (0 : Int) ≤ (k : Int) - 1 := by omega
          have hint2 : (k : Int) - 1 < (B.length : Int) := by omega
          have hint3 : (0 : Int) < (k : Int) := by omega
          have htn : ((k : Int) - 1).toNat = k - 1 := by omega
          have hwr : IntKind.i64.wrap ((k : Int) - 1) = (k : Int) - 1 := IntWalk.i64_in _ (by omega)
          have hlb2 : (Op.bytesLess K.toList y.toList || K.toList == y.toList) = false := hy
          clear hy PV
          go_quiet (fail)
          go_wp2_with (fail)
          go_meet
          exact ⟨rfl, _, rfl⟩
        · have hdf : decide (0 < k) = false := decide_eq_false (by omega)
          clear hk0 PV
          go_quiet (fail)
          go_wp2_with (fail)
          go_meet
          exact ⟨rfl, _, rfl⟩
      case rest =>
      obtain ⟨rfl, nq, rfl⟩ := hcut
      have GQ := Lib.hid (gr_trans HGR.out (gr_drewN HG3.out nq))
      have dP : (decide (P < 1) || decide (100 < P)) = false := by simp; omega
      go_wp2_with (fail)
      refine (out_any P 1 100 _).mono ?_
      rintro e w5 ⟨rfl, rfl⟩
      rw [dP]
      go_wp2_with (fail)
      go_roundw
      case rel => exact ⟨k + 1, by omega, by go_num, GQ.out⟩
      case measure => simp [intOf]; omega
    · obtain rfl : k = B.length := by omega
      go_wp2_with (fail)
      go_ret
      exact ⟨rfl, hgr⟩
end Go.Proofs.YtjhfglhoiplfmaaDoor

/-! What is wrong with deals: the document's answer, and the program's. -/
namespace Go.Proofs.YtjhfglhoiplfmaaDoor
open Go.RowKit
attribute [local go_sem ↓] Go.wp_at_zero Go.wp_at_succ

def deIs (G : ByteArray) (x : De) : Bool := x.group.toList == G.toList
structure DeOk (x : De) : Prop where
  key : keyB x.key = true
  grp : keyB x.group = true
  m0 : 2 ≤ x.many
  m1 : x.many ≤ 20
  f0 : 1 ≤ x.free
  f1 : x.free ≤ x.many - 1
def DeAt (B : List De) (j : Nat) (hj : j < B.length) : Prop := DeOk B[j] ∧ (∀ (_ : 0 < j), leS B[j].key (B[j - 1]'(by omega)).key = false) ∧ (B.take j).any (deIs B[j].group) = false
def DesOk (B : List De) : Prop := ∀ j (hj : j < B.length), DeAt B j hj
theorem flat_pre {α : Type} {enc : α → List Value} {w : World} {a : Option Addr} {L : List α} (h : CellsAt w a (flat enc L)) (k : Nat) : CellsAt w a (flat enc (L.take k)) := by
  intro j v hj
  refine h j v ?_
  have e : flat enc L = flat enc (L.take k) ++ flat enc (L.drop k) := by rw [← flat_append, List.take_append_drop]
  have hl : j < (flat enc (L.take k)).length := by
    rcases Nat.lt_or_ge j (flat enc (L.take k)).length with h1 | h1
    · exact h1
    · rw [List.getElem?_eq_none h1] at hj; cases hj
  rw [e, List.getElem?_append_left hl]
  exact hj
theorem dealsF1_fn : ∀ (args : Array Value) (w : World), (callFunc 51 args).run Tryd.prog w = .ok (.enter 51 args) w := fun _ _ => by kernel_rfl
theorem dealsC1_fn : ∀ (args : Array Value) (w : World), (callFunc 102 args).run Tryd.prog w = .ok (.enter 102 args) w := fun _ _ => by kernel_rfl
theorem dealsF1_any (x : De) (G : ByteArray) (q0 : Nat) (w : World) (h : w.cell? ⟨q0, 1, none⟩ = some (.string G)) : Calls Tryd.prog 51 #[.agg #[.string x.key, .string x.group, .int .i64 x.many, .int .i64 x.free], .pointer (some ⟨q0, 0, none⟩)] w fun e w' => e = .returned (.bool (deIs G x)) ∧ w.grownBy w' none := by
  have hqlt := lt_of_cell h
  go_enter Tryd.func51, Tryd.ntmps51
  go_wp2_with (fail)
  go_ret
  exact ⟨rfl, gr_alloc (gr_refl w none) _⟩
theorem dealsC1_any (x : De) (G : ByteArray) (q0 : Nat) (w : World) (h : w.cell? ⟨q0, 1, none⟩ = some (.string G)) : Calls Tryd.prog 102 #[.agg #[.string x.key, .string x.group, .int .i64 x.many, .int .i64 x.free], .pointer (some ⟨q0, 0, none⟩)] w fun e w' => e = .returned (.bool (deIs G x)) ∧ w.grownBy w' none := by
  have hqlt := lt_of_cell h
  go_enter Tryd.func102, Tryd.ntmps102
  go_wp2_with (fail)
  go_ret
  exact ⟨rfl, gr_alloc (gr_refl w none) _⟩
theorem dealsAny (F : FuncId) (hF : ∀ (args : Array Value) (w : World), (callFunc F args).run Tryd.prog w = .ok (.enter F args) w)
    (hC : ∀ (x : De) (G : ByteArray) (q0 : Nat) (w : World), w.cell? ⟨q0, 1, none⟩ = some (.string G) → Calls Tryd.prog F #[.agg #[.string x.key, .string x.group, .int .i64 x.many, .int .i64 x.free], .pointer (some ⟨q0, 0, none⟩)] w fun e w' => e = .returned (.bool (deIs G x)) ∧ w.grownBy w' none)
    (B : List De) (k : Nat) (hk : k ≤ B.length) (a : Option Addr) (c : Nat) (w : World) (h : CellsAt w a (flat encDe B)) (hl : B.length ≤ 100) (G : ByteArray) (q : Nat) (hq : w.cell? ⟨q, 1, none⟩ = some (.string G)) :
    Calls Tryd.prog 50 #[.slice a k c, .func (.func F) #[] #[.pointer (some ⟨q, 0, none⟩)]] w fun e w' => e = .returned (.bool ((B.take k).any (deIs G))) ∧ w.grownBy w' none := by
  have htl : (B.take k).length = k := by simp; omega
  have h2 := containsFunc_De F q (deIs G) (B.take k) a c w (flat_pre h k) (by omega) hF (fun x _ w1 g1 => hC x G q w1 ((gr_cell g1 (lt_of_cell hq)).trans hq))
  rw [htl] at h2
  exact h2
set_option maxRecDepth 100000 in
set_option maxHeartbeats 1000000 in
theorem dealsFault_any (N : List Wr) (a : Option Addr) (c : Nat) (B : List De) (a2 : Option Addr) (c2 : Nat) (w : World) (h : CellsAt w a (flat encWr N)) (hsm : ∀ x ∈ N, WrSm x) (hl : N.length ≤ 6) (h2 : CellsAt w a2 (flat encDe B)) (hsm2 : ∀ x ∈ B, DeSm x) (hl2 : B.length ≤ 4) (hcap : B.length ≤ c2) :
    Calls Tryd.prog 10 #[.slice a N.length c, .slice a2 B.length c2] w (WrPost (WrsOk N ∧ DesOk B) w) := by
  have HCAP := Lib.hid hcap
  have H := Lib.hid h2
  have HSM := Lib.hid hsm2
  have WF := waresFault_any N a c w h hsm hl
  unfold WrPost at WF
  have WF := Lib.hid WF
  clear h hsm h2 hsm2 hcap
  go_enter Tryd.func10, Tryd.ntmps10
  go_wp2_with (fail)
  refine WF.out.mono ?_
  rintro e w1 ⟨r, rfl, hr, g1⟩
  have HR := Lib.hid hr
  have HG1 := Lib.hid g1
  clear hr g1 WF
  by_cases hr0 : r = 0
  case neg =>
    have hrb : (r != 0) = true := by simpa using hr0
    have HR0 := Lib.hid hr0
    clear hr0
    go_wp2_with (fail)
    go_ret
    exact ⟨r, rfl, (fun e => absurd e HR0.out), HG1.out⟩
  have HWOK := Lib.hid (HR.out hr0)
  subst hr0
  clear HR
  go_wp2_with (fail)
  go_loopw [18] (fun i wr => ∃ k : Nat, k ≤ B.length ∧ i = .int .i64 k ∧ (∀ j (hj : j < B.length), j < k → DeAt B j hj) ∧ w.grownBy wr none) (fun i _ => B.length - (intOf i).toNat)
  case atStart => exact ⟨0, Nat.zero_le _, rfl, fun j _ h => absurd h (Nat.not_lt_zero _), HG1.out⟩
  case round =>
    obtain ⟨k, hk, rfl, hok, hgr⟩ := hrel
    obtain ⟨wo, rfl⟩ : ∃ wo : World, wo = wr := ⟨_, rfl⟩
    by_cases hlt : k < B.length
    · obtain ⟨b, off, rfl, d0, d1, d2, d3⟩ := de_cells (H.out.keep0 hgr) k hlt
      obtain ⟨hs1, hs2, ⟨hs3, hs4⟩, hs5, hs6⟩ := HSM.out _ (List.getElem_mem hlt)
      have MK : Hid (keyB B[k].key = true → keyB B[k].group = true → (∀ (h : 0 < k), leS B[k].key (B[k - 1]'(by omega)).key = false) → (B.take k).any (deIs B[k].group) = false → 2 ≤ B[k].many → B[k].many ≤ 20 → 1 ≤ B[k].free → B[k].free ≤ B[k].many - 1 → ∀ j (hj : j < B.length), j < k + 1 → DeAt B j hj) := fun h1 h2 h3 h4 h5 h6 h7 h8 j hj hjk => by
        by_cases e : j = k
        · subst e; exact ⟨⟨h1, h2, h5, h6, h7, h8⟩, h3, h4⟩
        · exact hok j hj (by omega)
      have PV : Hid (∀ (h : 0 < k), ∃ y, wo.cell? ⟨b, off + (k - 1) * 4, none⟩ = some (.string y) ∧ (B[k - 1]'(by omega)).key = y) := fun h => by
        obtain ⟨b', off', e', y0, -⟩ := de_cells (H.out.keep0 hgr) (k - 1) (by omega)
        cases e'
        exact ⟨_, y0, rfl⟩
      have CF : Hid (∀ W, wo.grownBy W none → ∀ g, W.cell? ⟨g, 1, none⟩ = some (.string B[k].group) → Calls Tryd.prog 50 #[.slice (some ⟨b, off, none⟩) k c2, .func (.func 51) #[] #[.pointer (some ⟨g, 0, none⟩)]] W fun e w' => e = .returned (.bool ((B.take k).any (deIs B[k].group))) ∧ W.grownBy w' none) :=
        fun W gW g hcell => dealsAny _ dealsF1_fn dealsF1_any B k hk _ c2 W ((H.out.keep0 hgr).keep0 gW) (by omega) _ g hcell
      obtain ⟨x, hx⟩ : ∃ x, x = B[k] := ⟨_, rfl⟩
      rw [← hx] at d0 d1 d2 d3 hs1 hs2 hs3 hs4 hs5 hs6 MK CF
      obtain ⟨K, G, M, F⟩ := x
      simp only at d0 d1 d2 d3 hs1 hs2 hs3 hs4 hs5 hs6 MK CF
      obtain ⟨an, han⟩ : ∃ an, an = (B.take k).any (deIs G) := ⟨_, rfl⟩
      rw [← han] at MK CF
      have HGR := Lib.hid hgr
      have hV := heap_alloc_new wo (.cells #[.string K, .string G, .int .i64 M, .int .i64 F] 40)
      have hg2 := gr_alloc (gr_refl wo none) (.cells #[.string K, .string G, .int .i64 M, .int .i64 F] 40)
      obtain ⟨w2, hw2⟩ : ∃ w2, w2 = wo.alloc (.cells #[.string K, .string G, .int .i64 M, .int .i64 F] 40) := ⟨_, rfl⟩
      rw [← hw2] at hV hg2
      obtain ⟨V, hVe⟩ : ∃ V, V = wo.heap.size := ⟨_, rfl⟩
      rw [← hVe] at hV
      have HV := Lib.hid hV
      have HG2 := Lib.hid hg2
      have HW2 := Lib.hid hw2
      have HVE := Lib.hid hVe
      clear hx hok hgr hV hg2 hw2 hVe han
      go_upto_region 9 with (fail)
      rw [← HW2.out, ← HVE.out]
      have v0 : w2.cell? ⟨V, 0, none⟩ = some (.string K) := blkC HV.out 0 rfl
      have v1 : w2.cell? ⟨V, 1, none⟩ = some (.string G) := blkC HV.out 1 rfl
      go_wp2_with (fail)
      refine (keyOf_any K w2 (by omega)).mono ?_
      rintro e w3 ⟨rfl, g3⟩
      have HV3 := Lib.hid ((g3.block _ (lt_of_block HV.out) (by simp)).trans HV.out)
      have HG3 := Lib.hid (gr_trans HG2.out g3)
      clear v0 v1 g3 d0 d1 d2 d3
      have v0 : w3.cell? ⟨V, 0, none⟩ = some (.string K) := blkC HV3.out 0 rfl
      have v1 : w3.cell? ⟨V, 1, none⟩ = some (.string G) := blkC HV3.out 1 rfl
      cases hk1 : keyB K with
      | false =>
        go_wp2_with (fail)
        go_ret
        exact ⟨5, rfl, (fun e => by cases e), gr_trans HGR.out HG3.out⟩
      | true =>
        go_wp2_with (fail)
        refine (keyOf_any G w3 (by omega)).mono ?_
        rintro e w4 ⟨rfl, g4⟩
        have HV4 := Lib.hid ((g4.block _ (lt_of_block HV3.out) (by simp)).trans HV3.out)
        have HG4 := Lib.hid (gr_trans HG3.out g4)
        clear v0 v1 g4 HV3
        have v0 : w4.cell? ⟨V, 0, none⟩ = some (.string K) := blkC HV4.out 0 rfl
        cases hk2 : keyB G with
        | false =>
          go_wp2_with (fail)
          go_ret
          exact ⟨5, rfl, (fun e => by cases e), gr_trans HGR.out HG4.out⟩
        | true =>
          have MK2 := Lib.hid (MK.out hk1 hk2)
          clear hk1 hk2 MK
          go_upto_region 11 with (fail)
          go_cut [34] (fun s wx => ∃ b : Bool, s = .bool b ∧ (b = false → ∀ (h : 0 < k), leS K (B[k - 1]'(by omega)).key = false) ∧ ∃ nx, wx = w4.drewN nx)
          case first =>
            by_cases hk0 : 0 < k
            · obtain ⟨y, y0, hy⟩ := PV.out hk0
              have y0 := (gr_cell HG4.out (lt_of_cell y0)).trans y0
              have hint1 : (0 : Int) ≤ (k : Int) - 1 := by omega
              have hint2 : (k : Int) - 1 < (B.length : Int) := by omega
              have hint3 : (0 : Int) < (k : Int) := by omega
              have htn : ((k : Int) - 1).toNat = k - 1 := by omega
              have hwr : IntKind.i64.wrap ((k : Int) - 1) = (k : Int) - 1 := IntWalk.i64_in _ (by omega)
              obtain ⟨lb, hlb⟩ : ∃ lb, leS K y = lb := ⟨_, rfl⟩
              have hlb2 : (Op.bytesLess K.toList y.toList || K.toList == y.toList) = lb := hlb
              have UP : Hid (lb = false → ∀ (h : 0 < k), leS K (B[k - 1]'(by omega)).key = false) := fun e _ => by rw [hy, hlb, e]
              clear hlb hy PV
              go_quiet (fail)
              go_wp2_with (fail)
              go_meet
              exact ⟨lb, rfl, UP.out, _, rfl⟩
            · have hdf : decide (0 < k) = false := decide_eq_false (by omega)
              have hk00 : Hid (¬ 0 < k) := hk0
              clear hk0 PV
              go_quiet (fail)
              go_wp2_with (fail)
              go_meet
              exact ⟨false, rfl, (fun _ h => absurd h hk00.out), _, rfl⟩
          case rest =>
          obtain ⟨b, rfl, hb, nq, rfl⟩ := hcut
          have GQ := Lib.hid (gr_trans HGR.out (gr_drewN HG4.out nq))
          cases b with
          | true =>
            clear hb
            go_wp2_with (fail)
            go_ret
            exact ⟨7, rfl, (fun e => by cases e), GQ.out⟩
          | false =>
            have MK3 := Lib.hid (MK2.out (hb rfl))
            clear hb MK2
            have hV5 : (w4.drewN nq).heap[V]? = some (.cells #[.string K, .string G, .int .i64 M, .int .i64 F] 40 (0, 0)) := ((gr_drewN (gr_refl w4 none) nq).block _ (lt_of_block HV4.out) (by simp)).trans HV4.out
            have v1 : (w4.drewN nq).cell? ⟨V, 1, none⟩ = some (.string G) := blkC hV5 1 rfl
            have CF5 := Lib.hid (CF.out _ (gr_drewN HG4.out nq) V v1)
            have HV5 := Lib.hid hV5
            have hkc : k ≤ c2 := by have := HCAP.out; omega
            clear v0 v1 hV5
            go_wp2_with (fail)
            refine CF5.out.mono ?_
            rintro e w6 ⟨rfl, g6⟩
            have hV6 := (g6.block _ (lt_of_block HV5.out) (by simp)).trans HV5.out
            have v2 : w6.cell? ⟨V, 2, none⟩ = some (.int .i64 M) := blkC hV6 2 rfl
            have v3 : w6.cell? ⟨V, 3, none⟩ = some (.int .i64 F) := blkC hV6 3 rfl
            have G6 := Lib.hid (gr_trans GQ.out g6)
            clear hV6 g6
            cases an with
            | true =>
              go_wp2_with (fail)
              go_ret
              exact ⟨6, rfl, (fun e => by cases e), G6.out⟩
            | false =>
              have MK4 := Lib.hid (MK3.out rfl)
              clear MK3
              by_cases q0 : M < 2
              · go_wp2_with (fail)
                go_ret
                exact ⟨1, rfl, (fun e => by cases e), G6.out⟩
              by_cases q1 : 20 < M
              · go_wp2_with (fail)
                go_ret
                exact ⟨1, rfl, (fun e => by cases e), G6.out⟩
              by_cases q2 : F < 1
              · go_wp2_with (fail)
                go_ret
                exact ⟨1, rfl, (fun e => by cases e), G6.out⟩
              by_cases q3 : M - 1 < F
              · go_wp2_with (fail)
                go_ret
                exact ⟨1, rfl, (fun e => by cases e), G6.out⟩
              have MK5 := Lib.hid (MK4.out (by omega) (by omega) (by omega) (by omega))
              clear MK4
              go_wp2_with (fail)
              go_roundw
              case rel => exact ⟨k + 1, by omega, by go_num, MK5.out, G6.out⟩
              case measure => simp [intOf]; omega
    · obtain rfl : k = B.length := by omega
      have HOK : Hid (DesOk B) := fun j hj => hok j hj hj
      clear hok
      go_wp2_with (fail)
      go_ret
      exact ⟨0, rfl, fun _ => ⟨HWOK.out, HOK.out⟩, hgr⟩
set_option maxRecDepth 100000 in
set_option maxHeartbeats 1000000 in
theorem dealsCheck_ok (N : List Wr) (a : Option Addr) (c : Nat) (B : List De) (a2 : Option Addr) (c2 : Nat) (w : World) (h : CellsAt w a (flat encWr N)) (hsm : ∀ x ∈ N, WrSm x) (hl : N.length ≤ 6) (h2 : CellsAt w a2 (flat encDe B)) (hl2 : B.length ≤ 4) (hcap : B.length ≤ c2) (hsm2 : ∀ x ∈ B, DeSm x) (hok : WrsOk N) (hbk : DesOk B) :
    Calls Tryd.prog 55 #[.slice a N.length c, .slice a2 B.length c2] w fun e w' => e = .returned (.int .i64 0) ∧ w.grownBy w' none := by
  have HCAP := Lib.hid hcap
  have HSM := Lib.hid hsm2
  have H := Lib.hid h2
  have HB := Lib.hid hbk
  have WC := Lib.hid (waresCheck_ok N a c w h hsm hl hok)
  clear h hsm hok h2 hbk hcap hsm2
  go_enter Tryd.func55, Tryd.ntmps55
  go_wp2_with (fail)
  refine WC.out.mono ?_
  rintro e w1 ⟨rfl, g1⟩
  have HG1 := Lib.hid g1
  clear g1 WC
  go_wp2_with (fail)
  go_loopw [18] (fun i wr => ∃ k : Nat, k ≤ B.length ∧ i = .int .i64 k ∧ w.grownBy wr none) (fun i _ => B.length - (intOf i).toNat)
  case atStart => exact ⟨0, Nat.zero_le _, rfl, HG1.out⟩
  case round =>
    obtain ⟨k, hk, rfl, hgr⟩ := hrel
    obtain ⟨wo, rfl⟩ : ∃ wo : World, wo = wr := ⟨_, rfl⟩
    by_cases hlt : k < B.length
    · obtain ⟨b, off, rfl, d0, d1, d2, d3⟩ := de_cells (H.out.keep0 hgr) k hlt
      obtain ⟨⟨o1, o2, o3, o4, o5, o6⟩, o7, o8⟩ := HB.out k hlt
      obtain ⟨hs1, hs2, -⟩ := HSM.out _ (List.getElem_mem hlt)
      have PV : Hid (∀ (h : 0 < k), ∃ y, wo.cell? ⟨b, off + (k - 1) * 4, none⟩ = some (.string y) ∧ leS B[k].key y = false) := fun h => by
        obtain ⟨b', off', e', y0, -⟩ := de_cells (H.out.keep0 hgr) (k - 1) (by omega)
        cases e'
        exact ⟨_, y0, o7 h⟩
      have CF : Hid (∀ W, wo.grownBy W none → ∀ g, W.cell? ⟨g, 1, none⟩ = some (.string B[k].group) → Calls Tryd.prog 50 #[.slice (some ⟨b, off, none⟩) k c2, .func (.func 102) #[] #[.pointer (some ⟨g, 0, none⟩)]] W fun e w' => e = .returned (.bool false) ∧ W.grownBy w' none) :=
        fun W gW g hcell => by
          have := dealsAny _ dealsC1_fn dealsC1_any B k hk _ c2 W ((H.out.keep0 hgr).keep0 gW) (by omega) _ g hcell
          rw [o8] at this
          exact this
      obtain ⟨x, hx⟩ : ∃ x, x = B[k] := ⟨_, rfl⟩
      rw [← hx] at d0 d1 d2 d3 o1 o2 o3 o4 o5 o6 PV CF hs1 hs2
      obtain ⟨K, G, M, F⟩ := x
      simp only at d0 d1 d2 d3 o1 o2 o3 o4 o5 o6 PV CF hs1 hs2
      have HGR := Lib.hid hgr
      have O1 := Lib.hid o1
      have O2 := Lib.hid o2
      have hV := heap_alloc_new wo (.cells #[.string K, .string G, .int .i64 M, .int .i64 F] 40)
      have hg2 := gr_alloc (gr_refl wo none) (.cells #[.string K, .string G, .int .i64 M, .int .i64 F] 40)
      obtain ⟨w2, hw2⟩ : ∃ w2, w2 = wo.alloc (.cells #[.string K, .string G, .int .i64 M, .int .i64 F] 40) := ⟨_, rfl⟩
      rw [← hw2] at hV hg2
      obtain ⟨V, hVe⟩ : ∃ V, V = wo.heap.size := ⟨_, rfl⟩
      rw [← hVe] at hV
      have HV := Lib.hid hV
      have HG2 := Lib.hid hg2
      have HW2 := Lib.hid hw2
      have HVE := Lib.hid hVe
      clear hx hgr hV hg2 hw2 hVe o1 o2 o7 o8
      go_upto_region 9 with (fail)
      rw [← HW2.out, ← HVE.out]
      have v0 : w2.cell? ⟨V, 0, none⟩ = some (.string K) := blkC HV.out 0 rfl
      have v1 : w2.cell? ⟨V, 1, none⟩ = some (.string G) := blkC HV.out 1 rfl
      go_wp2_with (fail)
      refine (key_any K w2 (by omega)).mono ?_
      rintro e w3 ⟨rfl, rfl⟩
      rw [O1.out]
      go_wp2_with (fail)
      refine (key_any G w2 (by omega)).mono ?_
      rintro e w3 ⟨rfl, rfl⟩
      rw [O2.out]
      clear d0 d1 d2 d3 v1
      go_upto_region 11 with (fail)
      go_cut [34] (fun s wx => s = .bool false ∧ ∃ nx, wx = w2.drewN nx)
      case first =>
        by_cases hk0 : 0 < k
        · obtain ⟨y, y0, hy⟩ := PV.out hk0
          have y0 := (gr_cell HG2.out (lt_of_cell y0)).trans y0
          have hint1 : (0 : Int) ≤ (k : Int) - 1 := by omega
          have hint2 : (k : Int) - 1 < (B.length : Int) := by omega
          have hint3 : (0 : Int) < (k : Int) := by omega
          have htn : ((k : Int) - 1).toNat = k - 1 := by omega
          have hwr : IntKind.i64.wrap ((k : Int) - 1) = (k : Int) - 1 := IntWalk.i64_in _ (by omega)
          have hlb2 : (Op.bytesLess K.toList y.toList || K.toList == y.toList) = false := hy
          clear hy PV
          go_quiet (fail)
          go_wp2_with (fail)
          go_meet
          exact ⟨rfl, _, rfl⟩
        · have hdf : decide (0 < k) = false := decide_eq_false (by omega)
          clear hk0 PV
          go_quiet (fail)
          go_wp2_with (fail)
          go_meet
          exact ⟨rfl, _, rfl⟩
      case rest =>
      obtain ⟨rfl, nq, rfl⟩ := hcut
      have GQ := Lib.hid (gr_trans HGR.out (gr_drewN HG2.out nq))
      have hV5 : (w2.drewN nq).heap[V]? = some (.cells #[.string K, .string G, .int .i64 M, .int .i64 F] 40 (0, 0)) := ((gr_drewN (gr_refl w2 none) nq).block _ (lt_of_block HV.out) (by simp)).trans HV.out
      have CF5 := Lib.hid (CF.out _ (gr_drewN HG2.out nq) V (blkC hV5 1 rfl))
      have HV5 := Lib.hid hV5
      have hkc : k ≤ c2 := by have := HCAP.out; omega
      clear v0 hV5
      go_wp2_with (fail)
      refine CF5.out.mono ?_
      rintro e w6 ⟨rfl, g6⟩
      have hV6 := (g6.block _ (lt_of_block HV5.out) (by simp)).trans HV5.out
      have v2 : w6.cell? ⟨V, 2, none⟩ = some (.int .i64 M) := blkC hV6 2 rfl
      have v3 : w6.cell? ⟨V, 3, none⟩ = some (.int .i64 F) := blkC hV6 3 rfl
      have G6 := Lib.hid (gr_trans GQ.out g6)
      have dP : (decide (M < 2) || decide (20 < M)) = false := by simp; omega
      have dQ : (decide (F < 1) || decide (M - 1 < F)) = false := by simp; omega
      clear hV6 g6
      go_wp2_with (fail)
      refine (out_any M 2 20 _).mono ?_
      rintro e w7 ⟨rfl, rfl⟩
      rw [dP]
      go_wp2_with (fail)
      refine (out_any F 1 (M - 1) _).mono ?_
      rintro e w7 ⟨rfl, rfl⟩
      rw [dQ]
      go_wp2_with (fail)
      go_roundw
      case rel => exact ⟨k + 1, by omega, by go_num, G6.out⟩
      case measure => simp [intOf]; omega
    · obtain rfl : k = B.length := by omega
      go_wp2_with (fail)
      go_ret
      exact ⟨rfl, hgr⟩
end Go.Proofs.YtjhfglhoiplfmaaDoor

/-! What a basket costs, of the rows as they lie in memory: no program in sight. -/
namespace Go.Proofs.YtjhfglhoiplfmaaDoor
open Go.RowKit

def wrGet (N : List Wr) (k : ByteArray) : Wr := N.getD (N.findIdx (wrIs k)) ⟨⟨#[]⟩, 0, ⟨#[]⟩⟩
def itm (N : List Wr) (x : Nm) : Itm := ⟨(wrGet N x.key).price, (wrGet N x.key).group, x.many⟩
def itms (N : List Wr) (B : List Nm) : List Itm := B.map (itm N)
def dl (x : De) : Dl := ⟨x.group, x.many.toNat, x.free.toNat⟩
def dls (D : List De) : List Dl := D.map dl
theorem wrGet_at {N : List Wr} {k : ByteArray} {i : Nat} (hi : i < N.length) (he : i = N.findIdx (wrIs k)) : wrGet N k = N[i] := by
  unfold wrGet
  rw [← he, List.getD_eq_getElem?_getD, List.getElem?_eq_getElem hi]
  rfl
theorem wrGet_ok {N : List Wr} (h : WrsOk N) {k : ByteArray} (hk : N.any (wrIs k) = true) : 0 ≤ (wrGet N k).price ∧ (wrGet N k).price ≤ 100000 := by
  obtain ⟨i, hi, -, he⟩ := findA_has hk
  rw [wrGet_at hi he]
  obtain ⟨⟨-, -, h1, h2⟩, -⟩ := h i hi
  exact ⟨h1, h2⟩
structure ItBd (I : List Itm) : Prop where
  price : ∀ x ∈ I, 0 ≤ x.price ∧ x.price ≤ 100000
  many : ∀ x ∈ I, 0 ≤ x.many ∧ x.many ≤ 100
theorem itms_bd {N : List Wr} {B : List Nm} (h : WrsOk N) (hB : BksOk N B) : ItBd (itms N B) := by
  have key : ∀ x ∈ itms N B, (0 ≤ x.price ∧ x.price ≤ 100000) ∧ 0 ≤ x.many ∧ x.many ≤ 100 := by
    intro x hx
    obtain ⟨y, hy, rfl⟩ := List.mem_map.1 hx
    obtain ⟨j, hj, rfl⟩ := List.getElem_of_mem hy
    obtain ⟨⟨h1, h2, h3⟩, -⟩ := hB j hj
    exact ⟨wrGet_ok h h1, by show 0 ≤ B[j].many; omega, h3⟩
  exact ⟨fun x hx => (key x hx).1, fun x hx => (key x hx).2⟩
theorem ItBd.ok {I : List Itm} (h : ItBd I) : ItOk I := ⟨fun x hx => (h.price x hx).1, fun x hx => (h.many x hx).1⟩
theorem ItBd.take {I : List Itm} (h : ItBd I) (k : Nat) : ItBd (I.take k) := ⟨fun x hx => h.price x (List.mem_of_mem_take hx), fun x hx => h.many x (List.mem_of_mem_take hx)⟩
theorem ItBd.tot {I : List Itm} (h : ItBd I) : 0 ≤ dlTot I ∧ dlTot I ≤ 10000000 * I.length := by
  have h1 := sum_bd 10000000 (I.map fun x => x.price * x.many) (fun y hy => by
    obtain ⟨x, hx, rfl⟩ := List.mem_map.1 hy
    have p := h.price x hx
    have m := h.many x hx
    exact ⟨Int.mul_nonneg p.1 m.1, Int.le_trans (Int.mul_le_mul p.2 m.2 m.1 (by omega)) (by omega)⟩)
  rw [List.length_map] at h1
  exact h1
theorem tot_next (I : List Itm) (k : Nat) (h : k < I.length) : dlTot (I.take (k + 1)) = dlTot (I.take k) + I[k].price * I[k].many := by
  have e : I.take (k + 1) = I.take k ++ [I[k]] := by simp
  unfold dlTot
  rw [e, List.map_append, List.sum_append]
  simp
theorem un_next (g : ByteArray) (I : List Itm) (k : Nat) (h : k < I.length) : dlUn g (I.take (k + 1)) = dlUn g (I.take k) ++ (if dlSame I[k].group g then List.replicate I[k].many.toNat I[k].price else []) := by
  have e : I.take (k + 1) = I.take k ++ [I[k]] := by simp
  unfold dlUn
  rw [e, List.flatMap_append]
  simp
theorem ItBd.un_len {I : List Itm} (h : ItBd I) (g : ByteArray) : (dlUn g I).length ≤ 100 * I.length := by
  induction I with
  | nil => simp [dlUn]
  | cons x I ih =>
    have hx := h.many x (by simp)
    have := ih ⟨fun y hy => h.price y (by simp [hy]), fun y hy => h.many y (by simp [hy])⟩
    have e : dlUn g (x :: I) = (if dlSame x.group g then List.replicate x.many.toNat x.price else []) ++ dlUn g I := by simp [dlUn]
    rw [e, List.length_append, List.length_cons]
    split
    · rw [List.length_replicate]; omega
    · simp; omega
theorem ItBd.un_mem {I : List Itm} (h : ItBd I) (g : ByteArray) : ∀ z ∈ dlUn g I, 0 ≤ z ∧ z ≤ 100000 := by
  intro z hz
  simp only [dlUn, List.mem_flatMap] at hz
  obtain ⟨x, hx, hz⟩ := hz
  split at hz
  · have := (List.mem_replicate.1 hz).2
    subst this
    exact h.price x hx
  · cases hz
theorem off_next (I : List Itm) (D : List De) (k : Nat) (h : k < D.length) : dlOff I (dls (D.take (k + 1))) = dlOff I (dls (D.take k)) + dlFree I (dl D[k]) := by
  have e : D.take (k + 1) = D.take k ++ [D[k]] := by simp
  unfold dlOff dls
  rw [e, List.map_append, List.map_append, List.sum_append]
  simp
theorem dls_ok {D : List De} (h : DesOk D) (k : Nat) : DlOk (dls (D.take k)) := by
  unfold DlOk dls
  rw [List.pairwise_map, List.pairwise_iff_getElem]
  intro i j hi hj hij
  have hi2 : i < D.length := by simp at hi; omega
  have hj2 : j < D.length := by simp at hj; omega
  rw [List.getElem_take, List.getElem_take]
  obtain ⟨-, -, h3⟩ := h j hj2
  have hm : D[i] ∈ D.take j := List.mem_take_iff_getElem.2 ⟨i, by omega, rfl⟩
  have := List.any_eq_false.1 h3 _ hm
  show dlSame D[i].group D[j].group = false
  simpa [deIs, dlSame] using this
/-- What a basket costs with deals. -/
def priceM (N : List Wr) (D : List De) (B : List Nm) : Int := dlTot (itms N B) - dlOff (itms N B) (dls D)
theorem price_bd {N : List Wr} {B : List Nm} {D : List De} (h : WrsOk N) (hB : BksOk N B) (hD : DesOk D) (k : Nat) : 0 ≤ dlTot (itms N B) - dlOff (itms N B) (dls (D.take k)) ∧ dlTot (itms N B) - dlOff (itms N B) (dls (D.take k)) ≤ dlTot (itms N B) := by
  have := dlOff_bd (itms N B) (itms_bd h hB).ok (dls (D.take k)) (dls_ok hD k)
  omega
theorem drop_sum (L : List Int) (i : Nat) (h : i < L.length) : (L.drop i).sum = L[i] + (L.drop (i + 1)).sum := by
  rw [List.drop_eq_getElem_cons h, List.sum_cons]
theorem drop_sum_bd (L : List Int) (h : ∀ x ∈ L, 0 ≤ x ∧ x ≤ 100000) (i : Nat) : 0 ≤ (L.drop i).sum ∧ (L.drop i).sum ≤ 100000 * L.length := by
  have h1 := sum_bd 100000 (L.drop i) (fun x hx => h x (List.mem_of_mem_drop hx))
  have h2 : (L.drop i).length ≤ L.length := by simp
  omega
theorem freeSum_bd2 (m f : Nat) (L : List Int) (h : ∀ x ∈ L, 0 ≤ x ∧ x ≤ 100000) : 0 ≤ freeSum m f L ∧ freeSum m f L ≤ 100000 * L.length := by
  have h1 := freeSum_bd m f _ L rfl (fun x hx => (h x hx).1)
  have h2 := (sum_bd 100000 L h).2
  omega
/-- The units of a set that are free. -/
def setF (m f : Nat) (R : List Int) : List Int := (R.take m).drop (m - f)
theorem setF_len {m f : Nat} {R : List Int} (hm : m ≤ R.length) (hf : f ≤ m) : (setF m f R).length = f := by
  unfold setF
  rw [List.length_drop, List.length_take]
  omega
theorem setF_get {m f : Nat} {R : List Int} (hm : m ≤ R.length) (hf : f ≤ m) {i : Nat} (hi : i < f) : (setF m f R)[i]'(by rw [setF_len hm hf]; exact hi) = R[m - f + i]'(by omega) := by
  unfold setF
  rw [List.getElem_drop, List.getElem_take]
end Go.Proofs.YtjhfglhoiplfmaaDoor

/-! Wares, a basket, as the stream makes them. -/
namespace Go.Proofs.YtjhfglhoiplfmaaDoor
open Go.RowKit
variable {lw : Nat}

abbrev wkeys : Array Value := #[.string ⟨#[98, 97, 114]⟩, .string ⟨#[99, 97, 107, 101]⟩, .string ⟨#[110, 117, 116, 115]⟩, .string ⟨#[112, 105, 101]⟩, .string ⟨#[119, 97, 116, 101, 114]⟩]
theorem wkeys_get (i : Nat) (h : i < 5) : ∃ s : ByteArray, wkeys[i]? = some (.string s) ∧ s.size ≤ 5 := by
  have : i = 0 ∨ i = 1 ∨ i = 2 ∨ i = 3 ∨ i = 4 := by omega
  rcases this with rfl | rfl | rfl | rfl | rfl <;> exact ⟨_, rfl, by decide⟩
def WaresPost (l : List Int) (lw k p : Nat) (w : World) (e : Ending) (w' : World) : Prop :=
  ∃ v N, e = .returned v ∧ w'.ownsRow w.heap.size 97 3 v N.length (flat encWr N) ∧ N.length ≤ 6 ∧ (∀ x ∈ N, WrSm x) ∧ (∃ q, q ≤ k + 100 ∧ StreamAt w' p lw l q) ∧ w.grownBy w' (some p)
set_option maxRecDepth 100000 in
set_option maxHeartbeats 1000000 in
theorem wares_any (l : List Int) (k : Nat) (p : Nat) (w : World) (hs : StreamAt w p lw l k) (hk : k < 800000000) :
    Calls Tryd.prog 7 #[.pointer (some ⟨p, 0, none⟩)] w (WaresPost l lw k p w) := by
  have hlt := hs.lt
  have hB := heap_alloc_new w (.cells wkeys 9)
  have ga := gr_alloc (gr_refl w none) (.cells wkeys 9)
  have K0 : Hid (MkW encWr 97 3 WrSm wkeys (w.alloc (.cells wkeys 9)) w p lw l k (.slice none 0 0) []) :=
    ⟨World.ownsRow_nil _ _ _ _, hB, hs.keep0 ga, (fun x hx => by cases hx), gr_weak ga _, hlt⟩
  clear hB ga hs
  go_enter Tryd.func7, Tryd.ntmps7
  go_wp2_with (fail)
  go_loopw [3, 8] (fun o i wr => ∃ (j q : Nat) (v : Value) (N : List Wr), j ≤ 5 ∧ i = .int .i64 j ∧ v = o ∧ N.length ≤ j ∧ q ≤ k + 4 * j ∧ MkW encWr 97 3 WrSm wkeys wr w p lw l q v N) (fun _ i _ => 5 - (intOf i).toNat)
  case atStart => exact ⟨0, k, _, [], by omega, rfl, rfl, Nat.le_refl _, Nat.le_refl _, K0.out⟩
  case round =>
    clear K0
    obtain ⟨j, q, v, N, hj, rfl, rfl, hN, hq, hW⟩ := hrel
    obtain ⟨wo, rfl⟩ : ∃ wo : World, wo = wr := ⟨_, rfl⟩
    by_cases hjl : j < 5
    · obtain ⟨s, hks, hss⟩ := wkeys_get j hjl
      have d0 : wo.cell? ⟨w.heap.size, j, none⟩ = some (.string s) := blkC hW.blk j hks
      have hjd : decide ((j : Int) < 5) = true := by simp; omega
      have HW := Lib.hid hW
      clear hW hks
      go_wp2_with (fail)
      refine (flip_any l q 5 p wo HW.out.str (by omega) (by omega)).mono ?_
      rintro e w3 ⟨rfl, hs3, hg3⟩
      have HW3 := Lib.hid (HW.out.draw hg3 hs3)
      obtain ⟨b, hb⟩ : ∃ b, b = flipM l q 5 := ⟨_, rfl⟩
      rw [← hb]
      clear hb hs3 hg3 HW d0
      cases b with
      | true =>
        go_wp2_with (fail)
        go_roundw
        case rel => exact ⟨j + 1, q + 1, _, N, by omega, by go_num, rfl, by omega, by omega, HW3.out⟩
        case measure => simp [intOf]; omega
      | false =>
        go_wp2_with (fail)
        refine (pick_any l (q + 1) [0, 50, 50, 80, 120] p w3 HW3.out.str (by omega) (by decide) (by decide)).mono ?_
        rintro e w4 ⟨rfl, hs4, hg4⟩
        have hpk := pickM_mem l (q + 1) [0, 50, 50, 80, 120] (by decide)
        simp only [List.mem_cons, List.not_mem_nil, or_false] at hpk
        obtain ⟨y, hy⟩ : ∃ y, y = pickM l (q + 1) [0, 50, 50, 80, 120] := ⟨_, rfl⟩
        rw [← hy] at hpk
        rw [← hy]
        have HW4 := Lib.hid (HW3.out.draw hg4 hs4)
        clear hy hs4 hg4 HW3
        go_wp2_with (fail)
        refine (one_any l (q + 1 + 1) [⟨#[115, 119, 101, 101, 116]⟩, ⟨#[115, 97, 108, 116]⟩, ⟨#[100, 114, 105, 110, 107]⟩] p w4 HW4.out.str (by omega) (by decide) (by decide)).mono ?_
        rintro e w6 ⟨rfl, hs6, hg6⟩
        have h1 := oneS_mem l (q + 1 + 1) [⟨#[115, 119, 101, 101, 116]⟩, ⟨#[115, 97, 108, 116]⟩, ⟨#[100, 114, 105, 110, 107]⟩] (by decide)
        obtain ⟨g, hg⟩ : ∃ y, y = oneS l (q + 1 + 1) [⟨#[115, 119, 101, 101, 116]⟩, ⟨#[115, 97, 108, 116]⟩, ⟨#[100, 114, 105, 110, 107]⟩] := ⟨_, rfl⟩
        rw [← hg] at h1
        rw [← hg]
        have hg5 : g.size ≤ 5 := by
          simp only [List.mem_cons, List.not_mem_nil, or_false] at h1
          rcases h1 with rfl | rfl | rfl <;> decide
        have HW6 := Lib.hid (HW4.out.draw hg6 hs6)
        have HSM : Hid (WrSm ⟨s, y, g⟩) := ⟨hss, ⟨by simp only; omega, by simp only; omega⟩, hg5⟩
        have hz6 : w.heap.size < w6.heap.size := lt_of_block HW6.out.blk
        clear hg hs6 hg6 HW4 hpk h1
        go_wp2_with (at_builtin; refine wpList_app1F eWr rfl _ _ rfl (w.heap.size + 1) _ N.length (flat encWr N) rfl w6 #[.string s, .int .i64 y, .string g] rfl HW6.out.own _ rfl rfl rfl rfl (by omega) (by omega) ?_; intro v7 w7 o7 g7 hl7 _; have HW7 := Lib.hid (HW6.out.app (x := ⟨s, y, g⟩) (by decide) HSM.out o7 g7 hl7); clear o7 g7 hl7)
        go_wp2_with (fail)
        go_roundw
        case rel => exact ⟨j + 1, q + 1 + 1 + 1, _, N ++ [(⟨s, y, g⟩ : Wr)], by omega, by go_num, rfl, by rw [List.length_append]; simp; omega, by omega, HW7.out⟩
        case measure => simp [intOf]; omega
    · have HW := Lib.hid hW
      clear hW
      have hjd : decide ((j : Int) < 5) = false := by simp; omega
      go_wp2_with (fail)
      refine (flip_any l q 20 p wo HW.out.str (by omega) (by omega)).mono ?_
      rintro e w3 ⟨rfl, hs3, hg3⟩
      have HW3 := Lib.hid (HW.out.draw hg3 hs3)
      obtain ⟨b, hb⟩ : ∃ b, b = flipM l q 20 := ⟨_, rfl⟩
      rw [← hb]
      clear hb hs3 hg3 HW
      cases b with
      | false =>
        obtain ⟨va, vc, rfl, -, -, -, -⟩ := own_shape HW3.out.own
        go_wp2_with (fail)
        go_ret
        exact ⟨_, N, rfl, own_base HW3.out.own (by omega), by omega, HW3.out.all, ⟨_, by omega, HW3.out.str⟩, HW3.out.gr⟩
      | true =>
        go_wp2_with (fail)
        refine (one_any l (q + 1) [⟨#[]⟩, ⟨#[98, 97, 114]⟩, ⟨#[122, 122]⟩] p w3 HW3.out.str (by omega) (by decide) (by decide)).mono ?_
        rintro e w4 ⟨rfl, hs4, hg4⟩
        have h1 := oneS_mem l (q + 1) [⟨#[]⟩, ⟨#[98, 97, 114]⟩, ⟨#[122, 122]⟩] (by decide)
        have HW4 := Lib.hid (HW3.out.draw hg4 hs4)
        obtain ⟨s, hs⟩ : ∃ y, y = oneS l (q + 1) [⟨#[]⟩, ⟨#[98, 97, 114]⟩, ⟨#[122, 122]⟩] := ⟨_, rfl⟩
        rw [← hs] at h1
        rw [← hs]
        have hs1 : s.size ≤ 5 := by
          simp only [List.mem_cons, List.not_mem_nil, or_false] at h1
          rcases h1 with rfl | rfl | rfl <;> decide
        clear hs hs4 hg4 h1 HW3
        go_wp2_with (fail)
        refine (pick_any l (q + 1 + 1) [-1, 5, 100001] p w4 HW4.out.str (by omega) (by decide) (by decide)).mono ?_
        rintro e w5 ⟨rfl, hs5, hg5⟩
        have hpk := pickM_mem l (q + 1 + 1) [-1, 5, 100001] (by decide)
        simp only [List.mem_cons, List.not_mem_nil, or_false] at hpk
        obtain ⟨y, hy⟩ : ∃ y, y = pickM l (q + 1 + 1) [-1, 5, 100001] := ⟨_, rfl⟩
        rw [← hy] at hpk
        rw [← hy]
        have HW5 := Lib.hid (HW4.out.draw hg5 hs5)
        clear hy hs5 hg5 HW4
        go_wp2_with (fail)
        refine (one_any l (q + 1 + 1 + 1) [⟨#[]⟩, ⟨#[115, 97, 108, 116]⟩] p w5 HW5.out.str (by omega) (by decide) (by decide)).mono ?_
        rintro e w6 ⟨rfl, hs6, hg6⟩
        have h1 := oneS_mem l (q + 1 + 1 + 1) [⟨#[]⟩, ⟨#[115, 97, 108, 116]⟩] (by decide)
        obtain ⟨g, hg⟩ : ∃ y, y = oneS l (q + 1 + 1 + 1) [⟨#[]⟩, ⟨#[115, 97, 108, 116]⟩] := ⟨_, rfl⟩
        rw [← hg] at h1
        rw [← hg]
        have hgs : g.size ≤ 5 := by
          simp only [List.mem_cons, List.not_mem_nil, or_false] at h1
          rcases h1 with rfl | rfl <;> decide
        have HW6 := Lib.hid (HW5.out.draw hg6 hs6)
        have HSM : Hid (WrSm ⟨s, y, g⟩) := ⟨hs1, ⟨by simp only; omega, by simp only; omega⟩, hgs⟩
        have hz6 : w.heap.size < w6.heap.size := lt_of_block HW6.out.blk
        clear hg hs6 hg6 HW5 hpk h1
        go_wp2_with (at_builtin; refine wpList_app1F eWr rfl _ _ rfl (w.heap.size + 1) _ N.length (flat encWr N) rfl w6 #[.string s, .int .i64 y, .string g] rfl HW6.out.own _ rfl rfl rfl rfl (by omega) (by omega) ?_; intro v7 w7 o7 g7 hl7 _; have HW7 := Lib.hid (HW6.out.app (x := ⟨s, y, g⟩) (by decide) HSM.out o7 g7 hl7); clear o7 g7 hl7)
        go_wp2_with (fail)
        go_ret
        exact ⟨_, N ++ [(⟨s, y, g⟩ : Wr)], rfl, own_base HW7.out.own (by omega), by rw [List.length_append]; simp; omega, HW7.out.all, ⟨_, by omega, HW7.out.str⟩, HW7.out.gr⟩
end Go.Proofs.YtjhfglhoiplfmaaDoor

/-! A basket, as the stream makes it. -/
namespace Go.Proofs.YtjhfglhoiplfmaaDoor
open Go.RowKit
variable {lw : Nat}

def BasketPost (l : List Int) (lw k p : Nat) (w : World) (e : Ending) (w' : World) : Prop :=
  ∃ v N, e = .returned v ∧ w'.ownsRow w.heap.size 42 2 v N.length (flat encNm N) ∧ N.length ≤ 6 ∧ (∀ x ∈ N, BkSm x) ∧ (∃ q, q ≤ k + 100 ∧ StreamAt w' p lw l q) ∧ w.grownBy w' (some p)
set_option maxRecDepth 100000 in
set_option maxHeartbeats 1000000 in
theorem basket_any (l : List Int) (k : Nat) (p : Nat) (w : World) (hs : StreamAt w p lw l k) (hk : k < 800000000) :
    Calls Tryd.prog 8 #[.pointer (some ⟨p, 0, none⟩)] w (BasketPost l lw k p w) := by
  have hlt := hs.lt
  have hB := heap_alloc_new w (.cells wkeys 9)
  have ga := gr_alloc (gr_refl w none) (.cells wkeys 9)
  have K0 : Hid (MkW encNm 42 2 BkSm wkeys (w.alloc (.cells wkeys 9)) w p lw l k (.slice none 0 0) []) :=
    ⟨World.ownsRow_nil _ _ _ _, hB, hs.keep0 ga, (fun x hx => by cases hx), gr_weak ga _, hlt⟩
  clear hB ga hs
  go_enter Tryd.func8, Tryd.ntmps8
  go_wp2_with (fail)
  go_loopw [3, 8] (fun o i wr => ∃ (j q : Nat) (v : Value) (N : List Nm), j ≤ 5 ∧ i = .int .i64 j ∧ v = o ∧ N.length ≤ j ∧ q ≤ k + 4 * j ∧ MkW encNm 42 2 BkSm wkeys wr w p lw l q v N) (fun _ i _ => 5 - (intOf i).toNat)
  case atStart => exact ⟨0, k, _, [], by omega, rfl, rfl, Nat.le_refl _, Nat.le_refl _, K0.out⟩
  case round =>
    clear K0
    obtain ⟨j, q, v, N, hj, rfl, rfl, hN, hq, hW⟩ := hrel
    obtain ⟨wo, rfl⟩ : ∃ wo : World, wo = wr := ⟨_, rfl⟩
    by_cases hjl : j < 5
    · obtain ⟨s, hks, hss⟩ := wkeys_get j hjl
      have d0 : wo.cell? ⟨w.heap.size, j, none⟩ = some (.string s) := blkC hW.blk j hks
      have hjd : decide ((j : Int) < 5) = true := by simp; omega
      have HW := Lib.hid hW
      clear hW hks
      go_wp2_with (fail)
      refine (flip_any l q 2 p wo HW.out.str (by omega) (by omega)).mono ?_
      rintro e w3 ⟨rfl, hs3, hg3⟩
      have HW3 := Lib.hid (HW.out.draw hg3 hs3)
      obtain ⟨b, hb⟩ : ∃ b, b = flipM l q 2 := ⟨_, rfl⟩
      rw [← hb]
      clear hb hs3 hg3 HW d0
      cases b with
      | false =>
        go_wp2_with (fail)
        go_roundw
        case rel => exact ⟨j + 1, q + 1, _, N, by omega, by go_num, rfl, by omega, by omega, HW3.out⟩
        case measure => simp [intOf]; omega
      | true =>
        go_wp2_with (fail)
        refine (pick_any l (q + 1) [1, 1, 2, 3, 7] p w3 HW3.out.str (by omega) (by decide) (by decide)).mono ?_
        rintro e w6 ⟨rfl, hs6, hg6⟩
        have hpk := pickM_mem l (q + 1) [1, 1, 2, 3, 7] (by decide)
        simp only [List.mem_cons, List.not_mem_nil, or_false] at hpk
        obtain ⟨y, hy⟩ : ∃ y, y = pickM l (q + 1) [1, 1, 2, 3, 7] := ⟨_, rfl⟩
        rw [← hy] at hpk
        rw [← hy]
        have HW6 := Lib.hid (HW3.out.draw hg6 hs6)
        have HSM : Hid (BkSm ⟨s, y⟩) := ⟨hss, by simp only; omega, by simp only; omega⟩
        have hz6 : w.heap.size < w6.heap.size := lt_of_block HW6.out.blk
        clear hy hs6 hg6 HW3 hpk
        go_wp2_with (at_builtin; refine wpList_app1F eNm rfl _ _ rfl (w.heap.size + 1) _ N.length (flat encNm N) rfl w6 #[.string s, .int .i64 y] rfl HW6.out.own _ rfl rfl rfl rfl (by omega) (by omega) ?_; intro v7 w7 o7 g7 hl7 _; have HW7 := Lib.hid (HW6.out.app (x := ⟨s, y⟩) (by decide) HSM.out o7 g7 hl7); clear o7 g7 hl7)
        go_wp2_with (fail)
        go_roundw
        case rel => exact ⟨j + 1, q + 1 + 1, _, N ++ [(⟨s, y⟩ : Nm)], by omega, by go_num, rfl, by rw [List.length_append]; simp; omega, by omega, HW7.out⟩
        case measure => simp [intOf]; omega
    · have HW := Lib.hid hW
      clear hW
      have hjd : decide ((j : Int) < 5) = false := by simp; omega
      go_wp2_with (fail)
      refine (flip_any l q 20 p wo HW.out.str (by omega) (by omega)).mono ?_
      rintro e w3 ⟨rfl, hs3, hg3⟩
      have HW3 := Lib.hid (HW.out.draw hg3 hs3)
      obtain ⟨b, hb⟩ : ∃ b, b = flipM l q 20 := ⟨_, rfl⟩
      rw [← hb]
      clear hb hs3 hg3 HW
      cases b with
      | false =>
        obtain ⟨va, vc, rfl, -, -, -, -⟩ := own_shape HW3.out.own
        go_wp2_with (fail)
        go_ret
        exact ⟨_, N, rfl, own_base HW3.out.own (by omega), by omega, HW3.out.all, ⟨_, by omega, HW3.out.str⟩, HW3.out.gr⟩
      | true =>
        go_wp2_with (fail)
        refine (one_any l (q + 1) [⟨#[]⟩, ⟨#[98, 97, 114]⟩, ⟨#[122, 122]⟩] p w3 HW3.out.str (by omega) (by decide) (by decide)).mono ?_
        rintro e w4 ⟨rfl, hs4, hg4⟩
        have h1 := oneS_mem l (q + 1) [⟨#[]⟩, ⟨#[98, 97, 114]⟩, ⟨#[122, 122]⟩] (by decide)
        have HW4 := Lib.hid (HW3.out.draw hg4 hs4)
        obtain ⟨s, hs⟩ : ∃ y, y = oneS l (q + 1) [⟨#[]⟩, ⟨#[98, 97, 114]⟩, ⟨#[122, 122]⟩] := ⟨_, rfl⟩
        rw [← hs] at h1
        rw [← hs]
        have hs1 : s.size ≤ 5 := by
          simp only [List.mem_cons, List.not_mem_nil, or_false] at h1
          rcases h1 with rfl | rfl | rfl <;> decide
        clear hs hs4 hg4 h1 HW3
        go_wp2_with (fail)
        refine (pick_any l (q + 1 + 1) [0, 1, 101] p w4 HW4.out.str (by omega) (by decide) (by decide)).mono ?_
        rintro e w6 ⟨rfl, hs6, hg6⟩
        have hpk := pickM_mem l (q + 1 + 1) [0, 1, 101] (by decide)
        simp only [List.mem_cons, List.not_mem_nil, or_false] at hpk
        obtain ⟨y, hy⟩ : ∃ y, y = pickM l (q + 1 + 1) [0, 1, 101] := ⟨_, rfl⟩
        rw [← hy] at hpk
        rw [← hy]
        have HW6 := Lib.hid (HW4.out.draw hg6 hs6)
        have HSM : Hid (BkSm ⟨s, y⟩) := ⟨hs1, by simp only; omega, by simp only; omega⟩
        have hz6 : w.heap.size < w6.heap.size := lt_of_block HW6.out.blk
        clear hy hs6 hg6 HW4 hpk
        go_wp2_with (at_builtin; refine wpList_app1F eNm rfl _ _ rfl (w.heap.size + 1) _ N.length (flat encNm N) rfl w6 #[.string s, .int .i64 y] rfl HW6.out.own _ rfl rfl rfl rfl (by omega) (by omega) ?_; intro v7 w7 o7 g7 hl7 _; have HW7 := Lib.hid (HW6.out.app (x := ⟨s, y⟩) (by decide) HSM.out o7 g7 hl7); clear o7 g7 hl7)
        go_wp2_with (fail)
        go_ret
        exact ⟨_, N ++ [(⟨s, y⟩ : Nm)], rfl, own_base HW7.out.own (by omega), by rw [List.length_append]; simp; omega, HW7.out.all, ⟨_, by omega, HW7.out.str⟩, HW7.out.gr⟩
end Go.Proofs.YtjhfglhoiplfmaaDoor

/-! Deals, as the stream makes them. -/
namespace Go.Proofs.YtjhfglhoiplfmaaDoor
open Go.RowKit
variable {lw : Nat}

theorem enc_size_le (c : Int) : (Utf8.encode c).size ≤ 4 := by
  unfold Utf8.encode
  simp only
  (repeat' split) <;> simp [ByteArray.size]
abbrev gkeys : Array Value := #[.string ⟨#[115, 119, 101, 101, 116]⟩, .string ⟨#[115, 97, 108, 116]⟩, .string ⟨#[100, 114, 105, 110, 107]⟩]
theorem gkeys_get (i : Nat) (h : i < 3) : ∃ s : ByteArray, gkeys[i]? = some (.string s) ∧ s.size ≤ 5 := by
  have : i = 0 ∨ i = 1 ∨ i = 2 := by omega
  rcases this with rfl | rfl | rfl <;> exact ⟨_, rfl, by decide⟩
def DealsPost (l : List Int) (lw k p : Nat) (w : World) (e : Ending) (w' : World) : Prop :=
  ∃ v N, e = .returned v ∧ w'.ownsRow w.heap.size 40 4 v N.length (flat encDe N) ∧ N.length ≤ 4 ∧ (∀ x ∈ N, DeSm x) ∧ (∃ q, q ≤ k + 100 ∧ StreamAt w' p lw l q) ∧ w.grownBy w' (some p)
set_option maxRecDepth 100000 in
set_option maxHeartbeats 1000000 in
theorem deals_any (l : List Int) (k : Nat) (p : Nat) (w : World) (hs : StreamAt w p lw l k) (hk : k < 800000000) :
    Calls Tryd.prog 9 #[.pointer (some ⟨p, 0, none⟩)] w (DealsPost l lw k p w) := by
  have hlt := hs.lt
  have hB := heap_alloc_new w (.cells gkeys 9)
  have ga := gr_alloc (gr_refl w none) (.cells gkeys 9)
  have K0 : Hid (MkW encDe 40 4 DeSm gkeys (w.alloc (.cells gkeys 9)) w p lw l k (.slice none 0 0) []) :=
    ⟨World.ownsRow_nil _ _ _ _, hB, hs.keep0 ga, (fun x hx => by cases hx), gr_weak ga _, hlt⟩
  clear hB ga hs
  go_enter Tryd.func9, Tryd.ntmps9
  go_wp2_with (fail)
  go_loopw [3, 9] (fun o i wr => ∃ (j q : Nat) (v : Value) (N : List De), j ≤ 3 ∧ i = .int .i64 j ∧ v = o ∧ N.length ≤ j ∧ q ≤ k + 3 * j ∧ MkW encDe 40 4 DeSm gkeys wr w p lw l q v N) (fun _ i _ => 3 - (intOf i).toNat)
  case atStart => exact ⟨0, k, _, [], by omega, rfl, rfl, Nat.le_refl _, Nat.le_refl _, K0.out⟩
  case round =>
    clear K0
    obtain ⟨j, q, v, N, hj, rfl, rfl, hN, hq, hW⟩ := hrel
    obtain ⟨wo, rfl⟩ : ∃ wo : World, wo = wr := ⟨_, rfl⟩
    by_cases hjl : j < 3
    · obtain ⟨s, hks, hss⟩ := gkeys_get j hjl
      have d0 : wo.cell? ⟨w.heap.size, j, none⟩ = some (.string s) := blkC hW.blk j hks
      have hjd : decide ((j : Int) < 3) = true := by simp; omega
      have HW := Lib.hid hW
      clear hW hks
      go_wp2_with (fail)
      refine (flip_any l q 2 p wo HW.out.str (by omega) (by omega)).mono ?_
      rintro e w3 ⟨rfl, hs3, hg3⟩
      have HW3 := Lib.hid (HW.out.draw hg3 hs3)
      obtain ⟨b, hb⟩ : ∃ b, b = flipM l q 2 := ⟨_, rfl⟩
      rw [← hb]
      clear hb hs3 hg3 HW d0
      cases b with
      | false =>
        go_wp2_with (fail)
        go_roundw
        case rel => exact ⟨j + 1, q + 1, _, N, by omega, by go_num, rfl, by omega, by omega, HW3.out⟩
        case measure => simp [intOf]; omega
      | true =>
        obtain ⟨K, hK⟩ : ∃ K, K = Utf8.encode (97 + (j : Int)) := ⟨_, rfl⟩
        obtain ⟨S, hS⟩ : ∃ S, S = (⟨#[100]⟩ : ByteArray) ++ K := ⟨_, rfl⟩
        have q1 : ∀ w : World, (convert 3 21 (.int .i64 (97 + (j : Int)))).run Tryd.prog w = .ok (.int .i32 (97 + (j : Int))) w := by
          intro w
          have e : Tryd.prog.intKind 21 = .i32 := by kernel_rfl
          have e2 : IntKind.i32.wrap (97 + (j : Int)) = 97 + (j : Int) := by
            unfold IntKind.wrap
            simp [IntKind.bits, IntKind.signed]
            omega
          have := run_convert_int (P := Tryd.prog) (w := w) 3 21 .i64 (97 + (j : Int)) (by kernel_rfl) (by kernel_rfl)
          rw [e, e2] at this
          exact this
        have q2 : ∀ w : World, (convert 21 9 (.int .i32 (97 + (j : Int)))).run Tryd.prog w = .ok (.string K) w := by
          intro w
          rw [hK]
          exact run_convert_int_string w 21 9 .i32 (97 + (j : Int)) (by kernel_rfl) (by kernel_rfl)
        have hKs : K.size ≤ 4 := by rw [hK]; exact enc_size_le _
        have q3 : ∀ w : World, (Op.stringOp .add (⟨#[100]⟩ : ByteArray) K).run Tryd.prog w = .ok (.string S) w := by
          intro w
          rw [hS]
          have h1 : (⟨#[100]⟩ : ByteArray).size = 1 := rfl
          exact run_string_add_sum w (⟨#[100]⟩ : ByteArray) K (by omega)
        have hSs : S.size ≤ 5 := by rw [hS, ByteArray.size_append]; have h1 : (⟨#[100]⟩ : ByteArray).size = 1 := rfl; omega
        clear hK hS
        go_wp2_with (fail)
        refine (range_any l (q + 1) 2 4 p w3 HW3.out.str (by omega) (by omega) (by omega) (by omega)).mono ?_
        rintro e w4 ⟨rfl, hs4, hg4⟩
        have hpk := nxt_range l (q + 1) (4 - 2 + 1) (by omega)
        obtain ⟨y, hy⟩ : ∃ y, y = 2 + nxt l (q + 1) (4 - 2 + 1) := ⟨_, rfl⟩
        rw [← hy]
        have hy2 : 2 ≤ y ∧ y ≤ 4 := by omega
        have HW4 := Lib.hid (HW3.out.draw hg4 hs4)
        clear hy hs4 hg4 HW3 hpk
        go_wp2_with (fail)
        refine (range_any l (q + 1 + 1) 1 (y - 1) p w4 HW4.out.str (by omega) (by omega) (by omega) (by omega)).mono ?_
        rintro e w6 ⟨rfl, hs6, hg6⟩
        have hpk := nxt_range l (q + 1 + 1) (y - 1 - 1 + 1) (by omega)
        obtain ⟨z, hz⟩ : ∃ z, z = 1 + nxt l (q + 1 + 1) (y - 1 - 1 + 1) := ⟨_, rfl⟩
        rw [← hz]
        have hz2 : 0 ≤ z ∧ z ≤ 21 := by omega
        have HW6 := Lib.hid (HW4.out.draw hg6 hs6)
        have HSM : Hid (DeSm ⟨S, s, y, z⟩) := ⟨hSs, hss, ⟨by simp only; omega, by simp only; omega⟩, hz2⟩
        have hz6 : w.heap.size < w6.heap.size := lt_of_block HW6.out.blk
        clear hz hs6 hg6 HW4 hpk
        go_wp2_with (at_builtin; refine wpList_app1F eDe rfl _ _ rfl (w.heap.size + 1) _ N.length (flat encDe N) rfl w6 #[.string S, .string s, .int .i64 y, .int .i64 z] rfl HW6.out.own _ rfl rfl rfl rfl (by omega) (by omega) ?_; intro v7 w7 o7 g7 hl7 _; have HW7 := Lib.hid (HW6.out.app (x := ⟨S, s, y, z⟩) (by decide) HSM.out o7 g7 hl7); clear o7 g7 hl7)
        go_wp2_with (fail)
        go_roundw
        case rel => exact ⟨j + 1, q + 1 + 1 + 1, _, N ++ [(⟨S, s, y, z⟩ : De)], by omega, by go_num, rfl, by rw [List.length_append]; simp; omega, by omega, HW7.out⟩
        case measure => simp [intOf]; omega
    · have HW := Lib.hid hW
      clear hW
      have hjd : decide ((j : Int) < 3) = false := by simp; omega
      go_wp2_with (fail)
      refine (flip_any l q 15 p wo HW.out.str (by omega) (by omega)).mono ?_
      rintro e w3 ⟨rfl, hs3, hg3⟩
      have HW3 := Lib.hid (HW.out.draw hg3 hs3)
      obtain ⟨b, hb⟩ : ∃ b, b = flipM l q 15 := ⟨_, rfl⟩
      rw [← hb]
      clear hb hs3 hg3 HW
      cases b with
      | false =>
        obtain ⟨va, vc, rfl, -, -, -, -⟩ := own_shape HW3.out.own
        go_wp2_with (fail)
        go_ret
        exact ⟨_, N, rfl, own_base HW3.out.own (by omega), by omega, HW3.out.all, ⟨_, by omega, HW3.out.str⟩, HW3.out.gr⟩
      | true =>
        go_wp2_with (fail)
        refine (one_any l (q + 1) [⟨#[]⟩, ⟨#[100, 97]⟩, ⟨#[122, 122]⟩] p w3 HW3.out.str (by omega) (by decide) (by decide)).mono ?_
        rintro e w4 ⟨rfl, hs, hg⟩
        have h1 := oneS_mem l (q + 1) [⟨#[]⟩, ⟨#[100, 97]⟩, ⟨#[122, 122]⟩] (by decide)
        have HW4 := Lib.hid (HW3.out.draw hg hs)
        obtain ⟨s, hv⟩ : ∃ y, y = oneS l (q + 1) [⟨#[]⟩, ⟨#[100, 97]⟩, ⟨#[122, 122]⟩] := ⟨_, rfl⟩
        rw [← hv] at h1
        rw [← hv]
        have hs5 : s.size ≤ 5 := by
          simp only [List.mem_cons, List.not_mem_nil, or_false] at h1
          rcases h1 with rfl | rfl | rfl <;> decide
        clear hv hs hg h1 HW3
        go_wp2_with (fail)
        refine (one_any l (q + 1 + 1) [⟨#[]⟩, ⟨#[115, 97, 108, 116]⟩, ⟨#[111, 116, 104, 101, 114]⟩] p w4 HW4.out.str (by omega) (by decide) (by decide)).mono ?_
        rintro e w5 ⟨rfl, hs, hg⟩
        have h1 := oneS_mem l (q + 1 + 1) [⟨#[]⟩, ⟨#[115, 97, 108, 116]⟩, ⟨#[111, 116, 104, 101, 114]⟩] (by decide)
        have HW5 := Lib.hid (HW4.out.draw hg hs)
        obtain ⟨g, hv⟩ : ∃ y, y = oneS l (q + 1 + 1) [⟨#[]⟩, ⟨#[115, 97, 108, 116]⟩, ⟨#[111, 116, 104, 101, 114]⟩] := ⟨_, rfl⟩
        rw [← hv] at h1
        rw [← hv]
        have hg5 : g.size ≤ 5 := by
          simp only [List.mem_cons, List.not_mem_nil, or_false] at h1
          rcases h1 with rfl | rfl | rfl <;> decide
        clear hv hs hg h1 HW4
        go_wp2_with (fail)
        refine (pick_any l (q + 1 + 1 + 1) [1, 2, 21] p w5 HW5.out.str (by omega) (by decide) (by decide)).mono ?_
        rintro e w8 ⟨rfl, hs, hg⟩
        have h1 := pickM_mem l (q + 1 + 1 + 1) [1, 2, 21] (by decide)
        simp only [List.mem_cons, List.not_mem_nil, or_false] at h1
        have HW8 := Lib.hid (HW5.out.draw hg hs)
        obtain ⟨y, hv⟩ : ∃ y, y = pickM l (q + 1 + 1 + 1) [1, 2, 21] := ⟨_, rfl⟩
        rw [← hv] at h1
        rw [← hv]
        have hy5 : 0 ≤ y ∧ y ≤ 21 := by omega
        clear hv hs hg h1 HW5
        go_wp2_with (fail)
        refine (pick_any l (q + 1 + 1 + 1 + 1) [0, 1, 2] p w8 HW8.out.str (by omega) (by decide) (by decide)).mono ?_
        rintro e w6 ⟨rfl, hs, hg⟩
        have h1 := pickM_mem l (q + 1 + 1 + 1 + 1) [0, 1, 2] (by decide)
        simp only [List.mem_cons, List.not_mem_nil, or_false] at h1
        have HW6 := Lib.hid (HW8.out.draw hg hs)
        obtain ⟨z, hv⟩ : ∃ y, y = pickM l (q + 1 + 1 + 1 + 1) [0, 1, 2] := ⟨_, rfl⟩
        rw [← hv] at h1
        rw [← hv]
        have hz5 : 0 ≤ z ∧ z ≤ 21 := by omega
        clear hv hs hg h1 HW8
        have HSM : Hid (DeSm ⟨s, g, y, z⟩) := ⟨hs5, hg5, hy5, hz5⟩
        have hz6 : w.heap.size < w6.heap.size := lt_of_block HW6.out.blk
        go_wp2_with (at_builtin; refine wpList_app1F eDe rfl _ _ rfl (w.heap.size + 1) _ N.length (flat encDe N) rfl w6 #[.string s, .string g, .int .i64 y, .int .i64 z] rfl HW6.out.own _ rfl rfl rfl rfl (by omega) (by omega) ?_; intro v7 w7 o7 g7 hl7 _; have HW7 := Lib.hid (HW6.out.app (x := ⟨s, g, y, z⟩) (by decide) HSM.out o7 g7 hl7); clear o7 g7 hl7)
        go_wp2_with (fail)
        go_ret
        exact ⟨_, N ++ [(⟨s, g, y, z⟩ : De)], rfl, own_base HW7.out.own (by omega), by rw [List.length_append]; simp; omega, HW7.out.all, ⟨_, by omega, HW7.out.str⟩, HW7.out.gr⟩
end Go.Proofs.YtjhfglhoiplfmaaDoor
