/- Quotas, as the stream makes them. -/
import Derived.Test.YtjhdngfliakidaaDoorPkCAq
import Derived.Test.YtjhdngfliakidaaDoorPkCAx
import Derived.Test.YtjhdngfliakidaaDoorPkCAv
import Derived.WalkLawsBesides
import Derived.Deep.DeepCutAuto
namespace Go.Proofs.YtjhdngfliakidaaDoor
open Go.RowKit
variable {lw : Nat}

abbrev qkeys : Array Value := #[.string ⟨#[99, 111, 108, 100]⟩, .string ⟨#[115, 97, 108, 116]⟩, .string ⟨#[115, 119, 101, 101, 116]⟩]
theorem qkeys_get (i : Nat) (h : i < 3) : ∃ s : ByteArray, qkeys[i]? = some (.string s) ∧ s.size ≤ 5 := by
  have : i = 0 ∨ i = 1 ∨ i = 2 := by omega
  rcases this with rfl | rfl | rfl <;> exact ⟨_, rfl, by decide⟩
theorem encQuo_len (x : Quo) : (encQuo x).length = 3 := rfl
theorem eQuo : ElemT Tryd.prog 56 109 (.agg #[.string ⟨#[]⟩, .int .i64 0, .int .i64 0]) 3 32 := ⟨by kernel_rfl, by kernel_rfl, by decide, by decide, by decide⟩
def QuoSm (x : Quo) : Prop := x.group.size ≤ 5 ∧ (-1 ≤ x.least ∧ x.least ≤ 3) ∧ (0 ≤ x.most ∧ x.most ≤ 61)
def QuosPost (l : List Int) (lw k p : Nat) (w : World) (e : Ending) (w' : World) : Prop :=
  ∃ v N, e = .returned v ∧ w'.ownsRow w.heap.size 109 3 v N.length (flat encQuo N) ∧ N.length ≤ 4 ∧ (∀ x ∈ N, QuoSm x) ∧ (∃ q, q ≤ k + 100 ∧ StreamAt w' p lw l q) ∧ w.grownBy w' (some p)
set_option maxRecDepth 100000 in
set_option maxHeartbeats 1000000 in
theorem quotas_any (l : List Int) (k : Nat) (p : Nat) (w : World) (hs : StreamAt w p lw l k) (hk : k < 800000000) :
    Calls Tryd.prog 19 #[.pointer (some ⟨p, 0, none⟩)] w (QuosPost l lw k p w) := by
  have hlt := hs.lt
  have hB := heap_alloc_new w (.cells qkeys 9)
  have ga := gr_alloc (gr_refl w none) (.cells qkeys 9)
  have K0 : Hid (MkW encQuo 109 3 QuoSm qkeys (w.alloc (.cells qkeys 9)) w p lw l k (.slice none 0 0) []) :=
    ⟨World.ownsRow_nil _ _ _ _, hB, hs.keep0 ga, (fun x hx => by cases hx), gr_weak ga _, hlt⟩
  clear hB ga hs
  go_enter Tryd.func19, Tryd.ntmps19
  go_wp2_with (fail)
  go_loopw [3, 9] (fun o i wr => ∃ (j q : Nat) (v : Value) (N : List Quo), j ≤ 3 ∧ i = .int .i64 j ∧ v = o ∧ N.length ≤ j ∧ q ≤ k + 3 * j ∧ MkW encQuo 109 3 QuoSm qkeys wr w p lw l q v N) (fun _ i _ => 3 - (intOf i).toNat)
  case atStart => exact ⟨0, k, _, [], by omega, rfl, rfl, Nat.le_refl _, Nat.le_refl _, K0.out⟩
  case round =>
    clear K0
    obtain ⟨j, q, v, N, hj, rfl, rfl, hN, hq, hW⟩ := hrel
    obtain ⟨wo, rfl⟩ : ∃ wo : World, wo = wr := ⟨_, rfl⟩
    by_cases hjl : j < 3
    · obtain ⟨s, hks, hss⟩ := qkeys_get j hjl
      have d0 : wo.cell? ⟨w.heap.size, j, none⟩ = some (.string s) := blkC hW.blk j hks
      have hjd : decide ((j : Int) < 3) = true := by simp; omega
      have HW := Lib.hid hW
      clear hW hks
      go_wp2_with (fail)
      refine (flip_any l q 3 p wo HW.out.str (by omega) (by omega)).mono ?_
      rintro e w3 ⟨rfl, hs3, hg3⟩
      have HW3 := Lib.hid (HW.out.draw hg3 hs3)
      obtain ⟨b, hb⟩ : ∃ b, b = flipM l q 3 := ⟨_, rfl⟩
      rw [← hb]
      clear hb hs3 hg3 HW d0
      cases b with
      | false =>
        go_wp2_with (fail)
        go_roundw
        case rel => exact ⟨j + 1, q + 1, _, N, by omega, by go_num, rfl, by omega, by omega, HW3.out⟩
        case measure => simp [intOf]; omega
      | true =>
        go_wp2_with (fail)
        refine (next_any l (q + 1) 3 p w3 HW3.out.str (by omega) (by omega)).mono ?_
        rintro e w4 ⟨rfl, hs4, hg4⟩
        have hpk := nxt_range l (q + 1) 3 (by omega)
        obtain ⟨y, hy⟩ : ∃ y, y = nxt l (q + 1) 3 := ⟨_, rfl⟩
        rw [← hy] at hpk
        rw [← hy]
        have HW4 := Lib.hid (HW3.out.draw hg4 hs4)
        clear hy hs4 hg4 HW3
        go_wp2_with (fail)
        refine (next_any l (q + 1 + 1) 4 p w4 HW4.out.str (by omega) (by omega)).mono ?_
        rintro e w6 ⟨rfl, hs6, hg6⟩
        have hpk2 := nxt_range l (q + 1 + 1) 4 (by omega)
        obtain ⟨z, hz⟩ : ∃ z, z = nxt l (q + 1 + 1) 4 := ⟨_, rfl⟩
        rw [← hz] at hpk2
        rw [← hz]
        have HW6 := Lib.hid (HW4.out.draw hg6 hs6)
        have HSM : Hid (QuoSm ⟨s, y, y + z⟩) := ⟨hss, ⟨by simp only; omega, by simp only; omega⟩, ⟨by simp only; omega, by simp only; omega⟩⟩
        have hz6 : w.heap.size < w6.heap.size := lt_of_block HW6.out.blk
        clear hz hs6 hg6 HW4
        go_wp2_with (at_builtin; refine wpList_app1F eQuo rfl _ _ rfl (w.heap.size + 1) _ N.length (flat encQuo N) rfl w6 #[.string s, .int .i64 y, .int .i64 (y + z)] rfl HW6.out.own _ rfl rfl rfl rfl (by omega) (by omega) ?_; intro v7 w7 o7 g7 hl7 _; have HW7 := Lib.hid (HW6.out.app (x := ⟨s, y, y + z⟩) (by decide) HSM.out o7 g7 hl7); clear o7 g7 hl7)
        go_wp2_with (fail)
        go_roundw
        case rel => exact ⟨j + 1, q + 1 + 1 + 1, _, N ++ [(⟨s, y, y + z⟩ : Quo)], by omega, by go_num, rfl, by rw [List.length_append]; simp; omega, by omega, HW7.out⟩
        case measure => simp [intOf]; omega
    · have HW := Lib.hid hW
      clear hW
      have hjd : decide ((j : Int) < 3) = false := by simp; omega
      go_wp2_with (fail)
      refine (flip_any l q 15 p wo HW.out.str (by omega) (by omega)).mono ?_
      rintro e w3 ⟨rfl, hs3, hg3⟩
      have HW3 := Lib.hid (HW.out.draw hg3 hs3)
      obtain ⟨b, hb⟩ : ∃ b, b = flipM l q 15 := ⟨_, rfl⟩
      rw [← hb]
      clear hb hs3 hg3 HW
      cases b with
      | false =>
        obtain ⟨va, vc, rfl, -, -, -, -⟩ := own_shape HW3.out.own
        go_wp2_with (fail)
        go_ret
        exact ⟨_, N, rfl, own_base HW3.out.own (by omega), by omega, HW3.out.all, ⟨_, by omega, HW3.out.str⟩, HW3.out.gr⟩
      | true =>
        go_wp2_with (fail)
        refine (one_any l (q + 1) [⟨#[]⟩, ⟨#[99, 111, 108, 100]⟩, ⟨#[122, 122]⟩] p w3 HW3.out.str (by omega) (by decide) (by decide)).mono ?_
        rintro e w4 ⟨rfl, hs, hg⟩
        have h1 := oneS_mem l (q + 1) [⟨#[]⟩, ⟨#[99, 111, 108, 100]⟩, ⟨#[122, 122]⟩] (by decide)
        have HW4 := Lib.hid (HW3.out.draw hg hs)
        obtain ⟨s, hv⟩ : ∃ y, y = oneS l (q + 1) [⟨#[]⟩, ⟨#[99, 111, 108, 100]⟩, ⟨#[122, 122]⟩] := ⟨_, rfl⟩
        rw [← hv] at h1
        rw [← hv]
        have hs5 : s.size ≤ 5 := by
          simp only [List.mem_cons, List.not_mem_nil, or_false] at h1
          rcases h1 with rfl | rfl | rfl <;> decide
        clear hv hs hg h1 HW3
        go_wp2_with (fail)
        refine (pick_any l (q + 1 + 1) [-1, 2, 3] p w4 HW4.out.str (by omega) (by decide) (by decide)).mono ?_
        rintro e w8 ⟨rfl, hs, hg⟩
        have h1 := pickM_mem l (q + 1 + 1) [-1, 2, 3] (by decide)
        simp only [List.mem_cons, List.not_mem_nil, or_false] at h1
        have HW8 := Lib.hid (HW4.out.draw hg hs)
        obtain ⟨y, hv⟩ : ∃ y, y = pickM l (q + 1 + 1) [-1, 2, 3] := ⟨_, rfl⟩
        rw [← hv] at h1
        rw [← hv]
        have hy5 : -1 ≤ y ∧ y ≤ 3 := by omega
        clear hv hs hg h1 HW4
        go_wp2_with (fail)
        refine (pick_any l (q + 1 + 1 + 1) [2, 60, 61] p w8 HW8.out.str (by omega) (by decide) (by decide)).mono ?_
        rintro e w6 ⟨rfl, hs, hg⟩
        have h1 := pickM_mem l (q + 1 + 1 + 1) [2, 60, 61] (by decide)
        simp only [List.mem_cons, List.not_mem_nil, or_false] at h1
        have HW6 := Lib.hid (HW8.out.draw hg hs)
        obtain ⟨z, hv⟩ : ∃ y, y = pickM l (q + 1 + 1 + 1) [2, 60, 61] := ⟨_, rfl⟩
        rw [← hv] at h1
        rw [← hv]
        have hz5 : 0 ≤ z ∧ z ≤ 61 := by omega
        clear hv hs hg h1 HW8
        have HSM : Hid (QuoSm ⟨s, y, z⟩) := ⟨hs5, hy5, hz5⟩
        have hz6 : w.heap.size < w6.heap.size := lt_of_block HW6.out.blk
        go_wp2_with (at_builtin; refine wpList_app1F eQuo rfl _ _ rfl (w.heap.size + 1) _ N.length (flat encQuo N) rfl w6 #[.string s, .int .i64 y, .int .i64 z] rfl HW6.out.own _ rfl rfl rfl rfl (by omega) (by omega) ?_; intro v7 w7 o7 g7 hl7 _; have HW7 := Lib.hid (HW6.out.app (x := ⟨s, y, z⟩) (by decide) HSM.out o7 g7 hl7); clear o7 g7 hl7)
        go_wp2_with (fail)
        go_ret
        exact ⟨_, N ++ [(⟨s, y, z⟩ : Quo)], rfl, own_base HW7.out.own (by omega), by rw [List.length_append]; simp; omega, HW7.out.all, ⟨_, by omega, HW7.out.str⟩, HW7.out.gr⟩
end Go.Proofs.YtjhdngfliakidaaDoor

/-! What is wrong with quotas: the document's answer, and the program's. -/
namespace Go.Proofs.YtjhdngfliakidaaDoor
open Go.RowKit
attribute [local go_sem ↓] Go.wp_at_zero Go.wp_at_succ

structure QuOk (x : Quo) : Prop where
  key : keyB x.group = true
  p0 : 0 ≤ x.least
  p1 : x.least ≤ x.most
  p2 : x.most ≤ 60
def QuAt (N : List Quo) (j : Nat) (hj : j < N.length) : Prop := QuOk N[j] ∧ ∀ (_ : 0 < j), leB N[j].group (N[j - 1]'(by omega)).group = false
def QusOk (N : List Quo) : Prop := ∀ j (hj : j < N.length), QuAt N j hj
def QuPost (ok : Prop) (w : World) (e : Ending) (w' : World) : Prop := ∃ r : Int, e = .returned (.int .i64 r) ∧ (r = 0 → ok) ∧ w.grownBy w' none
theorem quo_cells {w : World} {a : Option Addr} {L : List Quo} (h : CellsAt w a (flat encQuo L)) (k : Nat) (hk : k < L.length) : ∃ b off, a = some ⟨b, off, none⟩ ∧ w.cell? ⟨b, off + k * 3, none⟩ = some (.string L[k].group) ∧ w.cell? ⟨b, off + k * 3 + 1, none⟩ = some (.int .i64 L[k].least) ∧ w.cell? ⟨b, off + k * 3 + 2, none⟩ = some (.int .i64 L[k].most) := by
  obtain ⟨b, off, e, hcs⟩ := flat_cells (enc := encQuo) (m := 3) (fun _ => rfl) (by decide) h (by omega)
  exact ⟨b, off, e, hcs k hk 0 _ rfl, hcs k hk 1 _ rfl, hcs k hk 2 _ rfl⟩
set_option maxRecDepth 100000 in
set_option maxHeartbeats 1000000 in
theorem quotasFault_any (N : List Quo) (a : Option Addr) (c : Nat) (w : World) (h : CellsAt w a (flat encQuo N)) (hsm : ∀ x ∈ N, QuoSm x) (hl : N.length ≤ 6) :
    Calls Tryd.prog 21 #[.slice a N.length c] w (QuPost (QusOk N) w) := by
  have H := Lib.hid h
  have HSM := Lib.hid hsm
  clear h hsm
  go_enter Tryd.func21, Tryd.ntmps21
  go_wp2_with (fail)
  go_loopw [10] (fun i wr => ∃ k : Nat, k ≤ N.length ∧ i = .int .i64 k ∧ (∀ j (hj : j < N.length), j < k → QuAt N j hj) ∧ w.grownBy wr none) (fun i _ => N.length - (intOf i).toNat)
  case atStart => exact ⟨0, Nat.zero_le _, rfl, fun j _ h => absurd h (Nat.not_lt_zero _), gr_refl _ _⟩
  case round =>
    obtain ⟨k, hk, rfl, hok, hgr⟩ := hrel
    obtain ⟨wo, rfl⟩ : ∃ wo : World, wo = wr := ⟨_, rfl⟩
    by_cases hlt : k < N.length
    · obtain ⟨b, off, rfl, d0, d1, d2⟩ := quo_cells (H.out.keep0 hgr) k hlt
      obtain ⟨hs1, ⟨hs2, hs3⟩, ⟨hs4, hs5⟩⟩ := HSM.out _ (List.getElem_mem hlt)
      have MK : Hid (keyB N[k].group = true → (∀ (h : 0 < k), leB N[k].group (N[k - 1]'(by omega)).group = false) → 0 ≤ N[k].least → N[k].least ≤ N[k].most → N[k].most ≤ 60 → ∀ j (hj : j < N.length), j < k + 1 → QuAt N j hj) := fun h1 h3 h4 h5 h6 j hj hjk => by
        by_cases e : j = k
        · subst e; exact ⟨⟨h1, h4, h5, h6⟩, h3⟩
        · exact hok j hj (by omega)
      have PV : Hid (∀ (h : 0 < k), ∃ y, wo.cell? ⟨b, off + (k - 1) * 3, none⟩ = some (.string y) ∧ (N[k - 1]'(by omega)).group = y) := fun h => by
        obtain ⟨b', off', e', y0, -⟩ := quo_cells (H.out.keep0 hgr) (k - 1) (by omega)
        cases e'
        exact ⟨_, y0, rfl⟩
      obtain ⟨x, hx⟩ : ∃ x, x = N[k] := ⟨_, rfl⟩
      rw [← hx] at d0 d1 d2 hs1 hs2 hs3 hs4 hs5 MK
      obtain ⟨K, P, G⟩ := x
      simp only at d0 d1 d2 hs1 hs2 hs3 hs4 hs5 MK
      have HGR := Lib.hid hgr
      have hV := heap_alloc_new wo (.cells #[.string K, .int .i64 P, .int .i64 G] 109)
      have hg2 := gr_alloc (gr_refl wo none) (.cells #[.string K, .int .i64 P, .int .i64 G] 109)
      obtain ⟨w2, hw2⟩ : ∃ w2, w2 = wo.alloc (.cells #[.string K, .int .i64 P, .int .i64 G] 109) := ⟨_, rfl⟩
      rw [← hw2] at hV hg2
      obtain ⟨V, hVe⟩ : ∃ V, V = wo.heap.size := ⟨_, rfl⟩
      rw [← hVe] at hV
      have HV := Lib.hid hV
      have HG2 := Lib.hid hg2
      have HW2 := Lib.hid hw2
      have HVE := Lib.hid hVe
      clear hx hok hgr hV hg2 hw2 hVe
      go_wp2_with (fail)
      rw [← HW2.out, ← HVE.out]
      have v0 : w2.cell? ⟨V, 0, none⟩ = some (.string K) := blkC HV.out 0 rfl
      have v1 : w2.cell? ⟨V, 1, none⟩ = some (.int .i64 P) := blkC HV.out 1 rfl
      have v2 : w2.cell? ⟨V, 2, none⟩ = some (.int .i64 G) := blkC HV.out 2 rfl
      go_wp2_with (fail)
      refine (keyOf_any K w2 (by omega)).mono ?_
      rintro e w3 ⟨rfl, g3⟩
      have HV3 := Lib.hid ((g3.block _ (lt_of_block HV.out) (by simp)).trans HV.out)
      have HG3 := Lib.hid (gr_trans HG2.out g3)
      clear v0 v1 v2 g3 d0 d1 d2
      have v0 : w3.cell? ⟨V, 0, none⟩ = some (.string K) := blkC HV3.out 0 rfl
      have v1 : w3.cell? ⟨V, 1, none⟩ = some (.int .i64 P) := blkC HV3.out 1 rfl
      have v2 : w3.cell? ⟨V, 2, none⟩ = some (.int .i64 G) := blkC HV3.out 2 rfl
      cases hk1 : keyB K with
      | false =>
        go_wp2_with (fail)
        go_ret
        exact ⟨5, rfl, (fun e => by cases e), gr_trans HGR.out HG3.out⟩
      | true =>
        have HV4 := HV3
        have HG4 := HG3
        obtain ⟨w4, rfl⟩ : ∃ w4 : World, w4 = w3 := ⟨_, rfl⟩
        have MK2 : Hid ((∀ (h : 0 < k), leB K (N[k - 1]'(by omega)).group = false) → 0 ≤ P → P ≤ G → G ≤ 60 → ∀ j (hj : j < N.length), j < k + 1 → QuAt N j hj) := MK.out hk1
        clear hk1 MK HV3 HG3
        go_upto_region 8 with (fail)
        go_cut [20] (fun s wx => ∃ b : Bool, s = .bool b ∧ (b = false → ∀ (h : 0 < k), leB K (N[k - 1]'(by omega)).group = false) ∧ ∃ nx, wx = w4.drewN nx)
        case first =>
          by_cases hk0 : 0 < k
          · obtain ⟨y, y0, hy⟩ := PV.out hk0
            have y0 := (gr_cell HG4.out (lt_of_cell y0)).trans y0
            have hint1 : (0 : Int) ≤ (k : Int) - 1 := by omega
            have hint2 : (k : Int) - 1 < (N.length : Int) := by omega
            have hint3 : (0 : Int) < (k : Int) := by omega
            have htn : ((k : Int) - 1).toNat = k - 1 := by omega
            have hwr : IntKind.i64.wrap ((k : Int) - 1) = (k : Int) - 1 := IntWalk.i64_in _ (by omega)
            obtain ⟨lb, hlb⟩ : ∃ lb, leB K y = lb := ⟨_, rfl⟩
            have hlb2 : (Op.bytesLess K.toList y.toList || K.toList == y.toList) = lb := hlb
            have UP : Hid (lb = false → ∀ (h : 0 < k), leB K (N[k - 1]'(by omega)).group = false) := fun e _ => by rw [hy, hlb, e]
            clear hlb hy PV
            go_quiet (fail)
            go_wp2_with (fail)
            go_meet
            exact ⟨lb, rfl, UP.out, _, rfl⟩
          · have hdf : decide (0 < k) = false := decide_eq_false (by omega)
            have hk00 : Hid (¬ 0 < k) := hk0
            clear hk0 PV
            go_quiet (fail)
            go_wp2_with (fail)
            go_meet
            exact ⟨false, rfl, (fun _ h => absurd h hk00.out), _, rfl⟩
        case rest =>
        obtain ⟨b, rfl, hb, nq, rfl⟩ := hcut
        have GQ := Lib.hid (gr_trans HGR.out (gr_drewN HG4.out nq))
        cases b with
        | true =>
          clear hb
          go_wp2_with (fail)
          go_ret
          exact ⟨7, rfl, (fun e => by cases e), GQ.out⟩
        | false =>
          have MK3 := Lib.hid (MK2.out (hb rfl))
          clear hb MK2
          by_cases h0 : P < 0
          · go_wp2_with (fail)
            go_ret
            exact ⟨1, rfl, (fun e => by cases e), GQ.out⟩
          · by_cases h1 : G < P
            · go_wp2_with (fail)
              go_ret
              exact ⟨1, rfl, (fun e => by cases e), GQ.out⟩
            · by_cases h2 : 60 < G
              · go_wp2_with (fail)
                go_ret
                exact ⟨1, rfl, (fun e => by cases e), GQ.out⟩
              · have MK4 := Lib.hid (MK3.out (by omega) (by omega) (by omega))
                clear MK3
                go_wp2_with (fail)
                go_roundw
                case rel => exact ⟨k + 1, by omega, by go_num, MK4.out, GQ.out⟩
                case measure => simp [intOf]; omega
    · obtain rfl : k = N.length := by omega
      have HOK : Hid (QusOk N) := fun j hj => hok j hj hj
      clear hok
      go_wp2_with (fail)
      go_ret
      exact ⟨0, rfl, fun _ => HOK.out, hgr⟩
set_option maxRecDepth 100000 in
set_option maxHeartbeats 1000000 in
theorem checkQuotas_ok (os : List Offer) (hof : OffersOk os) (N : List Quo) (oa : Option Addr) (vs : List OV) (oc : Nat) (a : Option Addr) (c : Nat) (w : World) (ho : OffsAt w oa vs os) (h : CellsAt w a (flat encQuo N)) (hsm : ∀ x ∈ N, QuoSm x) (hl : N.length ≤ 6) (hok : QusOk N) :
    Calls Tryd.prog 57 #[.slice oa os.length oc, .slice a N.length c] w fun e w' => e = .returned (.int .i64 0) ∧ w.grownBy w' none := by
  have H := Lib.hid h
  have HO := Lib.hid ho
  have HF := Lib.hid hof
  have HSM := Lib.hid hsm
  have HOK := Lib.hid hok
  clear h ho hof hsm hok
  go_enter Tryd.func57, Tryd.ntmps57
  go_wp2_with (fail)
  refine (checkOffers_ok os oa vs oc w HO.out HF.out).mono ?_
  rintro e w1 ⟨rfl, g1⟩
  have G1 := Lib.hid g1
  clear g1
  go_wp2_with (fail)
  go_loopw [18] (fun i wr => ∃ k : Nat, k ≤ N.length ∧ i = .int .i64 k ∧ w.grownBy wr none) (fun i _ => N.length - (intOf i).toNat)
  case atStart => exact ⟨0, Nat.zero_le _, rfl, G1.out⟩
  case round =>
    obtain ⟨k, hk, rfl, hgr⟩ := hrel
    obtain ⟨wo, rfl⟩ : ∃ wo : World, wo = wr := ⟨_, rfl⟩
    by_cases hlt : k < N.length
    · obtain ⟨b, off, rfl, d0, d1, d2⟩ := quo_cells (H.out.keep0 hgr) k hlt
      obtain ⟨hs1, ⟨hs2, hs3⟩, ⟨hs4, hs5⟩⟩ := HSM.out _ (List.getElem_mem hlt)
      obtain ⟨⟨o1, o3, o4, o2⟩, o5⟩ := HOK.out k hlt
      have PV : Hid (∀ (h : 0 < k), ∃ y, wo.cell? ⟨b, off + (k - 1) * 3, none⟩ = some (.string y) ∧ leB N[k].group y = false) := fun h => by
        obtain ⟨b', off', e', y0, -⟩ := quo_cells (H.out.keep0 hgr) (k - 1) (by omega)
        cases e'
        exact ⟨_, y0, o5 h⟩
      obtain ⟨x, hx⟩ : ∃ x, x = N[k] := ⟨_, rfl⟩
      rw [← hx] at d0 d1 d2 hs1 hs2 hs3 hs4 hs5 o1 o2 o3 o4 PV
      obtain ⟨K, P, G⟩ := x
      simp only at d0 d1 d2 hs1 hs2 hs3 hs4 hs5 o1 o2 o3 o4 PV
      have HGR := Lib.hid hgr
      have O1 := Lib.hid o1
      have hV := heap_alloc_new wo (.cells #[.string K, .int .i64 P, .int .i64 G] 109)
      have hg2 := gr_alloc (gr_refl wo none) (.cells #[.string K, .int .i64 P, .int .i64 G] 109)
      obtain ⟨w2, hw2⟩ : ∃ w2, w2 = wo.alloc (.cells #[.string K, .int .i64 P, .int .i64 G] 109) := ⟨_, rfl⟩
      rw [← hw2] at hV hg2
      obtain ⟨V, hVe⟩ : ∃ V, V = wo.heap.size := ⟨_, rfl⟩
      rw [← hVe] at hV
      have HV := Lib.hid hV
      have HG2 := Lib.hid hg2
      have HW2 := Lib.hid hw2
      have HVE := Lib.hid hVe
      clear hx hgr hV hg2 hw2 hVe o5 o1
      go_wp2_with (fail)
      rw [← HW2.out, ← HVE.out]
      have v0 : w2.cell? ⟨V, 0, none⟩ = some (.string K) := blkC HV.out 0 rfl
      have v1 : w2.cell? ⟨V, 1, none⟩ = some (.int .i64 P) := blkC HV.out 1 rfl
      have v2 : w2.cell? ⟨V, 2, none⟩ = some (.int .i64 G) := blkC HV.out 2 rfl
      go_wp2_with (fail)
      refine (key_any K w2 (by omega)).mono ?_
      rintro e w3 ⟨rfl, rfl⟩
      rw [O1.out]
      clear d0 d1 d2
      go_upto_region 11 with (fail)
      go_cut [28] (fun s wx => s = .bool false ∧ ∃ nx, wx = w2.drewN nx)
      case first =>
        by_cases hk0 : 0 < k
        · obtain ⟨y, y0, hy⟩ := PV.out hk0
          have y0 := (gr_cell HG2.out (lt_of_cell y0)).trans y0
          have hint1 : (0 : Int) ≤ (k : Int) - 1 := by omega
          have hint2 : (k : Int) - 1 < (N.length : Int) := by omega
          have hint3 : (0 : Int) < (k : Int) := by omega
          have htn : ((k : Int) - 1).toNat = k - 1 := by omega
          have hwr : IntKind.i64.wrap ((k : Int) - 1) = (k : Int) - 1 := IntWalk.i64_in _ (by omega)
          have hlb2 : (Op.bytesLess K.toList y.toList || K.toList == y.toList) = false := hy
          clear hy PV
          go_quiet (fail)
          go_wp2_with (fail)
          go_meet
          exact ⟨rfl, _, rfl⟩
        · have hdf : decide (0 < k) = false := decide_eq_false (by omega)
          clear hk0 PV
          go_quiet (fail)
          go_wp2_with (fail)
          go_meet
          exact ⟨rfl, _, rfl⟩
      case rest =>
      obtain ⟨rfl, nq, rfl⟩ := hcut
      have GQ := Lib.hid (gr_trans HGR.out (gr_drewN HG2.out nq))
      have dP : (decide (P < 0) || decide (G < P)) = false := by simp; omega
      go_wp2_with (fail)
      refine (out_any P 0 G _).mono ?_
      rintro e w5 ⟨rfl, rfl⟩
      rw [dP]
      go_wp2_with (fail)
      go_roundw
      case rel => exact ⟨k + 1, by omega, by go_num, GQ.out⟩
      case measure => simp [intOf]; omega
    · obtain rfl : k = N.length := by omega
      go_wp2_with (fail)
      go_ret
      exact ⟨rfl, hgr⟩
end Go.Proofs.YtjhdngfliakidaaDoor

/-! Package shelf: counts that are right, and what keeps the quotas. -/
namespace Go.Proofs.YtjhdngfliakidaaDoor
open Go.RowKit
attribute [local go_sem ↓] Go.wp_at_zero Go.wp_at_succ

set_option maxRecDepth 100000 in
theorem total_cnt (xs : List Int) (a : Option Addr) (c : Nat) (w : World) (hc : CellsAt w a (ints xs)) (hl : xs.length ≤ 1000000) (hb : ∀ x ∈ xs, -1000000000000 ≤ x ∧ x ≤ 1000000000000) :
    Calls Tryd.prog 26 #[.slice a xs.length c] w fun e w' => e = .returned (.int .i64 xs.sum) ∧ w' = w := by
  have HB := Lib.hid (sum_bound xs (-1000000000000) 1000000000000 (by omega) (by omega) hb); clear hb
  go_enter Tryd.func26, Tryd.ntmps26
  go_wp2_with (fail)
  go_loop [3, 8] (fun s i => ∃ k : Nat, k ≤ xs.length ∧ i = .int .i64 k ∧ s = .int .i64 (xs.take k).sum) (fun _ i => xs.length - (intOf i).toNat)
  case atStart => exact ⟨0, Nat.zero_le _, rfl, rfl⟩
  case round =>
    obtain ⟨k, hk, rfl, rfl⟩ := hrel
    by_cases hlt : k < xs.length
    · obtain ⟨b, off, rfl, d0⟩ := hc k _ (ints_get xs k hlt)
      obtain ⟨b0, b1⟩ := HB.out k
      obtain ⟨b2, b3⟩ := HB.out (k + 1)
      have hnx := sum_next xs k hlt
      obtain ⟨x, hx⟩ : ∃ x, x = xs.getD k 0 := ⟨_, rfl⟩
      obtain ⟨s, hs⟩ : ∃ s, s = (xs.take k).sum := ⟨_, rfl⟩
      rw [← hx] at d0 hnx
      rw [← hs] at hnx b0 b1
      rw [← hs]
      rw [hnx] at b2 b3
      have HNX := Lib.hid hnx; clear hnx
      have HX := Lib.hid hx; clear hx
      have HS := Lib.hid hs; clear hs
      go_wp2_with (fail)
      go_round
      case rel => exact ⟨k + 1, by omega, by go_num, by rw [HNX.out]⟩
      case measure => simp [intOf]; omega
    · have hkl : k = xs.length := by omega
      have hfin : Hid ((xs.take k).sum = xs.sum) := by show _ = _; rw [hkl, List.take_length]
      have HK := Lib.hid hkl; clear hkl
      go_wp2_with (fail)
      go_ret
      exact ⟨ret_int hfin.out, rfl⟩

theorem CountsOk.all_of (os : List Offer) (cs : List Int) (h : cs.length = os.length) (g : ∀ j (hj : j < os.length), 0 ≤ cs.getD j 0 ∧ cs.getD j 0 ≤ os[j].profits.length) : CountsOk os cs := ⟨h, g⟩
set_option maxRecDepth 100000 in
set_option maxHeartbeats 1000000 in
theorem refCountsFault_any (os : List Offer) (cs : List Int) (a ca : Option Addr) (vs : List OV) (c cc : Nat) (w : World) (h : OffsAt w a vs os) (hc : CellsAt w ca (ints cs)) (hb : ∀ x ∈ cs, -1 ≤ x ∧ x ≤ 11) (hl : os.length ≤ 30) (hl2 : cs.length ≤ 40) :
    Calls Tryd.prog 25 #[.slice a os.length c, .slice ca cs.length cc] w fun e w' => (∃ r : Int, e = .returned (.int .i64 r) ∧ (r = 0 → CountsOk os cs)) ∧ w = w' := by
  have H := Lib.hid h
  have HC := Lib.hid hc
  have HB := Lib.hid hb
  clear h hc hb
  go_enter Tryd.func25, Tryd.ntmps25
  by_cases hne : cs.length = os.length
  · have hne' : (cs.length : Int) = (os.length : Int) := by omega
    obtain ⟨m, hm⟩ : ∃ m, m = cs.length := ⟨_, rfl⟩
    have HM := Lib.hid hm
    have HNE := Lib.hid hne
    rw [← hm] at hl2
    rw [← hne, ← hm] at hl
    rw [← hne, ← hm]
    clear hm hne hne'
    go_wp2_with (fail)
    go_loop [14] (fun i => ∃ k : Nat, k ≤ m ∧ i = .int .i64 k ∧ (∀ j (hj : j < os.length), j < k → 0 ≤ cs.getD j 0 ∧ cs.getD j 0 ≤ os[j].profits.length)) (fun i => m - (intOf i).toNat)
    case atStart => exact ⟨0, Nat.zero_le _, rfl, fun j _ h => absurd h (Nat.not_lt_zero _)⟩
    case round =>
      obtain ⟨k, hk, rfl, hok⟩ := hrel
      by_cases hlt : k < m
      · have hko : k < os.length := by have := HNE.out; have := HM.out; omega
        obtain ⟨b, off, v, rfl, hr, _, _, d2, _⟩ := H.out.at k hko
        obtain ⟨n0, n1⟩ := HB.out (cs.getD k 0) (by
          have hkc : k < cs.length := by have := HM.out; omega
          rw [List.getD_eq_getElem?_getD, List.getElem?_eq_getElem hkc]; exact List.getElem_mem hkc)
        obtain ⟨b', off', rfl, d0⟩ := HC.out k _ (ints_get cs k (by have := HM.out; omega))
        have hpn := hr.pn
        obtain ⟨pa, hpa⟩ : ∃ x, x = v.pa := ⟨_, rfl⟩
        obtain ⟨pc, hpc⟩ : ∃ x, x = v.pc := ⟨_, rfl⟩
        obtain ⟨pn, hp⟩ : ∃ x, x = v.pn := ⟨_, rfl⟩
        have hnx : Hid (0 ≤ cs.getD k 0 → cs.getD k 0 ≤ v.pn → ∀ j (hj : j < os.length), j < k + 1 → 0 ≤ cs.getD j 0 ∧ cs.getD j 0 ≤ os[j].profits.length) := fun e1 e2 j hj hjk => by
          by_cases e : j = k
          · subst e; rw [← hpn]; exact ⟨e1, e2⟩
          · exact hok j hj (by omega)
        obtain ⟨n, hn⟩ : ∃ n, n = cs.getD k 0 := ⟨_, rfl⟩
        rw [← hn] at n0 n1 d0 hnx
        rw [← hp] at hnx
        rw [← hpa, ← hpc, ← hp] at d2
        clear hr hpn hpa hpc hp hn hok
        by_cases q1 : n < 0
        · go_wp2_with (fail)
          go_ret
          exact ⟨⟨1, rfl, (fun e => by cases e)⟩, rfl⟩
        · by_cases q2 : (pn : Int) < n
          · go_wp2_with (fail)
            go_ret
            exact ⟨⟨1, rfl, (fun e => by cases e)⟩, rfl⟩
          · have HNX := Lib.hid (hnx.out (by omega) (by omega))
            clear hnx
            go_wp2_with (fail)
            go_round
            case rel => exact ⟨k + 1, by omega, by go_num, HNX.out⟩
            case measure => simp [intOf]; omega
      · obtain rfl : k = m := by omega
        have HOK : Hid (CountsOk os cs) := ⟨HNE.out, fun j hj => hok j hj (by have := HNE.out; have := HM.out; omega)⟩
        clear hok
        go_wp2_with (fail)
        go_ret
        exact ⟨⟨0, rfl, fun _ => HOK.out⟩, rfl⟩
  · have hne' : ¬ (cs.length : Int) = (os.length : Int) := by omega
    go_wp2_with (fail)
    go_ret
    exact ⟨⟨3, rfl, (fun e => by cases e)⟩, rfl⟩
/-- What the slots of a group are. -/
def cN (cs : List Int) (j : Nat) : Nat := (cs.getD j 0).toNat
def gsum (os : List Offer) (g : ByteArray) (cs : List Int) (k : Nat) : Int := (gn (fun j => decide ((os.getD j o0).group = g)) (cN cs) k : Nat)
theorem gsum_zero (os : List Offer) (g : ByteArray) (cs : List Int) : gsum os g cs 0 = 0 := rfl
theorem gsum_succ (os : List Offer) (g : ByteArray) (cs : List Int) (hco : CountsOk os cs) (k : Nat) (hk : k < os.length) : gsum os g cs (k + 1) = gsum os g cs k + if os[k].group = g then cs.getD k 0 else 0 := by
  unfold gsum
  simp only [gn, off_at os k hk, decide_eq_true_eq]
  have := hco.all k hk
  split
  · unfold cN; push_cast; omega
  · simp
theorem gsum_bd (os : List Offer) (hok : OffersOk os) (g : ByteArray) (cs : List Int) (hco : CountsOk os cs) (k : Nat) (hk : k ≤ os.length) : 0 ≤ gsum os g cs k ∧ gsum os g cs k ≤ 10 * k := by
  induction k with
  | zero => exact ⟨by rw [gsum_zero]; omega, by rw [gsum_zero]; omega⟩
  | succ k ih =>
    have h1 := ih (by omega)
    have h2 := gsum_succ os g cs hco k (by omega)
    have h3 := hco.all k (by omega)
    have h4 := hok.prof os[k] (List.getElem_mem (by omega))
    split at h2 <;> constructor <;> omega
def Keeps (os : List Offer) (q : List Quo) (cs : List Int) : Prop := ∀ x ∈ q, x.least ≤ gsum os x.group cs os.length ∧ gsum os x.group cs os.length ≤ x.most
theorem gr_cellv {w w1 : World} {b o : Nat} {v : Value} (g : w.grownBy w1 none) (h : w.cell? ⟨b, o, none⟩ = some v) : w1.cell? ⟨b, o, none⟩ = some v := (gr_cell g (lt_of_cell h)).trans h
theorem str_eq (a b : ByteArray) : (a.toList == b.toList) = decide (a = b) := by
  by_cases h : a = b
  · subst h; simp
  · have : a.toList ≠ b.toList := fun e => h (by rw [ByteArray.toList_eq, ByteArray.toList_eq] at e; cases a; cases b; simp only at e; congr 1; exact Array.toList_inj.1 e)
    rw [decide_eq_false h, beq_eq_false_iff_ne]; exact this
set_option maxRecDepth 100000 in
set_option maxHeartbeats 1000000 in
theorem fits_any (os : List Offer) (hok : OffersOk os) (q : List Quo) (hqo : QusOk q) (hsm : ∀ x ∈ q, QuoSm x) (hql : q.length ≤ 6) (cs : List Int) (hco : CountsOk os cs) (a qa ca : Option Addr) (vs : List OV) (c qc cc : Nat) (w : World) (h : OffsAt w a vs os) (hq : CellsAt w qa (flat encQuo q)) (hc : CellsAt w ca (ints cs)) :
    Calls Tryd.prog 27 #[.slice a os.length c, .slice qa q.length qc, .slice ca os.length cc] w fun e w' => (∃ b, e = .returned (.tuple #[.bool b, .int .i64 0]) ∧ (b = true ↔ Keeps os q cs)) ∧ w.grownBy w' none := by
  have H := Lib.hid h
  have HQ := Lib.hid hq
  have HC := Lib.hid hc
  have HK := Lib.hid hok
  have HCO := Lib.hid hco
  have HQO := Lib.hid hqo
  have HSM := Lib.hid hsm
  have hl := hok.len
  clear h hq hc hok hco hqo hsm
  go_enter Tryd.func27, Tryd.ntmps27
  go_wp2_with (fail)
  refine (checkQuotas_ok os HK.out q a vs c qa qc w H.out HQ.out HSM.out hql HQO.out).mono ?_
  rintro e w1 ⟨rfl, g1⟩
  have HG1 := Lib.hid g1
  clear g1
  go_wp2_with (fail)
  refine (countsFault_ok os cs a ca vs c cc w1 (H.out.keep0 HG1.out) (HC.out.keep0 HG1.out) HCO.out (by omega)).mono ?_
  rintro e w2 ⟨rfl, rfl⟩
  go_wp2_with (fail)
  go_loopw [29] (fun i wr => ∃ k : Nat, k ≤ q.length ∧ i = .int .i64 k ∧ (∀ j (hj : j < q.length), j < k → q[j].least ≤ gsum os q[j].group cs os.length ∧ gsum os q[j].group cs os.length ≤ q[j].most) ∧ w.grownBy wr none) (fun i _ => q.length - (intOf i).toNat)
  case atStart => exact ⟨0, Nat.zero_le _, rfl, (fun j _ h => absurd h (Nat.not_lt_zero _)), HG1.out⟩
  case round =>
    obtain ⟨k, hk, rfl, hall, hgr⟩ := hrel
    obtain ⟨wo, rfl⟩ : ∃ wo : World, wo = wr := ⟨_, rfl⟩
    by_cases hlt : k < q.length
    · obtain ⟨b, off, rfl, d0, d1, d2⟩ := quo_cells (HQ.out.keep0 hgr) k hlt
      obtain ⟨hs1, ⟨hs2, hs3⟩, ⟨hs4, hs5⟩⟩ := HSM.out _ (List.getElem_mem hlt)
      obtain ⟨gS, hgS⟩ : ∃ gS : Nat → Int, gS = gsum os q[k].group cs := ⟨_, rfl⟩
      have NEXT : Hid (q[k].least ≤ gS os.length → gS os.length ≤ q[k].most → ∀ j (hj : j < q.length), j < k + 1 → q[j].least ≤ gsum os q[j].group cs os.length ∧ gsum os q[j].group cs os.length ≤ q[j].most) := fun h1 h2 j hj hjk => by
        by_cases e : j = k
        · subst e; rw [hgS] at h1 h2; exact ⟨h1, h2⟩
        · exact hall j hj (by omega)
      have STOP : Hid (Keeps os q cs → q[k].least ≤ gS os.length ∧ gS os.length ≤ q[k].most) := fun h => by rw [hgS]; exact h _ (List.getElem_mem hlt)
      have GZ : Hid (gS 0 = 0) := by rw [hgS]; exact gsum_zero _ _ _
      have GS : Hid (∀ i (hi : i < os.length), gS (i + 1) = gS i + if os[i].group = q[k].group then cs.getD i 0 else 0) := by rw [hgS]; exact fun i hi => gsum_succ os _ cs HCO.out i hi
      have GB : Hid (∀ i, i ≤ os.length → 0 ≤ gS i ∧ gS i ≤ 10 * i) := by rw [hgS]; exact fun i hi => gsum_bd os HK.out _ cs HCO.out i hi
      obtain ⟨x, hx⟩ : ∃ x, x = q[k] := ⟨_, rfl⟩
      rw [← hx] at d0 d1 d2 hs1 hs2 hs3 hs4 hs5 NEXT STOP GS
      obtain ⟨K, P, G⟩ := x
      simp only at d0 d1 d2 hs1 hs2 hs3 hs4 hs5 NEXT STOP GS
      have HGR := Lib.hid hgr
      have hV := heap_alloc_new wo (.cells #[.string K, .int .i64 P, .int .i64 G] 109)
      have hg2 := gr_alloc (gr_refl wo none) (.cells #[.string K, .int .i64 P, .int .i64 G] 109)
      obtain ⟨w3, hw3⟩ : ∃ w3, w3 = wo.alloc (.cells #[.string K, .int .i64 P, .int .i64 G] 109) := ⟨_, rfl⟩
      rw [← hw3] at hV hg2
      obtain ⟨V, hVe⟩ : ∃ V, V = wo.heap.size := ⟨_, rfl⟩
      rw [← hVe] at hV
      have HV := Lib.hid hV
      have HG3 := Lib.hid (gr_trans hgr hg2)
      have HW3 := Lib.hid hw3
      have HVE := Lib.hid hVe
      clear hx hgr hV hg2 hw3 hVe hgS hall
      go_wp2_with (fail)
      rw [← HW3.out, ← HVE.out]
      clear d0 d1 d2 HW3 HVE
      go_wp2_with (fail)
      go_loopw [12, 35] (fun s i wr => ∃ j : Nat, j ≤ os.length ∧ i = .int .i64 j ∧ s = .int .i64 (gS j) ∧ w3.grownBy wr none) (fun _ i _ => os.length - (intOf i).toNat)
      case atStart => exact ⟨0, Nat.zero_le _, rfl, by rw [GZ.out], gr_refl _ _⟩
      case round =>
        obtain ⟨j, hj, rfl, rfl, hgj⟩ := hrel
        obtain ⟨wj, rfl⟩ : ∃ wj : World, wj = wr := ⟨_, rfl⟩
        by_cases hjl : j < os.length
        · obtain ⟨b2, off2, v, rfl, hr, e0, e1, e2, e3, e4⟩ := (H.out.keep0 (gr_trans HG3.out hgj)).at j hjl
          obtain ⟨n0, n1⟩ := HCO.out.all j hjl
          have hp10 := (HK.out.prof os[j] (List.getElem_mem hjl)).2.1
          obtain ⟨b3, off3, rfl, f0⟩ := (HC.out.keep0 (gr_trans HG3.out hgj)) j _ (ints_get cs j (by rw [HCO.out.len]; exact hjl))
          have hgn := GS.out j hjl
          obtain ⟨q0, q1⟩ := GB.out j (by omega)
          obtain ⟨q2, q3⟩ := GB.out (j + 1) (by omega)
          have hkg := hr.group
          rw [← hkg] at hgn
          obtain ⟨n, hn⟩ : ∃ n, n = cs.getD j 0 := ⟨_, rfl⟩
          obtain ⟨s, hs⟩ : ∃ s, s = gS j := ⟨_, rfl⟩
          obtain ⟨s2, hs2'⟩ : ∃ s2, s2 = gS (j + 1) := ⟨_, rfl⟩
          rw [← hn] at n0 n1 f0 hgn
          rw [← hs, ← hs2'] at hgn
          rw [← hs] at q0 q1
          rw [← hs2'] at q2 q3
          rw [← hs]
          obtain ⟨vk, vg, pa, pn, pc, ha, hn', hc, ta, tn, tc⟩ := v
          simp only at e0 e1 e2 e3 e4 hgn
          have v0 : wj.cell? ⟨V, 0, none⟩ = some (.string K) := gr_cellv hgj (blkC HV.out 0 rfl)
          have hn10 : n ≤ 10 := by omega
          have HS2 := Lib.hid hs2'
          have HGJ := Lib.hid hgj
          have hO := heap_alloc_new wj (.cells #[.string vk, .string vg, .slice pa pn pc, .slice ha hn' hc, .slice ta tn tc] 106)
          have hg5 := gr_alloc (gr_refl wj none) (.cells #[.string vk, .string vg, .slice pa pn pc, .slice ha hn' hc, .slice ta tn tc] 106)
          obtain ⟨w5, hw5⟩ : ∃ w5, w5 = wj.alloc (.cells #[.string vk, .string vg, .slice pa pn pc, .slice ha hn' hc, .slice ta tn tc] 106) := ⟨_, rfl⟩
          rw [← hw5] at hO hg5
          have HW5 := Lib.hid hw5
          obtain ⟨X5, hX5⟩ : ∃ X5, X5 = wj.heap.size := ⟨_, rfl⟩
          rw [← hX5] at hO
          have HX5 := Lib.hid hX5
          clear hX5
          have HG5 := Lib.hid (gr_trans hgj hg5)
          clear hr hkg hn hs hs2' hgj n1 hp10 hw5
          go_upto_region 14 with (fail)
          rw [← HW5.out, ← HX5.out]
          have c1 := blkC hO 1 rfl
          have v0 : w5.cell? ⟨V, 0, none⟩ = some (.string K) := (gr_cell hg5 (lt_of_cell v0)).trans v0
          have f0 : w5.cell? ⟨b3, off3 + j, none⟩ = some (.int .i64 n) := (gr_cell hg5 (lt_of_cell f0)).trans f0
          clear e0 e1 e2 e3 e4 hg5 HW5 hO
          by_cases hgg : vg = K
          · subst hgg
            rw [if_pos rfl] at hgn
            have hse : (vg.toList == vg.toList) = true := by simp
            subst hgn
            go_wp2_with (fail)
            go_roundw
            case rel => exact ⟨j + 1, by omega, by go_num, by rw [← HS2.out], HG5.out⟩
            case measure => simp [intOf]; omega
          · have hse : (vg.toList == K.toList) = false := by rw [str_eq]; exact decide_eq_false hgg
            rw [if_neg hgg, Int.add_zero] at hgn
            subst hgn
            have HGG := Lib.hid hgg
            clear hgg
            go_wp2_with (fail)
            go_roundw
            case rel => exact ⟨j + 1, by omega, by go_num, by rw [← HS2.out], HG5.out⟩
            case measure => simp [intOf]; omega
        · obtain rfl : j = os.length := by omega
          have v1 : wj.cell? ⟨V, 1, none⟩ = some (.int .i64 P) := gr_cellv hgj (blkC HV.out 1 rfl)
          have v2 : wj.cell? ⟨V, 2, none⟩ = some (.int .i64 G) := gr_cellv hgj (blkC HV.out 2 rfl)
          obtain ⟨s, hs⟩ : ∃ s, s = gS os.length := ⟨_, rfl⟩
          rw [← hs] at NEXT STOP
          rw [← hs]
          have HGJ := Lib.hid (gr_trans HG3.out hgj)
          clear hs hgj
          go_wp2_with (fail)
          refine (out_any s P G wj).mono ?_
          rintro e w6 ⟨rfl, rfl⟩
          by_cases hout : P ≤ s ∧ s ≤ G
          · have ho1 : (decide (s < P) || decide (G < s)) = false := by simp; omega
            have HN := Lib.hid (NEXT.out hout.1 hout.2)
            rw [ho1]
            clear hout ho1 NEXT STOP
            go_wp2_with (fail)
            go_roundw
            case rel => exact ⟨k + 1, by omega, by go_num, HN.out, HGJ.out⟩
            case measure => simp [intOf]; omega
          · have ho1 : (decide (s < P) || decide (G < s)) = true := by simp; omega
            have HOUT := Lib.hid hout
            rw [ho1]
            clear hout ho1 NEXT
            go_wp2_with (fail)
            go_ret2
            exact ⟨⟨false, rfl, ⟨(fun e => by cases e), fun e => absurd (STOP.out e) HOUT.out⟩⟩, HGJ.out⟩
    · obtain rfl : k = q.length := by omega
      have HA : Hid (Keeps os q cs) := fun x hx => by
        obtain ⟨j, hj, rfl⟩ := List.mem_iff_getElem.1 hx
        exact hall j hj hj
      clear hall
      go_wp2_with (fail)
      go_ret2
      exact ⟨⟨true, rfl, ⟨fun _ => HA.out, fun _ => rfl⟩⟩, hgr⟩
end Go.Proofs.YtjhdngfliakidaaDoor

/-! Package shelf: the best counts. -/
namespace Go.Proofs.YtjhdngfliakidaaDoor
open Go.RowKit
attribute [local go_sem ↓] Go.wp_at_zero Go.wp_at_succ

theorem quoOk_of {q : List Quo} (hl : q.length ≤ 6) (h : ∀ x ∈ q, QuoSm x) : QuoOk q := ⟨by omega, fun x hx => by have := (h x hx).1; omega, fun x hx => by
  obtain ⟨_, ⟨h1, h2⟩, h3, h4⟩ := h x hx
  omega⟩
def BestPost (os : List Offer) (hok : OffersOk os) (q : List Quo) (S : Nat) (w : World) (e : Ending) (w' : World) : Prop :=
  w.grownBy w' none ∧ ((e = .returned (.tuple #[.slice none 0 0, .int .i64 0, .int .i64 8]) ∧ ∀ c, ¬ okC (pbOf os hok q) [] S c) ∨
    ∃ v C n, e = .returned (.tuple #[v, .int .i64 n, .int .i64 0]) ∧ w'.ownsRow w.heap.size 3 1 v C.length (ints C) ∧ C.length = os.length ∧ nothingT < n ∧ GreatIs (pbOf os hok q) [] S n ∧ GreatIs (pbOf os hok q) C S n)
/-- The integer in a cell. -/
def intC (w : World) (v : Value) (i : Nat) : Nat := match v with
  | .slice (some ⟨b, _, _⟩) _ _ => (match w.cell? ⟨b, i, none⟩ with | some (.int _ x) => x.toNat | _ => 0)
  | _ => 0
set_option maxRecDepth 100000 in
set_option maxHeartbeats 2000000 in
theorem best_any (os : List Offer) (hok : OffersOk os) (q : List Quo) (hqo : QusOk q) (hsm : ∀ x ∈ q, QuoSm x) (hql : q.length ≤ 6) (S : Nat) (hS : S ≤ 60) (a qa : Option Addr) (vs : List OV) (c qc : Nat) (w : World) (h : OffsAt w a vs os) (hq : CellsAt w qa (flat encQuo q)) :
    Calls Tryd.prog 23 #[.slice a os.length c, .slice qa q.length qc, .int .i64 S] w (BestPost os hok q S w) := by
  have HS := Lib.hid h
  have HQ := Lib.hid hq
  have HQO := Lib.hid (quoOk_of hql hsm)
  have HQU := Lib.hid hqo
  have HSM := Lib.hid hsm
  have hl := hok.len
  have hpm : Hid ((pbOf os hok q).m = os.length) := rfl
  have hpN : Hid (∀ j, j < os.length → (pbOf os hok q).N j ≤ 10) := fun j hj => by
    show (os.getD j o0).profits.length ≤ 10
    rw [off_at os j hj]
    exact (hok.prof _ (List.getElem_mem hj)).2.1
  clear h hq hsm hqo
  go_enter Tryd.func23, Tryd.ntmps23
  go_wp2_with (fail)
  refine (checkQuotas_ok os hok q a vs c qa qc w HS.out HQ.out HSM.out hql HQU.out).mono ?_
  rintro e w1 ⟨rfl, g1⟩
  have HG1 := Lib.hid g1
  clear g1
  go_wp2_with (fail)
  refine (out_any S 0 60 w1).mono ?_
  rintro e w2 ⟨rfl, rfl⟩
  have eo : (decide ((S : Int) < 0) || decide ((60 : Int) < S)) = false := by simp; omega
  rw [eo]
  clear eo
  go_wp2_with (fail)
  refine (greatest_any os hok q HQO.out [] (fun x hx => by cases hx) S hS a qa none vs c qc 0 w1 (HS.out.keep0 HG1.out) (HQ.out.keep0 HG1.out) (CellsAt.nil _ _)).mono ?_
  rintro e w2 ⟨n, rfl, hgr, g2⟩
  have HG2 := Lib.hid (gr_trans HG1.out g2)
  have HGR := Lib.hid hgr
  clear g2 hgr HG1
  by_cases hn : n ≤ nothingT
  · have hn' : n ≤ -1099511627776 := hn
    have hno : Hid (∀ c, ¬ okC (pbOf os hok q) [] S c) := by
      rcases HGR.out with ⟨e1, e2⟩ | ⟨e1, _, _⟩
      · exact fun c hc => e2 _ ⟨c, hc, rfl⟩
      · omega
    clear hn
    go_wp2_with (fail)
    go_ret3
    exact ⟨HG2.out, .inl ⟨rfl, hno.out⟩⟩
  · have hn' : ¬ n ≤ -1099511627776 := hn
    have HN : Hid (nothingT < n) := by show _ < _; unfold nothingT at hn ⊢; omega
    clear hn
    go_wp2_with (fail)
    go_loopw [11, 28] (fun v i wr => ∃ (k : Nat) (C : List Int), k ≤ os.length ∧ i = .int .i64 k ∧ C.length = k ∧ (∀ x ∈ C, 0 ≤ x ∧ x ≤ 100) ∧ wr.ownsRow w.heap.size 3 1 v k (ints C) ∧ GreatIs (pbOf os hok q) C S n ∧ w.grownBy wr none) (fun _ i _ => os.length - (intOf i).toNat)
    case atStart => exact ⟨0, [], Nat.zero_le _, rfl, rfl, (fun x hx => by cases hx), World.ownsRow_nil _ _ _ _, HGR.out, HG2.out⟩
    case round =>
      obtain ⟨k, C, hk, rfl, hCl, hCb, hown, hgC, hgr⟩ := hrel
      obtain ⟨wo, rfl⟩ : ∃ wo : World, wo = wr := ⟨_, rfl⟩
      by_cases hlt : k < os.length
      · obtain ⟨n0, hn0, hg0⟩ := Great_next _ C S n hgC HN.out (by rw [hpm.out, hCl]; exact hlt)
        have hn10 := Nat.le_trans hn0 (hpN.out _ (by omega))
        have HOWN := Lib.hid hown
        have HGR2 := Lib.hid hgr
        have HCB := Lib.hid hCb
        have HG0 := Lib.hid hg0
        have HCL := Lib.hid hCl
        have hzo := hgr.size
        clear hn0 hg0 hgC hown hCb hgr hCl
        go_wp2_with (at_builtin; refine wpList_app1F eInt rfl _ _ rfl w.heap.size _ k (ints C) rfl wo #[.int .i64 0] rfl HOWN.out _ rfl rfl rfl rfl (by omega) (by omega) ?_; intro v7 w7 o7 g7 hl7 _; have hgr7 := gr_grown HGR2.out g7 hl7; have HO7 := Lib.hid o7; clear o7 g7 hl7)
        have HGR7 := Lib.hid hgr7
        clear hgr7
        obtain ⟨g, cap, rfl, _, _, _, _⟩ := own_some HO7.out (by omega)
        have hgw : w.heap.size ≤ g := (HO7.out.lt g rfl).1
        go_loopw [33] (fun _ wr => ∃ x : Nat, x ≤ n0 ∧ wr.ownsRow w.heap.size 3 1 (.slice (some ⟨g, 0, none⟩) (k + 1) cap) (k + 1) (ints (C ++ [(x : Int)])) ∧ w.grownBy wr none) (fun _ wr => n0 - intC wr (.slice (some ⟨g, 0, none⟩) (k + 1) cap) k)
        case atStart => exact ⟨0, Nat.zero_le _, by simpa [ints] using HO7.out, HGR7.out⟩
        case round =>
          obtain ⟨x, hx, hox, hgx⟩ := hrel
          obtain ⟨wx, rfl⟩ : ∃ wx : World, wx = wr := ⟨_, rfl⟩
          have HOX := Lib.hid hox
          have HGX := Lib.hid hgx
          have hFb : ∀ y ∈ C ++ [(x : Int)], 0 ≤ y ∧ y ≤ 100 := fun y hy => by
            rcases List.mem_append.1 hy with hy | hy
            · exact HCB.out y hy
            · have : y = (x : Int) := by simpa using hy
              omega
          have hFl : (C ++ [(x : Int)]).length = k + 1 := by rw [List.length_append, HCL.out]; rfl
          obtain ⟨_, _, hee, _, _, hcx, _⟩ := own_shape hox
          cases hee
          obtain ⟨d0, f0, st⟩ := own_int hox k (by omega)
          have hgd : (C ++ [(x : Int)]).getD k 0 = x := by rw [← HCL.out]; exact app_r C _
          rw [hgd] at d0
          have hset : ∀ z : Int, (C ++ [(x : Int)]).set k z = C ++ [z] := fun z => by rw [← HCL.out]; simp
          have ST : Hid (∀ z : Int, (wx.setCell ⟨g, k, none⟩ (.int .i64 z)).ownsRow w.heap.size 3 1 (.slice (some ⟨g, 0, none⟩) (k + 1) cap) (k + 1) (ints (C ++ [z]))) := fun z => by have := st z; rw [hset] at this; exact this
          have hmx : Hid (intC wx (.slice (some ⟨g, 0, none⟩) (k + 1) cap) k = x) := by show _ = _; unfold intC; simp only [d0]; omega
          have GC := Lib.hid (greatest_any os hok q HQO.out (C ++ [(x : Int)]) hFb S hS a qa (some ⟨g, 0, none⟩) vs c qc cap wx (HS.out.keep0 hgx) (HQ.out.keep0 hgx) hcx)
          rw [hFl] at GC
          clear hgd hset st hFl hFb hcx hox hgx
          go_wp2_with (fail)
          refine GC.out.mono ?_
          rintro e w5 ⟨y, rfl, hgy, g5⟩
          have HG5 := Lib.hid (gr_trans HGX.out g5)
          have HO5 := Lib.hid (own_keep0 HOX.out g5)
          have HI5 : Hid (intC w5 (.slice (some ⟨g, 0, none⟩) (k + 1) cap) k = intC wx (.slice (some ⟨g, 0, none⟩) (k + 1) cap) k) := by show _ = _; unfold intC; simp only [gr_cell g5 (lt_of_cell d0)]
          by_cases hy : y = n
          · have HYG : Hid (GreatIs (pbOf os hok q) (C ++ [(x : Int)]) S n) := by show GreatIs _ _ _ _; rw [← hy]; exact hgy
            clear hgy g5 d0 f0
            go_wp2_with (fail)
            go_roundw
            case rel => exact ⟨k + 1, C ++ [(x : Int)], by omega, by go_num, by rw [List.length_append, HCL.out]; rfl, (fun z hz => by
              rcases List.mem_append.1 hz with hz | hz
              · exact HCB.out z hz
              · have : z = (x : Int) := by simpa using hz
                omega), HO5.out, HYG.out, HG5.out⟩
            case measure => simp [intOf]; omega
          · have hxn : x < n0 := by
              rcases Nat.lt_or_ge x n0 with h | h
              · exact h
              · exfalso
                have : x = n0 := by omega
                rw [this] at hgy
                exact hy (Great_one hgy HG0.out)
            obtain ⟨d5, f5, st5⟩ := own_int HO5.out k (by omega)
            have hgd : (C ++ [(x : Int)]).getD k 0 = x := by rw [← HCL.out]; exact app_r C _
            rw [hgd] at d5
            have hset : ∀ z : Int, (C ++ [(x : Int)]).set k z = C ++ [z] := fun z => by rw [← HCL.out]; simp
            have ST5 := Lib.hid (st5 ((x : Int) + 1))
            rw [hset] at ST5
            have HG6 := Lib.hid (gr_new HG5.out (q := ⟨g, k, none⟩) hgw (.int .i64 ((x : Int) + 1)))
            have HM6 : Hid (intC (w5.setCell ⟨g, k, none⟩ (.int .i64 ((x : Int) + 1))) (.slice (some ⟨g, 0, none⟩) (k + 1) cap) k = x + 1) := by
              obtain ⟨d6, _, _⟩ := own_int ST5.out k (by omega)
              have hg6 : (C ++ [(x : Int) + 1]).getD k 0 = x + 1 := by rw [← HCL.out]; exact app_r C _
              rw [hg6] at d6
              show _ = _
              unfold intC
              simp only [d6]
              omega
            clear hgy g5 d0 f0 st5 hset hgd
            go_wp2_with (fail)
            go_roundw
            case rel => exact ⟨x + 1, by omega, by have := ST5.out; push_cast; exact this, HG6.out⟩
            case measure => simp only [HM6.out, hmx.out]; omega
      · obtain rfl : k = os.length := by omega
        obtain ⟨va, vc, rfl, _⟩ := own_shape hown
        go_wp2_with (fail)
        go_ret3
        exact ⟨hgr, .inr ⟨_, C, n, rfl, by rw [hCl]; exact hown, hCl, HN.out, HGR.out, hgC⟩⟩
end Go.Proofs.YtjhdngfliakidaaDoor

/-! What the best counts are worth: the plain law. -/
namespace Go.Proofs.YtjhdngfliakidaaDoor

theorem cN_sum (os : List Offer) (cs : List Int) (h : CountsOk os cs) : ∀ k, k ≤ os.length → (cs.take k).sum = (gn (fun _ => true) (cN cs) k : Nat)
  | 0, _ => by simp [gn]
  | k + 1, hk => by
    have h1 := cN_sum os cs h k (by omega)
    have h2 := h.all k (by omega)
    rw [sum_next cs k (by rw [h.len]; omega), h1]
    simp only [gn, if_true]
    unfold cN
    push_cast
    omega
theorem cN_total (os : List Offer) (cs : List Int) (h : CountsOk os cs) : cs.sum = (gn (fun _ => true) (cN cs) os.length : Nat) := by
  have := cN_sum os cs h os.length (Nat.le_refl _)
  rwa [← h.len, List.take_length, h.len] at this
theorem cN_worthT (os : List Offer) (hok : OffersOk os) (q : List Quo) (cs : List Int) (h : CountsOk os cs) : ∀ k, k ≤ os.length → ((worthL os cs).take k).sum = gs (fun _ => true) (fun j => (pbOf os hok q).U j (cN cs j)) k
  | 0, _ => by simp [gs]
  | k + 1, hk => by
    have h1 := cN_worthT os hok q cs h k (by omega)
    have h2 := h.all k (by omega)
    rw [sum_next _ k (by rw [worthL_len _ _ h.len]; omega), h1, worthL_get os cs h.len k (by omega)]
    simp only [gs, if_true]
    congr 1
    show usedM os[k] (cs.getD k 0) = ((os.getD k o0).profits.take (cN cs k)).sum
    rw [off_at os k (by omega)]
    rfl
theorem cN_worth (os : List Offer) (hok : OffersOk os) (q : List Quo) (cs : List Int) (h : CountsOk os cs) : (worthL os cs).sum = worthC (pbOf os hok q) (cN cs) := by
  have := cN_worthT os hok q cs h os.length (Nat.le_refl _)
  rwa [← worthL_len os cs h.len, List.take_length, worthL_len os cs h.len] at this
theorem okC_of (os : List Offer) (hok : OffersOk os) (q : List Quo) (cs : List Int) (h : CountsOk os cs) (S : Nat) (hk : Keeps os q cs) (hs : cs.sum = S) : okC (pbOf os hok q) [] S (cN cs) := by
  refine ⟨fun j hj => ⟨?_, fun h => absurd h (by simp)⟩, fun g x hx hg => ?_, ?_⟩
  · have h1 := h.all j hj
    show cN cs j ≤ (os.getD j o0).profits.length
    rw [off_at os j hj]
    unfold cN
    omega
  · have := hk x hx
    rw [hg] at this
    exact this
  · have := cN_total os cs h
    rw [hs] at this
    exact (Int.ofNat.inj this).symm
/-- No counts that fit are worth more. -/
theorem best_top (os : List Offer) (hok : OffersOk os) (q : List Quo) (cs : List Int) (h : CountsOk os cs) (S : Nat) (hk : Keeps os q cs) (hs : cs.sum = S) (n : Int) (hn : nothingT < n) (hg : GreatIs (pbOf os hok q) [] S n) : (worthL os cs).sum ≤ n := by
  rcases hg with ⟨e, -⟩ | ⟨-, -, h3⟩
  · omega
  · exact h3 _ ⟨_, okC_of os hok q cs h S hk hs, cN_worth os hok q cs h⟩
structure BestIs (os : List Offer) (q : List Quo) (S : Nat) (C : List Int) (n : Int) : Prop where
  ok : CountsOk os C
  keeps : Keeps os q C
  sum : C.sum = S
  worth : (worthL os C).sum = n
  bound : n ≤ boundM os S
/-- The best counts themselves. -/
theorem best_is (os : List Offer) (hok : OffersOk os) (q : List Quo) (C : List Int) (hl : C.length = os.length) (S : Nat) (n : Int) (hn : nothingT < n) (hg : GreatIs (pbOf os hok q) C S n) : BestIs os q S C n := by
  rcases hg with ⟨e, -⟩ | ⟨-, ⟨c, ⟨h1, h2, h3⟩, hv⟩, -⟩
  · omega
  have hc : ∀ j, j < os.length → (c j : Int) = C.getD j 0 ∧ c j ≤ (os.getD j o0).profits.length := fun j hj => ⟨(h1 j hj).2 (by omega), (h1 j hj).1⟩
  have hcn : ∀ j, j < os.length → c j = cN C j := fun j hj => by unfold cN; have := (hc j hj).1; omega
  have hco : CountsOk os C := ⟨hl, fun j hj => by
    obtain ⟨a1, a2⟩ := hc j hj
    rw [off_at os j hj] at a2
    constructor <;> omega⟩
  have ho : okC (pbOf os hok q) [] S c := ⟨fun j hj => ⟨(h1 j hj).1, fun h => absurd h (by simp)⟩, h2, h3⟩
  refine ⟨hco, fun x hx => ?_, ?_, ?_, ?_⟩
  · have := h2 x.group x hx rfl
    have e : gn (isG (pbOf os hok q) x.group) c (pbOf os hok q).m = gn (isG (pbOf os hok q) x.group) (cN C) (pbOf os hok q).m := gn_congr _ (fun _ _ => rfl) (fun j hj _ => hcn j hj)
    rw [e] at this
    exact this
  · rw [cN_total os C hco]
    have e : gn (fun _ => true) c os.length = gn (fun _ => true) (cN C) os.length := gn_congr _ (fun _ _ => rfl) (fun j hj _ => hcn j hj)
    rw [← e]
    exact congrArg Int.ofNat h3
  · rw [cN_worth os hok q C hco, hv]
    unfold worthC
    refine gs_congr _ (fun _ _ => rfl) (fun j hj _ => ?_)
    rw [hcn j hj]
  · rw [hv]
    exact bound_top os hok q S c ho
end Go.Proofs.YtjhdngfliakidaaDoor
