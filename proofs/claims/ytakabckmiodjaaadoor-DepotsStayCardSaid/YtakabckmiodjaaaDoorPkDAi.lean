/- depot.CheckWallet of a right wallet. -/
import Derived.Test.YtakabckmiodjaaaDoorPkDAe
import Derived.Test.YtakabckmiodjaaaDoorPkDAf
import Derived.Test.YtakabckmiodjaaaDoorPkDAh
import Derived.Deep.RegionHeld3
import Derived.Deep.CutRange
import Derived.Test.YtakabckmiodjaaaDoorPkDAb
namespace Go.Proofs.YtakabckmiodjaaaDoor
open Go.RowKit

theorem wal_mem {A : Wal} {X : Int} (h : WOk A X) : ∀ x ∈ A.T.flatten ++ A.U, 0 ≤ x ∧ x ≤ X := by
  intro x hx
  rcases List.mem_append.1 hx with hx | hx
  · obtain ⟨row, hrow, hx⟩ := List.mem_flatten.1 hx
    obtain ⟨i, hi, rfl⟩ := List.getElem_of_mem hrow
    obtain ⟨j, hj, rfl⟩ := List.getElem_of_mem hx
    have hi3 : i < 3 := by have := h.form.lenT; omega
    have hl := h.form.lenR i hi3
    have hr := h.r0 i j hi3
    unfold Wal.r at hr
    rw [getD_eq _ _ _ hi] at hl
    simp only [getD_eq _ _ _ hi] at hr
    simp only [getD_eq _ _ _ hj] at hr
    exact hr (by omega)
  · obtain ⟨i, hi, rfl⟩ := List.getElem_of_mem hx
    have hi3 : i < 3 := by have := h.form.lenU; omega
    have hu := h.u0 i hi3
    unfold Wal.u at hu
    rw [getD_eq _ _ _ hi] at hu
    exact hu
theorem wal_len {A : Wal} (h : WForm A) : A.T.flatten.length = 9 := by
  have h1 := h.lenT
  have h2 := h.lenR
  match hT : A.T, h1, h2 with
  | [a, b, c], _, h2 =>
    have e0 := h2 0 (by omega)
    have e1 := h2 1 (by omega)
    have e2 := h2 2 (by omega)
    simp at e0 e1 e2
    simp [e0, e1, e2]
/-- Rows of a wallet, as Concat asks for them. -/
theorem WalAt.rows {w : World} {B : Nat → Prop} {x y z : Value} {A : Wal} (h : WalAt w B x y z A) (hf : WForm A) : ∃ b o c, y = .slice (some ⟨b, o, none⟩) 3 c ∧ ∀ i, i < 3 → ∃ ra rc, w.cell? ⟨b, o + i, none⟩ = some (.slice ra (A.T.getD i []).length rc) ∧ CellsAt w ra (ints (A.T.getD i [])) ∧ (ra = none → rc = 0) := by
  obtain ⟨b, o, c, rfl, _, _, h2⟩ := h.r
  refine ⟨b, o, c, rfl, fun i hi => ?_⟩
  obtain ⟨b2, o2, c2, h3, _, _, h4⟩ := h2 i hi
  have hl := hf.lenR i hi
  refine ⟨_, c2, by rw [hl]; exact h3, ?_, fun h => by cases h⟩
  intro j v hj
  have hj3 : j < 3 := by have := (List.getElem?_eq_some_iff.1 hj).1; simp only [ints, List.length_map] at this; omega
  rw [ints_get _ j (by omega)] at hj
  cases hj
  exact ⟨b2, o2, rfl, h4 j hj3⟩
theorem WalAt.used {w : World} {B : Nat → Prop} {x y z : Value} {A : Wal} (h : WalAt w B x y z A) (hf : WForm A) : ∃ b o c, z = .slice (some ⟨b, o, none⟩) 3 c ∧ c ≤ maxLen ∧ CellsAt w (some ⟨b, o, none⟩) (ints A.U) := by
  obtain ⟨b, o, c, rfl, hm, _, h2⟩ := h.u
  refine ⟨b, o, c, rfl, hm, ?_⟩
  intro j v hj
  have hl := hf.lenU
  have hj3 : j < 3 := by have := (List.getElem?_eq_some_iff.1 hj).1; simp only [ints, List.length_map] at this; omega
  rw [ints_get _ j (by omega)] at hj
  cases hj
  exact ⟨b, o, rfl, h2 j hj3⟩

theorem concat_pair (X U : List Int) (W : World) (a1 a2 : Option Addr) (c1 c2 : Nat) (hX : CellsAt W a1 (ints X)) (hU : CellsAt W a2 (ints U)) (h1 : a1 = none → c1 = 0) (h2 : a2 = none → c2 = 0) (hl1 : X.length ≤ 100000) (hl2 : U.length ≤ 100000) :
    Calls Tryd.prog 70 #[.slice (some ⟨W.heap.size, 0, none⟩) 2 2] (W.alloc (.cells #[.slice a1 X.length c1, .slice a2 U.length c2] 22)) fun e w' => ∃ v, e = .returned v ∧ w'.ownsRow W.heap.size 3 1 v (X ++ U).length (ints (X ++ U)) ∧ W.grownBy w' none := by
  refine (concat_two X U W.heap.size 2 a1 a2 c1 c2 _ (made_cell (gr_refl _ _) 0 rfl) (made_cell (gr_refl _ _) 1 rfl) (hX.alloc _) (hU.alloc _) h1 h2 hl1 hl2).mono ?_
  rintro e w' ⟨v, rfl, ho, hg⟩
  exact ⟨v, rfl, own_base ho (by simp), gr_trans (gr_alloc (gr_refl _ _) _) hg⟩

set_option maxRecDepth 100000 in
set_option maxHeartbeats 4000000 in
theorem checkWallet_ok (x y z : Value) (A : Wal) (X : Int) (B : Nat → Prop) (w : World) (ha : WalAt w B x y z A) (hok : WOk A X) (hX : X ≤ 1000000000) :
    Calls Tryd.prog 32 #[.agg #[x, y, z]] w fun e w' => e = .returned (.int .i64 0) ∧ w.grownBy w' none := by
  have hg1 := gr_alloc (gr_refl w none) (.cells #[x, y, z] 29)
  have ha1 := ha.keep0 hg1
  obtain ⟨w1, hw1⟩ : ∃ w1, w1 = w.alloc (.cells #[x, y, z] 29) := ⟨_, rfl⟩
  have p0 : w1.cell? ⟨w.heap.size, 0, none⟩ = some x := by rw [hw1]; exact made_cell (gr_refl _ _) 0 rfl
  have p1 : w1.cell? ⟨w.heap.size, 1, none⟩ = some y := by rw [hw1]; exact made_cell (gr_refl _ _) 1 rfl
  have p2 : w1.cell? ⟨w.heap.size, 2, none⟩ = some z := by rw [hw1]; exact made_cell (gr_refl _ _) 2 rfl
  have hlt1 : w.heap.size < w1.heap.size := by rw [hw1]; simp
  rw [← hw1] at hg1 ha1
  have HF := Lib.hid hok.form
  have HOK := Lib.hid hok
  have HA := Lib.hid ha1
  obtain ⟨sb, so, sc, rfl, _, _, hs⟩ := ha1.s
  obtain ⟨rb, ro, rc, rfl, hrc, _, hr⟩ := ha1.r
  obtain ⟨ub, uo, uc, rfl, huc, hu⟩ := ha1.used hok.form
  have HS := Lib.hid hs
  clear ha hok ha1 hs hr
  go_enter Tryd.func32, Tryd.ntmps32
  go_wp2_with (fail)
  rw [← hw1]
  clear hw1
  go_wp2_with (fail)
  refine (sites_ok sb so sc w1 HS.out).mono ?_
  rintro e w' ⟨rfl, rfl⟩
  have hn1 := made_cell (gr_refl (w1.alloc (.cells #[.int .i64 3] 3)) none) 0 (v := .int .i64 3) rfl
  have hg2 := gr_alloc (gr_refl w1 none) (.cells #[.int .i64 3] 3)
  obtain ⟨w2, hw2⟩ : ∃ w2, w2 = w1.alloc (.cells #[.int .i64 3] 3) := ⟨_, rfl⟩
  rw [← hw2] at hn1 hg2
  have ha2 := HA.out.keep0 hg2
  obtain ⟨_, _, _, he, _, _, hr2⟩ := ha2.r
  cases he
  have q0 := (gr_cell hg2 (lt_of_cell p0)).trans p0
  have q1 := (gr_cell hg2 (lt_of_cell p1)).trans p1
  have q2 := (gr_cell hg2 (lt_of_cell p2)).trans p2
  obtain ⟨_, o30, _, d30, _, _, _⟩ := hr2 0 (by omega)
  have hsl : ∃ xs : List (Option Addr × Nat × Nat), xs.length = 3 ∧ CellsAt w2 (some ⟨rb, ro, none⟩) (flat encSl xs) ∧ ∀ x ∈ xs, x.2.1 = 3 := by
    obtain ⟨b3, o3, c3, d3, _⟩ := hr2 0 (by omega)
    obtain ⟨b4, o4, c4, d4, _⟩ := hr2 1 (by omega)
    obtain ⟨b5, o5, c5, d5, _⟩ := hr2 2 (by omega)
    refine ⟨[(some ⟨b3, o3, none⟩, 3, c3), (some ⟨b4, o4, none⟩, 3, c4), (some ⟨b5, o5, none⟩, 3, c5)], rfl, ?_, ?_⟩
    · intro j v hj
      have hj3 : j < 3 := by have := (List.getElem?_eq_some_iff.1 hj).1; simpa [flat, encSl] using this
      obtain rfl | rfl | rfl : j = 0 ∨ j = 1 ∨ j = 2 := by omega
      · cases hj; exact ⟨rb, ro, rfl, d3⟩
      · cases hj; exact ⟨rb, ro, rfl, d4⟩
      · cases hj; exact ⟨rb, ro, rfl, d5⟩
    · intro x hx
      simp only [List.mem_cons, List.not_mem_nil, or_false] at hx
      rcases hx with rfl | rfl | rfl <;> rfl
  obtain ⟨xs, hxl, hxc, hx3⟩ := hsl
  have C1 := containsFunc_sl 68 w1.heap.size (fun _ => false) xs (some ⟨rb, ro, none⟩) rc w2 hxc (by omega) check1_fn (fun x hx w1' h => check1_any x 3 w1.heap.size w1' ((gr_cell h (lt_of_cell hn1)).trans hn1) (hx3 x hx))
  rw [hxl] at C1
  have hany : xs.any (fun _ => false) = false := by simp
  rw [hany] at C1
  have HC1 := Lib.hid C1
  clear C1 hany hxl hxc hx3 d30
  have hnn : ((3 : Int) != 3) = false := rfl
  go_wp2_with (fail)
  rw [← hw2]
  clear hw2
  refine HC1.out.mono ?_
  rintro e w3 ⟨rfl, hg3⟩
  have ha3 := ha2.keep0 hg3
  have s0 := (gr_cell hg3 (lt_of_cell q0)).trans q0
  have s1 := (gr_cell hg3 (lt_of_cell q1)).trans q1
  have s2 := (gr_cell hg3 (lt_of_cell q2)).trans q2
  have hg13 := gr_trans hg2 hg3
  have HA3 := Lib.hid ha3
  clear HC1 ha2 ha3 q0 q1 q2 p0 p1 p2 hg2 hg3 hn1 hr2
  go_wp2_with (fail)
  obtain ⟨_, _, _, he, hrows⟩ := HA3.out.rows HF.out
  cases he
  have CON := concat_rows A.T rb ro rc w3.drew (by
    intro i hi
    obtain ⟨ra, rc2, h1, h2, h3⟩ := hrows i (by have := HF.out.lenT; omega)
    exact ⟨ra, rc2, h1, h2.keep0 (gr_drew (gr_refl _ _)), h3⟩) (by rw [wal_len HF.out]; omega) (by rw [HF.out.lenT]; omega)
  rw [HF.out.lenT, wal_len HF.out] at CON
  have CON1 := Lib.hid CON
  have hu3 := hu.keep0 (gr_trans hg13 (gr_drew (gr_refl _ _)))
  have hUl := HF.out.lenU
  have hTl := wal_len HF.out
  have hmem := wal_mem HOK.out
  obtain ⟨Y, hY⟩ : ∃ Y, Y = A.T.flatten := ⟨_, rfl⟩
  obtain ⟨U, hU⟩ : ∃ U, U = A.U := ⟨_, rfl⟩
  rw [← hY] at CON1 hTl hmem
  rw [← hU] at hu3 hUl hmem
  have hany : (Y ++ U).any (fun x => decide (x < 0) || decide (1000000000 < x)) = false := by
    rw [List.any_eq_false]
    intro x hx
    have := hmem x hx
    simp; omega
  have HANY := Lib.hid hany
  have HUL := Lib.hid hUl
  have HTL := Lib.hid hTl
  have hgd := gr_drew (gr_refl w3 none)
  have CK := Lib.hid (fun (W : World) (a1 a2 : Option Addr) (c1 c2 : Nat) (h1 : CellsAt W a1 (ints Y)) (h2 : CellsAt W a2 (ints U)) (h3 : a1 = none → c1 = 0) (h4 : a2 = none → c2 = 0) => concat_pair Y U W a1 a2 c1 c2 h1 h2 h3 h4 (by omega) (by omega))
  rw [hTl, hUl, List.length_append, hTl, hUl] at CK
  have CF := Lib.hid (fun (W : World) (a1 : Option Addr) (c1 : Nat) (h1 : CellsAt W a1 (ints (Y ++ U))) => containsFunc_int 71 (fun x => decide (x < 0) || decide (1000000000 < x)) (Y ++ U) a1 c1 W h1 (by rw [List.length_append]; omega) check2_fn (fun x _ w1 _ => (check2_any x w1).mono (by rintro e w2 ⟨rfl, rfl⟩; exact ⟨rfl, gr_refl _ _⟩)))
  rw [List.length_append, hTl, hUl, hany, show 9 + 3 = 12 from rfl] at CF
  clear CON hY hU hany hUl hTl hmem hu hrows
  go_cut [40] from 33 to 40 (fun s wx => s = .bool false ∧ w3.grownBy wx none)
  case first =>
    go_region_held3 (fun w' => w'.cell? ⟨w.heap.size, 1, none⟩ = some (.slice (some ⟨rb, ro, none⟩) 3 rc) ∧ w'.cell? ⟨w.heap.size, 2, none⟩ = some (.slice (some ⟨ub, uo, none⟩) 3 uc))
      (first | exact ⟨s1, s2⟩ | exact ⟨t1, t2⟩ | exact ⟨cellA t1 _, cellA t2 _⟩ | exact ⟨x1, x2⟩ | exact ⟨z1, z2⟩)
      (first | (go_at_call 70; (with_reducible refine CON1.out.mono ?_); rintro e w5 ⟨v5, rfl, hown5, hg5'⟩; obtain ⟨g5, c5, rfl, _, _, _, _⟩ := own_some hown5 (by omega); obtain ⟨_, _, he5, _, _, hc5, _⟩ := own_shape hown5; cases he5; have hg5 := gr_trans hgd hg5'; have t1 := (gr_cell hg5 (lt_of_cell s1)).trans s1; have t2 := (gr_cell hg5 (lt_of_cell s2)).trans s2; have hu5 := hu3.keep0 hg5')
             | (go_at_call 70; revert t1; intro t1; (with_reducible refine (CK.out w5 _ _ _ _ hc5 hu5 (fun h => by cases h) (fun h => by cases h)).mono ?_); rintro e w6 ⟨v6, rfl, hown6, hg6⟩; obtain ⟨g6, c6, rfl, _, _, _, _⟩ := own_some hown6 (by omega); obtain ⟨_, _, he6, _, _, hc6, _⟩ := own_shape hown6; cases he6; have x1 := (gr_cell hg6 (lt_of_cell t1)).trans t1; have x2 := (gr_cell hg6 (lt_of_cell t2)).trans t2)
             | (go_at_call 69; (with_reducible refine (CF.out w6 _ _ hc6).mono ?_); rintro e w7 ⟨rfl, hg7⟩; have z1 := (gr_cell hg7 (lt_of_cell x1)).trans x1; have z2 := (gr_cell hg7 (lt_of_cell x2)).trans x2)
             | fail)
    all_goals (go_wp2_with (fail))
    all_goals (go_meet; exact ⟨rfl, gr_trans (gr_trans hg5 hg6) hg7⟩)
  case rest =>
  obtain ⟨rfl, hgc⟩ := hcut
  have p0 := (gr_cell hgc (lt_of_cell s0)).trans s0
  have p1 := (gr_cell hgc (lt_of_cell s1)).trans s1
  have p2 := (gr_cell hgc (lt_of_cell s2)).trans s2
  have HA4 := Lib.hid (HA3.out.keep0 hgc)
  have hgr := gr_trans hg1 (gr_trans hg13 hgc)
  clear s0 s1 s2 hgd hu3 hgc hg13 CON1 CK CF
  go_wp2_with (fail)
  go_loopw [44] (fun j wr => ∃ m : Nat, m ≤ 3 ∧ j = .int .i64 m ∧ wc.grownBy wr none) (fun j _ => 3 - (intOf j).toNat)
  case atStart => exact ⟨0, by omega, rfl, gr_refl _ _⟩
  case round =>
    obtain ⟨m, hm, rfl, hgo⟩ := hrel
    obtain ⟨wo, rfl⟩ : ∃ wo : World, wo = wr := ⟨_, rfl⟩
    by_cases hlt : m < 3
    · have p0' := (gr_cell hgo (lt_of_cell p0)).trans p0
      have p1' := (gr_cell hgo (lt_of_cell p1)).trans p1
      have p2' := (gr_cell hgo (lt_of_cell p2)).trans p2
      have hge := HOK.out.ge m hlt
      have RT := Lib.hid (rights_any _ _ _ A B m wo (HA4.out.keep0 hgo) hlt (fun i j hi hj => by have := HOK.out.r0 i j hi hj; omega) (fun i hi => by have := HOK.out.u0 i hi; omega))
      obtain ⟨r, hr⟩ : ∃ r, r = rightsTo A m 3 := ⟨_, rfl⟩
      rw [← hr] at hge RT
      clear hr
      go_wp2_with (fail)
      refine RT.out.mono ?_
      rintro e w8 ⟨rfl, hg8⟩
      go_wp2_with (fail)
      go_roundw
      case rel => exact ⟨m + 1, by omega, by go_num, gr_trans hgo hg8⟩
      case measure => simp [intOf]; omega
    · go_wp2_with (fail)
      go_ret
      exact ⟨rfl, gr_trans hgr hgo⟩
end Go.Proofs.YtakabckmiodjaaaDoor

/-! Small functions of package depot: more, done; the places of sites. -/
namespace Go.Proofs.YtakabckmiodjaaaDoor
open Go.RowKit

theorem more_any (g o : Nat) (n cents : Int) (w : World) (hc : w.cell? ⟨g, o, none⟩ = some (.int .i64 n)) (hf : w.frozen? ⟨g, o, none⟩ = false) (h0 : 0 ≤ n) (h1 : 0 ≤ cents) (h2 : n + cents ≤ 1000000000) :
    Calls Tryd.prog 30 #[.pointer (some ⟨g, o, none⟩), .int .i64 cents] w fun e w' => e = .returned (.int .i64 0) ∧ w' = w.setCell ⟨g, o, none⟩ (.int .i64 (n + cents)) := by
  go_enter Tryd.func30, Tryd.ntmps30
  go_wp2_with (fail)
  go_ret
  exact ⟨rfl, rfl⟩
theorem done_ok (a1 a2 a3 : Option Addr) (n1 n2 n3 c1 c2 c3 : Nat) (w : World) : Calls Tryd.prog 29 #[.agg #[.slice a1 n1 c1, .slice a2 n2 c2, .slice a3 n3 c3], .int .i64 0] w fun e w' => e = .returned (.tuple #[.agg #[.slice a1 n1 c1, .slice a2 n2 c2, .slice a3 n3 c3], .int .i64 0]) ∧ w.grownBy w' none := by
  obtain ⟨dt, hd1⟩ := und_parts (P := Tryd.prog) (t := 29) (by kernel_rfl)
  go_enter Tryd.func29, Tryd.ntmps29
  go_wp2_with (fail)
  refine bodyPost_ret (results_cell_slot (p := 4) (q := 5) (by kernel_rfl) _ _ (w.heap.size + 1) 29 #[.slice a1 n1 c1, .slice a2 n2 c2, .slice a3 n3 c3] (0, 0) (.struct dt) _ rfl rfl (by simpa using heap_alloc_new (w.alloc (.cells #[.slice a1 n1 c1, .slice a2 n2 c2, .slice a3 n3 c3] 29)) (.cells #[.slice a1 n1 c1, .slice a2 n2 c2, .slice a3 n3 c3] 29)) hd1 rfl (by kernel_rfl)) rfl ⟨rfl, ?_⟩
  exact gr_alloc (gr_alloc (gr_refl w none) _) _
theorem index_site (b o c i : Nat) (w : World) (hs : ∀ i, i < 3 → w.cell? ⟨b, o + i, none⟩ = some (siteV i)) (hi : i < 3) :
    Calls Tryd.prog 60 #[.slice (some ⟨b, o, none⟩) 3 c, siteV i] w fun e w' => e = .returned (.int .i64 i) ∧ w = w' := by
  have h0 : w.cell? ⟨b, o, none⟩ = some (.string { data := #[97] }) := hs 0 (by omega)
  have h1 : w.cell? ⟨b, o + 1, none⟩ = some (.string { data := #[98] }) := hs 1 (by omega)
  have h2 : w.cell? ⟨b, o + 2, none⟩ = some (.string { data := #[99] }) := hs 2 (by omega)
  clear hs
  obtain rfl | rfl | rfl : i = 0 ∨ i = 1 ∨ i = 2 := by omega
  · show Calls _ _ #[_, .string { data := #[97] }] _ _
    go_enter Tryd.func60, Tryd.ntmps60
    go_wp2_with (fail)
    go_loop [8] (fun i => i = .int .i64 0) (fun i => 3 - (intOf i).toNat)
    case atStart => rfl
    case round =>
      subst hrel
      go_wp2_with (fail)
      go_ret
      exact ⟨rfl, rfl⟩
  · show Calls _ _ #[_, .string { data := #[98] }] _ _
    go_enter Tryd.func60, Tryd.ntmps60
    go_wp2_with (fail)
    go_loop [8] (fun i => i = .int .i64 0 ∨ i = .int .i64 1) (fun i => 3 - (intOf i).toNat)
    case atStart => exact .inl rfl
    case round =>
      rcases hrel with rfl | rfl
      · go_wp2_with (fail)
        go_round
        case rel => exact .inr (by go_num)
        case measure => simp [intOf]
      · go_wp2_with (fail)
        go_ret
        exact ⟨rfl, rfl⟩
  · show Calls _ _ #[_, .string { data := #[99] }] _ _
    go_enter Tryd.func60, Tryd.ntmps60
    go_wp2_with (fail)
    go_loop [8] (fun i => i = .int .i64 0 ∨ i = .int .i64 1 ∨ i = .int .i64 2) (fun i => 3 - (intOf i).toNat)
    case atStart => exact .inl rfl
    case round =>
      rcases hrel with rfl | rfl | rfl
      · go_wp2_with (fail)
        go_round
        case rel => exact .inr (.inl (by go_num))
        case measure => simp [intOf]
      · go_wp2_with (fail)
        go_round
        case rel => exact .inr (.inr (by go_num))
        case measure => simp [intOf]
      · go_wp2_with (fail)
        go_ret
        exact ⟨rfl, rfl⟩
end Go.Proofs.YtakabckmiodjaaaDoor

/-! depot.places: the numbers of sites. -/
namespace Go.Proofs.YtakabckmiodjaaaDoor
open Go.RowKit

def PlacesPost (L : List Nat) (w : World) (e : Ending) (w' : World) : Prop := ∃ v, e = .returned (.tuple #[v, .int .i64 0]) ∧ w'.ownsRow w.heap.size 3 1 v L.length (ints (L.map fun n : Nat => (n : Int))) ∧ w.grownBy w' none

set_option maxRecDepth 100000 in
set_option maxHeartbeats 2000000 in
theorem places_any (x y z : Value) (A : Wal) (X : Int) (B : Nat → Prop) (L : List Nat) (g c : Nat) (w : World) (ha : WalAt w B x y z A) (hok : WOk A X) (hX : X ≤ 1000000000) (hL : ∀ i ∈ L, i < 3) (hc : ∀ k, k < L.length → w.cell? ⟨g, k, none⟩ = some (siteV (L.getD k 0))) (hl : L.length ≤ 10) (hl0 : 0 < L.length) :
    Calls Tryd.prog 26 #[.agg #[x, y, z], .slice (some ⟨g, 0, none⟩) L.length c] w (PlacesPost L w) := by
  have hg1 := gr_alloc (gr_refl w none) (.cells #[x, y, z] 29)
  have ha1 := ha.keep0 hg1
  obtain ⟨w1, hw1⟩ : ∃ w1, w1 = w.alloc (.cells #[x, y, z] 29) := ⟨_, rfl⟩
  have p0 : w1.cell? ⟨w.heap.size, 0, none⟩ = some x := by rw [hw1]; exact made_cell (gr_refl _ _) 0 rfl
  have p1 : w1.cell? ⟨w.heap.size, 1, none⟩ = some y := by rw [hw1]; exact made_cell (gr_refl _ _) 1 rfl
  have p2 : w1.cell? ⟨w.heap.size, 2, none⟩ = some z := by rw [hw1]; exact made_cell (gr_refl _ _) 2 rfl
  rw [← hw1] at hg1 ha1
  have CW := Lib.hid (checkWallet_ok x y z A X B w1 ha1 hok hX)
  have HA := Lib.hid ha1
  obtain ⟨sb, so, sc, rfl, _, _, _⟩ := ha1.s
  obtain ⟨rb, ro, rc, rfl, hrc, _, _⟩ := ha1.r
  obtain ⟨ub, uo, uc, rfl, huc, _, _⟩ := ha1.u
  have HC := Lib.hid hc
  have HL := Lib.hid hL
  clear ha hok ha1 hc hL
  go_enter Tryd.func26, Tryd.ntmps26
  go_wp2_with (fail)
  rw [← hw1]
  clear hw1
  go_wp2_with (fail)
  refine CW.out.mono ?_
  rintro e w2 ⟨rfl, hg2⟩
  have hgr2 := gr_trans hg1 hg2
  have q0 := (gr_cell hg2 (lt_of_cell p0)).trans p0
  have HA2 := Lib.hid (HA.out.keep0 hg2)
  clear p0 p1 p2 hg2 hg1 CW
  go_wp2_with (fail)
  go_loopw [7, 18] (fun v i wr => ∃ k : Nat, k ≤ L.length ∧ i = .int .i64 k ∧ wr.ownsRow w2.heap.size 3 1 v k (ints ((L.take k).map fun n : Nat => (n : Int))) ∧ w2.grownBy wr none) (fun _ i _ => L.length - (intOf i).toNat)
  case atStart => exact ⟨0, Nat.zero_le _, rfl, World.ownsRow_nil _ _ _ _, gr_refl _ _⟩
  case round =>
    obtain ⟨k, hk, rfl, hown, hgr⟩ := hrel
    obtain ⟨wo, rfl⟩ : ∃ wo : World, wo = wr := ⟨_, rfl⟩
    by_cases hlt : k < L.length
    · have c0 := HC.out k hlt
      have c1 := (gr_cell (gr_trans hgr2 hgr) (lt_of_cell c0)).trans c0
      have hi3 : L.getD k 0 < 3 := HL.out _ (by rw [List.getD_eq_getElem?_getD, List.getElem?_eq_getElem hlt]; exact List.getElem_mem hlt)
      have hnx : (L.take (k + 1)).map (fun n : Nat => (n : Int)) = (L.take k).map (fun n : Nat => (n : Int)) ++ [((L.getD k 0 : Nat) : Int)] := by
        rw [List.take_succ_eq_append_getElem hlt, List.map_append, List.getD_eq_getElem?_getD, List.getElem?_eq_getElem hlt]; rfl
      have q0' := (gr_cell hgr (lt_of_cell q0)).trans q0
      obtain ⟨_, _, _, he, _, _, hs⟩ := (HA2.out.keep0 hgr).s
      cases he
      obtain ⟨i, hi⟩ : ∃ i, i = L.getD k 0 := ⟨_, rfl⟩
      rw [← hi] at c1 hi3 hnx
      have IX := Lib.hid (index_site sb so sc i wo hs hi3)
      have HNX := Lib.hid hnx
      have hszo := hgr.size
      have hsv : (siteV i).oneCell' = true := by unfold siteV; split; rfl; split <;> rfl
      clear hs hi hnx c0
      go_wp2_with (fail)
      refine IX.out.mono ?_
      rintro e w' ⟨rfl, rfl⟩
      go_wp2_with (at_builtin; refine wpList_app1 eInt rfl _ _ rfl w2.heap.size _ k _ rfl wo #[.int .i64 i] rfl hown _ rfl rfl rfl rfl ?_ ?_ ?_; (· omega); (· omega); intro v6 w6 hown6 hg6 hlt6)
      go_wp2_with (fail)
      go_roundw
      case rel =>
        refine ⟨k + 1, by omega, by go_num, ?_, ?_⟩
        · rw [HNX.out]
          simpa [ints] using hown6
        · exact gr_grown hgr hg6 hlt6
      case measure => simp [intOf]; omega
    · have hkl : k = L.length := by omega
      rw [hkl, List.take_length] at hown
      clear hkl
      go_wp2_with (fail)
      go_ret2
      exact ⟨_, rfl, own_base hown hgr2.size, gr_trans hgr2 hgr⟩
end Go.Proofs.YtakabckmiodjaaaDoor
