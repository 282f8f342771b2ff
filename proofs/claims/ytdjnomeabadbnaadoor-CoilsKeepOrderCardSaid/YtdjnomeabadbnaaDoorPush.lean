/- Pieces are pushed into a coil. -/
import Derived.Test.YtdjnomeabadbnaaDoorSell
import Derived.Test.YtdjnomeabadbnaaDoorPushF
namespace Go.Proofs.YtdjnomeabadbnaaDoor
open Go.RowKit
attribute [local go_sem ↓] Go.wp_at_zero Go.wp_at_succ

theorem nil_of_cells {w : World} {a : Option Addr} {ps : List Piece} (h : CellsAt w a (flat encPc ps)) (e : a = none) : ps.length = 0 := by
  subst e
  cases ps with
  | nil => rfl
  | cons x xs => obtain ⟨_, _, e, _⟩ := h 0 (.string x.lot) rfl; cases e
set_option maxRecDepth 100000 in
set_option maxHeartbeats 4000000 in
theorem push_any (co : Coil) (a : Option Addr) (c : Nat) (xs : List Lot) (xa : Option Addr) (xc : Nat) (p : List Piece) (pa : Option Addr) (pc : Nat) (w : World) (h : CellsAt w a (flat encPc co.ps)) (hnil : a = none → c = 0) (hsm : CoilSm co) (hx : CellsAt w xa (flat encLot xs)) (hok : LotsOk xs) (hp : CellsAt w pa (flat encPc p)) (hpn : pa = none → pc = 0) (hps : PcsSm p) (hpo : PushOk co xs p) :
    Calls Tryd.prog 43 #[.agg #[.string co.prod, .int .i64 co.most, .slice a co.ps.length c], .slice xa xs.length xc, .slice pa p.length pc] w fun e w' => ∃ v, e = .returned (.tuple #[.agg #[.string co.prod, .int .i64 co.most, v], .int .i64 0]) ∧
      w'.ownsRow w.heap.size 94 2 v (joinL (co.ps ++ p)).length (flat encPc (joinL (co.ps ++ p))) ∧ w.grownBy w' none := by
  have FF : Hid (∀ W, w.grownBy W none → Calls Tryd.prog 103 #[.agg #[.string co.prod, .int .i64 co.most, .slice a co.ps.length c], .slice xa xs.length xc, .slice pa p.length pc] W fun e w' => e = .returned (.int .i64 0) ∧ W.grownBy w' none) := fun W g =>
    (pushFault_any co a c xs xa xc p pa pc W (h.keep0 g) hsm (hx.keep0 g) hok (hp.keep0 g) hps).mono fun e w' ⟨r, he, hr, hg⟩ => by rw [hr.2 hpo] at he; exact ⟨he, hg⟩
  have CC : Hid (∀ (b k : Nat) (W : World), w.grownBy W none → W.cell? ⟨b, 0, none⟩ = some (.slice a co.ps.length c) → W.cell? ⟨b, 1, none⟩ = some (.slice pa p.length pc) → Calls Tryd.prog 105 #[.slice (some ⟨b, 0, none⟩) 2 k] W fun e w' => ∃ v, e = .returned v ∧ w'.ownsRow W.heap.size 94 2 v (co.ps ++ p).length (flat encPc (co.ps ++ p)) ∧ W.grownBy w' none) := fun b k W g d0 d1 =>
    concatPc co.ps p b k a pa c pc W d0 d1 (h.keep0 g) (hp.keep0 g) hnil hpn (by have := hsm.len; omega) (by have := hps.len; omega)
  have hl : (co.ps ++ p).length ≤ 100000 := by rw [List.length_append]; have := hsm.len; have := hps.len; omega
  have JJ : Hid (∀ (u : Option Addr) (k : Nat) (W : World), CellsAt W u (flat encPc (co.ps ++ p)) → Calls Tryd.prog 104 #[.slice u (co.ps ++ p).length k] W fun e w' => ∃ v, e = .returned v ∧ w'.ownsRow W.heap.size 94 2 v (joinL (co.ps ++ p)).length (flat encPc (joinL (co.ps ++ p))) ∧ W.grownBy w' none) := fun u k W hc =>
    joined_any _ u k W hc hl (fun x hx => by
      rcases List.mem_append.1 hx with hx | hx
      · exact hsm.all x hx
      · exact hps.all x hx)
  obtain ⟨P, m, ps⟩ := co
  simp only at FF CC JJ hl ⊢
  obtain ⟨Z, hZ⟩ : ∃ Z, Z = ps ++ p := ⟨_, rfl⟩
  rw [← hZ] at CC JJ hl
  rw [← hZ]
  obtain ⟨J, hJ⟩ : ∃ J, J = joinL Z := ⟨_, rfl⟩
  rw [← hJ] at JJ
  rw [← hJ]
  obtain ⟨k, hk⟩ : ∃ k, k = ps.length := ⟨_, rfl⟩
  rw [← hk] at FF CC
  rw [← hk]
  obtain ⟨kp, hkp⟩ : ∃ k, k = p.length := ⟨_, rfl⟩
  rw [← hkp] at FF CC
  rw [← hkp]
  obtain ⟨kx, hkx⟩ : ∃ k, k = xs.length := ⟨_, rfl⟩
  rw [← hkx] at FF
  rw [← hkx]
  clear hZ hJ hk hkp hkx h hnil hsm hx hok hp hpn hps hpo
  obtain ⟨dt, hd1⟩ := und_struct (P := Tryd.prog) (t := 83) (by kernel_rfl)
  have HD := Lib.hid hd1
  clear hd1
  have hO := (heap_2 w (.cells #[.string P, .int .i64 m, .slice a k c] 83) (.cells #[.string ⟨#[]⟩, .int .i64 0, .slice none 0 0] 83)).1
  have hR := (heap_2 w (.cells #[.string P, .int .i64 m, .slice a k c] 83) (.cells #[.string ⟨#[]⟩, .int .i64 0, .slice none 0 0] 83)).2
  have hg := gr_alloc (gr_alloc (gr_refl w none) (.cells #[.string P, .int .i64 m, .slice a k c] 83)) (.cells #[.string ⟨#[]⟩, .int .i64 0, .slice none 0 0] 83)
  obtain ⟨w1, hw1⟩ : ∃ w1, w1 = (w.alloc (.cells #[.string P, .int .i64 m, .slice a k c] 83)).alloc (.cells #[.string ⟨#[]⟩, .int .i64 0, .slice none 0 0] 83) := ⟨_, rfl⟩
  rw [← hw1] at hO hR hg
  obtain ⟨B, hB⟩ : ∃ B, B = w.heap.size := ⟨_, rfl⟩
  rw [← hB] at hO hR
  have HW := Lib.hid hw1
  have HB := Lib.hid hB
  have HO := Lib.hid hO
  have HR := Lib.hid hR
  have HG := Lib.hid hg
  have c0 := blkC hO 0 rfl
  have c1 : w1.cell? ⟨B, 1, none⟩ = some (.int .i64 m) := blkC hO 1 rfl
  have c2 : w1.cell? ⟨B, 2, none⟩ = some (.slice a k c) := blkC hO 2 rfl
  clear hw1 hB hO hR hg
  go_enter Tryd.func43, Tryd.ntmps43
  go_wp2_with (fail)
  rw [← HW.out, ← HB.out]
  refine (FF.out w1 HG.out).mono ?_
  rintro e w2 ⟨rfl, g2⟩
  have HG2 := Lib.hid (gr_trans HG.out g2)
  have HO2 := Lib.hid ((g2.block B (lt_of_block HO.out) (by simp)).trans HO.out)
  have HR2 := Lib.hid ((g2.block (B + 1) (lt_of_block HR.out) (by simp)).trans HR.out)
  have c0 := blkC HO2.out 0 rfl
  have c2 : w2.cell? ⟨B, 2, none⟩ = some (.slice a k c) := blkC HO2.out 2 rfl
  clear g2 HG HO HR HW
  go_wp2_with (fail)
  have hA := heap_alloc_new w2 (.cells #[.slice a k c, .slice pa kp pc] 81)
  have gA := gr_alloc (gr_refl w2 none) (.cells #[.slice a k c, .slice pa kp pc] 81)
  obtain ⟨w3, hw3⟩ : ∃ w3, w3 = w2.alloc (.cells #[.slice a k c, .slice pa kp pc] 81) := ⟨_, rfl⟩
  rw [← hw3] at hA gA
  rw [← hw3]
  refine (CC.out _ _ w3 (gr_trans HG2.out gA) (blkC hA 0 rfl) (blkC hA 1 rfl)).mono ?_
  rintro e w4 ⟨v4, rfl, o4, g4⟩
  obtain ⟨va, vc, rfl, -, -, cv, -⟩ := own_shape o4
  have CV := Lib.hid cv
  have g24 := gr_trans gA g4
  have HG4 := Lib.hid (gr_trans HG2.out g24)
  have HO4 := Lib.hid ((g24.block B (lt_of_block HO2.out) (by simp)).trans HO2.out)
  have HR4 := Lib.hid ((g24.block (B + 1) (lt_of_block HR2.out) (by simp)).trans HR2.out)
  clear hw3 hA gA o4 cv g4 g24 HG2 HO2 HR2
  go_wp2_with (fail)
  refine (JJ.out _ _ w4 CV.out).mono ?_
  rintro e wo ⟨v5, rfl, o5, g5⟩
  obtain ⟨za, zc, rfl, -, -, -, -⟩ := own_shape o5
  have hz4 := HG4.out.size
  have HOWN := Lib.hid (own_base o5 (show B + 2 ≤ w4.heap.size by have := lt_of_block HR4.out; omega))
  have HGO := Lib.hid (gr_trans HG4.out g5)
  have HOo := Lib.hid ((g5.block B (lt_of_block HO4.out) (by simp)).trans HO4.out)
  have HRo := Lib.hid ((g5.block (B + 1) (lt_of_block HR4.out) (by simp)).trans HR4.out)
  have q0 := blkC HOo.out 0 rfl
  have q1 : wo.cell? ⟨B, 1, none⟩ = some (.int .i64 m) := blkC HOo.out 1 rfl
  have q2 : wo.cell? ⟨B, 2, none⟩ = some (.slice a k c) := blkC HOo.out 2 rfl
  have p0 := blkF HOo.out 0
  have p1 := blkF HOo.out 1
  have p2 := blkF HOo.out 2
  have s0 := blkC HRo.out 0 rfl
  have s1 : wo.cell? ⟨B + 1, 1, none⟩ = some (.int .i64 0) := blkC HRo.out 1 rfl
  have s2 : wo.cell? ⟨B + 1, 2, none⟩ = some (.slice none 0 0) := blkC HRo.out 2 rfl
  have t0 := blkF HRo.out 0
  have t1 := blkF HRo.out 1
  have t2 := blkF HRo.out 2
  clear o5 g5 HO4 HR4
  go_wp2_with (fail)
  have hR7 := (Below.heap_setCell wo ⟨B, 2, none⟩ (.slice za J.length zc) (B + 1) (by simp)).trans HRo.out
  have hR8 := set3R_heap hR7 (.string P) (.int .i64 m) (.slice za J.length zc)
  have gA : w.grownBy (wo.setCell ⟨B, 2, none⟩ (.slice za J.length zc)) none := gr_new HGO.out (by have := HB.out; simp only; omega) _
  have gB := gr_grown gA (set3R_gr (wo.setCell ⟨B, 2, none⟩ (.slice za J.length zc)) (B + 1) (.string P) (.int .i64 m) (.slice za J.length zc)) (fun q e => by have := HB.out; cases e; omega)
  have gC : wo.grownBy (wo.setCell ⟨B, 2, none⟩ (.slice za J.length zc)) (some B) := gr_set (gr_refl _ _) rfl _
  have gD := set3R_gr (wo.setCell ⟨B, 2, none⟩ (.slice za J.length zc)) (B + 1) (.string P) (.int .i64 m) (.slice za J.length zc)
  have hBw := HB.out
  have own8 := own_keepS (own_keepS HOWN.out gC (by omega)) gD (by omega)
  refine bodyPost_ret (results_cell_slot (p := 6) (q := 7) (by kernel_rfl) _ _ (B + 1) _ #[.string P, .int .i64 m, .slice za J.length zc] _ (.struct dt) _ rfl rfl hR8 HD.out rfl (by kernel_rfl)) rfl ⟨_, rfl, ?_, gB⟩
  exact own_base own8 (by omega)
end Go.Proofs.YtdjnomeabadbnaaDoor
