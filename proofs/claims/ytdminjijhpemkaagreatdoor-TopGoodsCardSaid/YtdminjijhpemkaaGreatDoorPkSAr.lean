/- A coil is rotated. -/
import Derived.Test.YtdminjijhpemkaaGreatDoorPkSAn
import Derived.Test.YtdminjijhpemkaaGreatDoorPkSAq
namespace Go.Proofs.YtdminjijhpemkaaGreatDoor
open Go.RowKit
attribute [local go_sem ↓] Go.wp_at_zero Go.wp_at_succ

theorem CellsAt.keepNew {w w1 : World} {a : Option Addr} {xs : List Value} {r : Option Nat} (h : CellsAt w a xs) (g : w.grownBy w1 r) (hr : ∀ q, r = some q → w.heap.size ≤ q) : CellsAt w1 a xs := by
  intro j x hx
  obtain ⟨b, off, ha, hc⟩ := h j x hx
  exact ⟨b, off, ha, g.cell hc (fun e => by have := lt_of_cell hc; have := hr b e.symm; omega)⟩
theorem rot1_fn : ∀ (args : Array Value) (w : World), (callFunc 49 args).run Tryz.prog w = .ok (.enter 49 args) w := fun _ _ => by kernel_rfl
def RotPost (P : ByteArray) (m : Int) (xs : List Lot) (L : List Piece) (w : World) (e : Ending) (w' : World) : Prop :=
  ∃ v O, e = .returned (.tuple #[.agg #[.string P, .int .i64 m, v], .int .i64 0]) ∧ w'.ownsRow w.heap.size 53 2 v (joinL O).length (flat encPc (joinL O)) ∧ O.Perm L ∧ Srt (rotCm xs) ⟨⟨#[]⟩, 0⟩ O L.length ∧ w.grownBy w' none
set_option maxRecDepth 100000 in
set_option maxHeartbeats 4000000 in
theorem rotate_any (co : Coil) (a : Option Addr) (c : Nat) (xs : List Lot) (xa : Option Addr) (xc : Nat) (p : List Piece) (pa : Option Addr) (pc : Nat) (w : World) (h : CellsAt w a (flat encPc co.ps)) (hnil : a = none → c = 0) (hsm : CoilSm co) (hx : CellsAt w xa (flat encLot xs)) (hok : LotsOk xs) (hp : CellsAt w pa (flat encPc p)) (hpn : pa = none → pc = 0) (hps : PcsSm p) (hpo : PushOk co xs p) (hl20 : (co.ps ++ p).length < 20) (hkn : knownB xs co.ps = true) :
    Calls Tryz.prog 9 #[.agg #[.string co.prod, .int .i64 co.most, .slice a co.ps.length c], .slice xa xs.length xc, .slice pa p.length pc] w (RotPost co.prod co.most xs (co.ps ++ p) w) := by
  have hxl := hok.len
  have FF : Hid (∀ W, w.grownBy W none → Calls Tryz.prog 45 #[.agg #[.string co.prod, .int .i64 co.most, .slice a co.ps.length c], .slice xa xs.length xc, .slice pa p.length pc] W fun e w' => e = .returned (.int .i64 0) ∧ W.grownBy w' none) := fun W g =>
    (pushFault_any co a c xs xa xc p pa pc W (h.keep0 g) hsm (hx.keep0 g) hok (hp.keep0 g) hps).mono fun e w' ⟨r, he, hr, hg⟩ => by rw [hr.2 hpo] at he; exact ⟨he, hg⟩
  have SF : Hid (∀ W, w.grownBy W none → Calls Tryz.prog 46 #[.agg #[.string co.prod, .int .i64 co.most, .slice a co.ps.length c], .slice xa xs.length xc] W fun e w' => e = .returned (.bool false) ∧ W.grownBy w' none) := fun W g => by
    have := strange_any co a c xs xa xc W (h.keep0 g) (by have := hsm.len; omega) (hx.keep0 g) (by omega)
    rw [hkn] at this; exact this
  have CC : Hid (∀ (b k : Nat) (W : World), w.grownBy W none → W.cell? ⟨b, 0, none⟩ = some (.slice a co.ps.length c) → W.cell? ⟨b, 1, none⟩ = some (.slice pa p.length pc) → Calls Tryz.prog 47 #[.slice (some ⟨b, 0, none⟩) 2 k] W fun e w' => ∃ v, e = .returned v ∧ w'.ownsRow W.heap.size 53 2 v (co.ps ++ p).length (flat encPc (co.ps ++ p)) ∧ W.grownBy w' none) := fun b k W g d0 d1 =>
    concatPc co.ps p b k a pa c pc W d0 d1 (h.keep0 g) (hp.keep0 g) hnil hpn (by have := hsm.len; omega) (by have := hps.len; omega)
  have ALL : ∀ x ∈ co.ps ++ p, lotHas xs x.lot = true ∧ (x.lot.size ≤ 1000 ∧ -100000 ≤ x.many ∧ x.many ≤ 100000) := fun x hx' => by
    rcases List.mem_append.1 hx' with hx' | hx'
    · exact ⟨List.all_eq_true.1 hkn x hx', hsm.all x hx'⟩
    · obtain ⟨i, hi, rfl⟩ := List.getElem_of_mem hx'
      have := (hpo.fit i hi).has
      have e := pc_get p i hi
      exact ⟨by rw [e]; exact this, hps.all _ hx'⟩
  have JJ : Hid (∀ (O : List Piece) (u : Option Addr) (k : Nat) (W : World), O.Perm (co.ps ++ p) → CellsAt W u (flat encPc O) → Calls Tryz.prog 54 #[.slice u (co.ps ++ p).length k] W fun e w' => ∃ v, e = .returned v ∧ w'.ownsRow W.heap.size 53 2 v (joinL O).length (flat encPc (joinL O)) ∧ W.grownBy w' none) := fun O u k W hO hc => by
    rw [← hO.length_eq]
    exact joined_any _ u k W hc (by rw [hO.length_eq]; omega) (fun x hx' => (ALL x (hO.mem_iff.1 hx')).2)
  have ALL := Lib.hid ALL
  obtain ⟨P, m, ps⟩ := co
  simp only at FF SF CC JJ ALL hl20 ⊢
  obtain ⟨Z, hZ⟩ : ∃ Z, Z = ps ++ p := ⟨_, rfl⟩
  rw [← hZ] at CC JJ ALL hl20
  rw [← hZ]
  obtain ⟨k, hk⟩ : ∃ k, k = ps.length := ⟨_, rfl⟩
  rw [← hk] at FF SF CC
  rw [← hk]
  obtain ⟨kp, hkp⟩ : ∃ k, k = p.length := ⟨_, rfl⟩
  rw [← hkp] at FF CC
  rw [← hkp]
  have HX := Lib.hid hx
  clear hZ hk hkp h hnil hsm hx hok hp hpn hps hpo hkn
  obtain ⟨dt, hd1⟩ := und_struct (P := Tryz.prog) (t := 44) (by kernel_rfl)
  have HD := Lib.hid hd1
  clear hd1
  obtain ⟨hO, hX, hR⟩ := heap_3 w (.cells #[.string P, .int .i64 m, .slice a k c] 44) (.cells #[.slice xa xs.length xc] 26) (.cells #[.string ⟨#[]⟩, .int .i64 0, .slice none 0 0] 44)
  have hg := gr_alloc (gr_alloc (gr_alloc (gr_refl w none) (.cells #[.string P, .int .i64 m, .slice a k c] 44)) (.cells #[.slice xa xs.length xc] 26)) (.cells #[.string ⟨#[]⟩, .int .i64 0, .slice none 0 0] 44)
  obtain ⟨w1, hw1⟩ : ∃ w1, w1 = ((w.alloc (.cells #[.string P, .int .i64 m, .slice a k c] 44)).alloc (.cells #[.slice xa xs.length xc] 26)).alloc (.cells #[.string ⟨#[]⟩, .int .i64 0, .slice none 0 0] 44) := ⟨_, rfl⟩
  rw [← hw1] at hO hX hR hg
  obtain ⟨B, hB⟩ : ∃ B, B = w.heap.size := ⟨_, rfl⟩
  rw [← hB] at hO hX hR
  have HW := Lib.hid hw1
  have HB := Lib.hid hB
  have HO := Lib.hid hO
  have HXB := Lib.hid hX
  have HR := Lib.hid hR
  have HG := Lib.hid hg
  have c0 := blkC hO 0 rfl
  have c1 : w1.cell? ⟨B, 1, none⟩ = some (.int .i64 m) := blkC hO 1 rfl
  have c2 : w1.cell? ⟨B, 2, none⟩ = some (.slice a k c) := blkC hO 2 rfl
  have l0 := blkC hX 0 rfl
  clear hw1 hB hO hX hR hg
  go_enter Tryz.func9, Tryz.ntmps9
  go_wp2_with (fail)
  rw [← HW.out, ← HB.out]
  refine (FF.out w1 HG.out).mono ?_
  rintro e w2 ⟨rfl, g2⟩
  have HG2 := Lib.hid (gr_trans HG.out g2)
  have HO2 := Lib.hid ((g2.block B (lt_of_block HO.out) (by simp)).trans HO.out)
  have HX2 := Lib.hid ((g2.block (B + 1) (lt_of_block HXB.out) (by simp)).trans HXB.out)
  have HR2 := Lib.hid ((g2.block (B + 2) (lt_of_block HR.out) (by simp)).trans HR.out)
  clear c0 c1 c2 l0 g2 HG HO HR HXB HW
  have c0 := blkC HO2.out 0 rfl
  have c1 : w2.cell? ⟨B, 1, none⟩ = some (.int .i64 m) := blkC HO2.out 1 rfl
  have c2 : w2.cell? ⟨B, 2, none⟩ = some (.slice a k c) := blkC HO2.out 2 rfl
  have l0 := blkC HX2.out 0 rfl
  go_wp2_with (fail)
  refine (SF.out w2 HG2.out).mono ?_
  rintro e w3 ⟨rfl, g3⟩
  have HG3 := Lib.hid (gr_trans HG2.out g3)
  have HO3 := Lib.hid ((g3.block B (lt_of_block HO2.out) (by simp)).trans HO2.out)
  have HX3 := Lib.hid ((g3.block (B + 1) (lt_of_block HX2.out) (by simp)).trans HX2.out)
  have HR3 := Lib.hid ((g3.block (B + 2) (lt_of_block HR2.out) (by simp)).trans HR2.out)
  clear c0 c1 c2 l0 g3 HG2 HO2 HX2 HR2
  have c2 : w3.cell? ⟨B, 2, none⟩ = some (.slice a k c) := blkC HO3.out 2 rfl
  go_wp2_with (fail)
  have hA := heap_alloc_new w3 (.cells #[.slice a k c, .slice pa kp pc] 40)
  have gA := gr_alloc (gr_refl w3 none) (.cells #[.slice a k c, .slice pa kp pc] 40)
  obtain ⟨w4, hw4⟩ : ∃ w4, w4 = w3.alloc (.cells #[.slice a k c, .slice pa kp pc] 40) := ⟨_, rfl⟩
  rw [← hw4] at hA gA
  rw [← hw4]
  refine (CC.out _ _ w4 (gr_trans HG3.out gA) (blkC hA 0 rfl) (blkC hA 1 rfl)).mono ?_
  rintro e w5 ⟨v5, rfl, o5, g5⟩
  have g35 := gr_trans gA g5
  have HG5 := Lib.hid (gr_trans HG3.out g35)
  have HO5 := Lib.hid ((g35.block B (lt_of_block HO3.out) (by simp)).trans HO3.out)
  have hX5 := (g35.block (B + 1) (lt_of_block HX3.out) (by simp)).trans HX3.out
  have HR5 := Lib.hid ((g35.block (B + 2) (lt_of_block HR3.out) (by simp)).trans HR3.out)
  have hz4 : B + 3 ≤ w4.heap.size := by have h1 := gA.size; have h2 := lt_of_block HR3.out; omega
  have hz5 := g5.size
  have o5 := own_base o5 hz4
  have SRT := Lib.hid (sortPc_any 49 (B + 1) Z.length (rotCm xs) v5 (B + 3) Z w5 o5 rfl hl20 rot1_fn (rotCm_ok xs) (fun x y W hx' hy' hW => by
    have hb : some (B + 1) ≠ v5.ownBlock := fun e => by have := (o5.lt _ e.symm).1; omega
    exact rot1_any x y xs xa xc (B + 1) W (blkC ((hW.block _ (lt_of_block hX5) hb).trans hX5) 0 rfl) (HX.out.keepNew (gr_trans (gr_weak HG5.out _) hW) (fun q e => by have := (o5.lt _ e).1; have := HB.out; omega)) (by omega) (ALL.out x hx').1 (ALL.out y hy').1))
  obtain ⟨va, vc, rfl, -, -, -, -⟩ := own_shape o5
  have hlt5 : ∀ q, (Value.slice va Z.length vc).ownBlock = some q → B + 3 ≤ q := fun q e => (o5.lt _ e).1
  have HLT := Lib.hid hlt5
  clear c2 o5 g5 gA hA hw4 g35 hX5 hlt5 HG3 HO3 HX3 HR3 FF SF CC
  go_wp2_with (fail)
  refine SRT.out.mono ?_
  rintro e w6 ⟨O, rfl, o6, hperm, hsrt, g6⟩
  have HPE := Lib.hid hperm
  have HSR := Lib.hid hsrt
  have HG6 := Lib.hid (gr_grown HG5.out g6 (fun q e => by have := HLT.out q e; have := HB.out; omega))
  have HO6 := Lib.hid ((g6.block B (lt_of_block HO5.out) (fun e => by have := HLT.out _ e.symm; omega)).trans HO5.out)
  have HR6 := Lib.hid ((g6.block (B + 2) (lt_of_block HR5.out) (fun e => by have := HLT.out _ e.symm; omega)).trans HR5.out)
  have hz6 := g6.size
  obtain ⟨_, _, e6, -, -, cv, -⟩ := own_shape o6
  cases e6
  have JF := Lib.hid (JJ.out O va vc w6 hperm cv)
  clear hperm hsrt o6 g6 cv SRT HO5 HR5 HG5
  go_wp2_with (fail)
  refine JF.out.mono ?_
  rintro e wo ⟨v7, rfl, o7, g7⟩
  obtain ⟨za, zc, rfl, -, -, -, -⟩ := own_shape o7
  obtain ⟨n7, hn7⟩ : ∃ n, n = (joinL O).length := ⟨_, rfl⟩
  obtain ⟨J, hJ⟩ : ∃ J, J = flat encPc (joinL O) := ⟨_, rfl⟩
  rw [← hn7, ← hJ] at o7
  rw [← hn7]
  have HN7 := Lib.hid hn7
  have HJ7 := Lib.hid hJ
  have hz7 := g7.size
  have HOWN := Lib.hid (own_base o7 (show B + 3 ≤ w6.heap.size by omega))
  have HGO := Lib.hid (gr_trans HG6.out g7)
  have HOo := Lib.hid ((g7.block B (lt_of_block HO6.out) (by simp)).trans HO6.out)
  have HRo := Lib.hid ((g7.block (B + 2) (lt_of_block HR6.out) (by simp)).trans HR6.out)
  have q0 := blkC HOo.out 0 rfl
  have q1 : wo.cell? ⟨B, 1, none⟩ = some (.int .i64 m) := blkC HOo.out 1 rfl
  have q2 : wo.cell? ⟨B, 2, none⟩ = some (.slice a k c) := blkC HOo.out 2 rfl
  have p0 := blkF HOo.out 0
  have p1 := blkF HOo.out 1
  have p2 := blkF HOo.out 2
  have s0 := blkC HRo.out 0 rfl
  have s1 : wo.cell? ⟨B + 2, 1, none⟩ = some (.int .i64 0) := blkC HRo.out 1 rfl
  have s2 : wo.cell? ⟨B + 2, 2, none⟩ = some (.slice none 0 0) := blkC HRo.out 2 rfl
  have t0 := blkF HRo.out 0
  have t1 := blkF HRo.out 1
  have t2 := blkF HRo.out 2
  clear o7 g7 HO6 HR6 hn7 hJ JF
  go_wp2_with (fail)
  have hR7 := (Below.heap_setCell wo ⟨B, 2, none⟩ (.slice za n7 zc) (B + 2) (by simp)).trans HRo.out
  have hR8 := set3R_heap hR7 (.string P) (.int .i64 m) (.slice za n7 zc)
  have gA : w.grownBy (wo.setCell ⟨B, 2, none⟩ (.slice za n7 zc)) none := gr_new HGO.out (by have := HB.out; simp only; omega) _
  have gB := gr_grown gA (set3R_gr (wo.setCell ⟨B, 2, none⟩ (.slice za n7 zc)) (B + 2) (.string P) (.int .i64 m) (.slice za n7 zc)) (fun q e => by have := HB.out; cases e; omega)
  have gC : wo.grownBy (wo.setCell ⟨B, 2, none⟩ (.slice za n7 zc)) (some B) := gr_set (gr_refl _ _) rfl _
  have gD := set3R_gr (wo.setCell ⟨B, 2, none⟩ (.slice za n7 zc)) (B + 2) (.string P) (.int .i64 m) (.slice za n7 zc)
  have hBw := HB.out
  have own8 := own_keepS (own_keepS HOWN.out gC (by omega)) gD (by omega)
  refine bodyPost_ret (results_cell_slot (p := 6) (q := 7) (by kernel_rfl) _ _ (B + 2) _ #[.string P, .int .i64 m, .slice za n7 zc] _ (.struct dt) _ rfl rfl hR8 HD.out rfl (by kernel_rfl)) rfl ⟨_, O, rfl, ?_, HPE.out, HSR.out, gB⟩
  rw [← HN7.out, ← HJ7.out]
  exact own_base own8 (by omega)
set_option maxRecDepth 100000 in
set_option maxHeartbeats 2000000 in
theorem rotate_no (co : Coil) (a : Option Addr) (c : Nat) (xs : List Lot) (xa : Option Addr) (xc : Nat) (p : List Piece) (pa : Option Addr) (pc : Nat) (w : World) (h : CellsAt w a (flat encPc co.ps)) (hsm : CoilSm co) (hx : CellsAt w xa (flat encLot xs)) (hok : LotsOk xs) (hp : CellsAt w pa (flat encPc p)) (hps : PcsSm p) (hpo : PushOk co xs p) (hkn : knownB xs co.ps = false) :
    Calls Tryz.prog 9 #[.agg #[.string co.prod, .int .i64 co.most, .slice a co.ps.length c], .slice xa xs.length xc, .slice pa p.length pc] w fun e w' => e = .returned (.tuple #[.agg #[.string ⟨#[]⟩, .int .i64 0, .slice none 0 0], .int .i64 8]) ∧ w.grownBy w' none := by
  have hxl := hok.len
  have FF : Hid (∀ W, w.grownBy W none → Calls Tryz.prog 45 #[.agg #[.string co.prod, .int .i64 co.most, .slice a co.ps.length c], .slice xa xs.length xc, .slice pa p.length pc] W fun e w' => e = .returned (.int .i64 0) ∧ W.grownBy w' none) := fun W g =>
    (pushFault_any co a c xs xa xc p pa pc W (h.keep0 g) hsm (hx.keep0 g) hok (hp.keep0 g) hps).mono fun e w' ⟨r, he, hr, hg⟩ => by rw [hr.2 hpo] at he; exact ⟨he, hg⟩
  have SF : Hid (∀ W, w.grownBy W none → Calls Tryz.prog 46 #[.agg #[.string co.prod, .int .i64 co.most, .slice a co.ps.length c], .slice xa xs.length xc] W fun e w' => e = .returned (.bool true) ∧ W.grownBy w' none) := fun W g => by
    have := strange_any co a c xs xa xc W (h.keep0 g) (by have := hsm.len; omega) (hx.keep0 g) (by omega)
    rw [hkn] at this; exact this
  obtain ⟨P, m, ps⟩ := co
  simp only at FF SF ⊢
  obtain ⟨k, hk⟩ : ∃ k, k = ps.length := ⟨_, rfl⟩
  rw [← hk] at FF SF
  rw [← hk]
  obtain ⟨kp, hkp⟩ : ∃ k, k = p.length := ⟨_, rfl⟩
  rw [← hkp] at FF
  rw [← hkp]
  clear hk hkp h hsm hx hok hp hps hpo hkn
  obtain ⟨dt, hd1⟩ := und_struct (P := Tryz.prog) (t := 44) (by kernel_rfl)
  have HD := Lib.hid hd1
  clear hd1
  obtain ⟨hO, hX, hR⟩ := heap_3 w (.cells #[.string P, .int .i64 m, .slice a k c] 44) (.cells #[.slice xa xs.length xc] 26) (.cells #[.string ⟨#[]⟩, .int .i64 0, .slice none 0 0] 44)
  have hg := gr_alloc (gr_alloc (gr_alloc (gr_refl w none) (.cells #[.string P, .int .i64 m, .slice a k c] 44)) (.cells #[.slice xa xs.length xc] 26)) (.cells #[.string ⟨#[]⟩, .int .i64 0, .slice none 0 0] 44)
  obtain ⟨w1, hw1⟩ : ∃ w1, w1 = ((w.alloc (.cells #[.string P, .int .i64 m, .slice a k c] 44)).alloc (.cells #[.slice xa xs.length xc] 26)).alloc (.cells #[.string ⟨#[]⟩, .int .i64 0, .slice none 0 0] 44) := ⟨_, rfl⟩
  rw [← hw1] at hO hX hR hg
  obtain ⟨B, hB⟩ : ∃ B, B = w.heap.size := ⟨_, rfl⟩
  rw [← hB] at hO hX hR
  have HW := Lib.hid hw1
  have HB := Lib.hid hB
  have HO := Lib.hid hO
  have HXB := Lib.hid hX
  have HR := Lib.hid hR
  have HG := Lib.hid hg
  have c0 := blkC hO 0 rfl
  have c1 : w1.cell? ⟨B, 1, none⟩ = some (.int .i64 m) := blkC hO 1 rfl
  have c2 : w1.cell? ⟨B, 2, none⟩ = some (.slice a k c) := blkC hO 2 rfl
  have l0 := blkC hX 0 rfl
  clear hw1 hB hO hX hR hg
  go_enter Tryz.func9, Tryz.ntmps9
  go_wp2_with (fail)
  rw [← HW.out, ← HB.out]
  refine (FF.out w1 HG.out).mono ?_
  rintro e w2 ⟨rfl, g2⟩
  have HG2 := Lib.hid (gr_trans HG.out g2)
  have HO2 := Lib.hid ((g2.block B (lt_of_block HO.out) (by simp)).trans HO.out)
  have HX2 := Lib.hid ((g2.block (B + 1) (lt_of_block HXB.out) (by simp)).trans HXB.out)
  have HR2 := Lib.hid ((g2.block (B + 2) (lt_of_block HR.out) (by simp)).trans HR.out)
  clear c0 c1 c2 l0 g2 HG HO HR HXB HW
  have c0 := blkC HO2.out 0 rfl
  have c1 : w2.cell? ⟨B, 1, none⟩ = some (.int .i64 m) := blkC HO2.out 1 rfl
  have c2 : w2.cell? ⟨B, 2, none⟩ = some (.slice a k c) := blkC HO2.out 2 rfl
  have l0 := blkC HX2.out 0 rfl
  go_wp2_with (fail)
  refine (SF.out w2 HG2.out).mono ?_
  rintro e w3 ⟨rfl, g3⟩
  have HG3 := Lib.hid (gr_trans HG2.out g3)
  have HR3 := Lib.hid ((g3.block (B + 2) (lt_of_block HR2.out) (by simp)).trans HR2.out)
  have t0 := blkF HR3.out 0
  have t1 := blkF HR3.out 1
  have t2 := blkF HR3.out 2
  have s0 := blkC HR3.out 0 rfl
  have s1 : w3.cell? ⟨B + 2, 1, none⟩ = some (.int .i64 0) := blkC HR3.out 1 rfl
  have s2 : w3.cell? ⟨B + 2, 2, none⟩ = some (.slice none 0 0) := blkC HR3.out 2 rfl
  clear c0 c1 c2 l0 g3 HG2 HO2 HX2 HR2
  go_wp2_with (fail)
  have hR8 := set3R_heap HR3.out (.string ⟨#[]⟩) (.int .i64 0) (.slice none 0 0)
  have gB := gr_grown HG3.out (set3R_gr w3 (B + 2) (.string ⟨#[]⟩) (.int .i64 0) (.slice none 0 0)) (fun q e => by have := HB.out; cases e; omega)
  refine bodyPost_ret (results_cell_slot (p := 6) (q := 7) (by kernel_rfl) _ _ (B + 2) _ #[.string ⟨#[]⟩, .int .i64 0, .slice none 0 0] _ (.struct dt) _ rfl rfl hR8 HD.out rfl (by kernel_rfl)) rfl ⟨rfl, gB⟩
end Go.Proofs.YtdminjijhpemkaaGreatDoor
