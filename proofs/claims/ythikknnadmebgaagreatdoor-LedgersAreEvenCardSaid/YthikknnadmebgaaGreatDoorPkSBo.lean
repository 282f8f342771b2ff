/- till.Ledger.Print. -/
import Derived.Test.YthikknnadmebgaaGreatDoorPkSBi
import Derived.Test.YthikknnadmebgaaGreatDoorPkSBn
namespace Go.Proofs.YthikknnadmebgaaGreatDoor
open Go.RowKit
attribute [local go_sem ↓] Go.wp_at_zero Go.wp_at_succ

theorem itoaS_any (n : Int) (h0 : -1000000000 < n) (h1 : n < 1000000000) (w : World) (E : EnvP w) : Calls Tryz.prog 49 #[.int .i64 n] w fun e w' => e = .returned (.string (itoaB n)) ∧ w.grownBy w' none :=
  (Any.strconv_Itoa laysM171 n (by omega) (by omega) w E.tab).mono fun e w' h => by
    obtain ⟨rfl, k, os, rfl⟩ := h
    exact ⟨rfl, gr_grow w k os⟩
theorem mkB_size (l : List UInt8) : (⟨l.toArray⟩ : ByteArray).size = l.length := by show l.toArray.size = _; simp
theorem Bld.blt {w0 w : World} {b : Nat} {l : List UInt8} (h : Bld w0 b l w) : b < w.heap.size := by
  rcases h.is with ⟨_, v, hb, _⟩ | ⟨_, v, hb, _⟩ <;> exact lt_heapB hb
theorem itoaB_len (n : Int) (h : -1000000000 < n) (h1 : n < 1000000000) : (itoaB n).size ≤ 10 := by
  have := itoa_len n h h1
  show (Lib.itoa n).toArray.size ≤ 10
  rw [List.size_toArray]
  exact this
theorem LedL.cells {w : World} {base g M n : Nat} {P : List Pst} (h : LedL w base g M n P) : ∃ a c, w.cell? ⟨g, 0, none⟩ = some (.slice a P.length c) ∧ ∀ (k : Nat) (p : Pst), P[k]? = some p → ∃ b la lc, a = some ⟨b, 0, none⟩ ∧ CellsAt w la (flat encNm p.lines) ∧ ∀ j, j < 5 → w.cell? ⟨b, k * 5 + j, none⟩ = (encPst p (.slice la p.lines.length lc))[j]? := by
  obtain ⟨v, vs, h1, h2, h3, h4⟩ := h.led
  obtain ⟨a, c, rfl, -, -, -, -⟩ := own_shape h2
  refine ⟨a, c, blkC h1.blk 0 rfl, fun k p hk => ?_⟩
  have hlt : k < P.length := by
    rcases Nat.lt_or_ge k P.length with h | h
    · exact h
    · rw [List.getElem?_eq_none h] at hk; cases hk
  obtain ⟨b, cap, e, -, -, -, -⟩ := own_some h2 (by omega)
  cases e
  obtain ⟨u, hu, ho⟩ := h4 k p hk
  obtain ⟨la, lc, rfl, -, -, hC, -⟩ := own_shape ho
  refine ⟨b, la, lc, rfl, hC, fun j hj => ?_⟩
  rw [← pstRow_get P vs k j p _ h3 hk hu hj]
  exact h2.cellAt _ (by omega)
set_option maxRecDepth 100000 in
set_option maxHeartbeats 2000000 in
theorem print_any (ops : List Pst) (g M n base : Nat) (w : World) (E : EnvP w) (hL : LedL w base g M n (runO ops)) (ht : ∀ o ∈ ops, TextOk o) (hl : ops.length ≤ 50) :
    Calls Tryz.prog 17 #[.pointer (some ⟨g, 0, none⟩)] w fun e w' => e = .returned (.tuple #[.string ⟨(printL ops).toArray⟩, .int .i64 0]) ∧ w.grownBy w' none := by
  obtain ⟨a, c, x0, hcell⟩ := hL.cells
  rw [runO_length] at x0
  have hpl := (allLines_ok ops ht).2.2
  have x0d : (w.alloc (.cells #[.pointer none, .slice none 0 0] 104)).cell? ⟨g, 0, none⟩ = some (.slice a ops.length c) := cellUpP x0 _
  have hB := Bld.made w
  obtain ⟨b, hb⟩ : ∃ b, b = w.heap.size := ⟨_, rfl⟩
  obtain ⟨w1, hw1⟩ : ∃ w1, w1 = w.alloc (.cells #[.pointer none, .slice none 0 0] 104) := ⟨_, rfl⟩
  rw [← hw1] at hB x0d
  rw [← hb] at hB
  have HB := Lib.hid hB
  have HW := Lib.hid hw1
  have HBE := Lib.hid hb
  have HC := Lib.hid hcell
  have HE := Lib.hid E
  have HT := Lib.hid ht
  have HPL := Lib.hid hpl
  have D0 : Hid (([] : List UInt8) = printL (ops.take 0)) := by show _ = _; rfl
  clear hB hw1 hb hcell E ht hL hpl
  go_enter Tryz.func17, Tryz.ntmps17
  go_upto_region 2 with (fail)
  rw [← HW.out, ← HBE.out]
  clear x0
  go_wp2_with (fail)
  clear x0d
  go_loopw [14] (fun i wr => ∃ k : Nat, k ≤ ops.length ∧ i = .int .i64 k ∧ Bld w b (printL (ops.take k)) wr) (fun i _ => ops.length - (intOf i).toNat)
  case atStart => exact ⟨0, Nat.zero_le _, rfl, by rw [← D0.out]; exact HB.out⟩
  case round =>
    obtain ⟨k, hk, rfl, hB⟩ := hrel
    obtain ⟨wo, rfl⟩ : ∃ wo : World, wo = wr := ⟨_, rfl⟩
    clear HB
    by_cases hlt : k < ops.length
    · obtain ⟨p, hp⟩ : ∃ p, (runO ops)[k]? = some p := ⟨_, List.getElem?_eq_getElem (by rw [runO_length]; exact hlt)⟩
      obtain ⟨o, ho, b1, b2, b3, b4⟩ := runO_alike ops k p hp
      have hto := HT.out o (List.mem_of_getElem? ho)
      have hnx : printL (ops.take (k + 1)) = printL (ops.take k) ++ lfs (opLines p) := by
        have e : opLines p = opLines o := by
          unfold opLines entHead
          rw [b1, b2, b3, b4]
        have ek : ops[k] = o := by rw [List.getElem?_eq_getElem hlt] at ho; simpa using ho
        rw [List.take_succ_eq_append_getElem hlt, ek, e]
        unfold printL
        rw [allLines_app, lfs_app, allLines_one]
      have hlen : (printL (ops.take k)).length ≤ 20000 := by
        have h1 := (allLines_ok (ops.take k) (fun o ho => HT.out o (List.mem_of_mem_take ho))).2.2
        have : (ops.take k).length ≤ 50 := by rw [List.length_take]; omega
        omega
      have htp : TextOk p := ⟨by rw [b1]; exact hto.d0, by rw [b1]; exact hto.d1, by rw [b4]; exact hto.can, by rw [b2, b4]; exact hto.txt, by rw [b3]; exact hto.ln, by rw [b3]; exact hto.l3⟩
      obtain ⟨vb, la, lc, rfl, hCl, hcl⟩ := HC.out k p hp
      obtain ⟨Lk, hLk⟩ : ∃ L, L = printL (ops.take k) := ⟨_, rfl⟩
      rw [← hLk] at hnx hlen hB
      have z0 := hcl 0 (by omega)
      have z1 := hcl 1 (by omega)
      have z2 := hcl 2 (by omega)
      have z3 := hcl 3 (by omega)
      have z4 := hcl 4 (by omega)
      obtain ⟨day, T, L, can, off⟩ := p
      have d0 := (gr_cell hB.gr (lt_of_cell z0)).trans z0
      have d1 := (gr_cell hB.gr (lt_of_cell z1)).trans z1
      have d2 := (gr_cell hB.gr (lt_of_cell z2)).trans z2
      have d3 := (gr_cell hB.gr (lt_of_cell z3)).trans z3
      have d4 := (gr_cell hB.gr (lt_of_cell z4)).trans z4
      simp only [encPst] at d0 d1 d2 d3 d4
      replace d0 : wo.cell? ⟨vb, k * 5, none⟩ = some (.int .i64 day) := d0
      replace d1 : wo.cell? ⟨vb, k * 5 + 1, none⟩ = some (.string T) := d1
      replace d2 : wo.cell? ⟨vb, k * 5 + 2, none⟩ = some (.slice la L.length lc) := d2
      replace d3 : wo.cell? ⟨vb, k * 5 + 3, none⟩ = some (.int .i64 (can : Int)) := d3
      replace d4 : wo.cell? ⟨vb, k * 5 + 4, none⟩ = some (.bool off) := d4
      have hX := heap_alloc_new wo (.cells #[.int .i64 day, .string T, .slice la L.length lc, .int .i64 (can : Int), .bool off] 86)
      have ga := gr_alloc (gr_refl wo none) (.cells #[.int .i64 day, .string T, .slice la L.length lc, .int .i64 (can : Int), .bool off] 86)
      obtain ⟨w3, hw3⟩ : ∃ w3, w3 = wo.alloc (.cells #[.int .i64 day, .string T, .slice la L.length lc, .int .i64 (can : Int), .bool off] 86) := ⟨_, rfl⟩
      rw [← hw3] at hX ga
      obtain ⟨V, hV⟩ : ∃ V, V = wo.heap.size := ⟨_, rfl⟩
      rw [← hV] at hX
      have HB3 := Lib.hid (hB.keep0 ga)
      have hbV : b ≠ V := by have := HBE.out; have := hB.is; have h2 := hB.gr.size; have h3 := Bld.blt hB; omega
      have p0 : w3.cell? ⟨V, 0, none⟩ = some (.int .i64 day) := blkC hX 0 rfl
      have p1 : w3.cell? ⟨V, 1, none⟩ = some (.string T) := blkC hX 1 rfl
      have p3 : w3.cell? ⟨V, 3, none⟩ = some (.int .i64 (can : Int)) := blkC hX 3 rfl
      have HX := Lib.hid hX
      have HCL := Lib.hid hCl
      have HW3 := Lib.hid hw3
      have HVE := Lib.hid hV
      have HNX := Lib.hid hnx
      have HTP := Lib.hid htp
      have hc100 : can ≤ 100 := htp.can
      have hq0 := htp.d0
      have hq1 := htp.d1
      have hql := htp.l3
      simp only at hq0 hq1 hql
      clear hB hcl z0 z1 z2 z3 z4 hCl hX ga hw3 hV hnx htp hto ho b1 b2 b3 b4 hLk
      go_upto_region 5 with (fail)
      rw [← HW3.out, ← HVE.out]
      clear d0 d1 d2 d3 d4
      by_cases hcan : 0 < can
      · have dc : decide ((0 : Int) < (can : Int)) = true := decide_eq_true (by omega)
        have hIl := itoaB_len (can : Int) (by omega) (by omega)
        have HS : Hid (((⟨#[99, 97, 110, 99, 101, 108, 32]⟩ : ByteArray) ++ itoaB (can : Int)) ++ (⟨#[10]⟩ : ByteArray) = ⟨(canHead can ++ [10]).toArray⟩) := by
          show ((⟨([99, 97, 110, 99, 101, 108, 32] : List UInt8).toArray⟩ : ByteArray) ++ ⟨(Lib.itoa (can : Int)).toArray⟩) ++ ⟨([10] : List UInt8).toArray⟩ = _
          rw [app_bytes, app_bytes]
          rfl
        have hSl : (canHead can ++ [10]).length ≤ 18 := by
          have h1 := itoa_len (can : Int) (by omega) (by omega)
          unfold canHead
          simp only [List.length_append, List.length_cons, List.length_nil]
          omega
        have HEX : Hid (lfs (opLines ⟨day, T, L, can, off⟩) = canHead can ++ [10]) := by
          show lfs (if can = 0 then _ else [canHead can]) = _
          rw [if_neg (by omega), lfs_one]
        go_wp2_with (fail)
        refine (itoaS_any (can : Int) (by omega) (by omega) w3 (HE.out.keep HB3.out.gr)).mono ?_
        rintro e w4 ⟨rfl, g4⟩
        have HB4 := Lib.hid (HB3.out.keep0 g4)
        clear g4 p0 p1 p3
        go_wp2_with (fail)
        rw [HS.out]
        refine (bldWrite_any HB4.out _ (by rw [mkB_size]; omega)).mono ?_
        rintro e w5 ⟨rfl, h5, -⟩
        have HB5 := Lib.hid h5
        clear h5
        go_wp2_with (fail)
        go_roundw
        case rel => exact ⟨k + 1, by omega, by go_num, by rw [HNX.out, HEX.out]; exact HB5.out⟩
        case measure => simp [intOf]; omega
      · have dc : decide ((0 : Int) < (can : Int)) = false := decide_eq_false (by omega)
        have hc0 : can = 0 := by omega
        obtain ⟨ht1, ht2⟩ := HTP.out.txt hc0
        simp only at ht1 ht2
        have hIl := itoaB_len day (by omega) (by omega)
        obtain ⟨S1, hS1⟩ : ∃ S, S = (⟨#[101, 110, 116, 114, 121, 32]⟩ : ByteArray) ++ itoaB day := ⟨_, rfl⟩
        obtain ⟨S2, hS2⟩ : ∃ S, S = S1 ++ (⟨#[32]⟩ : ByteArray) := ⟨_, rfl⟩
        obtain ⟨S3, hS3⟩ : ∃ S, S = S2 ++ T := ⟨_, rfl⟩
        obtain ⟨S4, hS4⟩ : ∃ S, S = S3 ++ (⟨#[10]⟩ : ByteArray) := ⟨_, rfl⟩
        have e1 : S1.size = 6 + (itoaB day).size := by rw [hS1, ByteArray.size_append]; rfl
        have e2 : S2.size = S1.size + 1 := by rw [hS2, ByteArray.size_append]; rfl
        have e3 : S3.size = S2.size + T.size := by rw [hS3, ByteArray.size_append]
        have e4 : S4.size = S3.size + 1 := by rw [hS4, ByteArray.size_append]; rfl
        have n1 : ¬ 9223372036854775807 < 6 + (itoaB day).size := by omega
        have n2 : ¬ 9223372036854775807 < S1.size + 1 := by omega
        have n3 : ¬ 9223372036854775807 < S2.size + T.size := by omega
        have n4 : ¬ 9223372036854775807 < S3.size + 1 := by omega
        have hSz : S4.size ≤ 100 := by omega
        have HS : Hid (S4.data.toList = entHead ⟨day, T, L, can, off⟩ ++ [10]) := by
          show S4.data.toList = [101, 110, 116, 114, 121, 32] ++ (Lib.itoa day ++ 32 :: T.data.toList) ++ [10]
          rw [hS4, hS3, hS2, hS1]
          simp [ByteArray.data_append, itoaB]
        have hgd : w3.grownBy w3.drew none := gr_drew (gr_refl w3 none)
        have IT := Lib.hid (fun (W : World) (gW : w3.grownBy W none) => itoaS_any day (by omega) (by omega) W (HE.out.keep (gr_trans HB3.out.gr gW)))
        have WR := Lib.hid (fun (W : World) (gW : w3.grownBy W none) => bldWrite_any (HB3.out.keep0 gW) S4 (by omega))
        have p0d : w3.drew.cell? ⟨V, 0, none⟩ = some (.int .i64 day) := p0
        have p1d : w3.drew.cell? ⟨V, 1, none⟩ = some (.string T) := p1
        have hE1 := hS1.symm
        have hE2 := hS2.symm
        have hE3 := hS3.symm
        have hE4 := hS4.symm
        have HSZ := Lib.hid hSz
        clear hS1 hS2 hS3 hS4 e1 e2 e3 e4 hIl hSz
        go_upto_region 7 with (fail)
        go_region_held3 (fun w' => w'.cell? ⟨V, 0, none⟩ = some (.int .i64 day) ∧ w'.cell? ⟨V, 1, none⟩ = some (.string T))
          (first | (with_reducible exact ⟨p0, p1⟩) | (with_reducible exact ⟨p0d, p1d⟩) | (with_reducible exact ⟨q0, q1⟩) | (with_reducible exact ⟨r0, r1⟩))
          (first | (go_at_call 49; (with_reducible refine (IT.out _ ?_).mono ?_); (· exact hgd); rintro e w4 ⟨rfl, g4⟩; have g34 : w3.grownBy w4 none := gr_trans hgd g4; have q0 := (gr_cell g34 (lt_of_cell p0)).trans p0; have q1 := (gr_cell g34 (lt_of_cell p1)).trans p1)
                 | (go_at_call 51; (with_reducible refine (WR.out _ ?_).mono ?_); (· exact g34); rintro e w5 ⟨rfl, h5, f5⟩; have hX5 := f5 V _ _ ((g34.block V (lt_of_block HX.out) (by simp)).trans HX.out) (fun e => hbV e.symm) (by decide); have r0 : w5.cell? ⟨V, 0, none⟩ = some (.int .i64 day) := blkC hX5 0 rfl; have r1 : w5.cell? ⟨V, 1, none⟩ = some (.string T) := blkC hX5 1 rfl)
                 | fail)
        have r2 : w5.cell? ⟨V, 2, none⟩ = some (.slice la L.length lc) := blkC hX5 2 rfl
        rw [HS.out] at h5
        obtain ⟨L5, hL5⟩ : ∃ l, l = Lk ++ (entHead ⟨day, T, L, can, off⟩ ++ [10]) := ⟨_, rfl⟩
        rw [← hL5] at h5
        have hl5 : L5.length ≤ 21000 := by
          rw [hL5]
          have h1 := itoa_len day (by omega) (by omega)
          have h2 : T.data.toList.length = T.size := by simp
          unfold entHead
          simp only [List.length_append, List.length_cons, List.length_nil]
          omega
        have HEX : Hid (Lk ++ lfs (opLines ⟨day, T, L, can, off⟩) = L5 ++ lfs (L.map lnText)) := by
          show Lk ++ lfs (if can = 0 then entHead ⟨day, T, L, can, off⟩ :: L.map lnText else _) = _
          rw [if_pos hc0, hL5]
          simp [lfs]
        have HB5 := Lib.hid h5
        have HL5 := Lib.hid hl5
        have Z5 : Hid (Bld w b (L5 ++ lfs ((L.take 0).map lnText)) w5) := by
          show Bld w b (L5 ++ lfs []) w5
          rw [show lfs [] = [] from rfl, List.append_nil]
          exact h5
        clear h5 f5 hX5 r0 r1 g4 g34 q0 q1 p0 p1 p3 p0d p1d hgd IT WR n1 n2 n3 n4 hE1 hE2 hE3 hE4 HS HSZ hL5 hl5
        go_wp2_with (fail)
        clear r2
        go_loopw [43] (fun i wr => ∃ j : Nat, j ≤ L.length ∧ i = .int .i64 j ∧ Bld w b (L5 ++ lfs ((L.take j).map lnText)) wr) (fun i _ => L.length - (intOf i).toNat)
        case atStart => exact ⟨0, Nat.zero_le _, rfl, Z5.out⟩
        case round =>
          clear Z5 HB5
          obtain ⟨j, hj, rfl, hB⟩ := hrel
          obtain ⟨wi, rfl⟩ : ∃ wi : World, wi = wr := ⟨_, rfl⟩
          by_cases hlt2 : j < L.length
          · obtain ⟨lb, off2, rfl, d0, d1⟩ := bk_cells (HCL.out.keep0 hB.gr) j hlt2
            obtain ⟨a1, a2, a3⟩ := HTP.out.ln _ (List.getElem_mem hlt2)
            have hkl := acc_len _ a3
            have hnx : lfs ((L.take (j + 1)).map lnText) = lfs ((L.take j).map lnText) ++ (lnText L[j] ++ [10]) := by
              rw [List.take_succ_eq_append_getElem hlt2, List.map_append, lfs_app]
              show _ ++ lfs [lnText L[j]] = _
              rw [lfs_one]
            have hln : (lfs ((L.take j).map lnText)).length ≤ 300 := by
              have key : ∀ R : List Nm, (∀ x ∈ R, (lnText x).length ≤ 60) → (lfs (R.map lnText)).length ≤ 61 * R.length := by
                intro R
                induction R with
                | nil => intro _; simp [lfs]
                | cons x R ih =>
                  intro hR
                  have h1 := ih (fun y hy => hR y (List.mem_cons_of_mem _ hy))
                  have h2 := hR x (List.mem_cons_self ..)
                  have e : lfs ((x :: R).map lnText) = (lnText x ++ [10]) ++ lfs (R.map lnText) := by simp [lfs]
                  rw [e]
                  simp only [List.length_append, List.length_cons, List.length_nil]
                  omega
              have h1 := key (L.take j) (fun x hx => by
                obtain ⟨b1, b2, b3⟩ := HTP.out.ln x (List.mem_of_mem_take hx)
                have h1 := acc_len _ b3
                have h2 := itoa_len x.many (by omega) (by omega)
                unfold lnText
                simp only [List.length_append, List.length_cons]
                omega)
              rw [List.length_take] at h1
              omega
            obtain ⟨x, hx⟩ : ∃ x, x = L[j] := ⟨_, rfl⟩
            rw [← hx] at d0 d1 a1 a2 hkl hnx
            obtain ⟨K, Y⟩ := x
            simp only at d0 d1 a1 a2 hkl
            have hX := heap_alloc_new wi (.cells #[.string K, .int .i64 Y] 89)
            have ga := gr_alloc (gr_refl wi none) (.cells #[.string K, .int .i64 Y] 89)
            obtain ⟨w6, hw6⟩ : ∃ w6, w6 = wi.alloc (.cells #[.string K, .int .i64 Y] 89) := ⟨_, rfl⟩
            rw [← hw6] at hX ga
            obtain ⟨Q, hQ⟩ : ∃ Q, Q = wi.heap.size := ⟨_, rfl⟩
            rw [← hQ] at hX
            have HB6 := Lib.hid (hB.keep0 ga)
            have hbQ : b ≠ Q := by have := Bld.blt hB; omega
            have p0 : w6.cell? ⟨Q, 0, none⟩ = some (.string K) := blkC hX 0 rfl
            have p1 : w6.cell? ⟨Q, 1, none⟩ = some (.int .i64 Y) := blkC hX 1 rfl
            have hIl := itoaB_len Y (by omega) (by omega)
            obtain ⟨S1, hS1⟩ : ∃ S, S = (⟨#[32, 32]⟩ : ByteArray) ++ K := ⟨_, rfl⟩
            obtain ⟨S2, hS2⟩ : ∃ S, S = S1 ++ (⟨#[32]⟩ : ByteArray) := ⟨_, rfl⟩
            obtain ⟨S3, hS3⟩ : ∃ S, S = S2 ++ itoaB Y := ⟨_, rfl⟩
            obtain ⟨S4, hS4⟩ : ∃ S, S = S3 ++ (⟨#[10]⟩ : ByteArray) := ⟨_, rfl⟩
            have hKs : K.data.toList.length = K.size := by simp
            have e1 : S1.size = 2 + K.size := by rw [hS1, ByteArray.size_append]; rfl
            have e2 : S2.size = S1.size + 1 := by rw [hS2, ByteArray.size_append]; rfl
            have e3 : S3.size = S2.size + (itoaB Y).size := by rw [hS3, ByteArray.size_append]
            have e4 : S4.size = S3.size + 1 := by rw [hS4, ByteArray.size_append]; rfl
            have n1 : ¬ 9223372036854775807 < 2 + K.size := by omega
            have n2 : ¬ 9223372036854775807 < S1.size + 1 := by omega
            have n3 : ¬ 9223372036854775807 < S2.size + (itoaB Y).size := by omega
            have n4 : ¬ 9223372036854775807 < S3.size + 1 := by omega
            have hSz : S4.size ≤ 100 := by omega
            have hl5 := HL5.out
            have HS : Hid (S4.data.toList = lnText ⟨K, Y⟩ ++ [10]) := by
              show S4.data.toList = 32 :: 32 :: (K.data.toList ++ 32 :: Lib.itoa Y) ++ [10]
              rw [hS4, hS3, hS2, hS1]
              simp [ByteArray.data_append, itoaB]
            have hgd : w6.grownBy w6.drew none := gr_drew (gr_refl w6 none)
            have IT := Lib.hid (fun (W : World) (gW : w6.grownBy W none) => itoaS_any Y (by omega) (by omega) W (HE.out.keep (gr_trans HB6.out.gr gW)))
            have WR := Lib.hid (fun (W : World) (gW : w6.grownBy W none) => bldWrite_any (HB6.out.keep0 gW) S4 (by rw [List.length_append]; omega))
            have p0d : w6.drew.cell? ⟨Q, 0, none⟩ = some (.string K) := p0
            have p1d : w6.drew.cell? ⟨Q, 1, none⟩ = some (.int .i64 Y) := p1
            have hE1 := hS1.symm
            have hE2 := hS2.symm
            have hE3 := hS3.symm
            have hE4 := hS4.symm
            have HX := Lib.hid hX
            have HNX2 := Lib.hid hnx
            have HW6 := Lib.hid hw6
            have HQ := Lib.hid hQ
            clear hS1 hS2 hS3 hS4 e1 e2 e3 e4 hIl hSz hX ga hw6 hQ hnx hx hB hl5 hln hkl hKs
            go_upto_region 11 with (fail)
            rw [← HW6.out, ← HQ.out]
            clear d0 d1
            go_region_held3 (fun w' => w'.cell? ⟨Q, 0, none⟩ = some (.string K) ∧ w'.cell? ⟨Q, 1, none⟩ = some (.int .i64 Y))
              (first | (with_reducible exact ⟨p0, p1⟩) | (with_reducible exact ⟨p0d, p1d⟩) | (with_reducible exact ⟨q0, q1⟩) | (with_reducible exact ⟨r0, r1⟩))
              (first | (go_at_call 49; (with_reducible refine (IT.out _ ?_).mono ?_); (· exact hgd); rintro e w8 ⟨rfl, g8⟩; have g68 : w6.grownBy w8 none := gr_trans hgd g8; have q0 := (gr_cell g68 (lt_of_cell p0)).trans p0; have q1 := (gr_cell g68 (lt_of_cell p1)).trans p1)
                     | (go_at_call 51; (with_reducible refine (WR.out _ ?_).mono ?_); (· exact g68); rintro e w9 ⟨rfl, h9, f9⟩; have hX9 := f9 Q _ _ ((g68.block Q (lt_of_block HX.out) (by simp)).trans HX.out) (fun e => hbQ e.symm) (by decide); have r0 : w9.cell? ⟨Q, 0, none⟩ = some (.string K) := blkC hX9 0 rfl; have r1 : w9.cell? ⟨Q, 1, none⟩ = some (.int .i64 Y) := blkC hX9 1 rfl)
                     | fail)
            rw [HS.out, List.append_assoc, ← HNX2.out] at h9
            have HB9 := Lib.hid h9
            clear h9 f9 hX9 r0 r1 g8 g68 q0 q1 p0 p1 p0d p1d hgd IT WR n1 n2 n3 n4 hE1 hE2 hE3 hE4
            go_wp2_with (fail)
            go_roundw
            case rel => exact ⟨j + 1, by omega, by go_num, HB9.out⟩
            case measure => simp [intOf]; omega
          · obtain rfl : j = L.length := by omega
            rw [List.take_length, ← HEX.out, ← HNX.out] at hB
            have HBe := Lib.hid hB
            clear hB
            go_wp2_with (fail)
            go_roundw
            case rel => exact ⟨k + 1, by omega, by go_num, HBe.out⟩
            case measure => simp [intOf]; omega
    · obtain rfl : k = ops.length := by omega
      rw [List.take_length] at hB
      have dL : decide ((200000 : Int) < ((printL ops).length : Int)) = false := by have := HPL.out; simp; omega
      have HBo := Lib.hid hB
      have LN := Lib.hid (bldLen_any hB)
      have ST := Lib.hid (bldString_any hB)
      clear hB
      go_wp2_with (fail)
      refine LN.out.mono ?_
      rintro e w2 ⟨rfl, rfl⟩
      go_wp2_with (fail)
      refine ST.out.mono ?_
      rintro e w3 ⟨rfl, g3⟩
      have HG3 := Lib.hid g3
      clear g3
      go_wp2_with (fail)
      go_ret2
      exact ⟨rfl, HG3.out⟩
end Go.Proofs.YthikknnadmebgaaGreatDoor
