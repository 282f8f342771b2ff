/- shelf.Print: a layout as text. -/
import Derived.Test.YthikknnadmebgaaGreatDoorPkSBo
import Derived.Test.YthikknnadmebgaaGreatDoorPkSBq
import Derived.Test.YthikknnadmebgaaGreatDoorPkSBi
namespace Go.Proofs.YthikknnadmebgaaGreatDoor
open Go.RowKit Go.Shelf
attribute [local go_sem] Oper.semAt_some

/-- The rows that were printed. -/
def rowsT (C : Nat) (xs : List ByteArray) (pre : List Nat) : List UInt8 := pre.flatMap fun j => cellsT (chunkL C xs j) ++ [10]
theorem rowsT_app (C : Nat) (xs : List ByteArray) (pre : List Nat) (j : Nat) : rowsT C xs (pre ++ [j]) = rowsT C xs pre ++ (cellsT (chunkL C xs j) ++ [10]) := by
  unfold rowsT
  rw [List.flatMap_append]
  simp
theorem rowsT_all (C : Nat) (xs : List ByteArray) : ∀ k, rowsT C xs (List.range k) = layText C k xs
  | 0 => rfl
  | k + 1 => by rw [List.range_succ, rowsT_app, rowsT_all C xs k, lay_succ]
theorem row_len {C R : Nat} {xs : List ByteArray} (hl : xs.length = R * C) (h : ∀ k ∈ xs, SlotOk k) (hC : C ≤ 10) {j : Nat} (hj : j < R) : (cellsT (chunkL C xs j)).length ≤ 410 := by
  have h2 := cells_len (chunkL C xs j) (fun x hx => h x (chunk_mem x hx))
  rw [chunk_len hl hj] at h2
  omega
theorem rowsT_len {C R : Nat} {xs : List ByteArray} (hl : xs.length = R * C) (h : ∀ k ∈ xs, SlotOk k) (hC : C ≤ 10) : ∀ pre : List Nat, (∀ j ∈ pre, j < R) → (rowsT C xs pre).length ≤ 411 * pre.length
  | [], _ => by simp [rowsT]
  | j :: pre, hp => by
    have h1 := rowsT_len hl h hC pre (fun x hx => hp x (List.mem_cons_of_mem _ hx))
    have h2 := row_len hl h hC (hp j (List.mem_cons_self ..))
    have e : rowsT C xs (j :: pre) = (cellsT (chunkL C xs j) ++ [10]) ++ rowsT C xs pre := by simp [rowsT]
    rw [e, List.length_append, List.length_append]
    simp only [List.length_cons, List.length_nil]
    omega
theorem cells_next {C R : Nat} {xs : List ByteArray} (hl : xs.length = R * C) {j : Nat} (hj : j < R) (i : Nat) (hi : i < C) (h : j * C + i < xs.length) :
    cellsT ((chunkL C xs j).take (i + 1)) = (if i = 0 then [] else cellsT ((chunkL C xs j).take i) ++ [32]) ++ tokB xs[j * C + i] := by
  obtain ⟨_, e⟩ := chunk_at hl hj i hi
  have hi2 : i < (chunkL C xs j).length := by rw [chunk_len hl hj]; exact hi
  rw [List.take_succ_eq_append_getElem hi2, cellsT_app]
  have e2 : (chunkL C xs j)[i] = xs[j * C + i] := by
    rw [List.getElem?_eq_getElem hi2] at e
    exact Option.some.inj e
  rw [e2]
  by_cases h0 : i = 0
  · subst h0
    simp
  · rw [if_neg h0, if_neg]
    · simp
    · intro e3
      have : ((chunkL C xs j).take i).length = 0 := by rw [e3]; rfl
      rw [List.length_take] at this
      omega
set_option maxRecDepth 100000 in
set_option maxHeartbeats 4000000 in
theorem print_in (n : Nat) (hn : 4 ≤ n) (R C : Nat) (xs : List ByteArray) (r1 : 1 ≤ R) (r6 : R ≤ 6) (c1 : 1 ≤ C) (c6 : C ≤ 6) (hl : xs.length = R * C) (hs : ∀ k ∈ xs, SlotOk k) (he : EvenB xs) (ab off cap : Nat) (hcap : R * C ≤ cap) (w : World) (hx : CellsAt w (some ⟨ab, off, none⟩) (strs xs)) :
    CallsIn Fence.wide n Tryz.prog 36 #[.agg #[.int .i64 R, .int .i64 C], .slice (some ⟨ab, off, none⟩) xs.length cap] w fun e w' => e = .returned (.tuple #[.string ⟨(layText C R xs).toArray⟩, .int .i64 0]) ∧ w.grownBy w' none := by
  have h1 : 1 ≤ n := by omega
  have hB := heap_alloc_new w (.cells #[.int .i64 R, .int .i64 C] 54)
  have ga := gr_alloc (gr_refl w none) (.cells #[.int .i64 R, .int .i64 C] 54)
  obtain ⟨w1, hw1⟩ : ∃ w1, w1 = w.alloc (.cells #[.int .i64 R, .int .i64 C] 54) := ⟨_, rfl⟩
  rw [← hw1] at hB ga
  obtain ⟨X, hX⟩ : ∃ X, X = w.heap.size := ⟨_, rfl⟩
  rw [← hX] at hB
  have HBk := Lib.hid hB
  have HW := Lib.hid hw1
  have HX := Lib.hid hX
  have HG := Lib.hid ga
  have HXS := Lib.hid hx
  have HS := Lib.hid hs
  have HE := Lib.hid he
  have hRC : R * C ≤ 36 := Nat.mul_le_mul r6 c6
  have hRCc : ((R * C : Nat) : Int) = (R : Int) * C := Int.natCast_mul R C
  have hw : IntKind.i64.wrap ((R : Int) * C) = (R : Int) * C := IntWalk.i64_in _ (by omega)
  have dl : ((xs.length : Int) == (R : Int) * C) = true := by rw [beq_iff_eq]; omega
  have HL := Lib.hid hl
  have HCAP := Lib.hid hcap
  have hxl : xs.length ≤ 36 := by omega
  clear hB hw1 hX ga hx hs he hRC hRCc hl hcap
  refine callsIn_of_wp_marks Tryz.func36 rfl trivial ?_ rfl
  simp only [Tryz.ntmps36, List.size_toArray, List.length_cons, List.length_nil, Nat.reduceAdd, Nat.reduceSub, Array.replicate_succ, Array.replicate_zero, List.push_toArray, List.append_toArray, List.nil_append, List.cons_append]
  gi_wp2_with (fail)
  rw [← HW.out, ← HX.out]
  refine ⟨trivial, (callsIn_wide.2 (checkRack_any R C w1 r1 r6 c1 c6)).mono ?_⟩
  rintro e w2 ⟨rfl, g2⟩
  have HG2 := Lib.hid (gr_trans HG.out g2)
  have hB2 := (g2.block X (lt_of_block HBk.out) (by simp)).trans HBk.out
  have p0 : w2.cell? ⟨X, 0, none⟩ = some (.int .i64 (R : Int)) := blkC hB2 0 rfl
  have p1 : w2.cell? ⟨X, 1, none⟩ = some (.int .i64 (C : Int)) := blkC hB2 1 rfl
  have HB2 := Lib.hid hB2
  clear g2 hB2
  gi_wp2_with (fail)
  refine ⟨trivial, (callsIn_wide.2 (anyOdd xs HE.out (some ⟨ab, off, none⟩) cap w2 (HXS.out.keep0 HG2.out) (by omega))).mono ?_⟩
  rintro e w3 ⟨rfl, g3⟩
  have HG3 := Lib.hid (gr_trans HG2.out g3)
  have hB3 := (g3.block X (lt_of_block HB2.out) (by simp)).trans HB2.out
  clear p0 p1
  have BM := Lib.hid (Bld.made w3)
  have gA := gr_alloc (gr_refl w3 none) (.cells #[.pointer none, .slice none 0 0] 104)
  obtain ⟨w4, hw4⟩ : ∃ w4, w4 = w3.alloc (.cells #[.pointer none, .slice none 0 0] 104) := ⟨_, rfl⟩
  rw [← hw4] at BM gA
  have hB4 := (gA.block X (lt_of_block hB3) (by simp)).trans hB3
  have p0 : w4.cell? ⟨X, 0, none⟩ = some (.int .i64 (R : Int)) := blkC hB4 0 rfl
  have p1 : w4.cell? ⟨X, 1, none⟩ = some (.int .i64 (C : Int)) := blkC hB4 1 rfl
  have p1a : (w3.alloc (.cells #[.pointer none, .slice none 0 0] 104)).cell? ⟨X, 1, none⟩ = some (.int .i64 (C : Int)) := by rw [← hw4]; exact p1
  have HW4 := Lib.hid hw4
  have hz4 : w4.heap.size = w3.heap.size + 1 := by rw [hw4]; simp
  obtain ⟨b, hb⟩ : ∃ b, b = w3.heap.size := ⟨_, rfl⟩
  rw [← hb] at BM
  have HBE := Lib.hid hb
  have HGA := Lib.hid gA
  clear g3 hB3 hB4 hw4 gA hb
  gi_wp2_with (fail)
  rw [← HW4.out, ← HBE.out]
  clear p1a p0 p1
  refine ⟨trivial, (callsIn_wide.2 (chunk_any (some ⟨ab, off, none⟩) xs.length cap C c1 w4)).mono ?_⟩
  rintro e w5 ⟨rfl, hw5⟩
  have hS := heap_alloc_new w4 (.cells #[.slice (some ⟨ab, off, none⟩) xs.length cap] 57)
  have gS := gr_alloc (gr_refl w4 none) (.cells #[.slice (some ⟨ab, off, none⟩) xs.length cap] 57)
  obtain ⟨w4a, hw4a⟩ : ∃ w4a, w4a = w4.alloc (.cells #[.slice (some ⟨ab, off, none⟩) xs.length cap] 57) := ⟨_, rfl⟩
  rw [← hw4a] at hS gS hw5
  have hz4a : w4a.heap.size = w4.heap.size + 1 := by rw [hw4a]; simp
  have hN := heap_alloc_new w4a (.cells #[.int .i64 (C : Int)] 3)
  have gN := gr_alloc (gr_refl w4a none) (.cells #[.int .i64 (C : Int)] 3)
  rw [← hw5] at hN gN
  have hz5 : w5.heap.size = w4a.heap.size + 1 := by rw [hw5]; simp
  have hS5 := (gN.block _ (lt_of_block hS) (by simp)).trans hS
  have g45 := gr_trans gS gN
  obtain ⟨Bs, hBs⟩ : ∃ Bs, Bs = w4.heap.size := ⟨_, rfl⟩
  have hBn : w4a.heap.size = Bs + 1 := by omega
  rw [← hBs] at hS5
  rw [hBn] at hN
  rw [← hBs]
  have hn1 : 1 ≤ n - 1 := by omega
  have hb3 : b = w3.heap.size := HBE.out
  have hbs : Bs ≠ b := by omega
  have hbn : Bs + 1 ≠ b := by omega
  rw [HL.out] at hS5
  have BS := Lib.hid (chunk_stops (fun j => if h : j < R then (⟨j, h⟩ : Fin R) else ⟨0, r1⟩) (fun (j : Fin R) => #[.slice (some ⟨ab, off + j.1 * C, none⟩) C C]) Fence.wide (n - 1) trivial rfl hn1 Bs (Bs + 1) b cap R C ab off c1 (by rw [← HL.out]; omega) HCAP.out (fun j hj => by rw [dif_pos hj]; rfl) w5 hS5 hN hbs hbn)
  have B5 := Lib.hid (BM.out.keep0 g45)
  have hz35 : w3.heap.size ≤ w5.heap.size := by omega
  have HG5 := Lib.hid (gr_trans HG3.out (gr_trans HGA.out g45))
  clear hw5 hS gS hw4a hN gN hS5 g45 hBs hBn hz4a hz5 hz4 hb3
  gi_wp2_with (fail)
  refine wpIn_rangeFunc_ownH rfl h1 (gf := 119) (lb := #[.pointer (some ⟨Bs, 0, none⟩), .pointer (some ⟨Bs + 1, 0, none⟩)]) rfl trivial (enters_of Tryz.func119 (by kernel_rfl) rfl)
    BS.out BldFr.trans bldFr_put (Below.refl _ _) (fun _ => rfl)
    (fun pre W => Bld w3 b (rowsT C xs (pre.map Fin.val)) W)
    (fun _ _ _ => False)
    (bld_own w3 b _ _ hz35)
    (fun _ _ _ _ _ hs => hs.elim)
    B5.out
    (fun j a' _ => a' = { tmps := #[.agg #[.int .i64 R, .int .i64 C], .slice (some ⟨ab, off, none⟩) xs.length cap, .pointer (some ⟨X, 0, none⟩), undef, .string ⟨#[]⟩, .int .i64 0, .int .i64 0, .pointer (some ⟨b, 0, none⟩), .slice (some ⟨ab, off + j.1 * C, none⟩) C C, undef, undef, .agg #[.int .i64 R, .int .i64 C], .int .i64 0, .int .i64 0, .bool false, undef, .bool false, .slice (some ⟨ab, off, none⟩) xs.length cap, .int .i64 xs.length, .pointer (some ⟨X, 0, none⟩), .int .i64 R, .pointer (some ⟨X, 1, none⟩), .int .i64 C, .int .i64 ((R : Int) * C), .bool false, .bool false, .slice (some ⟨ab, off, none⟩) xs.length cap, .bool false, .slice (some ⟨ab, off, none⟩) xs.length cap, .pointer (some ⟨X, 1, none⟩), .int .i64 C, .func (.func 119) #[] #[.pointer (some ⟨Bs, 0, none⟩), .pointer (some ⟨Bs + 1, 0, none⟩)], .slice (some ⟨ab, off + j.1 * C, none⟩) C C, undef, undef, undef, undef, undef, undef, undef, undef, undef, undef, undef, undef, undef, undef, undef, undef, undef], defers := [] })
    (fun _ _ _ _ _ _ hs _ _ => hs)
    ?assign ?body ?done ?stop
  case assign =>
    rintro l pre x W K hp hK
    gi_wp2
    exact hK _ _ (KeepsFrom.refl _ _) (BldFr.refl _ _) hp rfl
  case body =>
    rintro l pre x a' W hlw ⟨rec, hrec⟩ hp rfl hlt
    clear hlw hrec
    have hn2 : 1 ≤ n - 1 - 1 := by omega
    obtain ⟨P, hP⟩ : ∃ P, P = x.1 * C := ⟨_, rfl⟩
    obtain ⟨T, hT⟩ : ∃ T, T = rowsT C xs (pre.map Fin.val) := ⟨_, rfl⟩
    have hTl : T.length ≤ 411 * 6 := by
      have h1 := rowsT_len HL.out HS.out (by omega) (pre.map Fin.val) (fun j hj => by
        obtain ⟨y, _, rfl⟩ := List.mem_map.1 hj
        exact y.2)
      rw [List.length_map] at h1
      rw [hT]
      omega
    have hrl : ∀ i, i ≤ C → (cellsT ((chunkL C xs x.1).take i)).length ≤ 410 := fun i hi => by
      have h2 := cells_len ((chunkL C xs x.1).take i) (fun y hy => HS.out y (chunk_mem y (List.mem_of_mem_take hy)))
      rw [List.length_take] at h2
      omega
    rw [← hT] at hp
    rw [← hP]
    have HTE := Lib.hid hT
    have HRL := Lib.hid hrl
    have HP := Lib.hid hP
    have HBP := Lib.hid hp
    have hPC : P + C ≤ xs.length := by
      rw [HL.out, hP]
      have h1 : (x.1 + 1) * C ≤ R * C := Nat.mul_le_mul_right C x.2
      rw [Nat.succ_mul] at h1
      exact h1
    have hz3W := hp.gr.size
    clear hT hrl hP hp
    gi_wp2
    gi_loopw [35] (fun i wr => ∃ k : Nat, k ≤ C ∧ i = .int .i64 k ∧ Bld w3 b (T ++ cellsT ((chunkL C xs x.1).take k)) wr ∧ BldFr b W wr ∧ KeepsOthers W wr) (fun i _ => C - (intOf i).toNat)
    case atStart => exact ⟨0, Nat.zero_le _, rfl, (by rw [List.take_zero]; show Bld w3 b (T ++ []) W; rw [List.append_nil]; exact HBP.out), BldFr.refl _ _, KeepsOthers.refl _⟩
    case round =>
      obtain ⟨k, hk, rfl, hb0, hf0, hk0⟩ := hrel
      obtain ⟨wo, rfl⟩ : ∃ wo : World, wo = wr := ⟨_, rfl⟩
      have HB0 := Lib.hid hb0
      have HF0 := Lib.hid hf0
      have HK0 := Lib.hid hk0
      clear hb0 hf0 hk0
      by_cases hlt2 : k < C
      · have hix : P + k < xs.length := by omega
        have hixx : x.1 * C + k < xs.length := by rw [← HP.out]; exact hix
        have hnext := cells_next HL.out x.2 k hlt2 hixx
        obtain ⟨_, _, he, d0'⟩ := HXS.out (P + k) _ (strs_get xs (P + k) hix)
        cases he
        have d0 := (gr_cell (gr_trans HG3.out HB0.out.gr) (lt_of_cell d0')).trans d0'
        have hrow := HRL.out (k + 1) hlt2
        obtain ⟨y, hy⟩ : ∃ y, y = xs.getD (P + k) ⟨#[]⟩ := ⟨_, rfl⟩
        have hyx : xs[x.1 * C + k] = y := by rw [hy, getD_eq xs (P + k) _ hix]; simp only [HP.out]
        rw [hyx] at hnext
        rw [← hy] at d0
        have d1 : wo.cell? ⟨ab, off + P + k, none⟩ = some (.string y) := by rw [Nat.add_assoc]; exact d0
        have HNX := Lib.hid hnext
        have hkc : decide ((k : Int) < (C : Int)) = true := decide_eq_true (by omega)
        have hyt := (tok_ok (HS.out y (by rw [hy, getD_eq xs (P + k) _ hix]; exact List.getElem_mem hix))).2.2
        have hos : (orDot y).size = (tokB y).length := by
          show (tokB y).toArray.size = _
          rw [List.size_toArray]
        have hod : (orDot y).data.toList = tokB y := by simp [orDot]
        have hrk := HRL.out k hk
        clear d0 d0' hnext hyx hy hixx
        by_cases hk0 : k = 0
        · subst hk0
          rw [if_pos rfl, List.nil_append] at HNX
          have HN2 := HNX
          clear HNX
          simp only [Nat.add_zero] at d1
          gi_wp2
          have gq := gr_alloc (gr_refl wo none) (.cells #[.string y, .string ⟨#[46]⟩] 9)
          have hq := heap_alloc_new wo (.cells #[.string y, .string ⟨#[46]⟩] 9)
          refine ⟨trivial, (CallsIn.inRound l (callsIn_wide.2 (orStr_any y wo.heap.size 2 _ (blkC hq 0 rfl) (blkC hq 1 rfl)))).mono ?_⟩
          rintro e wb ⟨rfl, rfl⟩
          have HQ := Lib.hid (And.intro (HB0.out.keep0 gq) (And.intro (HF0.out.trans (BldFr.gr gq)) (HK0.out.trans (KeepsOthers.alloc wo (.cells #[.string y, .string ⟨#[46]⟩] 9)))))
          obtain ⟨wb, hwb⟩ : ∃ wb, wb = wo.alloc (.cells #[.string y, .string ⟨#[46]⟩] 9) := ⟨_, rfl⟩
          rw [← hwb] at HQ
          rw [← hwb]
          clear hwb gq hq d1
          gi_wp2
          refine ⟨trivial, (CallsIn.inRound l (callsIn_wide.2 (bldWriteK_any HQ.out.1 (orDot y) (by rw [List.length_append, hos]; omega)))).mono ?_⟩
          rintro e wc ⟨rfl, hbc, hfc, hkc2⟩
          rw [hod] at hbc
          have HR2 := Lib.hid (And.intro hbc (And.intro (HQ.out.2.1.trans hfc) (HQ.out.2.2.trans hkc2)))
          clear hbc hfc hkc2 HQ
          gi_wp2
          go_roundw
          case rel => exact ⟨1, by omega, by go_num, (by rw [HN2.out]; have h := HR2.out.1; rw [List.take_zero] at h; have e : T ++ cellsT [] = T := List.append_nil T; rw [e] at h; exact h), HR2.out.2.1, HR2.out.2.2⟩
          case measure => simp [intOf]; omega
        · rw [if_neg hk0] at HNX
          have hkp : (0 : Int) < (k : Int) := by omega
          gi_wp2
          refine ⟨trivial, (CallsIn.inRound l (callsIn_wide.2 (bldWriteK_any HB0.out ⟨#[32]⟩ (by rw [List.length_append]; show _ + 1 ≤ _; omega)))).mono ?_⟩
          rintro e wa ⟨rfl, hba, hfa, hka⟩
          have d2 : wa.cell? ⟨ab, off + P + k, none⟩ = some (.string y) := by
            obtain ⟨_, _, he, dd⟩ := HXS.out (P + k) _ (strs_get xs (P + k) hix)
            cases he
            rw [Nat.add_assoc, (gr_cell (gr_trans HG3.out hba.gr) (lt_of_cell dd)).trans dd]
            rw [Nat.add_assoc, (gr_cell (gr_trans HG3.out HB0.out.gr) (lt_of_cell dd)).trans dd] at d1
            exact d1
          have HA := Lib.hid (And.intro hba (And.intro (HF0.out.trans hfa) (HK0.out.trans hka)))
          clear hba hfa hka d1
          gi_wp2
          have gq := gr_alloc (gr_refl wa none) (.cells #[.string y, .string ⟨#[46]⟩] 9)
          have hq := heap_alloc_new wa (.cells #[.string y, .string ⟨#[46]⟩] 9)
          refine ⟨trivial, (CallsIn.inRound l (callsIn_wide.2 (orStr_any y wa.heap.size 2 _ (blkC hq 0 rfl) (blkC hq 1 rfl)))).mono ?_⟩
          rintro e wb ⟨rfl, rfl⟩
          have HQ := Lib.hid (And.intro (HA.out.1.keep0 gq) (And.intro (HA.out.2.1.trans (BldFr.gr gq)) (HA.out.2.2.trans (KeepsOthers.alloc wa (.cells #[.string y, .string ⟨#[46]⟩] 9)))))
          obtain ⟨wb, hwb⟩ : ∃ wb, wb = wa.alloc (.cells #[.string y, .string ⟨#[46]⟩] 9) := ⟨_, rfl⟩
          rw [← hwb] at HQ
          rw [← hwb]
          clear hwb gq hq d2
          gi_wp2
          refine ⟨trivial, (CallsIn.inRound l (callsIn_wide.2 (bldWriteK_any HQ.out.1 (orDot y) (by rw [List.length_append, List.length_append, hos]; show _ + 1 + _ ≤ _; omega)))).mono ?_⟩
          rintro e wc ⟨rfl, hbc, hfc, hkc2⟩
          rw [hod] at hbc
          have HR2 := Lib.hid (And.intro hbc (And.intro (HQ.out.2.1.trans hfc) (HQ.out.2.2.trans hkc2)))
          clear hbc hfc hkc2 HQ
          gi_wp2
          go_roundw
          case rel =>
            refine ⟨k + 1, by omega, by go_num, ?_, HR2.out.2.1, HR2.out.2.2⟩
            rw [HNX.out]
            have h := HR2.out.1
            rw [List.append_assoc, List.append_assoc] at h
            rw [List.append_assoc]
            exact h
          case measure => simp [intOf]; omega
      · obtain rfl : k = C := by omega
        have hkc : decide ((k : Int) < (k : Int)) = false := decide_eq_false (by omega)
        have hrk := HRL.out k (Nat.le_refl _)
        gi_wp2
        refine ⟨trivial, (CallsIn.inRound l (callsIn_wide.2 (bldWriteK_any HB0.out ⟨#[10]⟩ (by rw [List.length_append]; show _ + 1 ≤ _; omega)))).mono ?_⟩
        rintro e wa ⟨rfl, hba, hfa, hka⟩
        have HA := Lib.hid (And.intro hba (And.intro (HF0.out.trans hfa) (HK0.out.trans hka)))
        clear hba hfa hka
        gi_wp2
        refine ⟨HA.out.2.2.from _, HA.out.2.1, ?_⟩
        have h := HA.out.1
        rw [List.take_of_length_le (by rw [chunk_len HL.out x.2]; exact Nat.le_refl _), List.append_assoc] at h
        show Bld w3 b (rowsT k xs (List.map Fin.val (pre ++ [x]))) wa
        rw [List.map_append, List.map_cons, List.map_nil, rowsT_app, ← HTE.out]
        exact h
  case done =>
    rintro Dd ys W hDd hys hp hK
    have hry : ys.map Fin.val = List.range R := by
      rw [hys]
      refine List.ext_getElem (by simp [upto]) (fun i h1 h2 => ?_)
      have hiR : i < R := by simpa using h2
      simp [upto, hiR]
    rw [hry, rowsT_all] at hp
    have HB := Lib.hid hp
    have HK := Lib.hid hK
    clear hys hry hp hK
    gi_wp2
    refine ⟨trivial, (callsIn_wide.2 (bldStringK_any HB.out)).mono ?_⟩
    rintro e W2 ⟨rfl, g6, hk6⟩
    have hK' := hk6.same Dd _ HK.out rfl
    have HG6 := Lib.hid (gr_trans HG3.out g6)
    have HG36 := Lib.hid g6
    clear hk6 g6
    gi_wp2
    refine ⟨by simp, .inl ⟨_, _, rfl, run_takeDeferred hK', ?_⟩⟩
    refine ⟨_, by simp [results, Tryz.f36, go_sem]; rfl, ?_⟩
    refine ⟨rfl, ?_⟩
    exact gr_grown HG6.out (grownBy_putObj' W2 Dd (.deferred none)) (fun q e => by cases e; have := HG5.out.size; omega)
  case stop =>
    rintro Dd q pre W hDd hh hf hK
    exact hf.elim
theorem print_any (R C : Nat) (xs : List ByteArray) (r1 : 1 ≤ R) (r6 : R ≤ 6) (c1 : 1 ≤ C) (c6 : C ≤ 6) (hl : xs.length = R * C) (hs : ∀ k ∈ xs, SlotOk k) (he : EvenB xs) (ab off cap : Nat) (hcap : R * C ≤ cap) (w : World) (hx : CellsAt w (some ⟨ab, off, none⟩) (strs xs)) :
    Calls Tryz.prog 36 #[.agg #[.int .i64 R, .int .i64 C], .slice (some ⟨ab, off, none⟩) xs.length cap] w fun e w' => e = .returned (.tuple #[.string ⟨(layText C R xs).toArray⟩, .int .i64 0]) ∧ w.grownBy w' none :=
  callsIn_wide.1 (print_in 4 (Nat.le_refl _) R C xs r1 r6 c1 c6 hl hs he ab off cap hcap w hx)
end Go.Proofs.YthikknnadmebgaaGreatDoor
