/- A log of readings: made, and searched. -/
import Derived.Test.YtkefloekcgangaaPkSAv
import Derived.Test.YtkefloekcgangaaPkSAx
import Derived.Test.YtkefloekcgangaaPkSAe
import Derived.Deep.DrawnRows
import Derived.BigRegion
import Derived.WalkLawsBesides
namespace Go.Proofs.Ytkefloekcgangaa
open Go.RowKit
attribute [local go_sem ↓] Go.wp_at_zero Go.wp_at_succ

/-- What may change: the blocks of T, and new ones. -/
structure GrowT (T : Nat → Prop) (w w' : World) : Prop where
  os : w'.os = w.os
  tape : w'.tape = w.tape
  output : w'.output = w.output
  size : w.heap.size ≤ w'.heap.size
  block : ∀ k, k < w.heap.size → ¬ T k → w'.heap[k]? = w.heap[k]?
theorem GrowT.of {T : Nat → Prop} {w w' : World} {r : Option Nat} (g : w.grownBy w' r) (hr : ∀ q, r = some q → T q) : GrowT T w w' := ⟨g.os, g.tape, g.output, g.size, fun k hk hT => g.block k hk (fun e => hT (hr k e.symm))⟩
theorem GrowT.trans {T : Nat → Prop} {w w1 w2 : World} (h : GrowT T w w1) (g : GrowT T w1 w2) : GrowT T w w2 := ⟨g.os.trans h.os, g.tape.trans h.tape, g.output.trans h.output, Nat.le_trans h.size g.size, fun k hk hT => (g.block k (Nat.lt_of_lt_of_le hk h.size) hT).trans (h.block k hk hT)⟩
theorem GrowT.grown {T : Nat → Prop} {w0 w w' : World} (h : w0.grownBy w none) (g : GrowT T w w') (hT : ∀ k, T k → w0.heap.size ≤ k) : w0.grownBy w' none :=
  ⟨g.os.trans h.os, g.tape.trans h.tape, g.output.trans h.output, Nat.le_trans h.size g.size, fun k hk hr => (g.block k (Nat.lt_of_lt_of_le hk h.size) (fun t => by have := hT k t; omega)).trans (h.block k hk hr)⟩
theorem GrowT.grown' {T : Nat → Prop} {w0 w w' : World} {r : Option Nat} (h : w0.grownBy w r) (g : GrowT T w w') (hT : ∀ k, T k → w0.heap.size ≤ k) : w0.grownBy w' r :=
  ⟨g.os.trans h.os, g.tape.trans h.tape, g.output.trans h.output, Nat.le_trans h.size g.size, fun k hk hr => (g.block k (Nat.lt_of_lt_of_le hk h.size) (fun t => by have := hT k t; omega)).trans (h.block k hk hr)⟩
theorem GrowT.mono {T T' : Nat → Prop} {w w' : World} (g : GrowT T w w') (h : ∀ k, k < w.heap.size → T k → T' k) : GrowT T' w w' := ⟨g.os, g.tape, g.output, g.size, fun k hk hT => g.block k hk (fun t => hT (h k hk t))⟩

structure LogAt (w : World) (g base : Nat) (m : Mtr) (lv : Value) (L : List RdG) : Prop where
  blk : w.heap[g]? = some (.cells #[.int .i64 m.cnt, .int .i64 m.turn, .int .i64 m.fast, lv] 88 (0, 0))
  rds : Rds w base lv L
theorem LogAt.keep0 {w w1 : World} {g base : Nat} {m : Mtr} {lv : Value} {L : List RdG} (h : LogAt w g base m lv L) (gr : w.grownBy w1 none) : LogAt w1 g base m lv L := ⟨(gr.block _ (lt_of_block h.blk) (by simp)).trans h.blk, h.rds.keep0 gr⟩
theorem own_keepT {T : Nat → Prop} {w w1 : World} {base e size n : Nat} {v : Value} {xs : List Value} (h : w.ownsRow base e size v n xs) (g : GrowT T w w1) (hv : ∀ q, v.ownBlock = some q → ¬ T q) : w1.ownsRow base e size v n xs := by
  refine ⟨h.1, ?_⟩
  rcases h.2 with h2 | ⟨b, cap, cur, hv2, hg, hb, r⟩
  · exact .inl h2
  · exact .inr ⟨b, cap, cur, hv2, hg, (g.block b (lt_of_block hb) (hv b (by rw [hv2]; rfl))).trans hb, r⟩
theorem Rds.keepT {T : Nat → Prop} {w w1 : World} {base : Nat} {v : Value} {L : List RdG} (h : Rds w base v L) (g : GrowT T w w1) (hv : ∀ q, v.ownBlock = some q → ¬ T q) (hT : ∀ q cs, T q → w.heap[q]? ≠ some (.cells cs 3 (0, 0))) : Rds w1 base v L := by
  refine ⟨own_keepT h.row g hv, fun x hx => own_keepT (h.vals x hx) g fun q hq ht => ?_⟩
  have h2 := h.vals x hx
  rcases h2.2 with ⟨e, _⟩ | ⟨b, cap, cur, e, _, hb, _⟩
  · rw [e] at hq; cases hq
  · rw [e] at hq
    cases hq
    exact hT b cur ht hb
set_option maxRecDepth 100000 in
theorem newLog_any (m : Mtr) (hok : MtrOk m) (w : World) : Calls Try.prog 17 #[mtrV m] w fun e w' => ∃ g, e = .returned (.tuple #[.pointer (some ⟨g, 0, none⟩), .int .i64 0]) ∧ (∀ base, LogAt w' g base m (.slice none 0 0) []) ∧ w.heap.size ≤ g ∧ w.grownBy w' none := by
  have MF := Lib.hid (fun W => checkMeter_any m W hok)
  obtain ⟨mc, mt, mf⟩ := m
  unfold mtrV at MF ⊢
  dsimp only at MF ⊢
  have hP := heap_alloc_new w (.cells #[.int .i64 mc, .int .i64 mt, .int .i64 mf] 34)
  have g1 := gr_alloc (gr_refl w none) (.cells #[.int .i64 mc, .int .i64 mt, .int .i64 mf] 34)
  obtain ⟨w1, hw1⟩ : ∃ w1, w1 = w.alloc (.cells #[.int .i64 mc, .int .i64 mt, .int .i64 mf] 34) := ⟨_, rfl⟩
  rw [← hw1] at hP g1
  have HW := Lib.hid hw1
  have HP := Lib.hid hP
  have HG := Lib.hid g1
  obtain ⟨q0, q1, q2, -⟩ := blk3M hP
  clear hw1 hP g1 hok
  go_enter Try.func17, Try.ntmps17
  go_wp2_with (fail)
  rw [← HW.out]
  go_wp2_with (fail)
  refine (MF.out w1).mono ?_
  rintro e w2 ⟨rfl, g2⟩
  have hP2 := (g2.block _ (lt_of_block HP.out) (by simp)).trans HP.out
  obtain ⟨p0, p1, p2, -⟩ := blk3M hP2
  have HG2 := Lib.hid (gr_trans HG.out g2)
  clear g2 hP2 q0 q1 q2
  go_wp2_with (fail)
  go_ret2
  exact ⟨w2.heap.size, rfl, fun base => ⟨heap_alloc_new w2 _, Rds.nil _ _⟩, HG2.out.size, gr_trans HG2.out (gr_alloc (gr_refl w2 none) _)⟩
set_option maxRecDepth 100000 in
theorem find_any (m : Mtr) (L : List RdG) (g base : Nat) (lv : Value) (t : Int) (w : World) (h : LogAt w g base m lv L) (hs : (rdsG L).Pairwise (fun a b => a.at_ < b.at_)) (hl : L.length ≤ 100000) :
    Calls Try.prog 51 #[.pointer (some ⟨g, 0, none⟩), .int .i64 t] w (FindPost (rdsG L) t w) := by
  obtain ⟨a, c, rfl, -, -, hc, -⟩ := own_shape h.rds.row
  have d3 : w.cell? ⟨g, 3, none⟩ = some (.slice a L.length c) := blkC h.blk 3 rfl
  have BS := Lib.hid (bsearchRd_any L a c t w hc hs hl)
  clear h hs hc
  go_enter Try.func51, Try.ntmps51
  go_wp2_with (fail)
  refine BS.out.mono ?_
  rintro e w2 ⟨i, b, rfl, h1, h2, h3, h4⟩
  have H1 := Lib.hid h1
  have H2 := Lib.hid h2
  have H3 := Lib.hid h3
  clear h1 h2 h3
  go_wp2_with (fail)
  go_ret2
  exact ⟨i, b, rfl, H1.out, H2.out, H3.out, h4⟩
end Go.Proofs.Ytkefloekcgangaa

/-! A reading is put into a log. -/
namespace Go.Proofs.Ytkefloekcgangaa
open Go.RowKit
attribute [local go_sem ↓] Go.wp_at_zero Go.wp_at_succ

theorem flat_take {α : Type} {enc : α → List Value} {m : Nat} (hm : ∀ a, (enc a).length = m) (l : List α) (i : Nat) : flat enc (l.take i) = (flat enc l).take (i * m) := by
  induction l generalizing i with
  | nil => simp [flat]
  | cons a l ih =>
    cases i with
    | zero => simp [flat]
    | succ i =>
      have e : flat enc (a :: l) = enc a ++ flat enc l := by simp [flat]
      have e2 : flat enc ((a :: l).take (i + 1)) = enc a ++ flat enc (l.take i) := by simp [flat]
      have h3 : (i + 1) * m = i * m + m := by rw [Nat.add_mul, Nat.one_mul]
      rw [e, e2, ih, List.take_append, List.take_of_length_le (l := enc a) (by rw [hm a, h3]; omega), hm a, h3, Nat.add_sub_cancel]
theorem flat_drop {α : Type} {enc : α → List Value} {m : Nat} (hm : ∀ a, (enc a).length = m) (l : List α) (i : Nat) : flat enc (l.drop i) = (flat enc l).drop (i * m) := by
  induction l generalizing i with
  | nil => simp [flat]
  | cons a l ih =>
    cases i with
    | zero => simp [flat]
    | succ i =>
      have e : flat enc (a :: l) = enc a ++ flat enc l := by simp [flat]
      have h3 : (i + 1) * m = i * m + m := by rw [Nat.add_mul, Nat.one_mul]
      rw [e, List.drop_succ_cons, ih, List.drop_append, List.drop_of_length_le (l := enc a) (by rw [hm a, h3]; omega), hm a, h3, Nat.add_sub_cancel, List.nil_append]
theorem cellsG_ins (L : List RdG) (x : RdG) (i : Nat) : cellsG (L.take i ++ [x] ++ L.drop i) = (cellsG L).take (i * 2) ++ encC x.cell ++ (cellsG L).drop (i * 2) := by
  unfold cellsG
  rw [List.map_append, List.map_append, flat_append, flat_append, List.map_take, List.map_drop, flat_take (m := 2) (fun _ => rfl), flat_drop (m := 2) (fun _ => rfl)]
  simp [flat]
/-- What an insertion and the store of its result leave of a log. -/
theorem LogAt.put {w7 w8 : World} {g base i b8 n8 c8 : Nat} {m : Mtr} {lv : Value} {L : List RdG} {x : RdG} (h : LogAt w7 g base m lv L) (hx : w7.ownsRow base 3 1 (.slice x.a x.rd.vs.length x.c) x.rd.vs.length (ints x.rd.vs)) (g8 : w7.grownBy w8 lv.ownBlock) (hi : i ≤ L.length)
    (ho : w8.ownsRow base 52 2 (.slice (some ⟨b8, 0, none⟩) n8 c8) (L.length + 1) ((cellsG L).take (i * 2) ++ encC x.cell ++ (cellsG L).drop (i * 2))) :
    LogAt (w8.setCell ⟨g, 3, none⟩ (.slice (some ⟨b8, 0, none⟩) n8 c8)) g base m (.slice (some ⟨b8, 0, none⟩) n8 c8) (L.take i ++ [x] ++ L.drop i) ∧ GrowT (fun k => k = g ∨ lv.ownBlock = some k) w7 (w8.setCell ⟨g, 3, none⟩ (.slice (some ⟨b8, 0, none⟩) n8 c8)) ∧ w8.heap[g]? = some (.cells #[.int .i64 m.cnt, .int .i64 m.turn, .int .i64 m.fast, lv] 88 (0, 0)) := by
  have hb8 := (g8.block _ (lt_of_block h.blk) (fun e => own_ne h.rds.row h.blk (by decide) e.symm)).trans h.blk
  have gs : w8.grownBy _ (some g) := gr_set (q := ⟨g, 3, none⟩) (gr_refl w8 (some g)) rfl (.slice (some ⟨b8, 0, none⟩) n8 c8)
  have hnt : ∀ {v : Value} {n : Nat} {xs : List Value} {e sz : Nat}, w8.ownsRow base e sz v n xs → e ≠ 88 → v.ownBlock ≠ some g := fun ho hne => own_ne ho hb8 hne
  refine ⟨⟨heap_setCell_same w8 g 3 _ _ _ hb8, ⟨?_, fun y hy => ?_⟩⟩, (GrowT.of g8 (fun q e => .inr e)).trans (GrowT.of gs (fun q e => .inl (by cases e; rfl))), hb8⟩
  · rw [cellsG_ins]
    have hl : (L.take i ++ [x] ++ L.drop i).length = L.length + 1 := by simp; omega
    rw [hl]
    exact own_keep ho gs (.inr (hnt ho (by decide)))
  · have hy8 : w8.ownsRow base 3 1 (.slice y.a y.rd.vs.length y.c) y.rd.vs.length (ints y.rd.vs) := by
      simp only [List.mem_append, List.mem_singleton] at hy
      rcases hy with (hy | hy) | hy
      · exact own_keepU (h.rds.vals y (List.mem_of_mem_take hy)) h.rds.row (by decide) g8
      · rw [hy]; exact own_keepU hx h.rds.row (by decide) g8
      · exact own_keepU (h.rds.vals y (List.mem_of_mem_drop hy)) h.rds.row (by decide) g8
    exact own_keep hy8 gs (.inr (hnt hy8 (by decide)))
def PutPost (m : Mtr) (X : List Rd) (r : Rd) (g base : Nat) (lv : Value) (L : List RdG) (w : World) (e : Ending) (w' : World) : Prop :=
  ∃ (b : Bool) (lv' : Value) (L' : List RdG), e = .returned (.tuple #[.bool b, .int .i64 0]) ∧ LogAt w' g base m lv' L' ∧ Asc (rdsG L') (X ++ [r]) ∧ L'.length ≤ L.length + 1 ∧ (∀ q, lv'.ownBlock = some q → lv.ownBlock = some q ∨ w.heap.size ≤ q) ∧ GrowT (fun k => k = g ∨ lv.ownBlock = some k) w w'
set_option maxRecDepth 100000 in
set_option maxHeartbeats 8000000 in
theorem put_ok (m : Mtr) (hok : MtrOk m) (L : List RdG) (X : List Rd) (g base : Nat) (lv : Value) (x : RdG) (w : World) (h : LogAt w g base m lv L) (hb : base ≤ w.heap.size) (hA : Asc (rdsG L) X) (hr : RdOk m x.rd) (hnc : NoConf (X ++ [x.rd])) (hx : CellsAt w x.a (ints x.rd.vs)) (hnil : x.a = none → x.rd.vs.length = 0 ∧ x.c = 0) (hl : L.length ≤ 100) :
    Calls Try.prog 18 #[.pointer (some ⟨g, 0, none⟩), .agg #[.int .i64 x.rd.at_, .slice x.a x.rd.vs.length x.c]] w (PutPost m X x.rd g base lv L w) := by
  have hvl : x.rd.vs.length ≤ 60 := by have := hr.len; have := hok.c2; omega
  have CR := Lib.hid (fun (W : World) (h : CellsAt W x.a (ints x.rd.vs)) => checkReading_ok m x.rd x.a x.c W hok hr h)
  have FD := Lib.hid (fun (W : World) (h : LogAt W g base m lv L) => find_any m L g base lv x.rd.at_ W h hA.asc (by omega))
  have HA := Lib.hid hA
  have HNC := Lib.hid hnc
  have HNIL := Lib.hid hnil
  have HM : Hid (∃ m0, m0 = m) := ⟨m, rfl⟩
  have hV := heap_alloc_new w (.cells #[.int .i64 x.rd.at_, .slice x.a x.rd.vs.length x.c] 52)
  have ga := gr_alloc (gr_refl w none) (.cells #[.int .i64 x.rd.at_, .slice x.a x.rd.vs.length x.c] 52)
  obtain ⟨w1, hw1⟩ : ∃ w1, w1 = w.alloc (.cells #[.int .i64 x.rd.at_, .slice x.a x.rd.vs.length x.c] 52) := ⟨_, rfl⟩
  rw [← hw1] at hV ga
  obtain ⟨V, hVe⟩ : ∃ V, V = w.heap.size := ⟨_, rfl⟩
  rw [← hVe] at hV
  have HW := Lib.hid hw1
  have HVE := Lib.hid hVe
  have HV := Lib.hid hV
  have HGA := Lib.hid ga
  have HL := Lib.hid (h.keep0 ga)
  have HX := Lib.hid (hx.keep0 ga)
  have hbV : base ≤ V := by omega
  clear hw1 hVe hV ga h hx hA hnc hnil hr hok HM
  unfold mtrV at CR
  go_enter Try.func18, Try.ntmps18
  go_wp2_with (fail)
  rw [← HW.out, ← HVE.out]
  have b0 : w1.cell? ⟨g, 0, none⟩ = some (.int .i64 m.cnt) := blkC HL.out.blk 0 rfl
  have b1 : w1.cell? ⟨g, 1, none⟩ = some (.int .i64 m.turn) := blkC HL.out.blk 1 rfl
  have b2 : w1.cell? ⟨g, 2, none⟩ = some (.int .i64 m.fast) := blkC HL.out.blk 2 rfl
  have v0 : w1.cell? ⟨V, 0, none⟩ = some (.int .i64 x.rd.at_) := blkC HV.out 0 rfl
  have v1 : w1.cell? ⟨V, 1, none⟩ = some (.slice x.a x.rd.vs.length x.c) := blkC HV.out 1 rfl
  have y0 := grew_cell b0
  have y1 := grew_cell b1
  have y2 := grew_cell b2
  have y3 := grew_cell v0
  have y4 := grew_cell v1
  clear b0 b1 b2 v0 v1
  refine wp_region_grew (by kernel_rfl) (by kernel_rfl) ?_
  repeat (go_big_quiet_step (first | (go_at_call 50; exact Calls.grew_of (fun W g => CR.out W (HX.out.keep0 g)))))
  refine wpQuiet_nil ?_
  rintro wq ⟨nn, rfl⟩
  have gq := nn.gr
  obtain ⟨w2, hw2⟩ : ∃ w2, w2 = nn.w := ⟨_, rfl⟩
  rw [← hw2] at gq
  rw [← hw2]
  have HL2 := Lib.hid (HL.out.keep0 gq)
  have HX2 := Lib.hid (HX.out.keep0 gq)
  have HV2 := Lib.hid ((gq.block _ (lt_of_block HV.out) (by simp)).trans HV.out)
  have HG2 := Lib.hid (gr_trans HGA.out gq)
  have v0 : w2.cell? ⟨V, 0, none⟩ = some (.int .i64 x.rd.at_) := blkC HV2.out 0 rfl
  clear hw2 gq y0 y1 y2 y3 y4 HL HX HV HGA CR
  go_wp2_with (fail)
  refine (FD.out w2 HL2.out).mono ?_
  rintro e w3 ⟨i, b, rfl, hpl, hbt, hbf, g3⟩
  have HL3 := Lib.hid (HL2.out.keep0 g3)
  have HX3 := Lib.hid (HX2.out.keep0 g3)
  have HV3 := Lib.hid ((g3.block _ (lt_of_block HV2.out) (by simp)).trans HV2.out)
  have HG3 := Lib.hid (gr_trans HG2.out g3)
  have hil : i ≤ L.length := by have := hpl.le; rw [rdsG_len] at this; exact this
  have HPL := Lib.hid hpl
  have HBT := Lib.hid hbt
  have HBF := Lib.hid hbf
  obtain ⟨va, vc, rfl, -, -⟩ := HL3.out.rds.shape
  have v0 : w3.cell? ⟨V, 0, none⟩ = some (.int .i64 x.rd.at_) := blkC HV3.out 0 rfl
  have v1 : w3.cell? ⟨V, 1, none⟩ = some (.slice x.a x.rd.vs.length x.c) := blkC HV3.out 1 rfl
  have b3 : w3.cell? ⟨g, 3, none⟩ = some (.slice va L.length vc) := blkC HL3.out.blk 3 rfl
  clear hpl hbt hbf g3 HL2 HX2 HV2 HG2 FD
  cases b with
  | true =>
    obtain ⟨hi0, hat⟩ := HBT.out rfl
    have hil2 : i < L.length := by rw [rdsG_len] at hi0; exact hi0
    have hfound := HA.out.found (i := i) hi0 hat HNC.out
    have hrd : L[i].rd = x.rd := by simpa [rdsG] using hfound
    obtain ⟨gb, gc, ev, -, -, -, e1⟩ := HL3.out.rds.at hil2
    cases ev
    obtain ⟨ya, yc, ev, -, -, hcy, -⟩ := own_shape (HL3.out.rds.vals _ (List.getElem_mem hil2))
    cases ev
    have HIN : Hid (x.rd ∈ rdsG L) := by show _ ∈ _; rw [← hrd]; exact List.mem_map_of_mem (List.getElem_mem hil2)
    rw [hrd] at e1 hcy
    obtain ⟨y, hy⟩ : ∃ y, y = L[i] := ⟨_, rfl⟩
    rw [← hy] at e1 hcy
    have EQ := Lib.hid (fun (W : World) (g : w3.grownBy W none) => equal_int x.rd.vs y.a x.a y.c x.c W (hcy.keep0 g) (HX3.out.keep0 g) (by omega))
    have y0 := grew_cell v1
    have y1 := grew_cell b3
    have y2 := grew_cell e1
    have hq3 : (i : Int) < (L.length : Int) := by omega
    have hq4 : (0 : Int) ≤ (i : Int) := by omega
    clear hy hcy hrd hfound hat hi0 v0 v1 b3 e1
    go_wp2_with (fail)
    refine wp_region_grew (by kernel_rfl) (by kernel_rfl) ?_
    repeat (go_big_quiet_step (first | (go_at_call 43; exact Calls.grew_of (fun W g => EQ.out W g))))
    refine wpQuiet_nil ?_
    rintro wq ⟨nn, rfl⟩
    have gq := nn.gr
    go_wp2_with (fail)
    go_ret2
    exact ⟨false, _, L, rfl, HL3.out.keep0 gq, HA.out.again HIN.out, by omega, fun q hq => .inl hq, GrowT.of (gr_trans HG3.out gq) (fun q e => by cases e)⟩
  | false =>
    have hno := HBF.out rfl
    have HINS := Lib.hid (HA.out.insert HPL.out hno)
    have hl0 : ((L.length : Int) == 2000) = false := by simp; omega
    have CL := Lib.hid (cloneInt_any x.a x.rd.vs.length x.c (ints x.rd.vs) w3.drew (by rw [ints_length]; omega) (HX3.out.keep0 (gr_drew (gr_refl _ _))) HNIL.out (ints_one _) (by omega))
    have hVl := lt_of_block HV3.out
    have hgl := lt_of_block HL3.out.blk
    have hgd := gr_drew (gr_refl w3 none)
    have hbw3 : base ≤ w3.heap.size := by omega
    clear hno HBT HBF HX3 HPL
    go_wp2_with (fail)
    go_region_law (first
      | (go_simp; go_at_call 52; (with_reducible refine IN.out.mono ?_); rintro e w8 ⟨v8, rfl, ho8, g8', hlie⟩; obtain ⟨b8, cp8, rfl, -, -, -, -⟩ := own_some ho8 (by omega); have g8 := gr_trans (gr_alloc (gr_refl w7 _) _) g8'; have hP8 := HL7.out.put (x := ⟨x.rd, xa, xc⟩) HO7.out g8 hil ho8; have z8 := blkF hP8.2.2 3; have c8 := blkC hP8.2.2 3 rfl)
      | (go_simp; go_at_call 39; (with_reducible refine CL.out.mono ?_); rintro e w7 ⟨v7, rfl, ho7, g7'⟩; obtain ⟨xa, xc, rfl, -, -, -, -⟩ := own_shape ho7; have g7 := gr_trans hgd g7'; have HL7 := Lib.hid (HL3.out.keep0 g7); have HO7 := Lib.hid (own_base ho7 (show base ≤ w3.drew.heap.size from hbw3)); have e0 := (gr_cell g7 hVl).trans v0; have e1 := (gr_cell g7 hVl).trans v1; have e3 := (gr_cell g7 hgl).trans b3; have hz7 := g7.size; have hgl7 := Nat.lt_of_lt_of_le hgl hz7; have hVl7 := Nat.lt_of_lt_of_le hVl hz7; have HG7 := Lib.hid (gr_trans HG3.out g7); have IN := Lib.hid (insertRd_any base L.length i (cellsG L) (.slice va L.length vc) w7.heap.size 1 #[.int .i64 x.rd.at_, .slice xa x.rd.vs.length xc] (w7.alloc (.cells #[.int .i64 x.rd.at_, .slice xa x.rd.vs.length xc] 52)) (HL7.out.rds.row.alloc _) (heap_alloc_new w7 _) (own_fresh HL7.out.rds.row rfl) rfl (by simp [Value.oneCell']) (cellsG_one L) hil (by omega) (by simp; omega)))
      | fail)
    all_goals (go_wp2_with (fail))
    all_goals go_ret2
    all_goals
      refine ⟨true, _, L.take i ++ [⟨x.rd, xa, xc⟩] ++ L.drop i, rfl, hP8.1, ?_, by simp; omega, fun q hq => ?_, (GrowT.of HG7.out (fun q e => by cases e)).trans hP8.2.1⟩
      · have e : rdsG (L.take i ++ [⟨x.rd, xa, xc⟩] ++ L.drop i) = (rdsG L).take i ++ [x.rd] ++ (rdsG L).drop i := by simp [rdsG, List.map_take, List.map_drop]
        rw [e]
        exact HINS.out
      · rcases hlie q hq with h | h
        · exact .inl h
        · have := HG7.out.size
          simp at h
          exact .inr (by omega)
end Go.Proofs.Ytkefloekcgangaa

/-! All readings of a log. -/
namespace Go.Proofs.Ytkefloekcgangaa
open Go.RowKit
attribute [local go_sem ↓] Go.wp_at_zero Go.wp_at_succ

theorem own_nilS {w : World} {base e size n c : Nat} {a : Option Addr} {xs : List Value} (h : w.ownsRow base e size (.slice a n c) n xs) : a = none → n = 0 ∧ c = 0 := by
  intro ha
  rcases h.2 with ⟨h2, h3⟩ | ⟨b, cap, cur, hv2, r⟩
  · cases h2; exact ⟨rfl, rfl⟩
  · cases hv2; cases ha
theorem Rds.toC {w : World} {base c : Nat} {a : Option Addr} {L : List RdG} (h : Rds w base (.slice a L.length c) L) : RdsC w a L := by
  obtain ⟨_, _, e, -, -, hc, -⟩ := own_shape h.row
  cases e
  refine ⟨hc, fun x hx => ?_, fun x hx => own_nilS (h.vals x hx)⟩
  obtain ⟨_, _, e, -, -, hv, -⟩ := own_shape (h.vals x hx)
  cases e
  exact hv
def OutPost (X : List Rd) (w : World) (e : Ending) (w' : World) : Prop := ∃ v L', e = .returned v ∧ Rds w' w.heap.size v L' ∧ rdsG L' = X ∧ w.grownBy w' none
set_option maxRecDepth 100000 in
set_option maxHeartbeats 4000000 in
theorem logReadings_any (m : Mtr) (L : List RdG) (g base : Nat) (lv : Value) (w : World) (h : LogAt w g base m lv L) (hl : L.length ≤ 1000) (hv : ∀ x ∈ L, x.rd.vs.length ≤ 1000) :
    Calls Try.prog 22 #[.pointer (some ⟨g, 0, none⟩)] w (OutPost (rdsG L) w) := by
  obtain ⟨va, vc, rfl, -, -⟩ := h.rds.shape
  have d3 : w.cell? ⟨g, 3, none⟩ = some (.slice va L.length vc) := blkC h.blk 3 rfl
  have HC := Lib.hid h.rds.toC
  have HV := Lib.hid hv
  clear h hv
  go_enter Try.func22, Try.ntmps22
  go_wp2_with (fail)
  go_loopw [3, 11] (fun v i wr => ∃ (k : Nat) (L2 : List RdG) (gv : Value), gv = v ∧ k ≤ L.length ∧ i = .int .i64 k ∧ Rds wr w.heap.size gv L2 ∧ Hid (rdsG L2 = rdsG (L.take k)) ∧ L2.length ≤ k ∧ w.grownBy wr none) (fun _ i _ => L.length - (intOf i).toNat)
  case atStart => exact ⟨0, [], _, rfl, Nat.zero_le _, rfl, Rds.nil _ _, rfl, Nat.zero_le _, gr_refl _ _⟩
  case round =>
    obtain ⟨k, L2, v, rfl, hk, rfl, hrd, HEQ, hl2k, hgr⟩ := hrel
    obtain ⟨w6, rfl⟩ : ∃ w6 : World, w6 = wr := ⟨_, rfl⟩
    obtain ⟨va2, vc2, rfl, -, -⟩ := hrd.shape
    have HRD := Lib.hid hrd
    clear hrd
    by_cases hlt : k < L.length
    · obtain ⟨b, off, rfl, c0, c1, cv⟩ := (HC.out.keep0 hgr).at hlt
      have hvl := HV.out _ (List.getElem_mem hlt)
      have HNIL := Lib.hid (HC.out.nil _ (List.getElem_mem hlt))
      have HTK : Hid (rdsG (L.take (k + 1)) = rdsG (L.take k) ++ [L[k].rd]) := by
        show _ = _
        have e : L.take (k + 1) = L.take k ++ [L[k]] := by simp
        rw [e, rdsG_app]
      obtain ⟨x, hx⟩ : ∃ x, x = L[k] := ⟨_, rfl⟩
      rw [← hx] at c0 c1 cv hvl HTK HNIL
      clear hx
      have ga := gr_alloc (gr_refl w6 none) (.cells #[.int .i64 x.rd.at_, .slice x.a x.rd.vs.length x.c] 52)
      have hV := heap_alloc_new w6 (.cells #[.int .i64 x.rd.at_, .slice x.a x.rd.vs.length x.c] 52)
      obtain ⟨w5, hw5⟩ : ∃ w5, w5 = w6.alloc (.cells #[.int .i64 x.rd.at_, .slice x.a x.rd.vs.length x.c] 52) := ⟨_, rfl⟩
      obtain ⟨V, hVe⟩ : ∃ V, V = w6.heap.size := ⟨_, rfl⟩
      rw [← hw5] at ga hV
      rw [← hVe] at hV
      have HR5 := Lib.hid (HRD.out.keep0 ga)
      have HG5 := Lib.hid (gr_trans hgr ga)
      have hVl := lt_of_block hV
      obtain ⟨d0, d1⟩ : w5.cell? ⟨V, 0, none⟩ = some (.int .i64 x.rd.at_) ∧ w5.cell? ⟨V, 1, none⟩ = some (.slice x.a x.rd.vs.length x.c) := ⟨blkC hV 0 rfl, blkC hV 1 rfl⟩
      have CL := Lib.hid (cloneInt_any x.a x.rd.vs.length x.c (ints x.rd.vs) w5.drew (by rw [ints_length]; omega) ((cv.keep0 ga).keep0 (gr_drew (gr_refl _ _))) HNIL.out (ints_one _) (by omega))
      have hz5 := HG5.out.size
      have hgd := gr_drew (gr_refl w5 none)
      have HW5 := Lib.hid hw5
      have HVE := Lib.hid hVe
      clear cv ga hV hw5 hVe hgr
      go_upto_region 5 with (fail)
      rw [← HW5.out, ← HVE.out]
      go_region_law (first
        | (refine step_app1 eRd rfl _ _ rfl w.heap.size _ L2.length (cellsG L2) rfl w7 #[.int .i64 x.rd.at_, .slice xa x.rd.vs.length xc] rfl HR7.out.row _ rfl rfl rfl rfl ?_ ?_ ?_; (· omega); (· omega); intro v8 w8 hown8 hg8 hlt8 hk8)
        | (go_simp; go_at_call 39; (with_reducible refine CL.out.mono ?_); rintro e w7 ⟨v7, rfl, ho7, g7'⟩; obtain ⟨xa, xc, rfl, -, -, -, -⟩ := own_shape ho7; have g7 := gr_trans hgd g7'; have HR7 := Lib.hid (HR5.out.keep0 g7); have HO7 := Lib.hid ho7; have e0 := (gr_cell g7 hVl).trans d0; have e1 := (gr_cell g7 hVl).trans d1; have hz7 := g7.size)
        | fail)
      all_goals (go_wp2_with (fail))
      all_goals go_roundw
      all_goals first
        | (simp [intOf]; omega)
        | (have hx7 := own_base HO7.out (show w.heap.size ≤ w5.drew.heap.size from hz5)
           refine ⟨k + 1, L2 ++ [⟨x.rd, xa, xc⟩], _, rfl, by omega, by go_num, HR7.out.push (x := ⟨x.rd, xa, xc⟩) hx7 hown8 hg8, ?_, by rw [List.length_append]; simp; omega, gr_grown (gr_trans HG5.out g7) hg8 (fun q hq => (HR7.out.row.lt q hq).1)⟩
           show _ = _
           rw [HTK.out, rdsG_app, HEQ.out])
    · obtain rfl : k = L.length := by omega
      have HE : Hid (rdsG L2 = rdsG L) := by show _ = _; rw [HEQ.out, List.take_length]
      go_wp2_with (fail)
      go_ret
      exact ⟨_, L2, rfl, HRD.out, HE.out, hgr⟩
end Go.Proofs.Ytkefloekcgangaa

/-! A log joins another one. -/
namespace Go.Proofs.Ytkefloekcgangaa
open Go.RowKit
attribute [local go_sem ↓] Go.wp_at_zero Go.wp_at_succ

theorem mtrEql_in (w : World) (a b c : Int) : (Op.equalIn 10000 34 (.agg #[.int .i64 a, .int .i64 b, .int .i64 c]) (.agg #[.int .i64 a, .int .i64 b, .int .i64 c])).run Try.prog w = .ok true w := by
  go_simp
theorem mtrNeq_run (w : World) (a b c : Int) : (binOp .neq 34 (.agg #[.int .i64 a, .int .i64 b, .int .i64 c]) (.agg #[.int .i64 a, .int .i64 b, .int .i64 c])).run Try.prog w = .ok (.bool false) w := by
  rw [run_neq_struct, mtrEql_in]; rfl
theorem place_none {Y : List Rd} (h : Y.Pairwise (fun a b => a.at_ < b.at_)) {t : Int} {i : Nat} (hp : PlaceAt Y t i) (hno : ∀ hi : i < Y.length, Y[i].at_ ≠ t) : ∀ z ∈ Y, z.at_ ≠ t := by
  intro z hz
  obtain ⟨j, hj, rfl⟩ := List.mem_iff_getElem.1 hz
  by_cases h1 : j < i
  · have := hp.low j hj h1; omega
  · have h2 := hp.high j hj (by omega)
    by_cases e : j = i
    · subst e; exact hno hj
    · have h3 := hp.high i (by omega) (Nat.le_refl _)
      have h4 := hno (by omega)
      have h5 := pw_getD h (i := i) (j := j) (by omega) hj
      omega
theorem GrowT.trans' {T T' : Nat → Prop} {w w1 w2 : World} (h : GrowT T w w1) (g : GrowT T' w1 w2) (hT : ∀ q, T' q → T q ∨ w.heap.size ≤ q) : GrowT T w w2 :=
  ⟨g.os.trans h.os, g.tape.trans h.tape, g.output.trans h.output, Nat.le_trans h.size g.size, fun k hk hn => (g.block k (Nat.lt_of_lt_of_le hk h.size) (fun t => by
    rcases hT k t with h1 | h1
    · exact hn h1
    · omega)).trans (h.block k hk hn)⟩
/-- What is to be added. -/
structure ToAdd (D X Z : List Rd) : Prop where
  asc : D.Pairwise (fun a b => a.at_ < b.at_)
  new : ∀ r ∈ D, ∀ z ∈ X, z.at_ ≠ r.at_
  sub : ∀ r ∈ D, r ∈ Z
  all : ∀ r ∈ Z, r ∈ D ∨ r ∈ X
def JoinPost (m : Mtr) (A B : List Rd) (gx base : Nat) (lvx : Value) (n : Nat) (w : World) (e : Ending) (w' : World) : Prop :=
  ∃ (c : Int) (lv' : Value) (L' : List RdG), e = .returned (.tuple #[.int .i64 c, .int .i64 0]) ∧ LogAt w' gx base m lv' L' ∧ Asc (rdsG L') (A ++ B) ∧ L'.length ≤ n ∧ GrowT (fun k => k = gx ∨ lvx.ownBlock = some k) w w'
set_option maxRecDepth 100000 in
set_option maxHeartbeats 8000000 in
theorem join_ok (m : Mtr) (Lx Ly : List RdG) (A B : List Rd) (gx gy base : Nat) (lvx lvy : Value) (w : World) (hx : LogAt w gx base m lvx Lx) (hy : LogAt w gy base m lvy Ly) (hb : base ≤ w.heap.size) (hA : Asc (rdsG Lx) A) (hB : Asc (rdsG Ly) B) (hnc : NoConf (A ++ B)) (hlx : Lx.length ≤ 50) (hly : Ly.length ≤ 50) (hv : ∀ g ∈ Lx, g.rd.vs.length ≤ 1000) (hvy : ∀ g ∈ Ly, g.rd.vs.length ≤ 1000) :
    Calls Try.prog 25 #[.pointer (some ⟨gx, 0, none⟩), .pointer (some ⟨gy, 0, none⟩)] w (JoinPost m A B gx base lvx (Lx.length + Ly.length) w) := by
  obtain ⟨ya, yc, rfl, -, -⟩ := hy.rds.shape
  have hgx := lt_of_block hx.blk
  have hgy := lt_of_block hy.blk
  have HX := Lib.hid hx
  have HY := Lib.hid hy
  have HYC := Lib.hid hy.rds.toC
  have HA := Lib.hid hA
  have HB := Lib.hid hB
  have HNC := Lib.hid hnc
  have HV := Lib.hid hv
  have HVY := Lib.hid hvy
  have NEQ := mtrNeq_run
  have b0 : w.cell? ⟨gx, 0, none⟩ = some (.int .i64 m.cnt) := blkC hx.blk 0 rfl
  have b1 : w.cell? ⟨gx, 1, none⟩ = some (.int .i64 m.turn) := blkC hx.blk 1 rfl
  have b2 : w.cell? ⟨gx, 2, none⟩ = some (.int .i64 m.fast) := blkC hx.blk 2 rfl
  have d0 : w.cell? ⟨gy, 0, none⟩ = some (.int .i64 m.cnt) := blkC hy.blk 0 rfl
  have d1 : w.cell? ⟨gy, 1, none⟩ = some (.int .i64 m.turn) := blkC hy.blk 1 rfl
  have d2 : w.cell? ⟨gy, 2, none⟩ = some (.int .i64 m.fast) := blkC hy.blk 2 rfl
  have y0 := grew_cell b0
  have y1 := grew_cell b1
  have y2 := grew_cell b2
  have y3 := grew_cell d0
  have y4 := grew_cell d1
  have y5 := grew_cell d2
  clear hx hy hA hB hnc hv hvy b0 b1 b2 d0 d1 d2
  go_enter Try.func25, Try.ntmps25
  go_wp2_with (fail)
  refine wp_region_grew (by kernel_rfl) (by kernel_rfl) ?_
  repeat (go_big_quiet_step (fail))
  refine wpQuiet_nil ?_
  rintro wq ⟨nn, rfl⟩
  have gq := nn.gr
  obtain ⟨w2, hw2⟩ : ∃ w2, w2 = nn.w := ⟨_, rfl⟩
  rw [← hw2] at gq
  rw [← hw2]
  have HG2 := Lib.hid gq
  have HX2 := Lib.hid (HX.out.keep0 gq)
  have HYC2 := Lib.hid (HYC.out.keep0 gq)
  have HY2 := Lib.hid (HY.out.keep0 gq)
  have c3 : w2.cell? ⟨gy, 3, none⟩ = some (.slice ya Ly.length yc) := blkC HY2.out.blk 3 rfl
  have hz2 := gq.size
  clear hw2 gq y0 y1 y2 y3 y4 y5 NEQ
  go_wp2_with (fail)
  go_loopw [6, 29] (fun v i wr => ∃ (k : Nat) (D : List RdG) (gv : Value), gv = v ∧ k ≤ Ly.length ∧ i = .int .i64 k ∧ Rds wr base gv D ∧ Hid (ToAdd (rdsG D) (rdsG Lx) (rdsG (Ly.take k))) ∧ D.length ≤ k ∧ (∀ q, gv.ownBlock = some q → w2.heap.size ≤ q) ∧ w2.grownBy wr none) (fun _ i _ => Ly.length - (intOf i).toNat)
  case atStart => exact ⟨0, [], _, rfl, Nat.zero_le _, rfl, Rds.nil _ _, ⟨List.Pairwise.nil, (fun r h => by cases h), (fun r h => by cases h), (fun r h => by cases h)⟩, Nat.zero_le _, (fun q e => by cases e), gr_refl _ _⟩
  case round =>
    obtain ⟨k, D, v, rfl, hk, rfl, hrd, HTA, hdk, hlow, hgr⟩ := hrel
    obtain ⟨wo, rfl⟩ : ∃ wo : World, wo = wr := ⟨_, rfl⟩
    obtain ⟨da, dc, rfl, -, -⟩ := hrd.shape
    have HRD := Lib.hid hrd
    have HLOW := Lib.hid hlow
    clear hrd hlow
    by_cases hlt : k < Ly.length
    · obtain ⟨b, off, rfl, c0, c1, cv⟩ := (HYC2.out.keep0 hgr).at hlt
      have hvl := HVY.out _ (List.getElem_mem hlt)
      have HROW := Lib.hid ((HY2.out.rds.keep0 hgr).vals _ (List.getElem_mem hlt))
      have HTK : Hid (rdsG (Ly.take (k + 1)) = rdsG (Ly.take k) ++ [Ly[k].rd]) := by
        show _ = _
        have e : Ly.take (k + 1) = Ly.take k ++ [Ly[k]] := by simp
        rw [e, rdsG_app]
      have HBG : Hid (Ly[k].rd ∈ B ∧ ∀ r ∈ rdsG (Ly.take k), r.at_ < Ly[k].rd.at_) := by
        show _ ∧ _
        refine ⟨(HB.out.mem _).1 (List.mem_map_of_mem (List.getElem_mem hlt)), fun r hr => ?_⟩
        simp only [rdsG, List.mem_map] at hr
        obtain ⟨q, hq, rfl⟩ := hr
        obtain ⟨j, hj, rfl⟩ := List.mem_iff_getElem.1 hq
        rw [List.length_take] at hj
        rw [List.getElem_take]
        have := pw_getD HB.out.asc (i := j) (j := k) (by omega) (by rw [rdsG_len]; exact hlt)
        simpa [rdsG] using this
      obtain ⟨x, hx⟩ : ∃ x, x = Ly[k] := ⟨_, rfl⟩
      rw [← hx] at c0 c1 cv hvl HTK HROW HBG
      clear hx
      have ga := gr_alloc (gr_refl wo none) (.cells #[.int .i64 x.rd.at_, .slice x.a x.rd.vs.length x.c] 52)
      have hV := heap_alloc_new wo (.cells #[.int .i64 x.rd.at_, .slice x.a x.rd.vs.length x.c] 52)
      obtain ⟨w5, hw5⟩ : ∃ w5, w5 = wo.alloc (.cells #[.int .i64 x.rd.at_, .slice x.a x.rd.vs.length x.c] 52) := ⟨_, rfl⟩
      obtain ⟨V, hVe⟩ : ∃ V, V = wo.heap.size := ⟨_, rfl⟩
      rw [← hw5] at ga hV
      rw [← hVe] at hV
      have HG5 := Lib.hid (gr_trans hgr ga)
      have HV5 := Lib.hid hV
      have HCV := Lib.hid (cv.keep0 ga)
      have FD := Lib.hid (find_any m Lx gx base lvx x.rd.at_ w5 (HX2.out.keep0 (gr_trans hgr ga)) HA.out.asc (by omega))
      have v0 : w5.cell? ⟨V, 0, none⟩ = some (.int .i64 x.rd.at_) := blkC hV 0 rfl
      have HR5 := Lib.hid (HRD.out.keep0 ga)
      have HRW5 := Lib.hid (own_keep0 HROW.out ga)
      have HW5 := Lib.hid hw5
      have HVE := Lib.hid hVe
      clear cv ga hV hw5 hVe hgr
      go_upto_region 7 with (fail)
      rw [← HW5.out, ← HVE.out]
      go_wp2_with (fail)
      refine FD.out.mono ?_
      rintro e w6 ⟨i, bb, rfl, hpl, hbt, hbf, g6⟩
      have hV6 := (g6.block _ (lt_of_block HV5.out) (by simp)).trans HV5.out
      obtain ⟨v0', v1'⟩ : w6.cell? ⟨V, 0, none⟩ = some (.int .i64 x.rd.at_) ∧ w6.cell? ⟨V, 1, none⟩ = some (.slice x.a x.rd.vs.length x.c) := ⟨blkC hV6 0 rfl, blkC hV6 1 rfl⟩
      have HG6 := Lib.hid (gr_trans HG5.out g6)
      have HX6 := Lib.hid (HX2.out.keep0 (gr_trans HG5.out g6))
      have HCV6 := Lib.hid (HCV.out.keep0 g6)
      have HR6 := Lib.hid (HR5.out.keep0 g6)
      have HRW6 := Lib.hid (own_keep0 HRW5.out g6)
      have HPL := Lib.hid hpl
      have HBT := Lib.hid hbt
      have HBF := Lib.hid hbf
      have hil : i ≤ Lx.length := by have := hpl.le; rw [rdsG_len] at this; exact this
      clear g6 hV6 hpl hbt hbf FD v0 HR5 HRW5 HCV
      cases bb with
      | false =>
        have HNO := Lib.hid (place_none HA.out.asc HPL.out (HBF.out rfl))
        have hz6 := HG6.out.size
        go_wp2_with (at_builtin; refine wpList_app1F eRd rfl _ _ rfl base _ D.length (cellsG D) rfl w6 #[.int .i64 x.rd.at_, .slice x.a x.rd.vs.length x.c] rfl HR6.out.row _ rfl rfl rfl rfl (by omega) (by omega) ?_; intro v10 w10 hown10 hg10 hlt10 hf10)
        have h10 := HR6.out.push HRW6.out hown10 hg10
        have hg := gr_grown HG6.out hg10 (fun q hq => HLOW.out q hq)
        have HF : Hid (∀ q, v10.ownBlock = some q → w2.heap.size ≤ q) := fun q hq => by
          rcases hf10 q hq with h | h
          · exact HLOW.out q h
          · omega
        have H10 := Lib.hid h10
        have HG10 := Lib.hid hg
        clear hown10 hg10 hlt10 hf10 h10 hg
        go_wp2_with (fail)
        go_roundw
        case rel =>
          refine ⟨k + 1, D ++ [x], _, rfl, by omega, by go_num, H10.out, ?_, by rw [List.length_append]; simp; omega, HF.out, HG10.out⟩
          show ToAdd _ _ _
          rw [HTK.out, rdsG_app]
          obtain ⟨t1, t2, t3, t4⟩ := HTA.out
          refine ⟨?_, ?_, ?_, ?_⟩
          · rw [List.pairwise_append]
            refine ⟨t1, List.pairwise_singleton _ _, fun p hp q hq => ?_⟩
            rw [List.mem_singleton] at hq
            rw [hq]; exact HBG.out.2 p (t3 p hp)
          · intro r hr
            rcases List.mem_append.1 hr with hr | hr
            · exact t2 r hr
            · rw [List.mem_singleton] at hr; rw [hr]; exact HNO.out
          · intro r hr
            rcases List.mem_append.1 hr with hr | hr
            · exact List.mem_append.2 (.inl (t3 r hr))
            · exact List.mem_append.2 (.inr hr)
          · intro r hr
            rcases List.mem_append.1 hr with hr | hr
            · rcases t4 r hr with h | h
              · exact .inl (List.mem_append.2 (.inl h))
              · exact .inr h
            · exact .inl (List.mem_append.2 (.inr hr))
        case measure => simp [intOf]; omega
      | true =>
        obtain ⟨hi0, hat⟩ := HBT.out rfl
        have hil2 : i < Lx.length := by rw [rdsG_len] at hi0; exact hi0
        have hmA : (rdsG Lx)[i] ∈ A := (HA.out.mem _).1 (List.getElem_mem hi0)
        have hrd' : (rdsG Lx)[i] = x.rd := HNC.out _ (List.mem_append.2 (.inl hmA)) _ (List.mem_append.2 (.inr HBG.out.1)) hat
        have hrd : Lx[i].rd = x.rd := by simpa [rdsG] using hrd'
        obtain ⟨gb, gc, ev, -, -, -, e1⟩ := HX6.out.rds.at hil2
        have b3 : w6.cell? ⟨gx, 3, none⟩ = some lvx := blkC HX6.out.blk 3 rfl
        rw [ev] at b3
        obtain ⟨_, _, ev2, -, -, hcy, -⟩ := own_shape (HX6.out.rds.vals _ (List.getElem_mem hil2))
        cases ev2
        have HIN : Hid (x.rd ∈ rdsG Lx) := by show _ ∈ _; rw [← hrd]; exact List.mem_map_of_mem (List.getElem_mem hil2)
        rw [hrd] at e1 hcy
        obtain ⟨y, hy⟩ : ∃ y, y = Lx[i] := ⟨_, rfl⟩
        rw [← hy] at e1 hcy
        have EQ := Lib.hid (fun (W : World) (g : w6.grownBy W none) => equal_int x.rd.vs y.a x.a y.c x.c W (hcy.keep0 g) (HCV6.out.keep0 g) (by omega))
        have y0 := grew_cell v1'
        have y1 := grew_cell b3
        have y2 := grew_cell e1
        have hq3 : (i : Int) < (Lx.length : Int) := by omega
        have hq4 : (0 : Int) ≤ (i : Int) := by omega
        clear hy hcy hrd hrd' hmA hat hi0 v0' v1' b3 e1 ev
        go_wp2_with (fail)
        refine wp_region_grew (by kernel_rfl) (by kernel_rfl) ?_
        repeat (go_big_quiet_step (first | (go_at_call 43; exact Calls.grew_of (fun W g => EQ.out W g))))
        refine wpQuiet_nil ?_
        rintro wq ⟨nn, rfl⟩
        have gq := nn.gr
        have HGQ := Lib.hid gq
        clear gq
        go_wp2_with (fail)
        go_roundw
        case rel =>
          refine ⟨k + 1, D, _, rfl, by omega, by go_num, HR6.out.keep0 HGQ.out, ?_, by omega, HLOW.out, gr_trans HG6.out HGQ.out⟩
          show ToAdd _ _ _
          rw [HTK.out]
          obtain ⟨t1, t2, t3, t4⟩ := HTA.out
          refine ⟨t1, t2, fun r hr => List.mem_append.2 (.inl (t3 r hr)), fun r hr => ?_⟩
          rcases List.mem_append.1 hr with hr | hr
          · exact t4 r hr
          · rw [List.mem_singleton] at hr; rw [hr]; exact .inr HIN.out
        case measure => simp [intOf]; omega
    · obtain rfl : k = Ly.length := by omega
      obtain ⟨w3, rfl⟩ : ∃ w3 : World, w3 = wo := ⟨_, rfl⟩
      have HTD : Hid (ToAdd (rdsG D) (rdsG Lx) (rdsG Ly)) := by
        have h := HTA.out
        rw [List.take_length] at h
        exact h
      have HG3 := Lib.hid hgr
      have HX3 := Lib.hid (HX2.out.keep0 hgr)
      obtain ⟨xa, xc, ev, -, -⟩ := HX3.out.rds.shape
      have c3 : w3.cell? ⟨gx, 3, none⟩ = some (.slice xa Lx.length xc) := by rw [← ev]; exact blkC HX3.out.blk 3 rfl
      have HEV := Lib.hid ev
      clear hgr HTA ev
      have HDC := Lib.hid HRD.out.toC
      have hT0 : ∀ q, (q = gx ∨ lvx.ownBlock = some q) → q < w2.heap.size ∧ ∀ cs, w3.heap[q]? ≠ some (.cells cs 3 (0, 0)) := by
        intro q hq
        rcases hq with rfl | hq
        · refine ⟨Nat.lt_of_lt_of_le hgx hz2, fun cs h => ?_⟩
          rw [HX3.out.blk] at h
          cases h
        · have h1 := HX.out.rds.row.lt q hq
          refine ⟨by omega, fun cs h => ?_⟩
          have h2 := own_ne HX3.out.rds.row h (by decide)
          exact h2 hq
      have HT0 := Lib.hid hT0
      have hLen : ¬ (2000 : Int) < (Lx.length : Int) + (D.length : Int) := by omega
      have hz3 := HG3.out.size
      clear hT0
      go_wp2_with (fail)
      go_loopw [70] (fun i wr => ∃ (k : Nat) (lv : Value) (L' : List RdG), k ≤ D.length ∧ i = .int .i64 k ∧ LogAt wr gx base m lv L' ∧ Hid (Asc (rdsG L') (A ++ rdsG (D.take k))) ∧ L'.length ≤ Lx.length + k ∧ Hid (∀ q, lv.ownBlock = some q → lvx.ownBlock = some q ∨ w3.heap.size ≤ q) ∧ GrowT (fun k => k = gx ∨ lvx.ownBlock = some k) w3 wr) (fun i _ => D.length - (intOf i).toNat)
      case atStart =>
        refine ⟨0, lvx, Lx, Nat.zero_le _, rfl, HX3.out, ?_, by omega, fun q hq => .inl hq, GrowT.of (gr_refl _ none) (fun q e => by cases e)⟩
        show Asc _ _
        have e : A ++ rdsG (D.take 0) = A := by simp [rdsG]
        rw [e]; exact HA.out
      case round =>
        obtain ⟨k, lv, L', hk, rfl, hlog, HAS, hlk, HLIE, hgt⟩ := hrel
        obtain ⟨wo, rfl⟩ : ∃ wo : World, wo = wr := ⟨_, rfl⟩
        have HLG := Lib.hid hlog
        have HGT := Lib.hid hgt
        have hDr := HRD.out.keepT hgt (fun q hq ht => by
          have h1 := HLOW.out q hq
          have h2 := (HT0.out q ht).1
          omega) (fun q cs ht => (HT0.out q ht).2 cs)
        have HDR := Lib.hid hDr
        clear hlog
        by_cases hlt : k < D.length
        · obtain ⟨b, off, rfl, c0, c1, cv⟩ := hDr.toC.at hlt
          have HROW := Lib.hid (hDr.vals _ (List.getElem_mem hlt))
          have HTK : Hid (rdsG (D.take (k + 1)) = rdsG (D.take k) ++ [D[k].rd]) := by
            show _ = _
            have e : D.take (k + 1) = D.take k ++ [D[k]] := by simp
            rw [e, rdsG_app]
          have HNO : Hid (∀ z ∈ rdsG L', z.at_ ≠ D[k].rd.at_) := by
            show ∀ z ∈ rdsG L', _
            intro z hz
            have hm : D[k].rd ∈ rdsG D := List.mem_map_of_mem (List.getElem_mem hlt)
            rcases List.mem_append.1 ((HAS.out.mem z).1 hz) with h | h
            · exact HTD.out.new _ hm z ((HA.out.mem z).2 h)
            · simp only [rdsG, List.mem_map] at h
              obtain ⟨q, hq, rfl⟩ := h
              obtain ⟨j, hj, rfl⟩ := List.mem_iff_getElem.1 hq
              rw [List.length_take] at hj
              rw [List.getElem_take]
              have := pw_getD HTD.out.asc (i := j) (j := k) (by omega) (by rw [rdsG_len]; exact hlt)
              simp only [rdsG, List.getElem_map] at this
              omega
          obtain ⟨x, hx⟩ : ∃ x, x = D[k] := ⟨_, rfl⟩
          rw [← hx] at c0 c1 cv HTK HROW HNO
          clear hx cv hDr hgt
          have ga := gr_alloc (gr_refl wo none) (.cells #[.int .i64 x.rd.at_, .slice x.a x.rd.vs.length x.c] 52)
          have hV := heap_alloc_new wo (.cells #[.int .i64 x.rd.at_, .slice x.a x.rd.vs.length x.c] 52)
          obtain ⟨w5, hw5⟩ : ∃ w5, w5 = wo.alloc (.cells #[.int .i64 x.rd.at_, .slice x.a x.rd.vs.length x.c] 52) := ⟨_, rfl⟩
          obtain ⟨V, hVe⟩ : ∃ V, V = wo.heap.size := ⟨_, rfl⟩
          rw [← hw5] at ga hV
          rw [← hVe] at hV
          have HV5 := Lib.hid hV
          have HL5 := Lib.hid (HLG.out.keep0 ga)
          have FD := Lib.hid (find_any m L' gx base lv x.rd.at_ w5 (HLG.out.keep0 ga) HAS.out.asc (by omega))
          have v0 : w5.cell? ⟨V, 0, none⟩ = some (.int .i64 x.rd.at_) := blkC hV 0 rfl
          have HRW5 := Lib.hid (own_keep0 HROW.out ga)
          have HGA := Lib.hid ga
          have HW5 := Lib.hid hw5
          have HVE := Lib.hid hVe
          clear ga hV hw5 hVe
          go_upto_region 18 with (fail)
          rw [← HW5.out, ← HVE.out]
          go_wp2_with (fail)
          refine FD.out.mono ?_
          rintro e w6 ⟨i, bb, rfl, hpl, -, -, g6⟩
          have hV6 := (g6.block _ (lt_of_block HV5.out) (by simp)).trans HV5.out
          obtain ⟨v0', v1'⟩ : w6.cell? ⟨V, 0, none⟩ = some (.int .i64 x.rd.at_) ∧ w6.cell? ⟨V, 1, none⟩ = some (.slice x.a x.rd.vs.length x.c) := ⟨blkC hV6 0 rfl, blkC hV6 1 rfl⟩
          have HL6 := Lib.hid (HL5.out.keep0 g6)
          have HRW6 := Lib.hid (own_keep0 HRW5.out g6)
          have HG06 := Lib.hid (gr_trans HGA.out g6)
          have hil : i ≤ L'.length := by have := hpl.le; rw [rdsG_len] at this; exact this
          have HINS : Hid (Asc ((rdsG L').take i ++ [x.rd] ++ (rdsG L').drop i) (A ++ rdsG (D.take k) ++ [x.rd])) := HAS.out.insert hpl (fun hi => HNO.out _ (List.getElem_mem hi))
          obtain ⟨la, lc, rfl, -, -⟩ := HL6.out.rds.shape
          have b3 : w6.cell? ⟨gx, 3, none⟩ = some (.slice la L'.length lc) := blkC HL6.out.blk 3 rfl
          have hbw6 : base ≤ w6.heap.size := by have := HG06.out.size; have := HGT.out.size; omega
          have hgl := lt_of_block HL6.out.blk
          have hVl := lt_of_block hV6
          have IN := Lib.hid (fun (W : World) (g : w6.grownBy W none) => insertRd_any base L'.length i (cellsG L') (.slice la L'.length lc) W.heap.size 1 #[.int .i64 x.rd.at_, .slice x.a x.rd.vs.length x.c] (W.alloc (.cells #[.int .i64 x.rd.at_, .slice x.a x.rd.vs.length x.c] 52)) ((own_keep0 HL6.out.rds.row g).alloc _) (heap_alloc_new W _) (own_fresh (own_keep0 HL6.out.rds.row g) rfl) rfl (by simp [Value.oneCell']) (cellsG_one L') hil (by omega) (by have := g.size; simp; omega))
          have IN6 : Hid (Calls Try.prog 52 #[.slice la L'.length lc, .int .i64 i, .slice (some ⟨w6.heap.size, 0, none⟩) 1 1] (w6.alloc (.cells #[.int .i64 x.rd.at_, .slice x.a x.rd.vs.length x.c] 52)).drew (InsRdPost base L'.length i (cellsG L') [.int .i64 x.rd.at_, .slice x.a x.rd.vs.length x.c] (.slice la L'.length lc) (w6.alloc (.cells #[.int .i64 x.rd.at_, .slice x.a x.rd.vs.length x.c] 52)).drew)) := IN.out w6.drew (gr_drew (gr_refl w6 none))
          have HD6 := Lib.hid (gr_drew (gr_refl w6 none))
          have HL6d := Lib.hid (HL6.out.keep0 HD6.out)
          have HRW6d := Lib.hid (own_keep0 HRW6.out HD6.out)
          clear hpl FD v0 hV6 g6 IN
          go_wp2_with (fail)
          go_region_law (first
            | (go_simp; go_at_call 52; (with_reducible refine IN6.out.mono ?_); rintro e w8 ⟨v8, rfl, ho8, g8', hlie⟩; obtain ⟨b8, cp8, rfl, -, -, -, -⟩ := own_some ho8 (by omega); have g8 := gr_trans (gr_alloc (gr_refl w6.drew _) _) g8'; have hP8 := HL6d.out.put (x := x) HRW6d.out g8 hil ho8; have z8 := blkF hP8.2.2 3; have c8 := blkC hP8.2.2 3 rfl)
            | fail)
          all_goals (go_wp2_with (fail))
          all_goals go_roundw
          all_goals first
            | (simp [intOf]; omega; done)
            | (refine ⟨k + 1, _, L'.take i ++ [x] ++ L'.drop i, by omega, by go_num, hP8.1, ?_, by simp; omega, ?_, (HGT.out.trans (GrowT.of (gr_trans HG06.out HD6.out) (fun q e => by cases e))).trans' hP8.2.1 (fun q ht => ?_)⟩
               · show Asc _ _
                 have e : rdsG (L'.take i ++ [x] ++ L'.drop i) = (rdsG L').take i ++ [x.rd] ++ (rdsG L').drop i := by simp [rdsG, List.map_take, List.map_drop]
                 rw [e, HTK.out, ← List.append_assoc]
                 exact HINS.out
               · show ∀ q, _
                 intro q hq
                 have hzz := HG06.out.size
                 have hzg := HGT.out.size
                 rcases hlie q hq with h | h
                 · exact HLIE.out q h
                 · simp at h
                   exact .inr (by omega)
               · rcases ht with h | h
                 · exact .inl (.inl h)
                 · rcases HLIE.out q h with h2 | h2
                   · exact .inl (.inr h2)
                   · exact .inr h2)
        · obtain rfl : k = D.length := by omega
          have HF : Hid (Asc (rdsG L') (A ++ B)) := by
            have h := HAS.out
            rw [List.take_length] at h
            refine h.of_mem (fun r => ?_)
            rw [List.mem_append, List.mem_append]
            constructor
            · rintro (h1 | h1)
              · exact .inl h1
              · exact .inr ((HB.out.mem r).1 (HTD.out.sub r h1))
            · rintro (h1 | h1)
              · exact .inl h1
              · rcases HTD.out.all r ((HB.out.mem r).2 h1) with h2 | h2
                · exact .inr h2
                · exact .inl ((HA.out.mem r).1 h2)
          have hDL : D.length ≤ Ly.length := hdk
          clear hDr hgt
          go_wp2_with (fail)
          go_ret2
          exact ⟨_, lv, L', rfl, HLG.out, HF.out, by omega, (GrowT.of (gr_trans HG2.out HG3.out) (fun q e => by cases e)).trans HGT.out⟩
end Go.Proofs.Ytkefloekcgangaa

/-! What happened between two readings. -/
namespace Go.Proofs.Ytkefloekcgangaa
open Go.RowKit
attribute [local go_sem ↓] Go.wp_at_zero Go.wp_at_succ

structure Stp where
  fr : Int
  til : Int
  rs : Bool
  sold : List Int
def dM (t a b : Int) : Int := if b - a < 0 then b - a + t else b - a
def dsTo (t : Int) (x y : List Int) (k : Nat) : List Int := (List.range k).map fun i => dM t (x.getD i 0) (y.getD i 0)
def limM (m : Mtr) (x y : Rd) : Int := min (m.fast * (y.at_ / 1440 - x.at_ / 1440 + 1)) (m.turn - 1)
def stepM (m : Mtr) (x y : Rd) : Stp := if (dsTo m.turn x.vs y.vs y.vs.length).all (fun d => decide (d ≤ limM m x y)) then ⟨x.at_, y.at_, false, dsTo m.turn x.vs y.vs y.vs.length⟩ else ⟨x.at_, y.at_, true, y.vs⟩
theorem dsTo_next (t : Int) (x y : List Int) (k : Nat) : dsTo t x y (k + 1) = dsTo t x y k ++ [dM t (x.getD k 0) (y.getD k 0)] := by simp [dsTo, List.range_succ]
theorem dsTo_len (t : Int) (x y : List Int) (k : Nat) : (dsTo t x y k).length = k := by simp [dsTo]
structure StpSt (wr w : World) (O : Nat) (m : Mtr) (x y : RdG) (D : List Int) : Prop where
  mb : wr.heap[w.heap.size]? = some (.cells #[.int .i64 m.cnt, .int .i64 m.turn, .int .i64 m.fast] 34 (0, 0))
  ab : wr.heap[w.heap.size + 1]? = some (.cells #[.int .i64 x.rd.at_, .slice x.a x.rd.vs.length x.c] 52 (0, 0))
  bb : wr.heap[w.heap.size + 2]? = some (.cells #[.int .i64 y.rd.at_, .slice y.a y.rd.vs.length y.c] 52 (0, 0))
  rb : wr.heap[w.heap.size + 3]? = some (.cells #[.int .i64 0, .int .i64 0, .bool false, .slice none 0 0] 62 (0, 0))
  ex : ∃ lv, wr.heap[O]? = some (.cells #[.int .i64 x.rd.at_, .int .i64 y.rd.at_, .bool false, lv] 62 (0, 0)) ∧ wr.ownsRow w.heap.size 3 1 lv D.length (ints D)
  gr : w.grownBy wr none
theorem StpSt.app {wr w w8 : World} {O g c n : Nat} {m : Mtr} {x y : RdG} {D M : List Int} {lv : Value} (h : StpSt wr w O m x y D) (hO : w.heap.size + 3 < O) (h3 : wr.heap[O]? = some (.cells #[.int .i64 x.rd.at_, .int .i64 y.rd.at_, .bool false, lv] 62 (0, 0))) (h4 : wr.ownsRow w.heap.size 3 1 lv D.length (ints D))
    (ho : w8.ownsRow w.heap.size 3 1 (.slice (some ⟨g, 0, none⟩) n c) M.length (ints M)) (g8 : wr.grownBy w8 lv.ownBlock) : StpSt (w8.setCell ⟨O, 3, none⟩ (.slice (some ⟨g, 0, none⟩) n c)) w O m x y M := by
  obtain ⟨h1, h2, h5, h6, -, h7⟩ := h
  have hlt : ∀ q, lv.ownBlock = some q → w.heap.size ≤ q := fun q hq => (h4.lt q hq).1
  have k1 := (g8.block _ (lt_of_block h1) (fun e => own_ne h4 h1 (by decide) e.symm)).trans h1
  have k2 := (g8.block _ (lt_of_block h2) (fun e => own_ne h4 h2 (by decide) e.symm)).trans h2
  have k5 := (g8.block _ (lt_of_block h5) (fun e => own_ne h4 h5 (by decide) e.symm)).trans h5
  have k6 := (g8.block _ (lt_of_block h6) (fun e => own_ne h4 h6 (by decide) e.symm)).trans h6
  have k3 := (g8.block _ (lt_of_block h3) (fun e => own_ne h4 h3 (by decide) e.symm)).trans h3
  have gs : w8.grownBy _ (some O) := gr_set (q := ⟨O, 3, none⟩) (gr_refl w8 (some O)) rfl (.slice (some ⟨g, 0, none⟩) n c)
  exact ⟨(gs.block _ (lt_of_block k1) (by simp; omega)).trans k1, (gs.block _ (lt_of_block k2) (by simp; omega)).trans k2, (gs.block _ (lt_of_block k5) (by simp; omega)).trans k5, (gs.block _ (lt_of_block k6) (by simp; omega)).trans k6, ⟨_, heap_setCell_same w8 O 3 _ _ _ k3, own_keep ho gs (.inr (own_ne ho k3 (by decide)))⟩, gr_grown (gr_grown h7 g8 hlt) gs (fun q e => by cases e; omega)⟩
def StpPost (s : Stp) (w : World) (e : Ending) (w' : World) : Prop := ∃ (a : Option Addr) (c : Nat), e = .returned (.agg #[.int .i64 s.fr, .int .i64 s.til, .bool s.rs, .slice a s.sold.length c]) ∧ w'.ownsRow w.heap.size 3 1 (.slice a s.sold.length c) s.sold.length (ints s.sold) ∧ w.grownBy w' none
theorem blk4S {w : World} {g t : Nat} {a b c d : Value} (h : w.heap[g]? = some (.cells #[a, b, c, d] t (0, 0))) : w.cell? ⟨g, 0, none⟩ = some a ∧ w.cell? ⟨g, 1, none⟩ = some b ∧ w.cell? ⟨g, 2, none⟩ = some c ∧ w.cell? ⟨g, 3, none⟩ = some d := ⟨blkC h 0 rfl, blkC h 1 rfl, blkC h 2 rfl, blkC h 3 rfl⟩
set_option maxRecDepth 100000 in
set_option maxHeartbeats 4000000 in
theorem step_any (m : Mtr) (hok : MtrOk m) (x y : RdG) (hx : RdOk m x.rd) (hy : RdOk m y.rd) (hxy : x.rd.at_ ≤ y.rd.at_) (w : World) (hcx : CellsAt w x.a (ints x.rd.vs)) (hcy : CellsAt w y.a (ints y.rd.vs)) (hny : y.a = none → y.rd.vs.length = 0 ∧ y.c = 0) :
    Calls Try.prog 56 #[mtrV m, .agg #[.int .i64 x.rd.at_, .slice x.a x.rd.vs.length x.c], .agg #[.int .i64 y.rd.at_, .slice y.a y.rd.vs.length y.c]] w (StpPost (stepM m x.rd y.rd) w) := by
  obtain ⟨dt, hd1⟩ := und_struct (P := Try.prog) (t := 62) (by kernel_rfl)
  have hlen : y.rd.vs.length = x.rd.vs.length := by have := hx.len; have := hy.len; omega
  have hvl : y.rd.vs.length ≤ 60 := by have := hy.len; have := hok.c2; omega
  have HVX := Lib.hid hx.all
  have HVY := Lib.hid hy.all
  have HLEN := Lib.hid hlen
  have hlx : y.rd.vs.length ≤ x.rd.vs.length := by omega
  have ha0 := hx.a0
  have ha1 := hx.a1
  have hb0 := hy.a0
  have hb1 := hy.a1
  have HNY := Lib.hid hny
  have f1 := hok.f1
  have f2 := hok.f2
  have t1 := hok.t1
  have t2 := hok.t2
  have hx := hcx
  have hy := hcy
  clear hcx hcy hny hok hlen
  -- blocks
  have gA := gr_alloc (gr_alloc (gr_alloc (gr_alloc (gr_refl w none) (.cells #[.int .i64 m.cnt, .int .i64 m.turn, .int .i64 m.fast] 34)) (.cells #[.int .i64 x.rd.at_, .slice x.a x.rd.vs.length x.c] 52)) (.cells #[.int .i64 y.rd.at_, .slice y.a y.rd.vs.length y.c] 52)) (.cells #[.int .i64 0, .int .i64 0, .bool false, .slice none 0 0] 62)
  obtain ⟨hP, hQ, hS⟩ := heap_3 w (.cells #[.int .i64 m.cnt, .int .i64 m.turn, .int .i64 m.fast] 34) (.cells #[.int .i64 x.rd.at_, .slice x.a x.rd.vs.length x.c] 52) (.cells #[.int .i64 y.rd.at_, .slice y.a y.rd.vs.length y.c] 52)
  obtain ⟨w3, hw3⟩ : ∃ w3, w3 = ((w.alloc (.cells #[.int .i64 m.cnt, .int .i64 m.turn, .int .i64 m.fast] 34)).alloc (.cells #[.int .i64 x.rd.at_, .slice x.a x.rd.vs.length x.c] 52)).alloc (.cells #[.int .i64 y.rd.at_, .slice y.a y.rd.vs.length y.c] 52) := ⟨_, rfl⟩
  have hz3 : w3.heap.size = w.heap.size + 3 := by rw [hw3]; simp
  rw [← hw3] at hP hQ hS gA
  have g34 := gr_alloc (gr_refl w3 none) (.cells #[.int .i64 0, .int .i64 0, .bool false, .slice none 0 0] 62)
  have hR := heap_alloc_new w3 (.cells #[.int .i64 0, .int .i64 0, .bool false, .slice none 0 0] 62)
  obtain ⟨w4, hw4⟩ : ∃ w4, w4 = w3.alloc (.cells #[.int .i64 0, .int .i64 0, .bool false, .slice none 0 0] 62) := ⟨_, rfl⟩
  rw [← hw4] at g34 hR gA
  rw [hz3] at hR
  have hP4 := (g34.block _ (lt_of_block hP) (by simp)).trans hP
  have hQ4 := (g34.block _ (lt_of_block hQ) (by simp)).trans hQ
  have hS4 := (g34.block _ (lt_of_block hS) (by simp)).trans hS
  have hz4 : w4.heap.size = w.heap.size + 4 := by rw [hw4]; simp [hz3]
  have HW4 : Hid (w4 = (((w.alloc (.cells #[.int .i64 m.cnt, .int .i64 m.turn, .int .i64 m.fast] 34)).alloc (.cells #[.int .i64 x.rd.at_, .slice x.a x.rd.vs.length x.c] 52)).alloc (.cells #[.int .i64 y.rd.at_, .slice y.a y.rd.vs.length y.c] 52)).alloc (.cells #[.int .i64 0, .int .i64 0, .bool false, .slice none 0 0] 62)) := by show _ = _; rw [hw4, hw3]
  have HP := Lib.hid hP4
  have HQ := Lib.hid hQ4
  have HS := Lib.hid hS4
  have HR := Lib.hid hR
  have HGA := Lib.hid gA
  have HZ4 := Lib.hid hz4
  have HX := Lib.hid hx
  have HY := Lib.hid hy
  obtain ⟨m0, m1, m2, -⟩ := blk3M hP4
  have a0 : w4.cell? ⟨w.heap.size + 1, 0, none⟩ = some (.int .i64 x.rd.at_) := blkC hQ4 0 rfl
  have b0 : w4.cell? ⟨w.heap.size + 2, 0, none⟩ = some (.int .i64 y.rd.at_) := blkC hS4 0 rfl
  clear hP hQ hS hw3 hz3 g34 hR hw4 hP4 hQ4 hS4 hz4 gA hx hy
  unfold mtrV
  obtain ⟨xa, hxa⟩ : ∃ xa, xa = x.a := ⟨_, rfl⟩
  obtain ⟨ya, hya⟩ : ∃ ya, ya = y.a := ⟨_, rfl⟩
  rw [← hxa, ← hya] at HW4 ⊢
  have HXA := Lib.hid hxa
  have HYA := Lib.hid hya
  clear hxa hya
  go_enter Try.func56, Try.ntmps56
  go_upto_region 1 with (fail)
  rw [show w.heap.size + 1 + 1 = w.heap.size + 2 from rfl, show w.heap.size + 2 + 1 = w.heap.size + 3 from rfl]
  rw [← HW4.out]
  go_cut [7] (fun s wx => s = .int .i64 (limM m x.rd y.rd) ∧ wx = w4)
  case first =>
    have HL : Hid (limM m x.rd y.rd = min (m.fast * (y.rd.at_ / 1440 - x.rd.at_ / 1440 + 1)) (m.turn - 1)) := rfl
    obtain ⟨q, hq⟩ : ∃ q, y.rd.at_ / 1440 - x.rd.at_ / 1440 + 1 = q := ⟨_, rfl⟩
    have hq1 : 1 ≤ q := by omega
    have hq2 : q ≤ 4001 := by omega
    have h1 : 0 ≤ m.fast * q := Int.mul_nonneg (by omega) (by omega)
    have h2 : m.fast * q ≤ 1000000 * 4001 := Int.mul_le_mul (by omega) hq2 (by omega) (by omega)
    have hw1 : IntKind.i64.wrap (m.fast * q) = m.fast * q := IntWalk.i64_in _ (by omega)
    rw [hq] at HL
    go_wp2_with (fail)
    all_goals go_meet
    all_goals exact ⟨congrArg (Value.int .i64) (by first | (rw [HL.out]; done) | (rw [HL.out]; omega)), rfl⟩
  case rest =>
  obtain ⟨rfl, rfl⟩ := hcut
  obtain ⟨w4, rfl⟩ : ∃ w4 : World, w4 = wc := ⟨_, rfl⟩
  obtain ⟨LM, hLM⟩ : ∃ LM, LM = limM m x.rd y.rd := ⟨_, rfl⟩
  have HLM := Lib.hid hLM
  rw [← hLM]
  have HST : Hid (stepM m x.rd y.rd = if (dsTo m.turn x.rd.vs y.rd.vs y.rd.vs.length).all (fun d => decide (d ≤ LM)) then ⟨x.rd.at_, y.rd.at_, false, dsTo m.turn x.rd.vs y.rd.vs y.rd.vs.length⟩ else ⟨x.rd.at_, y.rd.at_, true, y.rd.vs⟩) := by show _ = _; rw [hLM]; rfl
  have gO := gr_alloc (gr_refl w4 none) (.cells #[.int .i64 x.rd.at_, .int .i64 y.rd.at_, .bool false, .slice none 0 0] 62)
  have hO := heap_alloc_new w4 (.cells #[.int .i64 x.rd.at_, .int .i64 y.rd.at_, .bool false, .slice none 0 0] 62)
  obtain ⟨w5, hw5⟩ : ∃ w5, w5 = w4.alloc (.cells #[.int .i64 x.rd.at_, .int .i64 y.rd.at_, .bool false, .slice none 0 0] 62) := ⟨_, rfl⟩
  obtain ⟨O, hOe⟩ : ∃ O, O = w4.heap.size := ⟨_, rfl⟩
  rw [← hw5] at gO hO
  rw [← hOe] at hO
  have hOl : w.heap.size + 3 < O := by have := HZ4.out; omega
  have h5 : StpSt w5 w O m x y (dsTo m.turn x.rd.vs y.rd.vs 0) := ⟨(gO.block _ (lt_of_block HP.out) (by simp)).trans HP.out, (gO.block _ (lt_of_block HQ.out) (by simp)).trans HQ.out, (gO.block _ (lt_of_block HS.out) (by simp)).trans HS.out, (gO.block _ (lt_of_block HR.out) (by simp)).trans HR.out, ⟨_, hO, World.ownsRow_nil _ _ _ _⟩, gr_trans HGA.out gO⟩
  have H5 := Lib.hid h5
  have HW5 := Lib.hid hw5
  have HOE := Lib.hid hOe
  have hb5 : w5.cell? ⟨w.heap.size + 2, 1, none⟩ = some (.slice ya y.rd.vs.length y.c) := by rw [HYA.out]; exact blkC h5.bb 1 rfl
  clear hLM gO hO hw5 hOe h5 m0 m1 m2 HP HQ HS HR HGA HW4 HZ4
  go_upto_region 3 with (fail)
  rw [← HW5.out, ← HOE.out]
  go_wp2_with (fail)
  go_loopw [35] (fun i wr => ∃ k : Nat, k ≤ y.rd.vs.length ∧ i = .int .i64 k ∧ StpSt wr w O m x y (dsTo m.turn x.rd.vs y.rd.vs k) ∧ Hid (∀ d ∈ dsTo m.turn x.rd.vs y.rd.vs k, d ≤ LM)) (fun i _ => y.rd.vs.length - (intOf i).toNat)
  case atStart => exact ⟨0, Nat.zero_le _, rfl, H5.out, fun d hd => by cases hd⟩
  case round =>
    obtain ⟨k, hk, rfl, hst, HLE⟩ := hrel
    obtain ⟨wo, rfl⟩ : ∃ wo : World, wo = wr := ⟨_, rfl⟩
    have hDl := dsTo_len m.turn x.rd.vs y.rd.vs k
    have HNX := Lib.hid (dsTo_next m.turn x.rd.vs y.rd.vs k)
    obtain ⟨D, hD⟩ : ∃ D, D = dsTo m.turn x.rd.vs y.rd.vs k := ⟨_, rfl⟩
    rw [← hD] at hst hDl HLE HNX
    obtain ⟨lv, hOb, hlv⟩ := hst.ex
    rw [hDl] at hlv
    obtain ⟨la, lc, rfl, -, -, -, -⟩ := own_shape hlv
    obtain ⟨o0, o1, o2, o3⟩ := blk4S hOb
    obtain ⟨m0, m1, m2, -⟩ := blk3M hst.mb
    have a0 : wo.cell? ⟨w.heap.size + 1, 0, none⟩ = some (.int .i64 x.rd.at_) := blkC hst.ab 0 rfl
    have a1 : wo.cell? ⟨w.heap.size + 1, 1, none⟩ = some (.slice xa x.rd.vs.length x.c) := by rw [HXA.out]; exact blkC hst.ab 1 rfl
    have b0 : wo.cell? ⟨w.heap.size + 2, 0, none⟩ = some (.int .i64 y.rd.at_) := blkC hst.bb 0 rfl
    have b1 : wo.cell? ⟨w.heap.size + 2, 1, none⟩ = some (.slice ya y.rd.vs.length y.c) := by rw [HYA.out]; exact blkC hst.bb 1 rfl
    have HST5 := Lib.hid hst
    have HOB := Lib.hid hOb
    have HLV := Lib.hid hlv
    have HDL := Lib.hid hDl
    have HD := Lib.hid hD
    have hzo := hst.gr.size
    by_cases hlt : k < y.rd.vs.length
    · have hlt2 : k < x.rd.vs.length := by omega
      have hA := HVX.out _ (List.getElem_mem hlt2)
      have hB := HVY.out _ (List.getElem_mem hlt)
      rw [← getD_eq _ _ 0 hlt2] at hA
      rw [← getD_eq _ _ 0 hlt] at hB
      have hxg := HX.out.keep0 hst.gr
      have hyg := HY.out.keep0 hst.gr
      rw [← HXA.out] at hxg
      rw [← HYA.out] at hyg
      have HYG := Lib.hid hyg
      obtain ⟨xb, xo, rfl, xc0⟩ := hxg k _ (ints_get x.rd.vs k hlt2)
      obtain ⟨yb, yo, rfl, yc0⟩ := hyg k _ (ints_get y.rd.vs k hlt)
      obtain ⟨A, hAe⟩ : ∃ A, A = x.rd.vs.getD k 0 := ⟨_, rfl⟩
      obtain ⟨B, hBe⟩ : ∃ B, B = y.rd.vs.getD k 0 := ⟨_, rfl⟩
      rw [← hAe] at hA xc0 HNX
      rw [← hBe] at hB yc0 HNX
      obtain ⟨hA0, hA1⟩ := hA
      obtain ⟨hB0, hB1⟩ := hB
      clear hxg hyg hAe hBe hst hOb hlv hDl hD
      obtain ⟨d, hd⟩ : ∃ d, d = dM m.turn A B := ⟨_, rfl⟩
      have HDE : Hid (d = if B - A < 0 then B - A + m.turn else B - A) := by show _ = _; rw [hd]; rfl
      rw [← hd] at HNX
      have hdb0 : 0 ≤ d := by have := HDE.out; split at this <;> omega
      have hdb1 : d < 2000000 := by have := HDE.out; split at this <;> omega
      clear hd
      go_upto_if 48 with (fail)
      go_cut [11] (fun s2 wx => s2 = .int .i64 d ∧ wx = wo)
      case first =>
        by_cases hneg : B - A < 0
        · have HDE2 : Hid (d = B - A + m.turn) := by have := HDE.out; rw [if_pos hneg] at this; exact this
          go_wp2_with (fail)
          go_meet
          exact ⟨by rw [HDE2.out], rfl⟩
        · have HDE2 : Hid (d = B - A) := by have := HDE.out; rw [if_neg hneg] at this; exact this
          go_wp2_with (fail)
          go_meet
          exact ⟨by rw [HDE2.out], rfl⟩
      case rest =>
      obtain ⟨rfl, rfl⟩ := hcut
      obtain ⟨wo, rfl⟩ : ∃ wo : World, wo = wc := ⟨_, rfl⟩
      by_cases hdl : LM < d
      · have HF : Hid (stepM m x.rd y.rd = ⟨x.rd.at_, y.rd.at_, true, y.rd.vs⟩) := by
          show _ = _
          rw [HST.out, if_neg]
          intro hall
          have h1 := List.all_eq_true.1 hall d (by
            have e : dsTo m.turn x.rd.vs y.rd.vs (k + 1) = D ++ [d] := HNX.out
            have h2 : d ∈ dsTo m.turn x.rd.vs y.rd.vs (k + 1) := by rw [e]; simp
            simp only [dsTo, List.mem_map, List.mem_range] at h2 ⊢
            obtain ⟨i, hi, hie⟩ := h2
            exact ⟨i, by omega, hie⟩)
          simp only [decide_eq_true_eq] at h1
          omega
        have CL := Lib.hid (cloneInt_any (some ⟨yb, yo, none⟩) y.rd.vs.length y.c (ints y.rd.vs) wo.drew (by rw [ints_length]; omega) (HYG.out.keep0 (gr_drew (gr_refl wo none))) (fun h => by cases h) (ints_one _) (by omega))
        have r0 := blkF HST5.out.rb 0
        have r1 := blkF HST5.out.rb 1
        have r2 := blkF HST5.out.rb 2
        have r3 := blkF HST5.out.rb 3
        obtain ⟨s0, s1, s2, s3⟩ := blk4S HST5.out.rb
        have l1 := lt_of_block HST5.out.ab
        have l2 := lt_of_block HST5.out.bb
        have l3 := lt_of_block HST5.out.rb
        have hgd := gr_drew (gr_refl wo none)
        have hn0 : 0 < y.rd.vs.length := by omega
        go_wp2_with (fail)
        go_region_law (first
          | (go_simp; go_at_call 39; (with_reducible refine CL.out.mono ?_); rintro e w7 ⟨v7, rfl, ho7, g7'⟩; obtain ⟨xb7, xc7, rfl, -, -, -, -⟩ := own_some ho7 hn0; have g7 := gr_trans hgd g7'; have e0 := (gr_cell g7 l1).trans a0; have e2 := (gr_cell g7 l2).trans b0; have hR7 := (g7.block _ l3 (by simp)).trans HST5.out.rb; have y0 := blkF hR7 0; have y1 := blkF hR7 1; have y2 := blkF hR7 2; have y3 := blkF hR7 3; obtain ⟨u0, u1, u2, u3⟩ := blk4S hR7)
          | fail)
        all_goals (go_wp2_with (fail))
        all_goals
          have gs := set4_gr w7 (w.heap.size + 3) (.int .i64 x.rd.at_) (.int .i64 y.rd.at_) (.bool true) (.slice (some ⟨xb7, 0, none⟩) y.rd.vs.length xc7)
          have ho8 := own_base ho7 (show w.heap.size ≤ wo.drew.heap.size from hzo)
          refine bodyPost_ret (results_cell_row (p := 6) (by kernel_rfl) _ _ (w.heap.size + 3) _ #[.int .i64 x.rd.at_, .int .i64 y.rd.at_, .bool true, .slice (some ⟨xb7, 0, none⟩) y.rd.vs.length xc7] _ (.struct dt) rfl (set4_heap hR7 _ _ _ _) hd1 rfl (by kernel_rfl)) rfl ⟨some ⟨xb7, 0, none⟩, xc7, ?_, ?_, ?_⟩
          · rw [HF.out]
          · rw [HF.out]
            exact own_keep ho8 gs (.inr (own_ne ho8 hR7 (by decide)))
          · exact gr_grown (gr_trans HST5.out.gr g7) gs (fun q e => by cases e; omega)
      · have HLE2 : Hid (∀ e ∈ D ++ [d], e ≤ LM) := by
          show ∀ e ∈ D ++ [d], _
          intro e he
          rcases List.mem_append.1 he with h | h
          · exact HLE.out e h
          · simp only [List.mem_cons, List.not_mem_nil, or_false] at h; omega
        have hb3 := blkF HOB.out 3
        go_wp2_with (at_builtin; refine wpList_app1F eInt rfl _ _ rfl w.heap.size _ k (ints D) rfl wo #[.int .i64 d] rfl HLV.out _ rfl rfl rfl rfl (by omega) (by omega) ?_; intro v8 w8 hown8 hg8 hlt8 hf8; obtain ⟨g8, c8, rfl, _, _, _, _⟩ := own_some hown8 (by omega); have hO8 := (hg8.block O (lt_of_block HOB.out) (fun e => own_ne HLV.out HOB.out (by decide) e.symm)).trans HOB.out; have z8 := blkF hO8 3; obtain ⟨_, _, _, c83⟩ := blk4S hO8)
        have h9 := HST5.out.app (M := D ++ [d]) hOl HOB.out (by rw [HDL.out]; exact HLV.out) (by rw [List.length_append, HDL.out]; simpa [ints] using hown8) hg8
        have H9 := Lib.hid h9
        clear hown8 hg8 hlt8 hf8 hO8 h9
        go_wp2_with (fail)
        go_roundw
        case rel =>
          refine ⟨k + 1, by omega, by go_num, ?_, ?_⟩
          · rw [HNX.out]; exact H9.out
          · show ∀ e ∈ _, _
            rw [HNX.out]; exact HLE2.out
        case measure => simp [intOf]; omega
    · obtain rfl : k = y.rd.vs.length := by omega
      have HF : Hid (stepM m x.rd y.rd = ⟨x.rd.at_, y.rd.at_, false, D⟩) := by
        show _ = _
        rw [HST.out, if_pos, HD.out]
        rw [List.all_eq_true]
        intro d hd
        rw [← HD.out] at hd
        simpa using HLE.out d hd
      have r0 := blkF HST5.out.rb 0
      have r1 := blkF HST5.out.rb 1
      have r2 := blkF HST5.out.rb 2
      have r3 := blkF HST5.out.rb 3
      obtain ⟨s0, s1, s2, s3⟩ := blk4S HST5.out.rb
      clear hst hOb hlv hD hDl
      go_wp2_with (fail)
      have gs := set4_gr wo (w.heap.size + 3) (.int .i64 x.rd.at_) (.int .i64 y.rd.at_) (.bool false) (.slice la y.rd.vs.length lc)
      refine bodyPost_ret (results_cell_row (p := 6) (by kernel_rfl) _ _ (w.heap.size + 3) _ #[.int .i64 x.rd.at_, .int .i64 y.rd.at_, .bool false, .slice la y.rd.vs.length lc] _ (.struct dt) rfl (set4_heap HST5.out.rb _ _ _ _) hd1 rfl (by kernel_rfl)) rfl ⟨la, lc, ?_, ?_, ?_⟩
      · rw [HF.out]; simp only; rw [HDL.out]
      · rw [HF.out]; simp only; rw [HDL.out]
        exact own_keep HLV.out gs (.inr (own_ne HLV.out HST5.out.rb (by decide)))
      · exact gr_grown HST5.out.gr gs (fun q e => by cases e; omega)
end Go.Proofs.Ytkefloekcgangaa

/-! Readings are sorted by the program. -/
namespace Go.Proofs.Ytkefloekcgangaa
open Go.RowKit
attribute [local go_sem ↓] Go.wp_at_zero Go.wp_at_succ

theorem asc_snoc {Y X : List Rd} {x : Rd} (h : Asc Y X) (hx : ∀ z ∈ Y, z.at_ < x.at_) : Asc (Y ++ [x]) (X ++ [x]) := by
  refine ⟨?_, fun q => by simp only [List.mem_append, List.mem_singleton]; rw [h.mem q]⟩
  rw [List.pairwise_append]
  refine ⟨h.asc, List.pairwise_singleton _ _, fun a ha b hb => ?_⟩
  rw [List.mem_singleton] at hb
  rw [hb]; exact hx a ha
/-- The last of them is the greatest. -/
theorem asc_last {Y X : List Rd} (h : Asc Y X) {n : Nat} (hn : Y.length = n + 1) : ∀ z ∈ Y, z.at_ ≤ (Y[n]'(by omega)).at_ := by
  intro z hz
  obtain ⟨i, hi, rfl⟩ := List.mem_iff_getElem.1 hz
  by_cases e : i = n
  · subst e; exact Int.le_refl _
  · have := pw_getD h.asc (i := i) (j := n) (by omega) (by omega)
    omega
def MtSortPost (X : List Rd) (w : World) (e : Ending) (w' : World) : Prop := ∃ v L', e = .returned (.tuple #[v, .int .i64 0]) ∧ Rds w' w.heap.size v L' ∧ Asc (rdsG L') X ∧ L'.length ≤ X.length ∧ w.grownBy w' none
set_option maxRecDepth 100000 in
set_option maxHeartbeats 8000000 in
theorem mtSort_ok (m : Mtr) (hok : MtrOk m) (L : List RdG) (a : Option Addr) (c : Nat) (w : World) (hc : RdsC w a L) (hn : a = none → L.length = 0 ∧ c = 0) (hl : L.length ≤ 12) (hall : ∀ x ∈ rdsG L, RdOk m x) (hnc : NoConf (rdsG L)) :
    Calls Try.prog 19 #[mtrV m, .slice a L.length c] w (MtSortPost (rdsG L) w) := by
  have hv : ∀ g ∈ L, g.rd.vs.length ≤ 60 := fun g hg => by have h1 := (hall g.rd (List.mem_map_of_mem hg)).len; have := hok.c2; omega
  have MF := Lib.hid (fun W => checkMeter_any m W hok)
  have CR := Lib.hid (fun (x : RdG) (hx : x ∈ L) (W : World) (h : CellsAt W x.a (ints x.rd.vs)) => checkReading_ok m x.rd x.a x.c W hok (hall x.rd (List.mem_map_of_mem hx)) h)
  have HV := Lib.hid hv
  have HNC := Lib.hid hnc
  have HNA := Lib.hid hn
  obtain ⟨mc, mt, mf⟩ := m
  unfold mtrV at MF CR ⊢
  dsimp only at MF CR ⊢
  have hP := heap_alloc_new w (.cells #[.int .i64 mc, .int .i64 mt, .int .i64 mf] 34)
  have g1 := gr_alloc (gr_refl w none) (.cells #[.int .i64 mc, .int .i64 mt, .int .i64 mf] 34)
  obtain ⟨w1, hw1⟩ : ∃ w1, w1 = w.alloc (.cells #[.int .i64 mc, .int .i64 mt, .int .i64 mf] 34) := ⟨_, rfl⟩
  rw [← hw1] at hP g1
  have HW := Lib.hid hw1
  have HP := Lib.hid hP
  have HG := Lib.hid g1
  have HC := Lib.hid (hc.keep0 g1)
  have hz1 := g1.size
  obtain ⟨q0, q1, q2, -⟩ := blk3M hP
  clear hw1 hP g1 hc hv hnc hn hall hok
  go_enter Try.func19, Try.ntmps19
  go_wp2_with (fail)
  rw [← HW.out]
  go_wp2_with (fail)
  refine (MF.out w1).mono ?_
  rintro e w2 ⟨rfl, g2⟩
  have HP2 := Lib.hid ((g2.block _ (lt_of_block HP.out) (by simp)).trans HP.out)
  have HG2 := Lib.hid (gr_trans HG.out g2)
  have HC2 := Lib.hid (HC.out.keep0 g2)
  have hl2 : ¬ (2000 : Int) < (L.length : Int) := by omega
  clear g2 q0 q1 q2 HP HG HC MF
  go_wp2_with (fail)
  go_loopw [25] (fun i wr => ∃ k : Nat, k ≤ L.length ∧ i = .int .i64 k ∧ w2.grownBy wr none) (fun i _ => L.length - (intOf i).toNat)
  case atStart => exact ⟨0, Nat.zero_le _, rfl, gr_refl _ _⟩
  case round =>
    obtain ⟨k, hk, rfl, hgr⟩ := hrel
    obtain ⟨wo, rfl⟩ : ∃ wo : World, wo = wr := ⟨_, rfl⟩
    by_cases hlt : k < L.length
    · obtain ⟨b, off, rfl, c0, c1, cv⟩ := (HC2.out.keep0 hgr).at hlt
      have CRx := CR.out _ (List.getElem_mem hlt)
      obtain ⟨x, hx⟩ : ∃ x, x = L[k] := ⟨_, rfl⟩
      rw [← hx] at c0 c1 cv CRx
      clear hx
      have ga := gr_alloc (gr_refl wo none) (.cells #[.int .i64 x.rd.at_, .slice x.a x.rd.vs.length x.c] 52)
      obtain ⟨p0, p1, p2, -⟩ := blk3M ((hgr.block _ (lt_of_block HP2.out) (by simp)).trans HP2.out)
      have e0 := held_cell (gr_refl (wo.alloc (.cells #[.int .i64 x.rd.at_, .slice x.a x.rd.vs.length x.c] 52)) none) p0
      have e1 := held_cell (gr_refl (wo.alloc (.cells #[.int .i64 x.rd.at_, .slice x.a x.rd.vs.length x.c] 52)) none) p1
      have e2 := held_cell (gr_refl (wo.alloc (.cells #[.int .i64 x.rd.at_, .slice x.a x.rd.vs.length x.c] 52)) none) p2
      have RFx := Lib.hid (CRx (wo.alloc (.cells #[.int .i64 x.rd.at_, .slice x.a x.rd.vs.length x.c] 52)) (cv.keep0 ga))
      have HGA := Lib.hid (gr_trans hgr ga)
      clear cv ga hgr p0 p1 p2 CRx
      go_wp2_with (fail)
      refine RFx.out.mono ?_
      rintro e w4 ⟨rfl, g4⟩
      have HG4 := Lib.hid (gr_trans HGA.out g4)
      clear g4
      go_wp2_with (fail)
      go_roundw
      case rel => exact ⟨k + 1, by omega, by go_num, HG4.out⟩
      case measure => simp [intOf]; omega
    · obtain rfl : k = L.length := by omega
      obtain ⟨w3, rfl⟩ : ∃ w3 : World, w3 = wo := ⟨_, rfl⟩
      have HG3 := Lib.hid (gr_trans HG2.out hgr)
      have HC3 := Lib.hid (HC2.out.keep0 hgr)
      have hz3 := HG3.out.size
      have CL := Lib.hid (cloneRd_any a L.length c (cellsG L) w3 (cellsG_len L) HC3.out.row HNA.out (cellsG_one L) (by omega))
      clear hgr CR
      go_wp2_with (fail)
      refine CL.out.mono ?_
      rintro e w4 ⟨v4, rfl, ho4, g4⟩
      obtain ⟨sa, sc, rfl, -, -, -, -⟩ := own_shape ho4
      have HO4 : Hid (w4.ownsRow w3.heap.size 52 2 (.slice sa L.length sc) L.length (flat encC (L.map RdG.cell))) := ho4
      have SF := Lib.hid (sortRd_any 55 L.length cmR (.slice sa L.length sc) w3.heap.size (L.map RdG.cell) w4 HO4.out (by simp) (by omega) ms1_fn cmR_ok (fun x y W _ _ _ => ms1_any x y W))
      have HG4 := Lib.hid g4
      clear ho4 g4 CL
      go_wp2_with (fail)
      refine SF.out.mono ?_
      rintro e w5 ⟨O, rfl, ho5, hp, hs, g5⟩
      obtain ⟨S, hS1, hS2⟩ := perm_unmap RdG.cell hp
      have hSl := hS1.length_eq
      subst hS2
      have hlow : ∀ q, (Value.slice sa L.length sc).ownBlock = some q → w3.heap.size ≤ q := fun q hq => (HO4.out.lt q hq).1
      have g35 := gr_grown HG4.out g5 hlow
      obtain ⟨_, _, ev, -, -, hc5, -⟩ := own_shape ho5
      cases ev
      have HS : Hid (RdsC w5 sa S) := ⟨hc5, fun x hx => (HC3.out.vals x (hS1.mem_iff.1 hx)).keep0 g35, fun x hx => HC3.out.nil x (hS1.mem_iff.1 hx)⟩
      have HPM : Hid (∀ r, r ∈ rdsG S ↔ r ∈ rdsG L) := fun r => (hS1.map RdG.rd).mem_iff
      have HSV : Hid (∀ g ∈ S, g.rd.vs.length ≤ 60) := fun g hg => HV.out g (hS1.mem_iff.1 hg)
      have HWK : Hid (∀ p q (hp : p < S.length) (hq : q < S.length), p < q → S[p].rd.at_ ≤ S[q].rd.at_) := by
        show ∀ _, _
        intro p q hp' hq' hpq
        have h2 := hs p q hpq (by omega)
        unfold cmR at h2
        rw [(cmpN_sign _ _).1, getD_eq _ _ _ (by simpa using hq'), getD_eq _ _ _ (by simpa using hp')] at h2
        simp only [List.getElem_map, RdG.cell] at h2
        omega
      have HGF := Lib.hid (gr_trans HG3.out g35)
      have hz5 := HGF.out.size
      rw [← hSl]
      have hS12 : S.length ≤ 12 := by omega
      have HSL : Hid (S.length ≤ (rdsG L).length) := by show _ ≤ _; rw [rdsG_len]; omega
      clear ho5 hp hs g5 hS1 hSl hc5 g35 SF HO4 HG4 HV
      go_wp2_with (fail)
      go_loopw [11, 42] (fun v i wr => ∃ (k : Nat) (L2 : List RdG) (gv : Value), gv = v ∧ k ≤ S.length ∧ i = .int .i64 k ∧ Rds wr w5.heap.size gv L2 ∧ Hid (Asc (rdsG L2) (rdsG (S.take k))) ∧ L2.length ≤ k ∧ w5.grownBy wr none) (fun _ i _ => S.length - (intOf i).toNat)
      case atStart => exact ⟨0, [], _, rfl, Nat.zero_le _, rfl, Rds.nil _ _, Asc.nil, Nat.zero_le _, gr_refl _ _⟩
      case round =>
        obtain ⟨k, L2, v, rfl, hk, rfl, hrd, HASC, hl2k, hgr⟩ := hrel
        obtain ⟨w6, rfl⟩ : ∃ w6 : World, w6 = wr := ⟨_, rfl⟩
        obtain ⟨va2, vc2, rfl, -, -⟩ := hrd.shape
        have HRD := Lib.hid hrd
        clear hrd
        by_cases hlt : k < S.length
        · obtain ⟨b, off, rfl, c0, c1, cv⟩ := (HS.out.keep0 hgr).at hlt
          have hvl := HSV.out _ (List.getElem_mem hlt)
          have HNIL := Lib.hid (HS.out.nil _ (List.getElem_mem hlt))
          have HTK : Hid (rdsG (S.take (k + 1)) = rdsG (S.take k) ++ [S[k].rd]) := by
            show _ = _
            have e : S.take (k + 1) = S.take k ++ [S[k]] := by simp
            rw [e, rdsG_app]
          have HLE : Hid (∀ z ∈ rdsG L2, z.at_ ≤ S[k].rd.at_ ∧ (z.at_ = S[k].rd.at_ → z = S[k].rd)) := by
            show ∀ z ∈ rdsG L2, _
            intro z hz
            have hz2 := (HASC.out.mem z).1 hz
            simp only [rdsG, List.mem_map] at hz2
            obtain ⟨g, hg, rfl⟩ := hz2
            obtain ⟨p, hp, rfl⟩ := List.mem_iff_getElem.1 hg
            have hp2 : p < k := by rw [List.length_take] at hp; omega
            rw [List.getElem_take]
            refine ⟨HWK.out p k (by omega) hlt hp2, fun e => HNC.out _ ((HPM.out _).1 (List.mem_map_of_mem (List.getElem_mem _))) _ ((HPM.out _).1 (List.mem_map_of_mem (List.getElem_mem hlt))) e⟩
          obtain ⟨x, hx⟩ : ∃ x, x = S[k] := ⟨_, rfl⟩
          rw [← hx] at c0 c1 cv hvl HTK HNIL HLE
          clear hx
          have ga := gr_alloc (gr_refl w6 none) (.cells #[.int .i64 x.rd.at_, .slice x.a x.rd.vs.length x.c] 52)
          have hV := heap_alloc_new w6 (.cells #[.int .i64 x.rd.at_, .slice x.a x.rd.vs.length x.c] 52)
          obtain ⟨w7, hw7⟩ : ∃ w7, w7 = w6.alloc (.cells #[.int .i64 x.rd.at_, .slice x.a x.rd.vs.length x.c] 52) := ⟨_, rfl⟩
          obtain ⟨V, hVe⟩ : ∃ V, V = w6.heap.size := ⟨_, rfl⟩
          rw [← hw7] at ga hV
          rw [← hVe] at hV
          have HR7 := Lib.hid (HRD.out.keep0 ga)
          have HG7 := Lib.hid (gr_trans hgr ga)
          have HV7 := Lib.hid hV
          have HCV := Lib.hid (cv.keep0 ga)
          obtain ⟨d0, d1⟩ : w7.cell? ⟨V, 0, none⟩ = some (.int .i64 x.rd.at_) ∧ w7.cell? ⟨V, 1, none⟩ = some (.slice x.a x.rd.vs.length x.c) := ⟨blkC hV 0 rfl, blkC hV 1 rfl⟩
          have HW7 := Lib.hid hw7
          have HVE := Lib.hid hVe
          clear cv ga hV hw7 hVe hgr
          go_upto_region 20 with (fail)
          rw [← HW7.out, ← HVE.out]
          go_cut [60] (fun s wx => ∃ b : Bool, s = .bool b ∧ (b = true → ∃ h : L2.length - 1 < L2.length, L2[L2.length - 1].rd = x.rd) ∧ (b = false → ∀ z ∈ rdsG L2, z.at_ < x.rd.at_) ∧ w7.grownBy wx none)
          case first =>
            by_cases hL0 : L2.length = 0
            · have hdk : decide ((0 : Int) ≤ (L2.length : Int) - 1) = false := decide_eq_false (by omega)
              have hdk2 : decide ((1 : Int) ≤ (L2.length : Int)) = false := decide_eq_false (by omega)
              have HNE : Hid (∀ z ∈ rdsG L2, z.at_ < x.rd.at_) := by
                show ∀ z ∈ rdsG L2, _
                intro z hz
                have : L2 = [] := List.eq_nil_of_length_eq_zero hL0
                rw [this] at hz
                cases hz
              clear hL0
              refine wp_region_grew (by kernel_rfl) (by kernel_rfl) ?_
              repeat (go_big_quiet_step (fail))
              refine wpQuiet_nil ?_
              rintro wq ⟨nn, rfl⟩
              have gq := nn.gr
              go_wp2_with (fail)
              go_meet
              exact ⟨false, rfl, fun e => (by cases e), fun _ => HNE.out, gq⟩
            · obtain ⟨n, hn⟩ : ∃ n, n = L2.length - 1 := ⟨_, rfl⟩
              have hnl : n < L2.length := by omega
              obtain ⟨gb, gc, ev, -, -, e0, e1⟩ := HR7.out.at hnl
              cases ev
              have HLN : Hid (L2[n].rd.at_ ≤ x.rd.at_ ∧ (L2[n].rd.at_ = x.rd.at_ → L2[n].rd = x.rd) ∧ (∀ z ∈ rdsG L2, z.at_ ≤ L2[n].rd.at_)) := by
                show _ ∧ _ ∧ _
                have h1 := HLE.out _ (List.mem_map_of_mem (List.getElem_mem hnl))
                have h2 := asc_last HASC.out (n := n) (by rw [rdsG_len]; omega)
                refine ⟨h1.1, h1.2, fun z hz => ?_⟩
                have := h2 z hz
                simpa [rdsG] using this
              have HNL : Hid (L2.length - 1 = n) := hn.symm
              have hdk : decide ((0 : Int) ≤ (L2.length : Int) - 1) = true := decide_eq_true (by omega)
              have hdk2 : decide ((1 : Int) ≤ (L2.length : Int)) = true := decide_eq_true (by omega)
              have hq0 : (0 : Int) ≤ (L2.length : Int) - 1 := by omega
              have hq1 : (L2.length : Int) - 1 < (L2.length : Int) := by omega
              have hq2 : ((L2.length : Int) - 1).toNat = n := by omega
              obtain ⟨y, hy⟩ : ∃ y, y = L2[n].rd := ⟨_, rfl⟩
              rw [← hy] at HLN e0
              have HY := Lib.hid hy
              have x0 := grew_cell e0
              have x1 := grew_cell d0
              obtain ⟨bb, hbb⟩ : ∃ bb, (y.at_ == x.rd.at_) = bb := ⟨_, rfl⟩
              have HBB := Lib.hid hbb
              clear hL0 hn hy e0 e1
              refine wp_region_grew (by kernel_rfl) (by kernel_rfl) ?_
              repeat (go_big_quiet_step (fail))
              refine wpQuiet_nil ?_
              rintro wq ⟨nn, rfl⟩
              have gq := nn.gr
              go_wp2_with (fail)
              go_meet
              refine ⟨bb, rfl, fun e => ?_, fun e => ?_, gq⟩
              · have h1 : y.at_ = x.rd.at_ := by have := HBB.out; rw [e] at this; simpa using this
                have h2 := HLN.out.2.1 h1
                refine ⟨by omega, ?_⟩
                have h3 := HY.out
                have e4 := HNL.out
                subst e4
                rw [← h3]; exact h2
              · have h1 : y.at_ ≠ x.rd.at_ := by have := HBB.out; rw [e] at this; simpa using this
                intro z hz
                have h2 := HLN.out.2.2 z hz
                have h3 := HLN.out.1
                omega
          case rest =>
          obtain ⟨bb, rfl, hT, hF, g8⟩ := hcut
          obtain ⟨w8, rfl⟩ : ∃ w8 : World, w8 = wc := ⟨_, rfl⟩
          have HR8 := Lib.hid (HR7.out.keep0 g8)
          have HG8 := Lib.hid (gr_trans HG7.out g8)
          have HCV8 := Lib.hid (HCV.out.keep0 g8)
          have hV8 := (g8.block _ (lt_of_block HV7.out) (by simp)).trans HV7.out
          have hVl := lt_of_block hV8
          obtain ⟨d0', d1'⟩ : w8.cell? ⟨V, 0, none⟩ = some (.int .i64 x.rd.at_) ∧ w8.cell? ⟨V, 1, none⟩ = some (.slice x.a x.rd.vs.length x.c) := ⟨blkC hV8 0 rfl, blkC hV8 1 rfl⟩
          have HT := Lib.hid hT
          have HF := Lib.hid hF
          clear d0 d1 g8 hV8 hT hF HR7 HG7 HCV HV7
          cases bb with
          | true =>
            obtain ⟨hnl, hrd⟩ := HT.out rfl
            obtain ⟨gb, gc, ev, -, -, e0, e1⟩ := HR8.out.at hnl
            cases ev
            obtain ⟨_, _, ev, -, -, hcy, -⟩ := own_shape (HR8.out.vals _ (List.getElem_mem hnl))
            cases ev
            have HIN : Hid (x.rd ∈ rdsG L2) := by show _ ∈ _; rw [← hrd]; exact List.mem_map_of_mem (List.getElem_mem hnl)
            rw [hrd] at e1 hcy
            obtain ⟨y, hy⟩ : ∃ y, y = L2[L2.length - 1] := ⟨_, rfl⟩
            rw [← hy] at e1 hcy
            have EQ := Lib.hid (fun (W : World) (g : w8.grownBy W none) => equal_int x.rd.vs y.a x.a y.c x.c W (hcy.keep0 g) (HCV8.out.keep0 g) (by omega))
            obtain ⟨n, hn⟩ : ∃ n, n = L2.length - 1 := ⟨_, rfl⟩
            rw [← hn] at e1
            have hq0 : (0 : Int) ≤ (L2.length : Int) - 1 := by omega
            have hq1 : (L2.length : Int) - 1 < (L2.length : Int) := by omega
            have hq2 : ((L2.length : Int) - 1).toNat = n := by omega
            have x0 := grew_cell e1
            have x1 := grew_cell d1'
            clear hy hcy hrd hn e0 e1 d0' d1' hnl
            go_wp2_with (fail)
            refine wp_region_grew (by kernel_rfl) (by kernel_rfl) ?_
            repeat (go_big_quiet_step (first | (go_at_call 43; exact Calls.grew_of (fun W g => EQ.out W g))))
            refine wpQuiet_nil ?_
            rintro wq ⟨nn, rfl⟩
            have gq := nn.gr
            go_wp2_with (fail)
            go_roundw
            case rel =>
              refine ⟨k + 1, L2, _, rfl, by omega, by go_num, HR8.out.keep0 gq, ?_, by omega, gr_trans HG8.out gq⟩
              show Asc _ _
              rw [HTK.out]
              exact HASC.out.again HIN.out
            case measure => simp [intOf]; omega
          | false =>
            have HLT := Lib.hid (HF.out rfl)
            have CL := Lib.hid (cloneInt_any x.a x.rd.vs.length x.c (ints x.rd.vs) w8.drew (by rw [ints_length]; omega) (HCV8.out.keep0 (gr_drew (gr_refl _ _))) HNIL.out (ints_one _) (by omega))
            have hz8 := HG8.out.size
            have hgd := gr_drew (gr_refl w8 none)
            clear HT HF
            go_wp2_with (fail)
            go_region_law (first
              | (refine step_app1 eRd rfl _ _ rfl w5.heap.size _ L2.length (cellsG L2) rfl w9 #[.int .i64 x.rd.at_, .slice xa x.rd.vs.length xc] rfl HR9.out.row _ rfl rfl rfl rfl ?_ ?_ ?_; (· omega); (· omega); intro v10 w10 hown10 hg10 hlt10 hk10)
              | (go_simp; go_at_call 39; (with_reducible refine CL.out.mono ?_); rintro e w9 ⟨v9, rfl, ho9, g9'⟩; obtain ⟨xa, xc, rfl, -, -, -, -⟩ := own_shape ho9; have g9 := gr_trans hgd g9'; have HR9 := Lib.hid (HR8.out.keep0 g9); have HO9 := Lib.hid ho9; have e0 := (gr_cell g9 hVl).trans d0'; have e1 := (gr_cell g9 hVl).trans d1'; have hz9 := g9.size)
              | fail)
            all_goals (go_wp2_with (fail))
            all_goals go_roundw
            all_goals first
              | (simp [intOf]; omega)
              | (have hx9 := own_base HO9.out (show w5.heap.size ≤ w8.drew.heap.size from hz8)
                 refine ⟨k + 1, L2 ++ [⟨x.rd, xa, xc⟩], _, rfl, by omega, by go_num, HR9.out.push (x := ⟨x.rd, xa, xc⟩) hx9 hown10 hg10, ?_, by rw [List.length_append]; simp; omega, gr_grown (gr_trans HG8.out g9) hg10 (fun q hq => (HR9.out.row.lt q hq).1)⟩
                 show Asc _ _
                 rw [HTK.out, rdsG_app]
                 exact asc_snoc HASC.out HLT.out)
        · obtain rfl : k = S.length := by omega
          have HE : Hid (Asc (rdsG L2) (rdsG L)) := by
            have h := HASC.out
            rw [List.take_length] at h
            exact h.of_mem HPM.out
          go_wp2_with (fail)
          go_ret2
          exact ⟨_, L2, rfl, HRD.out.base hz5, HE.out, Nat.le_trans hl2k HSL.out, gr_trans HGF.out hgr⟩
end Go.Proofs.Ytkefloekcgangaa
