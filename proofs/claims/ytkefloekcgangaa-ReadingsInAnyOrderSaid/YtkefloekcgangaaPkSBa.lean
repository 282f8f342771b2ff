/- Two logs that are filled in turn, and a list that grows beside them. -/
import Derived.Test.YtkefloekcgangaaPkSAy
import Derived.Test.YtkefloekcgangaaPkSAz
import Derived.Test.YtkefloekcgangaaPkSAa
namespace Go.Proofs.Ytkefloekcgangaa
open Go.RowKit
variable {lw : Nat}

theorem StreamAt.keepT {w w1 : World} {p k : Nat} {l : List Int} {T : Nat → Prop} (h : StreamAt w p lw l k) (g : GrowT T w w1) (hT : ∀ q, T q → p < q) : StreamAt w1 p lw l k := by
  obtain ⟨⟨a, cap, hb, hc, hne⟩, hlen, hlow⟩ := h
  refine ⟨⟨a, cap, (g.block p (lt_of_block hb) (fun t => by have := hT p t; omega)).trans hb, ?_, hne⟩, hlen, hlow⟩
  cases l with
  | nil => exact CellsAt.nil _ _
  | cons x l =>
    intro j v hj
    obtain ⟨b, off, rfl, hcell⟩ := hc j v hj
    refine ⟨b, off, rfl, ?_⟩
    have hb2 := hne (by simp) b off rfl
    rw [World.cell?_of_block (w := w) (g.block b (lt_of_cell hcell) (fun t => by have := hT b t; omega))]
    exact hcell
theorem Rds.keepR {w w1 : World} {base b : Nat} {v : Value} {L : List RdG} (h : Rds w base v L) (g : w.grownBy w1 (some b)) (hv : v.ownBlock ≠ some b) (hb : ∀ cs, w.heap[b]? ≠ some (.cells cs 3 (0, 0))) : Rds w1 base v L :=
  h.keepT (GrowT.of (T := fun k => k = b) g (fun q e => by cases e; rfl)) (fun q hq e => hv (by rw [hq, e])) (fun q cs e => by rw [e]; exact hb cs)
/-- The rows of ints stay. -/
def IntStay (w w' : World) : Prop := ∀ (b : Nat) (cs : Array Value), w.heap[b]? = some (.cells cs 3 (0, 0)) → w'.heap[b]? = some (.cells cs 3 (0, 0))
theorem IntStay.refl (w : World) : IntStay w w := fun _ _ h => h
theorem IntStay.trans {a b c : World} (h : IntStay a b) (g : IntStay b c) : IntStay a c := fun k cs x => g k cs (h k cs x)
theorem IntStay.of {w w' : World} {r : Option Nat} (g : w.grownBy w' r) (hr : ∀ b cs, r = some b → w.heap[b]? ≠ some (.cells cs 3 (0, 0))) : IntStay w w' := fun b cs h => (g.block b (lt_of_block h) (fun e => hr b cs e.symm h)).trans h
theorem IntStay.ofT {w w' : World} {T : Nat → Prop} (g : GrowT T w w') (hr : ∀ b cs, T b → w.heap[b]? ≠ some (.cells cs 3 (0, 0))) : IntStay w w' := fun b cs h => (g.block b (lt_of_block h) (fun e => hr b cs e h)).trans h
theorem own_intS {w w' : World} {base n : Nat} {v : Value} {xs : List Value} (h : w.ownsRow base 3 1 v n xs) (s : IntStay w w') : w'.ownsRow base 3 1 v n xs := by
  refine ⟨h.1, ?_⟩
  rcases h.2 with h2 | ⟨b, cap, cur, hv2, hg, hb, r⟩
  · exact .inl h2
  · exact .inr ⟨b, cap, cur, hv2, hg, s b cur hb, r⟩
theorem StreamAt.noint {w : World} {p k : Nat} {l : List Int} (h : StreamAt w p lw l k) (cs : Array Value) : w.heap[p]? ≠ some (.cells cs 3 (0, 0)) := by
  obtain ⟨a, cap, hb, _⟩ := h.blk
  intro e
  rw [hb] at e
  cases e
structure AnyInv (wr w7 : World) (p lw : Nat) (l : List Int) (j : Nat) (m : Mtr) (gx gy base : Nat) (lvx : Value) (Lx : List RdG) (lvy : Value) (Ly : List RdG) (gv : Value) (La : List RdG) : Prop where
  lx : LogAt wr gx w7.heap.size m lvx Lx
  ly : LogAt wr gy w7.heap.size m lvy Ly
  ra : Rds wr base gv La
  al : ∀ q, gv.ownBlock = some q → w7.heap.size ≤ q
  sxy : ∀ q, lvx.ownBlock = some q → lvy.ownBlock ≠ some q
  sxa : ∀ q, lvx.ownBlock = some q → gv.ownBlock ≠ some q
  sya : ∀ q, lvy.ownBlock = some q → gv.ownBlock ≠ some q
  gxy : gx ≠ gy
  lox : w7.heap.size ≤ gx
  loy : w7.heap.size ≤ gy
  str : StreamAt wr p lw l j
  gr : w7.grownBy wr (some p)
section
variable {wr w7 w1 : World} {p j gx gy base : Nat} {l : List Int} {m : Mtr} {lvx lvy gv : Value} {Lx Ly La : List RdG}
theorem AnyInv.swap (h : AnyInv wr w7 p lw l j m gx gy base lvx Lx lvy Ly gv La) : AnyInv wr w7 p lw l j m gy gx base lvy Ly lvx Lx gv La :=
  ⟨h.ly, h.lx, h.ra, h.al, fun q hq e => h.sxy q e hq, h.sya, h.sxa, fun e => h.gxy e.symm, h.loy, h.lox, h.str, h.gr⟩
theorem LogAt.keepS {g q base : Nat} {lv : Value} {L : List RdG} (h : LogAt wr g base m lv L) (gr : wr.grownBy w1 (some q)) (h1 : q < base) (h2 : q ≠ g) : LogAt w1 g base m lv L :=
  ⟨(gr.block _ (lt_of_block h.blk) (by simpa using fun e => h2 e.symm)).trans h.blk, h.rds.keepS gr h1⟩
theorem AnyInv.call (h : AnyInv wr w7 p lw l j m gx gy base lvx Lx lvy Ly gv La) (hp : p < base) (hp7 : p < w7.heap.size) {j1 : Nat} (g : wr.grownBy w1 (some p)) (hs : StreamAt w1 p lw l j1) : AnyInv w1 w7 p lw l j1 m gx gy base lvx Lx lvy Ly gv La :=
  ⟨h.lx.keepS g hp7 (by have := h.lox; omega), h.ly.keepS g hp7 (by have := h.loy; omega), h.ra.keepS g hp, h.al, h.sxy, h.sxa, h.sya, h.gxy, h.lox, h.loy, hs, gr_trans h.gr g⟩
theorem AnyInv.keep0 (h : AnyInv wr w7 p lw l j m gx gy base lvx Lx lvy Ly gv La) (g : wr.grownBy w1 none) : AnyInv w1 w7 p lw l j m gx gy base lvx Lx lvy Ly gv La :=
  ⟨h.lx.keep0 g, h.ly.keep0 g, h.ra.keep0 g, h.al, h.sxy, h.sxa, h.sya, h.gxy, h.lox, h.loy, h.str.keep0 g, gr_trans h.gr (gr_weak g _)⟩
theorem AnyInv.app {v9 : Value} {x : RdG} (h : AnyInv wr w7 p lw l j m gx gy base lvx Lx lvy Ly gv La) (hp7 : p < w7.heap.size) (hx : wr.ownsRow base 3 1 (.slice x.a x.rd.vs.length x.c) x.rd.vs.length (ints x.rd.vs)) (ho : w1.ownsRow base 52 2 v9 (La.length + 1) (cellsG La ++ encC x.cell)) (g : wr.grownBy w1 gv.ownBlock) (hf : ∀ k, v9.ownBlock = some k → gv.ownBlock = some k ∨ wr.heap.size ≤ k) : AnyInv w1 w7 p lw l j m gx gy base lvx Lx lvy Ly v9 (La ++ [x]) := by
  have hkeep : ∀ {g0 : Nat} {lv : Value} {L : List RdG}, LogAt wr g0 w7.heap.size m lv L → (∀ q, lv.ownBlock = some q → gv.ownBlock ≠ some q) → LogAt w1 g0 w7.heap.size m lv L := by
    intro g0 lv L hL hs
    refine ⟨(g.block _ (lt_of_block hL.blk) (fun e => own_ne h.ra.row hL.blk (by decide) e.symm)).trans hL.blk, hL.rds.keepT (T := fun k => gv.ownBlock = some k) (GrowT.of g (fun q e => e)) (fun q hq e => hs q hq e) (fun q cs e hc => own_ne h.ra.row hc (by decide) e)⟩
  have hsz := h.gr.size
  have hnew : ∀ {lv : Value} {L : List RdG} {g0 : Nat}, LogAt wr g0 w7.heap.size m lv L → (∀ q, lv.ownBlock = some q → gv.ownBlock ≠ some q) → ∀ q, lv.ownBlock = some q → v9.ownBlock ≠ some q := by
    intro lv L g0 hL hs q hq e
    rcases hf q e with h1 | h1
    · exact hs q hq h1
    · have := (hL.rds.row.lt q hq).2; omega
  refine ⟨hkeep h.lx h.sxa, hkeep h.ly h.sya, h.ra.push hx ho g, fun q hq => ?_, h.sxy, hnew h.lx h.sxa, hnew h.ly h.sya, h.gxy, h.lox, h.loy, h.str.keep g (fun q hq => by have := h.al q hq; omega), gr_grown h.gr g (fun q hq => h.al q hq)⟩
  rcases hf q hq with h1 | h1
  · exact h.al q h1
  · omega
theorem AnyInv.noint (h : AnyInv wr w7 p lw l j m gx gy base lvx Lx lvy Ly gv La) : ∀ q cs, (q = gx ∨ lvx.ownBlock = some q) → wr.heap[q]? ≠ some (.cells cs 3 (0, 0)) := by
  intro q cs hq hc
  rcases hq with rfl | hq
  · rw [h.lx.blk] at hc; cases hc
  · exact own_ne h.lx.rds.row hc (by decide) hq
theorem AnyInv.put {lv' : Value} {L' : List RdG} (h : AnyInv wr w7 p lw l j m gx gy base lvx Lx lvy Ly gv La) (hp7 : p < w7.heap.size) (hL : LogAt w1 gx w7.heap.size m lv' L') (hf : ∀ q, lv'.ownBlock = some q → lvx.ownBlock = some q ∨ wr.heap.size ≤ q) (g : GrowT (fun k => k = gx ∨ lvx.ownBlock = some k) wr w1) : AnyInv w1 w7 p lw l j m gx gy base lv' L' lvy Ly gv La := by
  have hnoint : ∀ q cs, (q = gx ∨ lvx.ownBlock = some q) → wr.heap[q]? ≠ some (.cells cs 3 (0, 0)) := by
    intro q cs hq hc
    rcases hq with rfl | hq
    · rw [h.lx.blk] at hc; cases hc
    · exact own_ne h.lx.rds.row hc (by decide) hq
  have hgxv : ∀ {v : Value} {b n : Nat} {xs : List Value}, wr.ownsRow b 52 2 v n xs → v.ownBlock ≠ some gx := fun ho => own_ne ho h.lx.blk (by decide)
  have hlow : ∀ q, (q = gx ∨ lvx.ownBlock = some q) → w7.heap.size ≤ q := by
    intro q hq
    rcases hq with rfl | hq
    · exact h.lox
    · exact (h.lx.rds.row.lt q hq).1
  refine ⟨hL, ⟨(g.block _ (lt_of_block h.ly.blk) (fun e => ?_)).trans h.ly.blk, h.ly.rds.keepT g (fun q hq ht => ?_) hnoint⟩, h.ra.keepT g (fun q hq ht => ?_) hnoint, h.al, fun q hq e => ?_, fun q hq e => ?_, h.sya, h.gxy, h.lox, h.loy, h.str.keepT g (fun q hq => by have := hlow q hq; omega), GrowT.grown' h.gr g hlow⟩
  · rcases e with e | e
    · exact h.gxy e.symm
    · exact own_ne h.lx.rds.row h.ly.blk (by decide) e
  · rcases ht with rfl | ht
    · exact hgxv h.ly.rds.row hq
    · exact h.sxy q ht hq
  · rcases ht with rfl | ht
    · exact hgxv h.ra.row hq
    · exact h.sxa q ht hq
  · rcases hf q hq with h1 | h1
    · exact h.sxy q h1 e
    · have := (h.ly.rds.row.lt q e).2; omega
  · rcases hf q hq with h1 | h1
    · exact h.sxa q h1 e
    · have := (h.ra.row.lt q e).2; omega
end
end Go.Proofs.Ytkefloekcgangaa

/-! What happened from each reading to the next one. -/
namespace Go.Proofs.Ytkefloekcgangaa
open Go.RowKit
attribute [local go_sem ↓] Go.wp_at_zero Go.wp_at_succ

structure StG where
  st : Stp
  a : Option Addr
  c : Nat
def encS (s : StG) : List Value := [.int .i64 s.st.fr, .int .i64 s.st.til, .bool s.st.rs, .slice s.a s.st.sold.length s.c]
def stG (S : List StG) : List Stp := S.map StG.st
theorem stG_app (S : List StG) (x : StG) : stG (S ++ [x]) = stG S ++ [x.st] := by simp [stG]
theorem stG_len (S : List StG) : (stG S).length = S.length := by simp [stG]
theorem eSt : ElemT Try.prog 55 62 (.agg #[.int .i64 0, .int .i64 0, .bool false, .slice none 0 0]) 4 48 := ⟨by kernel_rfl, by kernel_rfl, by decide, by decide, by decide⟩
structure Sts (w : World) (base : Nat) (v : Value) (S : List StG) : Prop where
  row : w.ownsRow base 62 4 v S.length (flat encS S)
  vals : ∀ g ∈ S, w.ownsRow base 3 1 (.slice g.a g.st.sold.length g.c) g.st.sold.length (ints g.st.sold)
theorem Sts.nil (w : World) (base : Nat) : Sts w base (.slice none 0 0) [] := ⟨World.ownsRow_nil _ _ _ _, fun _ h => by cases h⟩
theorem Sts.keep0 {w w1 : World} {base : Nat} {v : Value} {L : List StG} (h : Sts w base v L) (g : w.grownBy w1 none) : Sts w1 base v L := ⟨own_keep0 h.row g, fun x hx => own_keep0 (h.vals x hx) g⟩
theorem Sts.base {w : World} {base base' : Nat} {v : Value} {L : List StG} (h : Sts w base v L) (hb : base' ≤ base) : Sts w base' v L := ⟨own_base h.row hb, fun x hx => own_base (h.vals x hx) hb⟩
theorem Sts.shape {w : World} {base : Nat} {v : Value} {L : List StG} (h : Sts w base v L) : ∃ a c, v = .slice a L.length c ∧ L.length ≤ c ∧ c ≤ maxLen := by
  obtain ⟨a, c, rfl, h1, h2, -, -⟩ := own_shape h.row
  exact ⟨a, c, rfl, h1, h2⟩
theorem Sts.push {W w9 : World} {base : Nat} {v v9 : Value} {L : List StG} {x : StG} (h : Sts W base v L) (hx : W.ownsRow base 3 1 (.slice x.a x.st.sold.length x.c) x.st.sold.length (ints x.st.sold)) (ho : w9.ownsRow base 62 4 v9 (L.length + 1) (flat encS L ++ encS x)) (g : W.grownBy w9 v.ownBlock) : Sts w9 base v9 (L ++ [x]) := by
  refine ⟨by rw [flat_append, flat_one, List.length_append]; exact ho, fun y hy => ?_⟩
  rcases List.mem_append.1 hy with hy | hy
  · exact own_keepU (h.vals y hy) h.row (by decide) g
  · simp only [List.mem_cons, List.not_mem_nil, or_false] at hy
    subst hy
    exact own_keepU hx h.row (by decide) g
def stepsTo (m : Mtr) (Y : List Rd) (k : Nat) : List Stp := (List.range k).map fun i => stepM m (Y.getD i rd0) (Y.getD (i + 1) rd0)
def stepsM (m : Mtr) (Y : List Rd) : List Stp := stepsTo m Y (Y.length - 1)
theorem stepsTo_next (m : Mtr) (Y : List Rd) (k : Nat) : stepsTo m Y (k + 1) = stepsTo m Y k ++ [stepM m (Y.getD k rd0) (Y.getD (k + 1) rd0)] := by simp [stepsTo, List.range_succ]
def StepsPost (m : Mtr) (X : List Rd) (w : World) (e : Ending) (w' : World) : Prop := ∃ v S Y, e = .returned (.tuple #[v, .int .i64 0]) ∧ Sts w' w.heap.size v S ∧ Asc Y X ∧ stG S = stepsM m Y ∧ w.grownBy w' none
set_option maxRecDepth 100000 in
set_option maxHeartbeats 8000000 in
theorem steps_ok (m : Mtr) (hok : MtrOk m) (L : List RdG) (a : Option Addr) (c : Nat) (w : World) (hc : RdsC w a L) (hn : a = none → L.length = 0 ∧ c = 0) (hl : L.length ≤ 12) (hall : ∀ x ∈ rdsG L, RdOk m x) (hnc : NoConf (rdsG L)) :
    Calls Try.prog 20 #[mtrV m, .slice a L.length c] w (StepsPost m (rdsG L) w) := by
  have SO := Lib.hid (fun (W : World) (g : w.grownBy W none) => mtSort_ok m hok L a c W (hc.keep0 g) hn hl hall hnc)
  have ST := Lib.hid (fun (x y : RdG) (hx : RdOk m x.rd) (hy : RdOk m y.rd) (hxy : x.rd.at_ ≤ y.rd.at_) (W : World) (h1 : CellsAt W x.a (ints x.rd.vs)) (h2 : CellsAt W y.a (ints y.rd.vs)) (h3 : y.a = none → y.rd.vs.length = 0 ∧ y.c = 0) => step_any m hok x y hx hy hxy W h1 h2 h3)
  have HALL := Lib.hid hall
  obtain ⟨mm, hmm⟩ : ∃ mm, mm = m := ⟨_, rfl⟩
  rw [← hmm] at SO ST HALL ⊢
  obtain ⟨mc, mt, mf⟩ := mm
  unfold mtrV at SO ST ⊢
  dsimp only at SO ST ⊢
  have hP := heap_alloc_new w (.cells #[.int .i64 mc, .int .i64 mt, .int .i64 mf] 34)
  have g1 := gr_alloc (gr_refl w none) (.cells #[.int .i64 mc, .int .i64 mt, .int .i64 mf] 34)
  obtain ⟨w1, hw1⟩ : ∃ w1, w1 = w.alloc (.cells #[.int .i64 mc, .int .i64 mt, .int .i64 mf] 34) := ⟨_, rfl⟩
  rw [← hw1] at hP g1
  have HW := Lib.hid hw1
  have HP := Lib.hid hP
  have HG := Lib.hid g1
  obtain ⟨q0, q1, q2, -⟩ := blk3M hP
  clear hw1 hP g1 hc hnc hn hall hok hmm
  go_enter Try.func20, Try.ntmps20
  go_wp2_with (fail)
  rw [← HW.out]
  go_wp2_with (fail)
  refine (SO.out w1 HG.out).mono ?_
  rintro e w2 ⟨sv, R, rfl, hrd, hasc, hrl, g2⟩
  have HP2 := Lib.hid ((g2.block _ (lt_of_block HP.out) (by simp)).trans HP.out)
  have HG2 := Lib.hid (gr_trans HG.out g2)
  obtain ⟨sa, sc, rfl, -, -⟩ := hrd.shape
  have HRD := Lib.hid hrd
  have HRC := Lib.hid hrd.toC
  have HASC := Lib.hid hasc
  have hR12 : Hid (R.length ≤ 2000) := by
    show _ ≤ _
    rw [rdsG_len] at hrl
    omega
  have hR := hR12.out
  clear hrl
  have hz2 := HG2.out.size
  have HROK : Hid (∀ g ∈ R, RdOk ⟨mc, mt, mf⟩ g.rd) := fun g hg => HALL.out g.rd ((hasc.mem _).1 (List.mem_map_of_mem hg))
  clear g2 q0 q1 q2 HP HG hrd hasc SO HALL
  go_wp2_with (fail)
  go_loopw [8, 9] (fun v i wr => ∃ (k : Nat) (S : List StG) (gv : Value), gv = v ∧ 1 ≤ k ∧ (k ≤ R.length ∨ k = 1) ∧ i = .int .i64 k ∧ Sts wr w2.heap.size gv S ∧ Hid (stG S = stepsTo ⟨mc, mt, mf⟩ (rdsG R) (k - 1)) ∧ S.length ≤ k ∧ w2.grownBy wr none) (fun _ i _ => R.length - (intOf i).toNat)
  case atStart => exact ⟨1, [], _, rfl, Nat.le_refl _, .inr rfl, rfl, Sts.nil _ _, rfl, Nat.zero_le _, gr_refl _ _⟩
  case round =>
    obtain ⟨k, S, v, rfl, hk1, hk, rfl, hst, HEQ, hsk, hgr⟩ := hrel
    obtain ⟨w5, rfl⟩ : ∃ w5 : World, w5 = wr := ⟨_, rfl⟩
    obtain ⟨va2, vc2, rfl, -, -⟩ := hst.shape
    have HSTS := Lib.hid hst
    clear hst
    by_cases hlt : k < R.length
    · obtain ⟨n, hn⟩ : ∃ n, k = n + 1 := ⟨k - 1, by omega⟩
      subst hn
      have hln : n < R.length := by omega
      have hr5 := HRD.out.keep0 hgr
      obtain ⟨g, gc, ev, -, -, c0, c1⟩ := hr5.at hln
      cases ev
      obtain ⟨_, _, ev, -, -, d0, d1⟩ := hr5.at hlt
      cases ev
      have HNX : Hid (stepsTo ⟨mc, mt, mf⟩ (rdsG R) (n + 1) = stepsTo ⟨mc, mt, mf⟩ (rdsG R) n ++ [stepM ⟨mc, mt, mf⟩ R[n].rd R[n + 1].rd]) := by
        show _ = _
        rw [stepsTo_next, getD_eq _ _ _ (by rw [rdsG_len]; exact hln), getD_eq _ _ _ (by rw [rdsG_len]; exact hlt)]
        simp [rdsG]
      have hle : R[n].rd.at_ ≤ R[n + 1].rd.at_ := by
        have := pw_getD HASC.out.asc (i := n) (j := n + 1) (by omega) (by rw [rdsG_len]; exact hlt)
        simp only [rdsG, List.getElem_map] at this
        omega
      have SC := ST.out R[n] R[n + 1] (HROK.out _ (List.getElem_mem hln)) (HROK.out _ (List.getElem_mem hlt)) hle w5.drew ((HRC.out.vals _ (List.getElem_mem hln)).keep0 (gr_drew hgr)) ((HRC.out.vals _ (List.getElem_mem hlt)).keep0 (gr_drew hgr)) (HRC.out.nil _ (List.getElem_mem hlt))
      obtain ⟨p0, p1, p2, -⟩ := blk3M ((hgr.block _ (lt_of_block HP2.out) (by simp)).trans HP2.out)
      obtain ⟨x, hx⟩ : ∃ x, x = R[n] := ⟨_, rfl⟩
      obtain ⟨y, hy⟩ : ∃ y, y = R[n + 1] := ⟨_, rfl⟩
      rw [← hx] at c0 c1 HNX SC
      rw [← hy] at d0 d1 HNX SC
      obtain ⟨s, hs⟩ : ∃ s, s = stepM ⟨mc, mt, mf⟩ x.rd y.rd := ⟨_, rfl⟩
      unfold StpPost at SC
      rw [← hs] at SC HNX
      have SC := Lib.hid SC
      have HGR := Lib.hid hgr
      have hz5 := hgr.size
      have hgd := gr_drew (gr_refl w5 none)
      have hwn : IntKind.i64.wrap (n : Int) = (n : Int) := IntWalk.i64_in _ (by omega)
      have hln0 : (0 : Int) ≤ (n : Int) := by omega
      have hln1 : (n : Int) < (R.length : Int) := by omega
      have hlm0 : (0 : Int) ≤ (n : Int) + 1 := by omega
      have hlm1 : (n : Int) + 1 < (R.length : Int) := by omega
      have hlm2 : ((n : Int) + 1).toNat = n + 1 := by omega
      clear hx hy hs hr5 hle hgr
      go_wp2_with (fail)
      go_region_law (first
        | (refine step_app1 eSt rfl _ _ rfl w2.heap.size _ S.length (flat encS S) rfl w7 #[.int .i64 s.fr, .int .i64 s.til, .bool s.rs, .slice xa s.sold.length xc] rfl HS7.out.row _ rfl rfl rfl rfl ?_ ?_ ?_; (· omega); (· omega); intro v8 w8 hown8 hg8 hlt8 hk8)
        | (go_simp; go_at_call 56; (with_reducible refine SC.out.mono ?_); rintro e w7 ⟨xa, xc, rfl, ho7, g7'⟩; have g7 := gr_trans hgd g7'; have HS7 := Lib.hid (HSTS.out.keep0 g7); have HO7 := Lib.hid ho7; have hz7 := g7.size)
        | fail)
      all_goals (go_wp2_with (fail))
      all_goals go_roundw
      all_goals first
        | (simp [intOf]; omega)
        | (have hx7 := own_base HO7.out (show w2.heap.size ≤ w5.drew.heap.size from hz5)
           refine ⟨n + 1 + 1, S ++ [⟨s, xa, xc⟩], _, rfl, by omega, .inl (by omega), by go_num, HS7.out.push (x := ⟨s, xa, xc⟩) hx7 hown8 hg8, ?_, by rw [List.length_append]; simp; omega, gr_grown (gr_trans HGR.out g7) hg8 (fun q hq => (HS7.out.row.lt q hq).1)⟩
           show stG _ = stepsTo _ _ (n + 1)
           rw [HNX.out, stG_app, HEQ.out]
           rfl)
    · have HE : Hid (stG S = stepsM ⟨mc, mt, mf⟩ (rdsG R)) := by
        show _ = _
        rw [HEQ.out]
        unfold stepsM
        rw [rdsG_len]
        rcases hk with h | h
        · have e : k = R.length := by omega
          rw [e]
        · have e : k - 1 = R.length - 1 := by omega
          rw [e]
      go_wp2_with (fail)
      go_ret2
      exact ⟨_, S, rdsG R, rfl, HSTS.out.base hz2, HASC.out, HE.out, gr_trans HG2.out hgr⟩
end Go.Proofs.Ytkefloekcgangaa

/-! Package slices at elements coilrack/api.Step: with a function value. Written by mkfind.py. -/
namespace Go.Proofs.Ytkefloekcgangaa
open Go.RowKit

set_option maxRecDepth 100000 in
set_option maxHeartbeats 1000000 in
theorem indexFunc_St (F : FuncId)  (P : StG → Bool) (xs : List (StG)) (a : Option Addr) (c : Nat) (w : World) (hc : CellsAt w a (flat encS xs)) (hl : xs.length ≤ 137438953472)
    (hE : ∀ (args : Array Value) (w : World), (callFunc F args).run Try.prog w = .ok (.enter F args) w)
    (hF : ∀ x ∈ xs, ∀ w1, w.grownBy w1 none → Calls Try.prog F #[.agg #[.int .i64 x.st.fr, .int .i64 x.st.til, .bool x.st.rs, .slice x.a x.st.sold.length x.c]] w1 fun e w2 => e = .returned (.bool (P x)) ∧ w1.grownBy w2 none) :
    Calls Try.prog 61 #[.slice a xs.length c, Value.func (.func F) #[] #[]] w fun e w' => e = .returned (.int .i64 (findA P xs)) ∧ w.grownBy w' none := by
  have HF := Lib.hid hF; clear hF
  go_enter Try.func61, Try.ntmps61
  go_wp2_with (fail)
  go_loopw [8] (fun i wr => ∃ k : Nat, k ≤ xs.length ∧ i = .int .i64 k ∧ (∀ j (hj : j < xs.length), j < k → P xs[j] = false) ∧ w.grownBy wr none) (fun i _ => xs.length - (intOf i).toNat)
  case atStart => exact ⟨0, Nat.zero_le _, rfl, fun j _ hj => absurd hj (Nat.not_lt_zero _), gr_refl _ _⟩
  case round =>
    obtain ⟨k, hk, rfl, hno, hgr⟩ := hrel
    obtain ⟨wo, rfl⟩ : ∃ wo : World, wo = wr := ⟨_, rfl⟩
    have HNO := Lib.hid hno; clear hno
    by_cases hlt : k < xs.length
    · obtain ⟨b, off, rfl, hcs⟩ := flat_cells (enc := encS) (m := 4) (fun _ => rfl) (by decide) (hc.keep0 hgr) (by omega)
      have hmem : xs[k] ∈ xs := List.getElem_mem hlt
      obtain ⟨x, hx⟩ : ∃ x, x = xs[k] := ⟨_, rfl⟩
      have HX := Lib.hid hx
      have d0 : wo.cell? ⟨b, off + k * 4, none⟩ = some (.int .i64 x.st.fr) := by have := hcs k hlt 0 _ rfl; simpa [← HX.out] using this
      have d1 : wo.cell? ⟨b, off + k * 4 + 1, none⟩ = some (.int .i64 x.st.til) := by have := hcs k hlt 1 _ rfl; simpa [← HX.out] using this
      have d2 : wo.cell? ⟨b, off + k * 4 + 2, none⟩ = some (.bool x.st.rs) := by have := hcs k hlt 2 _ rfl; simpa [← HX.out] using this
      have d3 : wo.cell? ⟨b, off + k * 4 + 3, none⟩ = some (.slice x.a x.st.sold.length x.c) := by have := hcs k hlt 3 _ rfl; simpa [← HX.out] using this
      rw [← hx] at hmem
      clear hx
      have HM := Lib.hid hmem; clear hmem hcs
      go_wp2_with (fail)
      refine (HF.out x HM.out wo hgr).mono ?_
      rintro e w1 ⟨rfl, hg1⟩
      cases hp : P x with
      | true =>
        have HP := Lib.hid hp; clear hp
        go_wp2_with (fail)
        go_ret
        refine ⟨ret_int (findA_at hlt (by rw [← HX.out]; exact HP.out) (fun j hj => HNO.out j (by omega) hj)).symm, gr_trans hgr hg1⟩
      | false =>
        have HP := Lib.hid hp; clear hp
        go_wp2_with (fail)
        go_roundw
        case rel =>
          refine ⟨k + 1, by omega, by go_num, fun j hjl hj => ?_, gr_trans hgr hg1⟩
          by_cases hjk : j = k
          · subst hjk; rw [← HX.out]; exact HP.out
          · exact HNO.out j hjl (by omega)
        case measure => simp [intOf]; omega
    · have hkl : k = xs.length := by omega
      have HK := Lib.hid hkl; clear hkl
      go_wp2_with (fail)
      go_ret
      exact ⟨ret_int (findA_none (fun j hj => HNO.out j hj (by rw [HK.out]; exact hj))).symm, hgr⟩

theorem containsFunc_St (F : FuncId)  (P : StG → Bool) (xs : List (StG)) (a : Option Addr) (c : Nat) (w : World) (hc : CellsAt w a (flat encS xs)) (hl : xs.length ≤ 137438953472)
    (hE : ∀ (args : Array Value) (w : World), (callFunc F args).run Try.prog w = .ok (.enter F args) w)
    (hF : ∀ x ∈ xs, ∀ w1, w.grownBy w1 none → Calls Try.prog F #[.agg #[.int .i64 x.st.fr, .int .i64 x.st.til, .bool x.st.rs, .slice x.a x.st.sold.length x.c]] w1 fun e w2 => e = .returned (.bool (P x)) ∧ w1.grownBy w2 none) :
    Calls Try.prog 27 #[.slice a xs.length c, Value.func (.func F) #[] #[]] w fun e w' => e = .returned (.bool (xs.any P)) ∧ w.grownBy w' none := by
  have HA := Lib.hid (any_findA P xs)
  go_enter Try.func27, Try.ntmps27
  go_wp2_with (fail)
  refine (indexFunc_St F  P xs a c _ hc hl hE hF).mono ?_
  rintro e w1 ⟨rfl, hg1⟩
  go_wp2_with (fail)
  go_ret
  exact ⟨ret_bool (by rw [HA.out]), hg1⟩
end Go.Proofs.Ytkefloekcgangaa

/-! Rows of ints that are written: what stays of those that hold them. -/
namespace Go.Proofs.Ytkefloekcgangaa
open Go.RowKit

/-- A slice of ints that is there, whatever it holds. -/
def IntRow (w : World) (base : Nat) (a : Option Addr) (n c : Nat) : Prop := ∃ M : List Int, M.length = n ∧ w.ownsRow base 3 1 (.slice a n c) n (ints M)
theorem IntRow.of {w : World} {base c : Nat} {a : Option Addr} {M : List Int} (h : w.ownsRow base 3 1 (.slice a M.length c) M.length (ints M)) : IntRow w base a M.length c := ⟨M, rfl, h⟩
theorem IntRow.keep0 {w w1 : World} {base n c : Nat} {a : Option Addr} (h : IntRow w base a n c) (g : w.grownBy w1 none) : IntRow w1 base a n c := by
  obtain ⟨M, h1, h2⟩ := h
  exact ⟨M, h1, own_keep0 h2 g⟩
theorem IntRow.set {w : World} {base n c b : Nat} {a : Option Addr} (h : IntRow w base a n c) (k : Nat) (x : Int) : IntRow (w.setCell ⟨b, k, none⟩ (.int .i64 x)) base a n c := by
  obtain ⟨M, h1, h2⟩ := h
  have gs : w.grownBy _ (some b) := gr_set (q := ⟨b, k, none⟩) (gr_refl w (some b)) rfl (.int .i64 x)
  by_cases e : (Value.slice a n c).ownBlock = some b
  · rcases h2.2 with ⟨h3, h4⟩ | ⟨g, cap, cur, hv, r⟩
    · rw [h3] at e; cases e
    · rw [hv] at e h2
      cases e
      have h5 := (h2.stored k (.int .i64 x)).1
      refine ⟨M.set k x, by simp [h1], ?_⟩
      rw [hv]
      have e2 : ints (M.set k x) = (ints M).set k (.int .i64 x) := by simp [ints, List.map_set]
      rw [e2]
      simpa using h5
  · exact ⟨M, h1, own_keep h2 gs (.inr e)⟩
/-- What an index into it wants. -/
theorem IntRow.at {w : World} {base n c : Nat} {a : Option Addr} (h : IntRow w base a n c) {k : Nat} (hk : k < n) : ∃ g, a = some ⟨g, 0, none⟩ ∧ base ≤ g ∧ g < w.heap.size ∧ (∃ u : Int, w.cell? ⟨g, k, none⟩ = some (.int .i64 u)) ∧ w.frozen? ⟨g, k, none⟩ = false ∧ ∃ cur, w.heap[g]? = some (.cells cur 3 (0, 0)) := by
  obtain ⟨M, h1, h2⟩ := h
  rcases h2.2 with ⟨h3, h4⟩ | ⟨g, cap, cur, hv, hb, hg, r⟩
  · omega
  · cases hv
    have c := h2.cellAt k (by omega)
    rw [ints_get M k (by omega)] at c
    exact ⟨g, rfl, hb, lt_of_block hg, ⟨_, c⟩, h2.frozenAt k, cur, hg⟩
structure ShR (w : World) (base : Nat) (v : Value) (L : List RdG) : Prop where
  row : w.ownsRow base 52 2 v L.length (cellsG L)
  vals : ∀ g ∈ L, IntRow w base g.a g.rd.vs.length g.c
theorem Rds.sh {w : World} {base : Nat} {v : Value} {L : List RdG} (h : Rds w base v L) : ShR w base v L := ⟨h.row, fun g hg => .of (h.vals g hg)⟩
theorem ShR.keep0 {w w1 : World} {base : Nat} {v : Value} {L : List RdG} (h : ShR w base v L) (g : w.grownBy w1 none) : ShR w1 base v L := ⟨own_keep0 h.row g, fun x hx => (h.vals x hx).keep0 g⟩
theorem ShR.set {w : World} {base b : Nat} {v : Value} {L : List RdG} {cur : Array Value} (h : ShR w base v L) (hb : w.heap[b]? = some (.cells cur 3 (0, 0))) (k : Nat) (x : Int) : ShR (w.setCell ⟨b, k, none⟩ (.int .i64 x)) base v L :=
  ⟨own_keep h.row (gr_set (q := ⟨b, k, none⟩) (gr_refl w (some b)) rfl (.int .i64 x)) (.inr (own_ne h.row hb (by decide))), fun g hg => (h.vals g hg).set k x⟩
theorem ShR.base {w : World} {base base' : Nat} {v : Value} {L : List RdG} (h : ShR w base v L) (hb : base' ≤ base) : ShR w base' v L := ⟨own_base h.row hb, fun g hg => by
  obtain ⟨M, h1, h2⟩ := h.vals g hg
  exact ⟨M, h1, own_base h2 hb⟩⟩
theorem ShR.at {w : World} {base c : Nat} {a : Option Addr} {L : List RdG} (h : ShR w base (.slice a L.length c) L) {k : Nat} (hk : k < L.length) : ∃ b off, a = some ⟨b, off, none⟩ ∧ w.cell? ⟨b, off + k * 2, none⟩ = some (.int .i64 L[k].rd.at_) ∧ w.cell? ⟨b, off + k * 2 + 1, none⟩ = some (.slice L[k].a L[k].rd.vs.length L[k].c) := by
  obtain ⟨_, _, e, -, -, hc, -⟩ := own_shape h.row
  cases e
  have hk2 : k < (L.map RdG.cell).length := by simpa using hk
  obtain ⟨b, off, e, hcs⟩ := flat_cells (enc := encC) (m := 2) (fun _ => rfl) (by decide) (l := L.map RdG.cell) hc (by omega)
  have e2 : (L.map RdG.cell)[k] = L[k].cell := by simp
  exact ⟨b, off, e, hcs k hk2 0 _ (by rw [e2]; rfl), hcs k hk2 1 _ (by rw [e2]; rfl)⟩
structure ShS (w : World) (base : Nat) (v : Value) (L : List StG) : Prop where
  row : w.ownsRow base 62 4 v L.length (flat encS L)
  vals : ∀ g ∈ L, IntRow w base g.a g.st.sold.length g.c
theorem Sts.sh {w : World} {base : Nat} {v : Value} {L : List StG} (h : Sts w base v L) : ShS w base v L := ⟨h.row, fun g hg => .of (h.vals g hg)⟩
theorem ShS.keep0 {w w1 : World} {base : Nat} {v : Value} {L : List StG} (h : ShS w base v L) (g : w.grownBy w1 none) : ShS w1 base v L := ⟨own_keep0 h.row g, fun x hx => (h.vals x hx).keep0 g⟩
theorem ShS.set {w : World} {base b : Nat} {v : Value} {L : List StG} {cur : Array Value} (h : ShS w base v L) (hb : w.heap[b]? = some (.cells cur 3 (0, 0))) (k : Nat) (x : Int) : ShS (w.setCell ⟨b, k, none⟩ (.int .i64 x)) base v L :=
  ⟨own_keep h.row (gr_set (q := ⟨b, k, none⟩) (gr_refl w (some b)) rfl (.int .i64 x)) (.inr (own_ne h.row hb (by decide))), fun g hg => (h.vals g hg).set k x⟩
theorem ShS.at {w : World} {base c : Nat} {a : Option Addr} {L : List StG} (h : ShS w base (.slice a L.length c) L) {k : Nat} (hk : k < L.length) : ∃ b off, a = some ⟨b, off, none⟩ ∧ w.cell? ⟨b, off + k * 4, none⟩ = some (.int .i64 L[k].st.fr) ∧ w.cell? ⟨b, off + k * 4 + 1, none⟩ = some (.int .i64 L[k].st.til) ∧ w.cell? ⟨b, off + k * 4 + 2, none⟩ = some (.bool L[k].st.rs) ∧ w.cell? ⟨b, off + k * 4 + 3, none⟩ = some (.slice L[k].a L[k].st.sold.length L[k].c) := by
  obtain ⟨_, _, e, -, -, hc, -⟩ := own_shape h.row
  cases e
  obtain ⟨b, off, e, hcs⟩ := flat_cells (enc := encS) (m := 4) (fun _ => rfl) (by decide) (l := L) hc (by omega)
  exact ⟨b, off, e, hcs k hk 0 _ rfl, hcs k hk 1 _ rfl, hcs k hk 2 _ rfl, hcs k hk 3 _ rfl⟩
theorem Rds.keepHi {w w1 : World} {base N : Nat} {v : Value} {L : List RdG} {T : Nat → Prop} (h : Rds w base v L) (g : GrowT T w w1) (hT : ∀ k, T k → k < N) (hN : N ≤ base) : Rds w1 base v L :=
  ⟨own_keepT h.row g (fun q hq ht => by have := (h.row.lt q hq).1; have := hT q ht; omega), fun x hx => own_keepT (h.vals x hx) g (fun q hq ht => by have := ((h.vals x hx).lt q hq).1; have := hT q ht; omega)⟩
end Go.Proofs.Ytkefloekcgangaa

/-! What each counter sold. -/
namespace Go.Proofs.Ytkefloekcgangaa
open Go.RowKit
attribute [local go_sem ↓] Go.wp_at_zero Go.wp_at_succ

def soldAt (S : List Stp) (k : Nat) : Int := (S.map fun s => s.sold.getD k 0).sum
theorem soldAt_next (S : List Stp) (s : Stp) (k : Nat) : soldAt (S ++ [s]) k = soldAt S k + s.sold.getD k 0 := by simp [soldAt]
theorem dM_in {t a b : Int} (ha : 0 ≤ a ∧ a < t) (hb : 0 ≤ b ∧ b < t) : 0 ≤ dM t a b ∧ dM t a b < t := by unfold dM; split <;> omega
theorem dsTo_in {t : Int} {x y : List Int} (hx : ∀ n ∈ x, 0 ≤ n ∧ n < t) (hy : ∀ n ∈ y, 0 ≤ n ∧ n < t) {k : Nat} (h1 : k ≤ x.length) (h2 : k ≤ y.length) : ∀ d ∈ dsTo t x y k, 0 ≤ d ∧ d < t := by
  intro d hd
  simp only [dsTo, List.mem_map, List.mem_range] at hd
  obtain ⟨i, hi, rfl⟩ := hd
  rw [getD_eq _ _ _ (by omega), getD_eq _ _ _ (by omega)]
  exact dM_in (hx _ (List.getElem_mem _)) (hy _ (List.getElem_mem _))
theorem stepM_sold {m : Mtr} {x y : Rd} (hx : RdOk m x) (hy : RdOk m y) : ((stepM m x y).sold.length : Int) = m.cnt ∧ ∀ d ∈ (stepM m x y).sold, 0 ≤ d ∧ d < m.turn := by
  have h1 := hx.len
  have h2 := hy.len
  unfold stepM
  split
  · exact ⟨by simp only; rw [dsTo_len]; exact h2, dsTo_in hx.all hy.all (by omega) (Nat.le_refl _)⟩
  · exact ⟨h2, hy.all⟩
theorem stepsM_sold {m : Mtr} {Y : List Rd} (h : ∀ r ∈ Y, RdOk m r) : ∀ s ∈ stepsM m Y, ((s.sold.length : Nat) : Int) = m.cnt ∧ ∀ d ∈ s.sold, 0 ≤ d ∧ d < m.turn := by
  intro s hs
  simp only [stepsM, stepsTo, List.mem_map, List.mem_range] at hs
  obtain ⟨i, hi, rfl⟩ := hs
  rw [getD_eq _ _ _ (by omega), getD_eq _ _ _ (by omega)]
  exact stepM_sold (h _ (List.getElem_mem _)) (h _ (List.getElem_mem _))
theorem stepsM_len (m : Mtr) (Y : List Rd) : (stepsM m Y).length = Y.length - 1 := by simp [stepsM, stepsTo]
theorem asc_len {Y : List Rd} (h : Y.Pairwise (fun a b => a.at_ < b.at_)) : ∀ X : List Rd, (∀ r ∈ Y, r ∈ X) → Y.length ≤ X.length := by
  induction Y with
  | nil => intro X _; exact Nat.zero_le _
  | cons y ys ih =>
    intro X hX
    rw [List.pairwise_cons] at h
    obtain ⟨s, t, rfl⟩ := List.append_of_mem (hX y (by simp))
    have := ih h.2 (s ++ t) (fun r hr => by
      have h1 := hX r (by simp [hr])
      have h2 := h.1 r hr
      simp only [List.mem_append, List.mem_cons] at h1 ⊢
      rcases h1 with h1 | h1 | h1
      · exact .inl h1
      · subst h1; omega
      · exact .inr h1)
    simp only [List.length_append, List.length_cons] at this ⊢
    omega
def SoldPost (m : Mtr) (C : Nat) (X : List Rd) (w : World) (e : Ending) (w' : World) : Prop := ∃ v P Y, e = .returned (.tuple #[v, .int .i64 0]) ∧ w'.ownsRow w.heap.size 3 1 v C (ints P) ∧ Asc Y X ∧ (∀ c, c < C → P.getD c 0 = soldAt (stepsM m Y) c) ∧ w.grownBy w' none
set_option maxRecDepth 100000 in
set_option maxHeartbeats 8000000 in
theorem sold_ok (m : Mtr) (C : Nat) (hC : (C : Int) = m.cnt) (hok : MtrOk m) (L : List RdG) (a : Option Addr) (c : Nat) (w : World) (hc : RdsC w a L) (hn : a = none → L.length = 0 ∧ c = 0) (hl : L.length ≤ 12) (hall : ∀ x ∈ rdsG L, RdOk m x) (hnc : NoConf (rdsG L)) :
    Calls Try.prog 15 #[mtrV m, .slice a L.length c] w (SoldPost m C (rdsG L) w) := by
  have SO := Lib.hid (fun (W : World) (g : w.grownBy W none) => steps_ok m hok L a c W (hc.keep0 g) hn hl hall hnc)
  have HALL := Lib.hid hall
  have hC60 : C ≤ 60 := by have := hok.c2; omega
  have ht := hok.t2
  have HSS : Hid (∀ Y, Asc Y (rdsG L) → ∀ s ∈ stepsM m Y, ((s.sold.length : Nat) : Int) = m.cnt ∧ ∀ d ∈ s.sold, 0 ≤ d ∧ d < m.turn) := fun Y hY => stepsM_sold (fun r hr => hall r ((hY.mem r).1 hr))
  have HYL : Hid (∀ Y, Asc Y (rdsG L) → Y.length ≤ 12) := by
    show ∀ Y, _
    intro Y hY
    have := asc_len hY.asc (rdsG L) (fun r hr => (hY.mem r).1 hr)
    rw [rdsG_len] at this
    omega
  obtain ⟨mm, hmm⟩ : ∃ mm, mm = m := ⟨_, rfl⟩
  rw [← hmm] at SO HSS hC ht ⊢
  obtain ⟨mc, mt, mf⟩ := mm
  dsimp only at hC ht
  subst hC
  unfold mtrV at SO ⊢
  dsimp only at SO ⊢
  have hP := heap_alloc_new w (.cells #[.int .i64 (C : Int), .int .i64 mt, .int .i64 mf] 34)
  have g1 := gr_alloc (gr_refl w none) (.cells #[.int .i64 (C : Int), .int .i64 mt, .int .i64 mf] 34)
  obtain ⟨w1, hw1⟩ : ∃ w1, w1 = w.alloc (.cells #[.int .i64 (C : Int), .int .i64 mt, .int .i64 mf] 34) := ⟨_, rfl⟩
  rw [← hw1] at hP g1
  have HW := Lib.hid hw1
  have HP := Lib.hid hP
  have HG := Lib.hid g1
  obtain ⟨q0, q1, q2, -⟩ := blk3M hP
  clear hw1 hP g1 hc hnc hn hall hok hmm
  go_enter Try.func15, Try.ntmps15
  go_wp2_with (fail)
  rw [← HW.out]
  go_wp2_with (fail)
  refine (SO.out w1 HG.out).mono ?_
  rintro e w2 ⟨tv, S, Y, rfl, hst, hasc, heq, g2⟩
  obtain ⟨ta, tc, rfl, -, -⟩ := hst.shape
  have HST := Lib.hid hst
  have HASC := Lib.hid hasc
  have HEQ := Lib.hid heq
  have hS : S.length ≤ 12 := by
    have h1 := congrArg List.length heq
    rw [stG_len, stepsM_len] at h1
    have := HYL.out Y hasc
    omega
  have HSIN : Hid (∀ g ∈ S, ((g.st.sold.length : Nat) : Int) = (C : Int) ∧ ∀ d ∈ g.st.sold, 0 ≤ d ∧ d < mt) := fun g hg => HSS.out Y hasc g.st (by rw [← heq]; exact List.mem_map_of_mem hg)
  have hP2 := (g2.block _ (lt_of_block HP.out) (by simp)).trans HP.out
  obtain ⟨q0, q1, q2, -⟩ := blk3M hP2
  have HG2 := Lib.hid (gr_trans HG.out g2)
  have hz2 := HG2.out.size
  clear hst hasc heq g2 hP2 HP HG SO HSS HYL
  go_wp2_with (refine wpList_mk w2 eInt rfl _ _ rfl w2.heap.size (C : Int) C rfl rfl rfl (by omega) (Nat.le_refl _) ?_)
  intro w3 ho3 g3
  obtain ⟨ob, hob⟩ : ∃ ob, ob = w2.heap.size := ⟨_, rfl⟩
  have hobl : w2.heap.size ≤ ob := by omega
  rw [show (Value.slice (some ⟨w2.heap.size, 0, none⟩) C C) = .slice (some ⟨ob, 0, none⟩) C C by rw [hob]] at ho3
  rw [← hob]
  have HO3 := Lib.hid ho3
  have HG3 := Lib.hid g3
  clear ho3 g3 hob q0 q1 q2
  go_wp2_with (fail)
  go_loopw [27] (fun i wr => ∃ (k : Nat) (P : List Int), k ≤ S.length ∧ i = .int .i64 k ∧ wr.ownsRow w2.heap.size 3 1 (.slice (some ⟨ob, 0, none⟩) C C) C (ints P) ∧ Hid (∀ c, c < C → P.getD c 0 = soldAt (stG (S.take k)) c ∧ 0 ≤ P.getD c 0 ∧ P.getD c 0 ≤ 1000000 * k) ∧ w2.grownBy wr none) (fun i _ => S.length - (intOf i).toNat)
  case atStart =>
    refine ⟨0, _, Nat.zero_le _, rfl, HO3.out, ?_, HG3.out⟩
    show ∀ c, _
    intro c hc
    have e : (List.replicate C (0 : Int)).getD c 0 = 0 := by rw [List.getD_eq_getElem?_getD, List.getElem?_replicate, if_pos hc]; rfl
    rw [e]
    exact ⟨rfl, by omega, by omega⟩
  case round =>
    obtain ⟨k, P, hk, rfl, hown, HPV, hgr⟩ := hrel
    obtain ⟨wo, rfl⟩ : ∃ wo : World, wo = wr := ⟨_, rfl⟩
    have HOW := Lib.hid hown
    have HGR := Lib.hid hgr
    clear hown
    by_cases hlt : k < S.length
    · obtain ⟨b, off, rfl, c0, c1, c2, c3⟩ := ((HST.out.sh).keep0 hgr).at hlt
      obtain ⟨hsl, hsd⟩ := HSIN.out _ (List.getElem_mem hlt)
      obtain ⟨_, _, ev, -, -, hcv, -⟩ := own_shape ((HST.out.keep0 hgr).vals _ (List.getElem_mem hlt))
      cases ev
      have HTK : Hid (∀ c, soldAt (stG (S.take (k + 1))) c = soldAt (stG (S.take k)) c + S[k].st.sold.getD c 0) := by
        show ∀ c, _
        intro c
        have e : S.take (k + 1) = S.take k ++ [S[k]] := by simp
        rw [e, stG_app, soldAt_next]
      obtain ⟨x, hx⟩ : ∃ x, x = S[k] := ⟨_, rfl⟩
      rw [← hx] at c0 c1 c2 c3 hsl hsd hcv HTK
      obtain ⟨xr, pa, pc⟩ := x
      simp only at c0 c1 c2 c3 hsl hsd hcv HTK
      have hslA : xr.sold.length ≤ C := by omega
      have hslB : C ≤ xr.sold.length := by omega
      have HSD := Lib.hid hsd
      have ga := gr_alloc (gr_refl wo none) (.cells #[.int .i64 xr.fr, .int .i64 xr.til, .bool xr.rs, .slice pa xr.sold.length pc] 62)
      have hV := heap_alloc_new wo (.cells #[.int .i64 xr.fr, .int .i64 xr.til, .bool xr.rs, .slice pa xr.sold.length pc] 62)
      have v3 : (wo.alloc (.cells #[.int .i64 xr.fr, .int .i64 xr.til, .bool xr.rs, .slice pa xr.sold.length pc] 62)).cell? ⟨wo.heap.size, 3, none⟩ = some (.slice pa xr.sold.length pc) := blkC hV 3 rfl
      have HOA := Lib.hid (own_keep0 HOW.out ga)
      have HGA := Lib.hid (gr_trans HGR.out ga)
      have HCV : Hid (CellsAt w2 pa (ints xr.sold)) := by
        show CellsAt _ _ _
        have h := HST.out.vals _ (List.getElem_mem hlt)
        rw [← hx] at h
        obtain ⟨_, _, ev, -, -, hcv, -⟩ := own_shape h
        cases ev
        exact hcv
      clear hx ga hV hcv hsl hsd hgr
      go_upto_region 8 with (fail)
      go_wp2_with (fail)
      go_loopw [34] (fun u wr => ∃ (t : Nat) (Q : List Int), t ≤ xr.sold.length ∧ u = .int .i64 t ∧ wr.ownsRow w2.heap.size 3 1 (.slice (some ⟨ob, 0, none⟩) C C) C (ints Q) ∧ Hid (∀ c, c < C → Q.getD c 0 = P.getD c 0 + if c < t then xr.sold.getD c 0 else 0) ∧ w2.grownBy wr none) (fun u _ => xr.sold.length - (intOf u).toNat)
      case atStart => exact ⟨0, P, Nat.zero_le _, rfl, HOA.out, fun c hc => by simp, HGA.out⟩
      case round =>
        obtain ⟨t, Q, ht', rfl, hownQ, HQV, hgq⟩ := hrel
        obtain ⟨wi, rfl⟩ : ∃ wi : World, wi = wr := ⟨_, rfl⟩
        have HOQ := Lib.hid hownQ
        have HGQ := Lib.hid hgq
        by_cases htl : t < xr.sold.length
        · have htC : t < C := by omega
          have hQl : Q.length = C := by have := hownQ.1; simpa [ints] using this
          obtain ⟨db, doff, rfl, dc⟩ := (HCV.out.keep0 hgq) t _ (ints_get xr.sold t htl)
          have e0 := hownQ.cellAt t (by omega)
          rw [ints_get Q t (by omega)] at e0
          have z0 := hownQ.frozenAt t
          have hPb := HPV.out t htC
          have hQb := HQV.out t htC
          rw [if_neg (Nat.lt_irrefl t)] at hQb
          have hdb := HSD.out _ (List.getElem_mem htl)
          rw [← getD_eq _ _ 0 htl] at hdb
          have HST2 : Hid (∀ y, (wi.setCell ⟨ob, t, none⟩ (.int .i64 y)).ownsRow w2.heap.size 3 1 (.slice (some ⟨ob, 0, none⟩) C C) C (ints (Q.set t y))) := by
            show ∀ y, _
            intro y
            rw [← ints_set]
            exact (hownQ.stored t _).1
          obtain ⟨qv, hqv⟩ : ∃ qv, qv = Q.getD t 0 := ⟨_, rfl⟩
          obtain ⟨d, hd⟩ : ∃ d, d = xr.sold.getD t 0 := ⟨_, rfl⟩
          have HNX : Hid (∀ c, c < C → (Q.set t (qv + d)).getD c 0 = P.getD c 0 + if c < t + 1 then xr.sold.getD c 0 else 0) := by
            show ∀ c, _
            intro c hc
            by_cases e : c = t
            · subst e
              rw [if_pos (by omega), List.getD_eq_getElem?_getD, List.getElem?_set_self (by omega), Option.getD_some, hqv, hd, hQb]
              omega
            · rw [List.getD_eq_getElem?_getD, List.getElem?_set_ne (fun e2 => e e2.symm), ← List.getD_eq_getElem?_getD, HQV.out c hc]
              by_cases h1 : c < t
              · rw [if_pos h1, if_pos (by omega)]
              · rw [if_neg h1, if_neg (by omega)]
          rw [← hqv] at e0 hQb
          rw [← hd] at dc hdb
          have hq0 : 0 ≤ qv := by omega
          have hq1 : qv ≤ 12000000 := by
            have h1 := hPb.2.2
            have h2 : (k : Int) ≤ 12 := by omega
            omega
          have hw1 : IntKind.i64.wrap (qv + d) = qv + d := IntWalk.i64_in _ (by omega)
          have hob2 : w2.heap.size ≤ ob := hobl
          clear hqv hd hQb hPb hownQ hgq hQl
          go_wp2_with (fail)
          go_roundw
          case rel => exact ⟨t + 1, Q.set t (qv + d), by omega, by go_num, HST2.out _, HNX.out, gr_new HGQ.out (q := ⟨ob, t, none⟩) hob2 _⟩
          case measure => simp [intOf]; omega
        · have htE : t = C := by omega
          have HNX : Hid (∀ c, c < C → Q.getD c 0 = soldAt (stG (S.take (k + 1))) c ∧ 0 ≤ Q.getD c 0 ∧ Q.getD c 0 ≤ 1000000 * ((k + 1 : Nat) : Int)) := by
            show ∀ c, _
            intro c hc
            have h1 := HQV.out c hc
            rw [if_pos (by omega)] at h1
            obtain ⟨p1, p2, p3⟩ := HPV.out c hc
            have h2 := HSD.out _ (List.getElem_mem (show c < xr.sold.length by omega))
            rw [← getD_eq _ _ 0 (by omega)] at h2
            rw [HTK.out c, ← p1]
            refine ⟨h1, by omega, ?_⟩
            have e : 1000000 * ((k + 1 : Nat) : Int) = 1000000 * (k : Int) + 1000000 := by omega
            rw [e]; omega
          clear hownQ hgq htE
          go_wp2_with (fail)
          go_roundw
          case rel => exact ⟨k + 1, Q, by omega, by go_num, HOQ.out, HNX.out, HGQ.out⟩
          case measure => simp [intOf]; omega
    · obtain rfl : k = S.length := by omega
      have HFIN : Hid (∀ c, c < C → P.getD c 0 = soldAt (stepsM ⟨(C : Int), mt, mf⟩ Y) c) := by
        show ∀ c, _
        intro c hc
        have h := (HPV.out c hc).1
        rw [List.take_length, HEQ.out] at h
        exact h
      clear hgr
      go_wp2_with (fail)
      go_ret2
      exact ⟨_, P, Y, rfl, own_base HOW.out hz2, HASC.out, HFIN.out, gr_trans HG2.out HGR.out⟩
end Go.Proofs.Ytkefloekcgangaa

/-! Steps that are the same; and whether one of them is behind a reset. -/
namespace Go.Proofs.Ytkefloekcgangaa
open Go.RowKit

structure StsC (w : World) (a : Option Addr) (S : List StG) : Prop where
  row : CellsAt w a (flat encS S)
  vals : ∀ g ∈ S, CellsAt w g.a (ints g.st.sold)
theorem StsC.keep0 {w w1 : World} {a : Option Addr} {S : List StG} (h : StsC w a S) (g : w.grownBy w1 none) : StsC w1 a S := ⟨h.row.keep0 g, fun x hx => (h.vals x hx).keep0 g⟩
theorem Sts.toC {w : World} {base c : Nat} {a : Option Addr} {S : List StG} (h : Sts w base (.slice a S.length c) S) : StsC w a S := by
  obtain ⟨_, _, e, -, -, hc, -⟩ := own_shape h.row
  cases e
  refine ⟨hc, fun x hx => ?_⟩
  obtain ⟨_, _, e, -, -, hv, -⟩ := own_shape (h.vals x hx)
  cases e
  exact hv
theorem StsC.at {w : World} {a : Option Addr} {S : List StG} (h : StsC w a S) {k : Nat} (hk : k < S.length) : ∃ b off, a = some ⟨b, off, none⟩ ∧ w.cell? ⟨b, off + k * 4, none⟩ = some (.int .i64 S[k].st.fr) ∧ w.cell? ⟨b, off + k * 4 + 1, none⟩ = some (.int .i64 S[k].st.til) ∧ w.cell? ⟨b, off + k * 4 + 2, none⟩ = some (.bool S[k].st.rs) ∧ w.cell? ⟨b, off + k * 4 + 3, none⟩ = some (.slice S[k].a S[k].st.sold.length S[k].c) ∧ CellsAt w S[k].a (ints S[k].st.sold) := by
  obtain ⟨b, off, e, hcs⟩ := flat_cells (enc := encS) (m := 4) (fun _ => rfl) (by decide) (l := S) h.row (by omega)
  exact ⟨b, off, e, hcs k hk 0 _ rfl, hcs k hk 1 _ rfl, hcs k hk 2 _ rfl, hcs k hk 3 _ rfl, h.vals _ (List.getElem_mem hk)⟩
set_option maxRecDepth 100000 in
theorem sameS1_any (s : Stp) (a b : Option Addr) (c d : Nat) (w : World) (ha : CellsAt w a (ints s.sold)) (hb : CellsAt w b (ints s.sold)) (hl : s.sold.length ≤ 1000000) :
    Calls Try.prog 60 #[.agg #[.int .i64 s.fr, .int .i64 s.til, .bool s.rs, .slice a s.sold.length c], .agg #[.int .i64 s.fr, .int .i64 s.til, .bool s.rs, .slice b s.sold.length d]] w fun e w' => e = .returned (.bool true) ∧ w.grownBy w' none := by
  obtain ⟨fr, til, rs, sold⟩ := s
  dsimp only at ha hb hl ⊢
  obtain ⟨hP, hQ⟩ := heap_2 w (.cells #[.int .i64 fr, .int .i64 til, .bool rs, .slice a sold.length c] 62) (.cells #[.int .i64 fr, .int .i64 til, .bool rs, .slice b sold.length d] 62)
  have g2 := gr_alloc (gr_alloc (gr_refl w none) (.cells #[.int .i64 fr, .int .i64 til, .bool rs, .slice a sold.length c] 62)) (.cells #[.int .i64 fr, .int .i64 til, .bool rs, .slice b sold.length d] 62)
  obtain ⟨w2, hw2⟩ : ∃ w2, w2 = (w.alloc (.cells #[.int .i64 fr, .int .i64 til, .bool rs, .slice a sold.length c] 62)).alloc (.cells #[.int .i64 fr, .int .i64 til, .bool rs, .slice b sold.length d] 62) := ⟨_, rfl⟩
  rw [← hw2] at hP hQ g2
  obtain ⟨p0, p1, p2, p3⟩ := blk4S hP
  obtain ⟨q0, q1, q2, q3⟩ := blk4S hQ
  have EQ := Lib.hid (fun (W : World) (g : w2.grownBy W none) => equal_int sold a b c d W (ha.keep0 (gr_trans g2 g)) (hb.keep0 (gr_trans g2 g)) hl)
  have HG := Lib.hid g2
  have HW := Lib.hid hw2
  have h1 : (fr == fr) = true := by simp
  have h2 : (til == til) = true := by simp
  have h3 : (rs == rs) = true := by simp
  clear hP hQ g2 hw2 ha hb
  go_enter Try.func60, Try.ntmps60
  go_wp2_with (fail)
  rw [← HW.out]
  go_wp2_with (fail)
  refine (EQ.out w2 (gr_refl _ _)).mono ?_
  rintro e w3 ⟨rfl, g3⟩
  have HG3 := Lib.hid (gr_trans HG.out g3)
  go_wp2_with (fail)
  go_ret
  exact ⟨rfl, HG3.out⟩
theorem sameS1_fn : ∀ (args : Array Value) (w : World), (callFunc 60 args).run Try.prog w = .ok (.enter 60 args) w := fun _ _ => by kernel_rfl
set_option maxRecDepth 100000 in
theorem sameSteps_any (L M : List StG) (he : stG L = stG M) (a b : Option Addr) (c d : Nat) (w : World) (ha : StsC w a L) (hb : StsC w b M) (hl : L.length ≤ 1000000) (hv : ∀ g ∈ L, g.st.sold.length ≤ 1000000) :
    Calls Try.prog 26 #[.slice a L.length c, .slice b M.length d] w fun e w' => e = .returned (.bool true) ∧ w.grownBy w' none := by
  have hlen : M.length = L.length := by have := congrArg List.length he; simpa [stG] using this.symm
  have hat : ∀ k (h : k < L.length) (h2 : k < M.length), M[k].st = L[k].st := by
    intro k h h2
    have e := congrArg (fun l => l[k]?) he
    simp only [stG, List.getElem?_map, List.getElem?_eq_getElem h, List.getElem?_eq_getElem h2, Option.map_some, Option.some.injEq] at e
    exact e.symm
  have HAT := Lib.hid hat
  have HV := Lib.hid hv
  have HLN := Lib.hid hlen
  have hle : L.length ≤ M.length := by omega
  rw [hlen]
  have EQ : Hid (Calls Try.prog 59 #[.slice a L.length c, .slice b L.length d, .func (.func 60) #[] #[]] w fun e w' => e = .returned (.bool true) ∧ w.grownBy w' none) := by
    show Calls _ _ _ _ _
    have hE := sameS1_fn
    clear hat hv hlen he
    go_enter Try.func59, Try.ntmps59
    go_wp2_with (fail)
    go_loopw [17] (fun i wr => ∃ k : Nat, k ≤ L.length ∧ i = .int .i64 k ∧ w.grownBy wr none) (fun i _ => L.length - (intOf i).toNat)
    case atStart => exact ⟨0, Nat.zero_le _, rfl, gr_refl _ _⟩
    case round =>
      obtain ⟨k, hk, rfl, hgr⟩ := hrel
      obtain ⟨wo, rfl⟩ : ∃ wo : World, wo = wr := ⟨_, rfl⟩
      by_cases hlt : k < L.length
      · have hlt2 : k < M.length := by omega
        obtain ⟨b1, o1, rfl, c0, c1, c2, c3, cv⟩ := (ha.keep0 hgr).at hlt
        obtain ⟨b2, o2, rfl, d0, d1, d2, d3, dv⟩ := (hb.keep0 hgr).at hlt2
        rw [HAT.out k hlt hlt2] at d0 d1 d2 d3 dv
        have hvl := HV.out _ (List.getElem_mem hlt)
        obtain ⟨x, hx⟩ : ∃ x, x = L[k] := ⟨_, rfl⟩
        obtain ⟨y, hy⟩ : ∃ y, y = M[k] := ⟨_, rfl⟩
        rw [← hx] at c0 c1 c2 c3 cv d0 d1 d2 d3 dv hvl
        rw [← hy] at d3 dv
        clear hx hy
        obtain ⟨s, xa, xc⟩ := x
        obtain ⟨yr, ya, yc⟩ := y
        simp only at c0 c1 c2 c3 cv d0 d1 d2 d3 dv hvl
        have HC := Lib.hid (fun (W : World) (g : wo.grownBy W none) => sameS1_any s xa ya xc yc W (cv.keep0 g) (dv.keep0 g) hvl)
        have ga := gr_alloc (gr_alloc (gr_refl wo none) (.cells #[.int .i64 s.fr, .int .i64 s.til, .bool s.rs, .slice xa s.sold.length xc] 62)) (.cells #[.int .i64 s.fr, .int .i64 s.til, .bool s.rs, .slice ya s.sold.length yc] 62)
        have e0 := held_cell (gr_refl (wo.alloc (.cells #[.int .i64 s.fr, .int .i64 s.til, .bool s.rs, .slice xa s.sold.length xc] 62)) none) d0
        have e1 := held_cell (gr_refl (wo.alloc (.cells #[.int .i64 s.fr, .int .i64 s.til, .bool s.rs, .slice xa s.sold.length xc] 62)) none) d1
        have e2 := held_cell (gr_refl (wo.alloc (.cells #[.int .i64 s.fr, .int .i64 s.til, .bool s.rs, .slice xa s.sold.length xc] 62)) none) d2
        have e3 := held_cell (gr_refl (wo.alloc (.cells #[.int .i64 s.fr, .int .i64 s.til, .bool s.rs, .slice xa s.sold.length xc] 62)) none) d3
        have HGA := Lib.hid ga
        clear cv dv ga
        go_wp2_with (fail)
        refine (HC.out _ HGA.out).mono ?_
        rintro e w1 ⟨rfl, hg1⟩
        have hgr1 := gr_trans hgr (gr_trans HGA.out hg1)
        go_wp2_with (fail)
        go_roundw
        case rel => exact ⟨k + 1, by omega, by go_num, hgr1⟩
        case measure => simp [intOf]; omega
      · go_wp2_with (fail)
        go_ret
        exact ⟨rfl, hgr⟩
  clear hat hv hlen he
  go_enter Try.func26, Try.ntmps26
  go_wp2_with (fail)
  refine EQ.out.mono ?_
  rintro e w1 ⟨rfl, hg1⟩
  go_wp2_with (fail)
  go_ret
  exact ⟨rfl, hg1⟩
set_option maxRecDepth 100000 in
theorem reset1_any (x : StG) (w : World) : Calls Try.prog 28 #[.agg #[.int .i64 x.st.fr, .int .i64 x.st.til, .bool x.st.rs, .slice x.a x.st.sold.length x.c]] w fun e w' => e = .returned (.bool x.st.rs) ∧ w.grownBy w' none := by
  obtain ⟨⟨fr, til, rs, sold⟩, a, c⟩ := x
  dsimp only
  have g := gr_alloc (gr_refl w none) (.cells #[.int .i64 fr, .int .i64 til, .bool rs, .slice a sold.length c] 62)
  go_enter Try.func28, Try.ntmps28
  go_wp2_with (fail)
  go_ret
  exact ⟨rfl, g⟩
theorem reset1_fn : ∀ (args : Array Value) (w : World), (callFunc 28 args).run Try.prog w = .ok (.enter 28 args) w := fun _ _ => by kernel_rfl

/-! What was sold without resets: no program in sight. -/
theorem dM_mod {t a b : Int} (s : Int) : (a + s) % t = (b + (s - dM t a b)) % t := by
  unfold dM
  split
  · have e : b + (s - (b - a + t)) = (a + s) - t := by omega
    rw [e, Int.sub_emod_right]
  · have e : b + (s - (b - a)) = a + s := by omega
    rw [e]
theorem soldAt_bd (S : List Stp) (c : Nat) (h : ∀ s ∈ S, 0 ≤ s.sold.getD c 0 ∧ s.sold.getD c 0 ≤ 1000000) : 0 ≤ soldAt S c ∧ soldAt S c ≤ 1000000 * S.length := by
  induction S with
  | nil => exact ⟨Int.le_refl _, Int.le_refl _⟩
  | cons s l ih =>
    have h1 := ih (fun x hx => h x (by simp [hx]))
    have h2 := h s (by simp)
    have e : soldAt (s :: l) c = s.sold.getD c 0 + soldAt l c := by simp [soldAt]
    rw [e, List.length_cons]
    omega
theorem soldAt_stepsTo {m : Mtr} {Y : List Rd} {c : Nat} (hok : MtrOk m) (h : ∀ r ∈ Y, RdOk m r) (hc : (c : Int) < m.cnt) (hno : ∀ s ∈ stepsM m Y, s.rs = false) :
    ∀ k, k ≤ Y.length - 1 → 0 < Y.length → ((Y.getD 0 rd0).vs.getD c 0 + soldAt (stepsTo m Y k) c) % m.turn = (Y.getD k rd0).vs.getD c 0 := by
  intro k
  induction k with
  | zero =>
    intro _ h0
    have h1 := h _ (List.getElem_mem h0)
    rw [getD_eq _ _ _ h0]
    have h2 := h1.len
    have h3 := h1.all _ (List.getElem_mem (show c < Y[0].vs.length by omega))
    rw [← getD_eq _ _ 0 (by omega)] at h3
    have e : soldAt (stepsTo m Y 0) c = 0 := rfl
    rw [e, Int.add_zero]
    exact Int.emod_eq_of_lt h3.1 h3.2
  | succ k ih =>
    intro hk h0
    have ih := ih (by omega) h0
    have hk1 : k < Y.length := by omega
    have hk2 : k + 1 < Y.length := by omega
    have hx := h _ (List.getElem_mem hk1)
    have hy := h _ (List.getElem_mem hk2)
    have hs : stepM m Y[k] Y[k + 1] ∈ stepsM m Y := by
      simp only [stepsM, stepsTo, List.mem_map, List.mem_range]
      exact ⟨k, by omega, by rw [getD_eq _ _ _ hk1, getD_eq _ _ _ hk2]⟩
    have hrs := hno _ hs
    have hxl := hx.len
    have hyl := hy.len
    have hsold : (stepM m Y[k] Y[k + 1]).sold.getD c 0 = dM m.turn (Y[k].vs.getD c 0) (Y[k + 1].vs.getD c 0) := by
      unfold stepM at hrs ⊢
      split at hrs
      · rename_i hcc
        rw [if_pos hcc]
        simp only
        have hlen : c < (dsTo m.turn Y[k].vs Y[k + 1].vs Y[k + 1].vs.length).length := by rw [dsTo_len]; omega
        rw [getD_eq _ _ _ hlen]
        simp [dsTo]
      · cases hrs
    rw [stepsTo_next, soldAt_next, getD_eq Y k _ hk1, getD_eq Y (k + 1) _ hk2, hsold]
    rw [getD_eq Y k _ hk1] at ih
    have ha := hx.all _ (List.getElem_mem (show c < Y[k].vs.length by omega))
    have hb := hy.all _ (List.getElem_mem (show c < Y[k + 1].vs.length by omega))
    rw [← getD_eq _ _ 0 (by omega)] at ha hb
    have ht := hok.t1
    obtain ⟨A, hA⟩ : ∃ A, A = Y[k].vs.getD c 0 := ⟨_, rfl⟩
    obtain ⟨B, hB⟩ : ∃ B, B = Y[k + 1].vs.getD c 0 := ⟨_, rfl⟩
    obtain ⟨F, hF⟩ : ∃ F, F = (Y.getD 0 rd0).vs.getD c 0 + soldAt (stepsTo m Y k) c := ⟨_, rfl⟩
    rw [← hA] at ha ih ⊢
    rw [← hB] at hb ⊢
    rw [← Int.add_assoc, ← hF]
    rw [← hF] at ih
    have e1 : (F + dM m.turn A B) % m.turn = (A + dM m.turn A B) % m.turn := by
      rw [Int.add_emod, ih, ← Int.add_emod_emod]
      simp
    rw [e1, dM_mod]
    have e2 : B + (dM m.turn A B - dM m.turn A B) = B := by omega
    rw [e2]
    exact Int.emod_eq_of_lt hb.1 hb.2
end Go.Proofs.Ytkefloekcgangaa
