/- (*leveller).give and round.Level. -/
import Derived.Test.YtbgfflbddflokaaWkRows
import Derived.Test.YtbgfflbddflokaaCloneInt
import Derived.Deep.CutRange
namespace Go.Proofs.Ytbgfflbddflokaa
open Go.RowKit

theorem blk6 {w : World} {g t : Nat} {a b c d e f : Value} (h : w.heap[g]? = some (.cells #[a, b, c, d, e, f] t (0, 0))) :
    (w.cell? ⟨g, 0, none⟩ = some a ∧ w.cell? ⟨g, 1, none⟩ = some b ∧ w.cell? ⟨g, 2, none⟩ = some c ∧ w.cell? ⟨g, 3, none⟩ = some d ∧ w.cell? ⟨g, 4, none⟩ = some e ∧ w.cell? ⟨g, 5, none⟩ = some f) ∧ ∀ j, w.frozen? ⟨g, j, none⟩ = false := by
  simp [World.cell?, World.frozen?, h]
/-- The leveller, as it stands while it looks. -/
structure GiveAt (w0 w : World) (v : Nat) (ja : Option Addr) (n jc D : Nat) (J P : List Int) (ds : Value) (gl : Nat) (bs : Value) (best : List Int) (load : Int) : Prop where
  gr : w0.grownBy w none
  le : w0.heap.size ≤ v
  blk : w.heap[v]? = some (.cells #[.slice ja n jc, .int .i64 D, ds, .slice (some ⟨gl, 0, none⟩) D D, bs, .int .i64 load] 144 (0, 0))
  days : w.ownsRow w0.heap.size 3 1 ds P.length (ints P)
  loads : w.ownsRow w0.heap.size 3 1 (.slice (some ⟨gl, 0, none⟩) D D) D (ints (ldL J P D P.length))
  best : w.ownsRow w0.heap.size 3 1 bs best.length (ints best)
  dl : ds.ownBlock ≠ some gl
  bl : bs.ownBlock ≠ some gl
  bd : ∀ g, bs.ownBlock = some g → ds.ownBlock ≠ some g
theorem GiveAt.drewN {w0 w : World} {v : Nat} {ja : Option Addr} {n jc D : Nat} {J P : List Int} {ds : Value} {gl : Nat} {bs : Value} {best : List Int} {load : Int} (h : GiveAt w0 w v ja n jc D J P ds gl bs best load) (m : Nat) : GiveAt w0 (w.drewN m) v ja n jc D J P ds gl bs best load :=
  ⟨gr_drewN h.gr m, h.le, h.blk, own_keep0 h.days (gr_drewN (gr_refl _ _) m), own_keep0 h.loads (gr_drewN (gr_refl _ _) m), own_keep0 h.best (gr_drewN (gr_refl _ _) m), h.dl, h.bl, h.bd⟩
theorem give_ld (J P : List Int) (D t : Nat) (ht : t < D) : ldL J (P ++ [(t : Int)]) D (P ++ [(t : Int)]).length = (ldL J P D P.length).set t ((ldL J P D P.length).getD t 0 + J.getD P.length 0) := by
  have h1 : ldL J (P ++ [(t : Int)]) D P.length = ldL J P D P.length := ldL_congr J D _ (fun i hi => by
    rw [List.getD_eq_getElem?_getD, List.getD_eq_getElem?_getD, List.getElem?_append_left hi])
  rw [List.length_append, List.length_singleton, ldL_step J (P ++ [(t : Int)]) D P.length t ht (by rw [List.getD_eq_getElem?_getD, List.getElem?_append_right (Nat.le_refl _)]; simp), h1]
theorem set_back (L : List Int) (t : Nat) (y x : Int) (hy : y = L.getD t 0) (ht : t < L.length) : (L.set t (y + x)).set t (y + x - x) = L := by
  rw [List.set_set, show y + x - x = y by omega, hy]
  apply list_ext0
  · simp
  · intro i _
    rw [set_get _ _ _ _ ht]
    split
    · rename_i h; rw [h]
    · rfl
/-- One more job is given to day t. -/
theorem GiveAt.push {w0 wo w6 : World} {v : Nat} {ja : Option Addr} {n jc D : Nat} {J P : List Int} {ds : Value} {gl : Nat} {bs : Value} {best : List Int} {load : Int} (h : GiveAt w0 wo v ja n jc D J P ds gl bs best load) {t pl g6 c6 : Nat} {Y : Int} (hpl : pl = P.length) (ht : t < D)
    (hY : Y = (ldL J P D P.length).getD t 0 + J.getD P.length 0) (hown6 : w6.ownsRow w0.heap.size 3 1 (.slice (some ⟨g6, 0, none⟩) (pl + 1) c6) (pl + 1) (ints P ++ [.int .i64 t])) (hg6 : ((wo.setCell ⟨gl, t, none⟩ (.int .i64 Y)).drew).grownBy w6 ds.ownBlock)
    (hfr : ∀ k, some g6 = some k → ds.ownBlock = some k ∨ ((wo.setCell ⟨gl, t, none⟩ (.int .i64 Y)).drew).heap.size ≤ k) :
    GiveAt w0 (w6.setCell ⟨v, 2, none⟩ (.slice (some ⟨g6, 0, none⟩) (pl + 1) c6)) v ja n jc D J (P ++ [(t : Int)]) (.slice (some ⟨g6, 0, none⟩) (pl + 1) c6) gl bs best load := by
  have hgA : wo.grownBy (wo.setCell ⟨gl, t, none⟩ (.int .i64 Y)).drew (some gl) := gr_drew (gr_set (q := ⟨gl, t, none⟩) (gr_refl wo (some gl)) rfl _)
  have hszA : ((wo.setCell ⟨gl, t, none⟩ (.int .i64 Y)).drew).heap.size = wo.heap.size := by show (wo.setCell ⟨gl, t, none⟩ (.int .i64 Y)).heap.size = _; simp
  have hvgl : v ≠ gl := by
    intro e
    have h7 := own_ne h.loads h.blk (by decide)
    rw [e] at h7
    exact h7 rfl
  have hvds : ds.ownBlock ≠ some v := own_ne h.days h.blk (by decide)
  have hvlt := lt_of_block h.blk
  have hvA := (hgA.block v hvlt (by simpa using fun e => hvgl e)).trans h.blk
  have hv6 := (hg6.block v (by rw [hszA]; exact hvlt) (fun e => hvds e.symm)).trans hvA
  have hgs : w6.grownBy (w6.setCell ⟨v, 2, none⟩ (.slice (some ⟨g6, 0, none⟩) (pl + 1) c6)) (some v) := gr_set (q := ⟨v, 2, none⟩) (gr_refl w6 (some v)) rfl _
  have hlA : ((wo.setCell ⟨gl, t, none⟩ (.int .i64 Y)).drew).ownsRow w0.heap.size 3 1 (.slice (some ⟨gl, 0, none⟩) D D) D (ints (ldL J (P ++ [(t : Int)]) D (P ++ [(t : Int)]).length)) := by
    rw [give_ld J P D t ht, ← hY]
    exact own_keep0 ((own_int h.loads t ht).2.2 Y) (gr_drew (gr_refl _ _))
  have hl6 := own_keep hlA hg6 (.inr (fun e => h.dl e.symm))
  have hbA := own_keep h.best hgA (.inr h.bl)
  have hb6 : w6.ownsRow w0.heap.size 3 1 bs best.length (ints best) := by
    refine own_keep hbA hg6 ?_
    cases hb : bs.ownBlock with
    | none => exact .inl rfl
    | some g => exact .inr (fun e => h.bd g hb e.symm)
  have hlglt := (h.loads.lt gl rfl).2
  refine ⟨?_, h.le, heap_setCell_same w6 v 2 _ _ _ hv6, ?_, own_keep hl6 hgs (.inr (own_ne hl6 hv6 (by decide))), own_keep hb6 hgs (.inr (own_ne hb6 hv6 (by decide))), ?_, h.bl, ?_⟩
  · refine gr_grown (gr_grown (gr_grown h.gr hgA (fun k e => by cases e; exact (h.loads.lt gl rfl).1)) hg6 (fun k e => (h.days.lt k e).1)) hgs (fun k e => by cases e; exact h.le)
  · have h9 := own_keep hown6 hgs (.inr (own_ne hown6 hv6 (by decide)))
    rw [List.length_append, List.length_singleton, ← hpl]
    simpa [ints] using h9
  · intro e
    rcases hfr g6 rfl with h8 | h8
    · exact h.dl (h8.trans e)
    · rw [hszA] at h8
      have : g6 = gl := by simpa [Value.ownBlock] using e
      omega
  · intro g hg e
    rcases hfr g6 rfl with h8 | h8
    · exact h.bd g hg (h8.trans e)
    · rw [hszA] at h8
      have h9 : g6 = g := by simpa [Value.ownBlock] using e
      have := (h.best.lt g hg).2
      omega
/-- The job is taken back. -/
theorem GiveAt.pop {w0 w7 : World} {v : Nat} {ja : Option Addr} {n jc D : Nat} {J P : List Int} {g c : Nat} {gl : Nat} {bs : Value} {best : List Int} {load : Int} {t pl : Nat} (h : GiveAt w0 w7 v ja n jc D J (P ++ [(t : Int)]) (.slice (some ⟨g, 0, none⟩) (pl + 1) c) gl bs best load) {Z : Int} (hpl : pl = P.length) (ht : t < D)
    (hZ : Z = (ldL J P D P.length).getD t 0) :
    GiveAt w0 ((w7.setCell ⟨v, 2, none⟩ (.slice (some ⟨g, 0, none⟩) pl c)).setCell ⟨gl, t, none⟩ (.int .i64 Z)).drew v ja n jc D J P (.slice (some ⟨g, 0, none⟩) pl c) gl bs best load := by
  have hvgl : v ≠ gl := by
    intro e
    have h7 := own_ne h.loads h.blk (by decide)
    rw [e] at h7
    exact h7 rfl
  have hgs : w7.grownBy (w7.setCell ⟨v, 2, none⟩ (.slice (some ⟨g, 0, none⟩) pl c)) (some v) := gr_set (q := ⟨v, 2, none⟩) (gr_refl w7 (some v)) rfl _
  have hv8 := heap_setCell_same w7 v 2 _ _ (.slice (some ⟨g, 0, none⟩) pl c) h.blk
  have hl8 := own_keep h.loads hgs (.inr (own_ne h.loads h.blk (by decide)))
  have hgt : (w7.setCell ⟨v, 2, none⟩ (.slice (some ⟨g, 0, none⟩) pl c)).grownBy ((w7.setCell ⟨v, 2, none⟩ (.slice (some ⟨g, 0, none⟩) pl c)).setCell ⟨gl, t, none⟩ (.int .i64 Z)).drew (some gl) := gr_drew (gr_set (q := ⟨gl, t, none⟩) (gr_refl _ (some gl)) rfl _)
  have hd7 := h.days
  rw [List.length_append, List.length_singleton, ← hpl] at hd7
  have hd8 := own_take (own_keep hd7 hgs (.inr (own_ne hd7 h.blk (by decide)))) pl (by omega)
  have hdP : (ints (P ++ [(t : Int)])).take (pl * 1) = ints P := by
    rw [Nat.mul_one, hpl]; simp [ints]
  rw [hdP] at hd8
  have hb8 := own_keep h.best hgs (.inr (own_ne h.best h.blk (by decide)))
  have hdl : (Value.slice (some ⟨g, 0, none⟩) pl c).ownBlock ≠ some gl := fun e => h.dl (by simpa [Value.ownBlock] using e)
  refine ⟨gr_grown (gr_grown h.gr hgs (fun k e => by cases e; exact h.le)) hgt (fun k e => by cases e; exact (h.loads.lt gl rfl).1), h.le, (hgt.block v (lt_of_block hv8) (by simpa using fun e => hvgl e)).trans hv8, ?_, ?_, own_keep hb8 hgt (.inr h.bl), hdl, h.bl, fun k hk e => h.bd k hk (by simpa [Value.ownBlock] using e)⟩
  · rw [← hpl]; exact own_keep hd8 hgt (.inr hdl)
  · have h9 := own_keep0 ((own_int hl8 t ht).2.2 Z) (gr_drew (gr_refl _ _))
    have hb := set_back (ldL J P D P.length) t _ (J.getD P.length 0) rfl (by rw [ldL_len]; exact ht)
    have e1 : (ldL J (P ++ [(t : Int)]) D (P ++ [(t : Int)]).length).set t Z = ldL J P D P.length := by
      rw [give_ld J P D t ht, hZ]
      rw [show (ldL J P D P.length).getD t 0 + J.getD P.length 0 - J.getD P.length 0 = (ldL J P D P.length).getD t 0 by omega] at hb
      exact hb
    rw [e1] at h9
    exact h9
/-- What give leaves. -/
def GivePost (w0 : World) (v : Nat) (ja : Option Addr) (n jc D : Nat) (J P : List Int) (gl : Nat) (load : Int) (e : Ending) (w' : World) : Prop :=
  ∃ ds bs best' load', e = .returned (.tuple #[]) ∧ GiveAt w0 w' v ja n jc D J P ds gl bs best' load' ∧ LvPost J D n P load best' load'

set_option maxRecDepth 100000 in
set_option maxHeartbeats 16000000 in
theorem wkGive_any (w0 : World) (v : Nat) (ja : Option Addr) (n jc D : Nat) (J : List Int) (gl : Nat) (hj : CellsAt w0 ja (ints J)) (hn : J.length = n) (hl : n ≤ 60) (hJ : JobsOk J) (h1 : 1 ≤ D) (h2 : D ≤ 7) :
    ∀ (m : Nat) (w : World) (P : List Int) (ds bs : Value) (best : List Int) (load most : Int), n - P.length = m → P.length ≤ n → DaysOk D P.length P → GiveAt w0 w v ja n jc D J P ds gl bs best load → LvOk J D n best load → TopZ (ldL J P D P.length) most →
      Calls Try.prog 98 #[.pointer (some ⟨v, 0, none⟩), .int .i64 most] w (GivePost w0 v ja n jc D J P gl load) := by
  intro m
  induction m using Nat.strongRecOn with
  | ind m ih =>
  intro w P ds bs best load most hm hP hPD hG hok ht
  have IH := Lib.hid ih
  have HM := Lib.hid hm
  have HG := Lib.hid hG
  have HOK := Lib.hid hok
  have HT := Lib.hid ht
  have HPD := Lib.hid hPD
  have HN := Lib.hid hn
  obtain ⟨⟨k0, k1, k2, k3, k4, k5⟩, kf⟩ := blk6 hG.blk
  have f2 := kf 2
  have f4 := kf 4
  have f5 := kf 5
  obtain ⟨pl, hpl⟩ : ∃ pl, pl = P.length := ⟨_, rfl⟩
  have hdays := hG.days
  rw [← hpl] at hP hdays
  have HPL := Lib.hid hpl
  obtain ⟨da, dc, rfl, _, _, hdc, hdn⟩ := own_shape hdays
  have hmost0 := ht.1
  have hmost : most ≤ 600000 := by
    rcases ht.2.2 with h | h
    · omega
    · have := (ldL_bound hJ P D P.length _ h).2
      omega
  have hload : load = -1 ∨ 0 ≤ load := by rcases hok with h | h; exact .inl h; exact .inr h.1
  clear ih hm hG hok ht hPD hn kf hpl hdays
  go_enter Try.func98, Try.ntmps98
  by_cases hskip : 0 ≤ load ∧ load ≤ most
  · obtain ⟨hs0, hs1⟩ := hskip
    have hd0 : decide (0 ≤ load) = true := decide_eq_true hs0
    have hd1 : decide (load ≤ most) = true := decide_eq_true hs1
    clear hload
    go_wp2_with (fail)
    first | go_end0 | ((try simp only [Exit.inBlock, Exit.then]); refine bodyPost_ret (results_none rfl _ _ _) rfl ?_)
    exact ⟨_, _, best, load, rfl, HG.out, lv_skip hJ (by rw [← HPL.out]; exact hP) hs0 hs1 HT.out HOK.out⟩
  · have hfull : load < 0 ∨ most < load := by omega
    have HFULL := Lib.hid hfull
    clear hfull
    have hcase : load = -1 ∨ (0 ≤ load ∧ most < load) := by omega
    clear hskip hload
    go_upto_region 0 with (fail)
    go_cut [18] from 6 to 18 (fun s wx => s = .bool false ∧ wx = w)
    case first =>
      rcases hcase with hneg | ⟨hs0, hs1⟩
      · have hd0 : decide (0 ≤ load) = false := decide_eq_false (by omega)
        have HNEG := Lib.hid hneg
        clear hneg
        go_wp2_with (fail)
        go_meet
        exact ⟨rfl, rfl⟩
      · have hd0 : decide (0 ≤ load) = true := decide_eq_true hs0
        have hd1 : decide (load ≤ most) = false := decide_eq_false (by omega)
        go_wp2_with (fail)
        go_meet
        exact ⟨rfl, rfl⟩
    case rest =>
      obtain ⟨rfl, hcw⟩ := hcut
      obtain rfl : w = wc := hcw.symm
      clear hcase

      by_cases hpn : pl = n
      · subst hpn
        go_wp2_with (fail)
        refine (cloneInt_any da pl dc (ints P) w (by rw [Nat.mul_one, ints_length]; exact HPL.out.symm) hdc (own_nil (by have := HG.out.days; rw [← HPL.out] at this; exact this)) (ints_one P) (by omega)).mono ?_
        rintro e w2 ⟨b2, rfl, hown2, hg2⟩
        obtain ⟨ba, bc, rfl, _, _, _, _⟩ := own_shape hown2
        have hv := lt_of_cell k0
        have g4 := (gr_free (o := 4) hg2 hv).trans f4
        have g5 := (gr_free (o := 5) hg2 hv).trans f5
        have n4 := (gr_cell hg2 hv).trans k4
        have n5 := (gr_cell hg2 hv).trans k5
        go_wp2_with (fail)
        first | go_end0 | ((try simp only [Exit.inBlock, Exit.then]); refine bodyPost_ret (results_none rfl _ _ _) rfl ?_)
        have hG := HG.out
        have hb2 := (hg2.block v hv (by simp)).trans hG.blk
        have q4 := heap_setCell_same w2 v 4 _ _ (.slice ba pl bc) hb2
        have q5 := heap_setCell_same _ v 5 _ _ (.int .i64 most) q4
        have hgs : w2.grownBy ((w2.setCell ⟨v, 4, none⟩ (.slice ba pl bc)).setCell ⟨v, 5, none⟩ (.int .i64 most)) (some v) := gr_set (q := ⟨v, 5, none⟩) (gr_set (q := ⟨v, 4, none⟩) (gr_refl w2 (some v)) rfl _) rfl _
        have hd2 := own_keep0 hG.days hg2
        have hl2 := own_keep0 hG.loads hg2
        have hwl := hG.gr.size
        have hlg := (hG.loads.lt gl rfl).2
        refine ⟨_, .slice ba pl bc, P, most, rfl, ⟨gr_grown (gr_trans hG.gr hg2) hgs (fun k e => by cases e; exact hG.le), hG.le, q5, own_keep hd2 hgs (.inr (own_ne hd2 hb2 (by decide))), own_keep hl2 hgs (.inr (own_ne hl2 hb2 (by decide))), ?_, hG.dl, fun e => ?_, fun g e => ?_⟩, ?_⟩
        · rw [← HPL.out]; exact own_base (own_keep hown2 hgs (.inr (own_ne hown2 hb2 (by decide)))) hwl
        · have := (hown2.lt gl e).1; omega
        · have h8 := (hown2.lt g e).1
          intro e2
          have h9 := (hG.days.lt g e2).2
          omega
        · have hPD := HPD.out
          have hT := HT.out
          rw [← HPL.out] at hPD hT
          exact lv_full hJ (by omega) hPD HFULL.out hT
      · have hpn2 : pl < n := by omega
        have hpn3 : ¬ (pl : Int) = n := by omega
        clear hpn
        have hst : LvLoop J D n P 0 load best load := lv_start (by rw [← HPL.out]; exact hpn2) HOK.out
        have HST := Lib.hid hst
        clear hst
        go_wp2_with (fail)
        go_loopw [49] (fun i wr => ∃ (t : Nat) (ds' bs' : Value) (best' : List Int) (load' : Int), t ≤ D ∧ i = .int .i64 t ∧ GiveAt w0 wr v ja n jc D J P ds' gl bs' best' load' ∧ LvLoop J D n P t load best' load') (fun i _ => D - (intOf i).toNat)
        case atStart => exact ⟨0, _, _, best, load, by omega, rfl, HG.out, HST.out⟩
        case round =>
          obtain ⟨t, ds', bs', best', load', ht, rfl, hG', hlp⟩ := hrel
          obtain ⟨wo, rfl⟩ : ∃ wo : World, wo = wr := ⟨_, rfl⟩
          have HG' := Lib.hid hG'
          have HLP := Lib.hid hlp
          obtain ⟨⟨r0, r1, r2, r3, r4, r5⟩, rf⟩ := blk6 hG'.blk
          have rf2 := rf 2
          have hdays' := hG'.days
          rw [← HPL.out] at hdays'
          obtain ⟨da', dc', rfl, hdc', hdm', _, _⟩ := own_shape hdays'
          have hgw := hG'.gr.size
          have hvl := hG'.le
          clear hG' hlp rf hdays'
          by_cases htD : t < D
          · obtain ⟨jb, jo, rfl, dj⟩ := (hj.keep0 HG'.out.gr) pl _ (ints_get J pl (by rw [HN.out]; exact hpn2))
            obtain ⟨y0, y1, y2⟩ := own_int HG'.out.loads t htD
            have hx := job_ok hJ pl
            have hy := ldL_bound hJ P D P.length _ (get_mem (ldL J P D P.length) t 0 (by rw [ldL_len]; exact htD))
            have hgv := give_ld J P D t htD
            have htz := topZ_set HT.out t ((ldL J P D P.length).getD t 0 + J.getD P.length 0) (by rw [ldL_len]; exact htD) (by have := job_ok hJ P.length; omega) (by have := job_ok hJ P.length; omega)
            rw [← hgv, ← HPL.out] at htz
            rw [← HPL.out] at y0 y2 hy
            obtain ⟨L, hL⟩ : ∃ L, L = ldL J P D pl := ⟨_, rfl⟩
            have HLL : Hid (L.length = D) := by show _ = _; rw [hL, ldL_len]
            obtain ⟨x, hxe⟩ : ∃ x, x = J.getD pl 0 := ⟨_, rfl⟩
            rw [← hL] at y0 y2 hy htz
            obtain ⟨y, hye⟩ : ∃ y, y = L.getD t 0 := ⟨_, rfl⟩
            rw [← hye] at y0 hy htz
            rw [← hxe] at dj hx htz
            rw [← HPL.out, ← hL, ← hye, ← hxe] at hgv
            have HGV := Lib.hid hgv
            have HTZ := Lib.hid htz
            have HL := Lib.hid hL
            have HYE := Lib.hid hye
            have HXE := Lib.hid hxe
            have Y2 := Lib.hid (y2 (y + x))
            have hgll := lt_of_cell y0
            have hvlt := lt_of_cell r0
            have hvgl : v ≠ gl := by
              intro e
              have h7 := own_ne HG'.out.loads HG'.out.blk (by decide)
              rw [e] at h7
              exact h7 rfl
            clear hgv htz hL hye hxe y2
            go_wp2_with (fail)
            go_cut [] from 52 to 68 (fun wx => wx = (wo.setCell ⟨gl, t, none⟩ (.int .i64 (y + x))).drew)
            case first =>
              go_region
              all_goals (go_wp2_with (fail); go_meet; rfl)
            case rest =>
            obtain ⟨wA, hwA⟩ : ∃ wA, wA = (wo.setCell ⟨gl, t, none⟩ (.int .i64 (y + x))).drew := ⟨_, rfl⟩
            rw [← hwA] at hcut
            subst hcut
            have hgA : wo.grownBy wc (some gl) := by rw [hwA]; exact gr_drew (gr_set (q := ⟨gl, t, none⟩) (gr_refl wo (some gl)) rfl _)
            have hvA := (hgA.block v hvlt (by simpa using fun e => hvgl e)).trans HG'.out.blk
            have hdA := own_keep HG'.out.days hgA (.inr HG'.out.dl)
            rw [← HPL.out] at hdA
            have hlA : wc.ownsRow w0.heap.size 3 1 (.slice (some ⟨gl, 0, none⟩) D D) D (ints (L.set t (y + x))) := by rw [hwA]; exact own_keep0 Y2.out (gr_drew (gr_refl _ _))
            obtain ⟨z0, _, _⟩ := own_int hlA t htD
            rw [set_get _ _ _ _ (by rw [HLL.out]; exact htD), if_pos rfl] at z0
            have HVA := Lib.hid hvA
            obtain ⟨⟨s0, s1, s2, s3, s4, s5⟩, sf⟩ := blk6 hvA
            have sf2 := sf 2
            have HVD := Lib.hid (own_ne HG'.out.days HG'.out.blk (by decide))
            have HDL := Lib.hid HG'.out.dl
            have hgAs := hgA.size
            have hglA := lt_of_cell z0
            have hvAlt := lt_of_cell s0
            have HWA := Lib.hid hwA
            have HPD2 : Hid (DaysOk D (P ++ [(t : Int)]).length (P ++ [(t : Int)])) := ⟨rfl, fun z hz => by
              rcases List.mem_append.1 hz with hz | hz
              · exact HPD.out.rng z hz
              · simp only [List.mem_singleton] at hz; omega⟩
            have HGL : Hid (L.set t (y + x) = ldL J (P ++ [(t : Int)]) D (P ++ [(t : Int)]).length) := HGV.out.symm
            clear hwA hvA hlA sf y0 y1 hgA r0 r1 r2 r3 r4 r5 rf2
            by_cases hmx : most < y + x
            · have HIF : Hid ((if most < y + x then y + x else most) = y + x) := if_pos hmx
              go_wp2_with (at_builtin; refine wpList_app1F eInt rfl _ _ rfl w0.heap.size _ pl (ints P) rfl wc #[.int .i64 t] rfl hdA _ rfl rfl rfl rfl ?_ ?_ ?_; (· omega); (· omega); intro v6 w6 hown6 hg6 hlt6 hfr6; have hv6 := (hg6.block v hvAlt (fun e => HVD.out e.symm)).trans HVA.out; have z6 := hg6.cell z0 (fun e => HDL.out e.symm); obtain ⟨⟨p0, p1, p2, p3, p4, p5⟩, pf⟩ := blk6 hv6; have pf2 := pf 2; have hgl6 := lt_of_cell z6; have hv6lt := lt_of_cell p0; obtain ⟨g6, c6, rfl, _, _, _, _⟩ := own_some hown6 (by omega); have HGB : Hid (GiveAt w0 (w6.setCell ⟨v, 2, none⟩ (.slice (some ⟨g6, 0, none⟩) (pl + 1) c6)) v _ n jc D J (P ++ [(t : Int)]) (.slice (some ⟨g6, 0, none⟩) (pl + 1) c6) gl bs' best' load') := HG'.out.push HPL.out htD (Y := y + x) (by rw [← HPL.out, ← HL.out, ← HYE.out, ← HXE.out]) hown6 (by rw [← HWA.out]; exact hg6) (by rw [← HWA.out]; exact hfr6); clear pf hv6)
              refine (IH.out (n - (pl + 1)) (by have := HM.out; rw [← HPL.out] at this; omega) _ (P ++ [(t : Int)]) _ bs' best' load' (y + x) (by rw [List.length_append, List.length_singleton, ← HPL.out]) (by rw [List.length_append, List.length_singleton, ← HPL.out]; omega) HPD2.out HGB.out HLP.out.1 (by have := HTZ.out; rwa [HIF.out] at this)).mono ?_
              rintro e w7 ⟨d7, b7, best7, load7, rfl, hG7, hlp7⟩
              have hG7d := hG7.days
              rw [List.length_append, List.length_singleton, ← HPL.out] at hG7d
              obtain ⟨g7, c7, he7, _, _, hc7, hm7⟩ := own_some hG7d (by omega)
              subst he7
              have HG7 := Lib.hid hG7
              have HLP7 := Lib.hid hlp7
              obtain ⟨⟨u0, u1, u2, u3, u4, u5⟩, uf⟩ := blk6 hG7.blk
              have uf2 := uf 2
              obtain ⟨x0, x1, _⟩ := own_int hG7.loads t htD
              rw [← HGL.out, set_get _ _ _ _ (by rw [HLL.out]; exact htD), if_pos rfl] at x0
              obtain ⟨jb7, jo7, hj7e, dj7⟩ := (hj.keep0 hG7.gr) pl _ (ints_get J pl (by rw [HN.out]; exact hpn2))
              cases hj7e
              rw [← HXE.out] at dj7
              have hjbv : jb ≠ v := by
                obtain ⟨_, _, hje, hjc⟩ := hj pl _ (ints_get J pl (by rw [HN.out]; exact hpn2))
                cases hje
                have := lt_of_cell hjc
                omega
              have hgl7 := lt_of_cell x0
              have hv7 := lt_of_cell u0
              clear hG7 hlp7 hG7d uf
              have hgs7 : w7.grownBy (w7.setCell ⟨v, 2, none⟩ (.slice (some ⟨g7, 0, none⟩) pl c7)) (some v) := gr_set (q := ⟨v, 2, none⟩) (gr_refl w7 (some v)) rfl _
              have t0 := hgs7.cell x0 (by simpa using fun e => hvgl e.symm)
              have tj := hgs7.cell dj7 (by simpa using hjbv)
              have tf : (w7.setCell ⟨v, 2, none⟩ (.slice (some ⟨g7, 0, none⟩) pl c7)).frozen? ⟨gl, t, none⟩ = false := (World.frozen?_of_block (w := w7) (hgs7.block gl hgl7 (by simpa using fun e => hvgl e.symm))).trans x1
              have hb8 := heap_setCell_same w7 v 2 _ _ (.slice (some ⟨g7, 0, none⟩) pl c7) HG7.out.blk
              obtain ⟨⟨a0, a1, a2, a3, a4, a5⟩, _⟩ := blk6 (a := .slice (some ⟨jb, jo, none⟩) n jc) (b := .int .i64 D) (c := .slice (some ⟨g7, 0, none⟩) pl c7) (d := .slice (some ⟨gl, 0, none⟩) D D) (e := b7) (f := .int .i64 load7) hb8
              go_wp2_with (fail)
              obtain ⟨w8, hw8⟩ : ∃ w8, w8 = w7.setCell ⟨v, 2, none⟩ (.slice (some ⟨g7, 0, none⟩) pl c7) := ⟨_, rfl⟩
              rw [← hw8] at t0 tj tf a0 a1 a2 a3 a4 a5 ⊢
              have HW8 := Lib.hid hw8
              have hgl8 := lt_of_cell t0
              clear hw8 hgs7 hb8 x0 x1 dj7 u0 u1 u2 u3 u4 u5 uf2 hgl7 hv7
              go_region
              all_goals (go_wp2_with (fail))
              all_goals go_roundw
              all_goals first | (simp [intOf]; omega) | skip
              all_goals
                exact ⟨t + 1, .slice (some ⟨g7, 0, none⟩) pl c7, b7, best7, load7, by omega, by go_num, by rw [HW8.out]; exact HG7.out.pop HPL.out htD (by rw [← HPL.out, ← HL.out, ← HYE.out]; try omega), lv_step (by rw [← HPL.out]; exact hpn2) HLP.out HLP7.out⟩
            · have HIF : Hid ((if most < y + x then y + x else most) = most) := if_neg hmx
              go_wp2_with (at_builtin; refine wpList_app1F eInt rfl _ _ rfl w0.heap.size _ pl (ints P) rfl wc #[.int .i64 t] rfl hdA _ rfl rfl rfl rfl ?_ ?_ ?_; (· omega); (· omega); intro v6 w6 hown6 hg6 hlt6 hfr6; have hv6 := (hg6.block v hvAlt (fun e => HVD.out e.symm)).trans HVA.out; have z6 := hg6.cell z0 (fun e => HDL.out e.symm); obtain ⟨⟨p0, p1, p2, p3, p4, p5⟩, pf⟩ := blk6 hv6; have pf2 := pf 2; have hgl6 := lt_of_cell z6; have hv6lt := lt_of_cell p0; obtain ⟨g6, c6, rfl, _, _, _, _⟩ := own_some hown6 (by omega); have HGB : Hid (GiveAt w0 (w6.setCell ⟨v, 2, none⟩ (.slice (some ⟨g6, 0, none⟩) (pl + 1) c6)) v _ n jc D J (P ++ [(t : Int)]) (.slice (some ⟨g6, 0, none⟩) (pl + 1) c6) gl bs' best' load') := HG'.out.push HPL.out htD (Y := y + x) (by rw [← HPL.out, ← HL.out, ← HYE.out, ← HXE.out]) hown6 (by rw [← HWA.out]; exact hg6) (by rw [← HWA.out]; exact hfr6); clear pf hv6)
              refine (IH.out (n - (pl + 1)) (by have := HM.out; rw [← HPL.out] at this; omega) _ (P ++ [(t : Int)]) _ bs' best' load' most (by rw [List.length_append, List.length_singleton, ← HPL.out]) (by rw [List.length_append, List.length_singleton, ← HPL.out]; omega) HPD2.out HGB.out HLP.out.1 (by have := HTZ.out; rwa [HIF.out] at this)).mono ?_
              rintro e w7 ⟨d7, b7, best7, load7, rfl, hG7, hlp7⟩
              have hG7d := hG7.days
              rw [List.length_append, List.length_singleton, ← HPL.out] at hG7d
              obtain ⟨g7, c7, he7, _, _, hc7, hm7⟩ := own_some hG7d (by omega)
              subst he7
              have HG7 := Lib.hid hG7
              have HLP7 := Lib.hid hlp7
              obtain ⟨⟨u0, u1, u2, u3, u4, u5⟩, uf⟩ := blk6 hG7.blk
              have uf2 := uf 2
              obtain ⟨x0, x1, _⟩ := own_int hG7.loads t htD
              rw [← HGL.out, set_get _ _ _ _ (by rw [HLL.out]; exact htD), if_pos rfl] at x0
              obtain ⟨jb7, jo7, hj7e, dj7⟩ := (hj.keep0 hG7.gr) pl _ (ints_get J pl (by rw [HN.out]; exact hpn2))
              cases hj7e
              rw [← HXE.out] at dj7
              have hjbv : jb ≠ v := by
                obtain ⟨_, _, hje, hjc⟩ := hj pl _ (ints_get J pl (by rw [HN.out]; exact hpn2))
                cases hje
                have := lt_of_cell hjc
                omega
              have hgl7 := lt_of_cell x0
              have hv7 := lt_of_cell u0
              clear hG7 hlp7 hG7d uf
              have hgs7 : w7.grownBy (w7.setCell ⟨v, 2, none⟩ (.slice (some ⟨g7, 0, none⟩) pl c7)) (some v) := gr_set (q := ⟨v, 2, none⟩) (gr_refl w7 (some v)) rfl _
              have t0 := hgs7.cell x0 (by simpa using fun e => hvgl e.symm)
              have tj := hgs7.cell dj7 (by simpa using hjbv)
              have tf : (w7.setCell ⟨v, 2, none⟩ (.slice (some ⟨g7, 0, none⟩) pl c7)).frozen? ⟨gl, t, none⟩ = false := (World.frozen?_of_block (w := w7) (hgs7.block gl hgl7 (by simpa using fun e => hvgl e.symm))).trans x1
              have hb8 := heap_setCell_same w7 v 2 _ _ (.slice (some ⟨g7, 0, none⟩) pl c7) HG7.out.blk
              obtain ⟨⟨a0, a1, a2, a3, a4, a5⟩, _⟩ := blk6 (a := .slice (some ⟨jb, jo, none⟩) n jc) (b := .int .i64 D) (c := .slice (some ⟨g7, 0, none⟩) pl c7) (d := .slice (some ⟨gl, 0, none⟩) D D) (e := b7) (f := .int .i64 load7) hb8
              go_wp2_with (fail)
              obtain ⟨w8, hw8⟩ : ∃ w8, w8 = w7.setCell ⟨v, 2, none⟩ (.slice (some ⟨g7, 0, none⟩) pl c7) := ⟨_, rfl⟩
              rw [← hw8] at t0 tj tf a0 a1 a2 a3 a4 a5 ⊢
              have HW8 := Lib.hid hw8
              have hgl8 := lt_of_cell t0
              clear hw8 hgs7 hb8 x0 x1 dj7 u0 u1 u2 u3 u4 u5 uf2 hgl7 hv7
              go_region
              all_goals (go_wp2_with (fail))
              all_goals go_roundw
              all_goals first | (simp [intOf]; omega) | skip
              all_goals
                exact ⟨t + 1, .slice (some ⟨g7, 0, none⟩) pl c7, b7, best7, load7, by omega, by go_num, by rw [HW8.out]; exact HG7.out.pop HPL.out htD (by rw [← HPL.out, ← HL.out, ← HYE.out]; try omega), lv_step (by rw [← HPL.out]; exact hpn2) HLP.out HLP7.out⟩
          · obtain rfl : t = D := by omega
            go_wp2_with (fail)
            first | go_end0 | ((try simp only [Exit.inBlock, Exit.then]); refine bodyPost_ret (results_none rfl _ _ _) rfl ?_)
            exact ⟨_, _, best', load', rfl, HG'.out, lv_end (by rw [← HPL.out]; exact hpn2) HLP.out⟩
end Go.Proofs.Ytbgfflbddflokaa
