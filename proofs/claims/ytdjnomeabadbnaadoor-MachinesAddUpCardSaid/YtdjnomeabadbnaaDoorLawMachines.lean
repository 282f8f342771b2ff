/- The walk of MachinesAddUp. -/
import Derived.Test.YtdjnomeabadbnaaDoorMachTaken
import Derived.Test.YtdjnomeabadbnaaDoorMachPress
import Derived.Test.YtdjnomeabadbnaaDoorMachAudit
import Derived.Test.YtdjnomeabadbnaaDoorSame
import Derived.Test.YtdjnomeabadbnaaDoorEqualInt
import Derived.Deep.CutBlock
namespace Go.Proofs.YtdjnomeabadbnaaDoor
open Go.RowKit
attribute [local go_sem ↓] Go.wp_at_zero Go.wp_at_succ

set_option maxRecDepth 100000 in
theorem oneUp_any (l : List Int) (k : Nat) (xs : List ByteArray) (p lw : Nat) (W : World) (hs : StreamAt W p lw l k) (hk : k < 1000000000) (h0 : 0 < xs.length) (h1 : xs.length ≤ 1000) :
    Calls Tryd.prog 30 #[.pointer (some ⟨p, 0, none⟩), .slice (some ⟨W.heap.size, 0, none⟩) xs.length xs.length] (W.alloc (.cells (strs xs).toArray 9))
      fun e w' => e = .returned (.string (oneS l k xs)) ∧ StreamAt w' p lw l (k + 1) ∧ W.grownBy w' (some p) := by
  go_enter Tryd.func30, Tryd.ntmps30
  go_wp2_with (fail)
  refine (one_any l k xs p W hs hk h0 h1).mono ?_
  rintro e w1 ⟨rfl, h2, h3⟩
  go_wp2_with (fail)
  go_ret
  exact ⟨rfl, h2, h3⟩
theorem TakesAt.cells {w : World} {base : Nat} {v : Value} {ks : List Int} (h : TakesAt w base v ks) : ∃ g o cap, v = .slice (some ⟨g, o, none⟩) ks.length cap ∧ CellsAt w (some ⟨g, o, none⟩) (ints ks) := by
  obtain ⟨g, o, cap, cs, rfl, _, hg, _, _, _, hx⟩ := h
  refine ⟨g, o, cap, rfl, fun j u hj => ⟨g, o, rfl, ?_⟩⟩
  simp only [ints, List.getElem?_map, Option.map_eq_some_iff] at hj
  obtain ⟨x, hx1, rfl⟩ := hj
  exact blkC hg (o + j) (hx j x hx1)
theorem StreamAt.keepG {w w1 : World} {p lw k : Nat} {l : List Int} {S : Nat → Prop} (h : StreamAt w p lw l k) (g : grS w w1 S) (hr : ∀ q, S q → p < q) : StreamAt w1 p lw l k := by
  obtain ⟨⟨a, cap, hb, hc, hne⟩, hlen, hlow⟩ := h
  have hp := lt_of_block hb
  refine ⟨⟨a, cap, (g.block p hp (fun e => by have := hr p e; omega)).trans hb, ?_, hne⟩, hlen, hlow⟩
  intro j u hj
  obtain ⟨b, off, he, hcl⟩ := hc j u hj
  refine ⟨b, off, he, ?_⟩
  have h0 : 0 < l.length := by
    have := (List.getElem?_eq_some_iff.1 hj).1
    simp at this
    omega
  have hbl := hne h0 b off he
  have hbw := lt_of_cell hcl
  cases hob : w.heap[b]? with
  | none => rw [Array.getElem?_eq_none_iff] at hob; omega
  | some o =>
    have hb1 := (g.block b hbw (fun e => by have := hr b e; omega)).trans hob
    exact (World.cell?_of_block (w := w) (g.block b hbw (fun e => by have := hr b e; omega))).trans hcl

theorem totT_bound {l : List Tube} (ho : OkTubes l) : 0 ≤ totT l ∧ totT l ≤ 100000000000 := by
  have hl := ho.len
  have hm : ∀ x ∈ totL l, 0 ≤ x ∧ x ≤ 10000000000 := by
    intro x hx
    obtain ⟨k, hk, rfl⟩ := List.getElem_of_mem hx
    have hk' : k < l.length := by simpa [totL] using hk
    have e : (totL l)[k] = (tubeAt l k).value * (tubeAt l k).count := by simp [totL, tubeAt_get hk']
    rw [e]
    have o := ho.ok k hk'
    exact tube_prod ho k hk' _ o.c0 (by have := o.c1; have := o.m1; omega)
  have hB := sum_bound_all (totL l) 0 10000000000 (by decide) (by decide) hm
  have hL : (totL l).length = l.length := by simp [totL]
  unfold totT
  omega
/-- What holds of the machine and of what was put into it, ahead of each call. -/
structure LoopAt (w wr : World) (base M p lw : Nat) (l : List Int) (start N : Int) (kk : Nat) (v : Value) : Prop where
  mach : ∃ m tv kv sv jv ev dv, MachV wr base M m tv kv sv jv ev dv ∧ MOk m N ∧ Even m start ∧ wr.ownsRow base 3 1 v m.esc.length (ints m.esc) ∧ (∀ q, v.ownBlock = some q → ev.ownBlock ≠ some q ∧ kv.ownBlock ≠ some q) ∧ 0 ≤ m.high
  str : ∃ k, k ≤ kk ∧ StreamAt wr p lw l k
  gr : w.grownBy wr none
theorem MachW.ge {w : World} {base M : Nat} {m : Mach} {tv kv sv jv ev dv : Value} (h : MachV w base M m tv kv sv jv ev dv) {q : Nat} (hq : MachW M tv sv ev dv q) : base ≤ q := by
  rcases hq with h1 | h1 | h1 | h1 | h1
  · rw [h1]; exact h.low
  · exact own_ge h.t h1
  · exact own_ge h.s h1
  · exact own_ge h.e h1
  · exact own_ge h.d h1
theorem gr_ofS {w w1 w2 : World} {S : Nat → Prop} (h : w.grownBy w1 none) (g : grS w1 w2 S) (hq : ∀ q, S q → w.heap.size ≤ q) : w.grownBy w2 none :=
  ⟨g.os.trans h.os, g.tape.trans h.tape, g.output.trans h.output, Nat.le_trans h.size g.size, fun k hk hr => (g.block k (Nat.lt_of_lt_of_le hk h.size) (fun e => by have := hq k e; omega)).trans (h.block k hk hr)⟩
theorem MachV.keepInt {w w1 : World} {base base' M n : Nat} {m : Mach} {tv kv sv jv ev dv u : Value} {xs : List Value} (h : MachV w base M m tv kv sv jv ev dv) (hu : w.ownsRow base' 3 1 u n xs) (g : w.grownBy w1 u.ownBlock) (hk : ∀ q, u.ownBlock = some q → ev.ownBlock ≠ some q ∧ kv.ownBlock ≠ some q) : MachV w1 base M m tv kv sv jv ev dv := by
  have off : ∀ v : Value, (∀ q, u.ownBlock = some q → v.ownBlock ≠ some q) → (v.ownBlock = none ∨ v.ownBlock ≠ u.ownBlock) := by
    intro v hv
    cases hb : v.ownBlock with
    | none => exact .inl rfl
    | some q => exact .inr (fun e => hv q e.symm hb)
  exact ⟨(g.block M (lt_of_block h.blk) (fun e => own_ne hu h.blk (by decide) e.symm)).trans h.blk, own_keepU h.t hu (by decide) g, own_keep h.k g (off kv fun q hq => (hk q hq).2), own_keepU h.s hu (by decide) g, own_keepU h.j hu (by decide) g, own_keep h.e g (off ev fun q hq => (hk q hq).1), own_keepU h.d hu (by decide) g, h.sep, h.low⟩
/-- The row of what was put in is none of those that an operation writes. -/
theorem in_free {w : World} {base base' M n : Nat} {m : Mach} {tv kv sv jv ev dv u : Value} {xs : List Value} (h : MachV w base M m tv kv sv jv ev dv) (hu : w.ownsRow base' 3 1 u n xs) (hk : ∀ q, u.ownBlock = some q → ev.ownBlock ≠ some q ∧ kv.ownBlock ≠ some q) : ∀ q, u.ownBlock = some q → ¬ MachW M tv sv ev dv q := by
  intro q hq hw
  rcases hw with h1 | h1 | h1 | h1 | h1
  · exact own_ne hu h.blk (by decide) (by rw [← h1]; exact hq)
  · exact own_apart h.t hu (by decide) h1 hq
  · exact own_apart h.s hu (by decide) h1 hq
  · exact (hk q hq).1 h1
  · exact own_apart h.d hu (by decide) h1 hq
set_option maxRecDepth 100000 in
set_option maxHeartbeats 8000000 in
theorem machinesAddUp_any (l : List Int) (a : Option Addr) (cap : Nat) (w : World) (hc : CellsAt w a (ints l)) (hl : l.length ≤ 9223372036854775807) :
    Calls Tryd.prog 5 #[.slice a l.length cap] w fun e w' => e = .returned (.bool true) ∧ w.grownBy w' none := by
  have hs0 := StreamAt.made cap hc hl
  have hg0 : w.grownBy (w.alloc (.cells #[.slice a l.length cap, .int .i64 0] 25)) none := gr_alloc (gr_refl _ _) _
  have hbase : w.heap.size < (w.alloc (.cells #[.slice a l.length cap, .int .i64 0] 25)).heap.size := by simp
  go_enter Tryd.func5, Tryd.ntmps5
  go_wp2_with (fail)
  refine (config_any l 0 _ _ hs0 (by omega)).mono ?_
  rintro e w1 ⟨tv, kv, sv, rfl, hv, hs1, hg1⟩
  have hk1 := cfgM_k l 0
  obtain ⟨hT, hK, hS, hkeys⟩ := cfgM_small l 0
  obtain ⟨k1, hk1e⟩ : ∃ k1, k1 = (cfgM l 0).2 := ⟨_, rfl⟩
  obtain ⟨c, hce⟩ : ∃ c, c = (cfgM l 0).1 := ⟨_, rfl⟩
  rw [← hk1e] at hs1 hk1
  rw [← hce] at hv hT hK hS hkeys
  rw [← hce]
  have HKEYS := Lib.hid hkeys
  obtain ⟨p, hp⟩ : ∃ p, p = w.heap.size := ⟨_, rfl⟩
  rw [← hp] at hs1 hg1
  have HP := Lib.hid hp
  have hgr1 : w.grownBy w1 none := gr_grown hg0 hg1 (fun r hr => by cases hr; omega)
  clear hk1e hce hkeys hs0 hc hg0 hg1 hbase
  obtain ⟨ta, tc, rfl, _, _, hct, _⟩ := own_shape hv.tub
  obtain ⟨sa, sc, rfl, _, _, hcs, _⟩ := own_shape hv.slo
  obtain ⟨kb, ko, kc, rfl, hck⟩ := hv.tak.cells
  have hnT := own_nil hv.tub
  have hnS := own_nil hv.slo
  have HNT := Lib.hid hnT; have HNS := Lib.hid hnS
  have HCT := Lib.hid hct; have HCS := Lib.hid hcs; have HCK := Lib.hid hck
  clear hnT hnS hct hcs hck hv
  rw [← hp]
  clear hp
  go_wp2_with (fail)
  have hC2 := heap_alloc_new w1 (.cells #[.slice ta c.tubes.length tc, .slice (some ⟨kb, ko, none⟩) c.takes.length kc, .slice sa c.slots.length sc, .int .i64 c.high] 29)
  have g2 := gr_alloc (gr_refl w1 none) (.cells #[.slice ta c.tubes.length tc, .slice (some ⟨kb, ko, none⟩) c.takes.length kc, .slice sa c.slots.length sc, .int .i64 c.high] 29)
  obtain ⟨w2, hw2⟩ : ∃ w2, w2 = w1.alloc (.cells #[.slice ta c.tubes.length tc, .slice (some ⟨kb, ko, none⟩) c.takes.length kc, .slice sa c.slots.length sc, .int .i64 c.high] 29) := ⟨_, rfl⟩
  obtain ⟨C, hC⟩ : ∃ C, C = w1.heap.size := ⟨_, rfl⟩
  rw [← hw2] at hC2 g2
  rw [← hw2]
  rw [← hC] at hC2
  rw [← hC]
  clear hw2 hC
  have hgr2 := gr_trans hgr1 g2
  refine (configFault_any c ta (some ⟨kb, ko, none⟩) sa tc kc sc w2 (HCT.out.keep0 g2) (HCK.out.keep0 g2) (HCS.out.keep0 g2) (by omega) (by omega) (by omega) HKEYS.out).mono ?_
  rintro e w3 ⟨r, rfl, hr, g3⟩
  have hgr3 := gr_trans hgr2 g3
  have g13 := gr_trans g2 g3
  have hC3 := (g3.block C (lt_of_block hC2) (by simp)).trans hC2
  have hCl := lt_of_block hC2
  clear hC2
  by_cases hr0 : r = 0
  · subst hr0
    have ok := hr rfl
    clear hr
    have OK := Lib.hid ok
    obtain ⟨d0, d1, d2, d3⟩ := blk4 hC3
    have htl := ok.tub.len
    have hs60 := ok.s60
    clear ok
    go_wp2_with (fail)
    refine (new_ok c ta (some ⟨kb, ko, none⟩) sa tc kc sc w3 (HCT.out.keep0 g13) (HCK.out.keep0 g13) (HCS.out.keep0 g13) HNT.out (fun e => by cases e) HNS.out OK.out HKEYS.out).mono ?_
    rintro e w4 ⟨M, rfl, hM, hma, g4⟩
    have hC4 := (g4.block C (lt_of_block hC3) (by simp)).trans hC3
    have hgr4 := gr_trans hgr3 g4
    have g14 := gr_trans g13 g4
    clear d0 d1 d2 d3 hC3
    obtain ⟨d0, d1, d2, d3⟩ := blk4 hC4
    obtain ⟨base, hbe⟩ : ∃ b, b = w3.heap.size := ⟨_, rfl⟩
    rw [← hbe] at hM hma
    have HMA := Lib.hid hma
    clear hma
    go_wp2_with (fail)
    refine (total_ok c.tubes ta tc w4 (HCT.out.keep0 g14) OK.out.tub).mono ?_
    rintro e w5 ⟨rfl, g5⟩
    have hgr5 := gr_trans hgr4 g5
    have hs5 := hs1.keep0 (gr_trans g14 g5)
    have HMA5 := Lib.hid (HMA.out.keep0 g5)
    obtain ⟨start, hst⟩ : ∃ s, s = totT c.tubes := ⟨_, rfl⟩
    have hstb : 0 ≤ start ∧ start ≤ 100000000000 := by rw [hst]; exact totT_bound OK.out.tub
    rw [← hst]
    have HST := Lib.hid hst
    clear hst d0 d1 d2 d3 hC4
    go_wp2_with (fail)
    refine (next_any l _ 30 p _ hs5 (by omega) (by omega)).mono ?_
    rintro e w6 ⟨rfl, hs6, g6⟩
    have hr := nxt_range l k1 30 (by omega)
    obtain ⟨n, hn⟩ : ∃ n : Nat, nxt l k1 30 = n := ⟨(nxt l k1 30).toNat, by omega⟩
    rw [hn] at hr ⊢
    have hn30 : n < 30 := by omega
    have hpb : p < base := by
      have h1 := hs1.lt
      have h2 := g13.size
      omega
    have hL0 : LoopAt w w6 base M p p l start 0 (k1 + 1) (.slice none 0 0) := by
      obtain ⟨tv', kv', sv', jv', ev', dv', hV⟩ := HMA5.out.v hM
      obtain ⟨sa5, sc5, hb5, _⟩ := hs5.blk
      have hV6 := hV.keepOff hb5 (by decide) g6
      refine ⟨⟨_, _, _, _, _, _, _, hV6, MOk.new OK.out 0 (Int.le_refl _), by rw [HST.out]; exact Even.new c _, World.ownsRow_nil _ _ _ _, fun q hq => by simp [Value.ownBlock] at hq, by have := OK.out.h0; show 0 ≤ c.high; omega⟩, ⟨k1 + 1, Nat.le_refl _, hs6⟩, gr_grown hgr5 g6 (fun q hq => by injection hq with hq; rw [← hq, HP.out]; exact Nat.le_refl _)⟩
    have HL0 := Lib.hid hL0
    clear hL0 hs6 hr hs5
    go_wp2_with (fail)
    go_loopw [9, 47] (fun v ix wr => ∃ i : Nat, i ≤ n ∧ ix = .int .i64 i ∧ LoopAt w wr base M p p l start i (k1 + 1 + 3 * i) v) (fun _ ix _ => n - (intOf ix).toNat)
    case atStart => exact ⟨0, Nat.zero_le _, rfl, HL0.out⟩
    case round =>
      obtain ⟨i, hi, rfl, hla⟩ := hrel
      obtain ⟨wo, rfl⟩ : ∃ wo : World, wo = wr := ⟨_, rfl⟩
      by_cases hlt : i < n
      · obtain ⟨⟨m, tv, kv, sv, jv, ev, dv, hV, hm, he, hin, hsep, hhi⟩, ⟨k, hk, hs⟩, hgr⟩ := hla
        have HV := Lib.hid hV; have HM := Lib.hid hm; have HE := Lib.hid he; have HIN := Lib.hid hin; have HSEP := Lib.hid hsep
        clear hV hm he hin hsep
        go_wp2_with (fail)
        refine (pick_any l k [5, 10, 25, 50, 100, 200] p wo hs (by omega) (by decide) (by decide)).mono ?_
        rintro e w7 ⟨rfl, hs7, g7⟩
        obtain ⟨x, hx⟩ : ∃ x, x = pickM l k [5, 10, 25, 50, 100, 200] := ⟨_, rfl⟩
        have hxm := pickM_mem l k [5, 10, 25, 50, 100, 200] (by decide)
        rw [← hx] at hxm
        rw [← hx]
        have hxb : 0 ≤ x ∧ x ≤ 200 := by
          simp only [List.mem_cons, List.not_mem_nil, or_false] at hxm
          omega
        clear hx hxm
        go_wp2_with (fail)
        refine (oneUp_any l (k + 1) [⟨#[97]⟩, ⟨#[98]⟩, ⟨#[99]⟩] p p w7 hs7 (by omega) (by decide) (by decide)).mono ?_
        rintro e w8 ⟨rfl, hs8, g8⟩
        obtain ⟨y, hy⟩ : ∃ y, y = oneS l (k + 1) [⟨#[97]⟩, ⟨#[98]⟩, ⟨#[99]⟩] := ⟨_, rfl⟩
        rw [← hy]
        clear hy
        go_wp2_with (fail)
        refine (next_any l (k + 1 + 1) 6 p _ hs8 (by omega) (by omega)).mono ?_
        rintro e w9 ⟨rfl, hs9, g9⟩
        have hr := nxt_range l (k + 1 + 1) 6 (by omega)
        obtain ⟨z, hz⟩ : ∃ z, z = nxt l (k + 1 + 1) 6 := ⟨_, rfl⟩
        rw [← hz] at hr
        rw [← hz]
        clear hz
        obtain ⟨sa9, sc9, hb9, _⟩ := hs.blk
        have g79 := gr_trans g7 (gr_trans g8 g9)
        have HV9 := Lib.hid (HV.out.keepOff hb9 (by decide) g79)
        have HIN9 := Lib.hid (own_keep HIN.out g79 (.inr (own_ne HIN.out hb9 (by decide))))
        have hgr9 := gr_grown hgr g79 (fun q hq => by injection hq with hq; rw [← hq, HP.out]; exact Nat.le_refl _)
        clear hb9 g7 g8 hs7 hs8 hs
        go_upto_block 2 with (fail)
        have hN0 : (0 : Int) ≤ (i : Int) := by omega
        have hN1 : (i : Int) ≤ 1000 := by omega
        have hcast : ((i + 1 : Nat) : Int) = (i : Int) + 1 := by omega
        have hch := HM.out.credh
        have hhh := HM.out.high
        have hc0 : 0 ≤ m.credit := by
          rw [HM.out.cred]
          have := sum_bound_all m.esc 0 20000 (by decide) (by decide) HM.out.esc
          omega
        have hxn : p < base := hpb
        have hwb : w.heap.size ≤ base := by have := HP.out; omega
        go_cut [9, 12, 13, 14] from 57 to 150 (fun v _ _ _ wx => LoopAt w wx base M p p l start ((i + 1 : Nat) : Int) (k1 + 1 + 3 * (i + 1)) v)
        case first =>
          by_cases hz0 : z = 0
          · subst hz0
            go_wp2_with (fail)
            refine (press_any m y i base M tv kv sv jv ev dv w9 HV9.out HM.out hN0 hN1).mono ?_
            rintro e w10 (⟨zz, r, rfl, ⟨s1, s2, s3, s4, s5, rfl⟩, hr0, g10⟩ | ⟨zz, rfl, ⟨s1, s2, s3, s4, s5, rfl⟩, kk, add, f, rest, tv', hkk, hadd, hrest, hsum, hfl, hfb, hc1, hpc, hw, hV10, g10⟩)
            · go_wp2_with (fail)
              go_meet
              have ga := gr_trans g10 (gr_alloc (gr_refl w10 none) (.cells #[.string s1, .int .i64 s2, .slice s3 s4 s5] 71))
              exact ⟨⟨_, _, _, _, _, _, _, HV9.out.keep0 ga, by rw [hcast]; exact HM.out.more, HE.out, own_keep0 HIN9.out ga, HSEP.out, hhi⟩, ⟨k + 3, by omega, hs9.keep0 ga⟩, gr_trans hgr9 ga⟩
            · go_wp2_with (fail)
              go_meet
              have ga := gr_alloc (gr_refl w10 none) (.cells #[.string s1, .int .i64 s2, .slice s3 s4 s5] 71)
              have hs10 := hs9.keepG g10 (fun q hq => Nat.lt_of_lt_of_le hpb (MachW.ge HV9.out hq))
              have hgr10 := gr_ofS hgr9 g10 (fun q hq => Nat.le_trans hwb (MachW.ge HV9.out hq))
              exact ⟨⟨_, _, _, _, _, _, _, hV10.keep0 ga, by rw [hcast]; exact HM.out.press hN0 hN1 hkk hadd hrest hsum hfb hc1 hpc, HE.out.press HM.out hkk hadd hsum hfl hw, World.ownsRow_nil _ _ _ _, fun q hq => by simp [Value.ownBlock] at hq, hhi⟩, ⟨k + 3, by omega, hs10.keep0 ga⟩, gr_trans hgr10 ga⟩
          · by_cases hz1 : z = 1
            · subst hz1
              obtain ⟨ea, ec, rfl, _, _, _, _⟩ := own_shape HV9.out.e
              obtain ⟨ua, uc, hue, _, _, _, _⟩ := own_shape HIN9.out
              subst hue
              go_wp2_with (fail)
              refine (back_any m base M tv kv sv jv _ dv w9 HV9.out).mono ?_
              rintro e w10 ⟨rfl, hV10, g10⟩
              have hE10 := own_cells0 (own_keep HV9.out.e g10 (.inr (own_ne HV9.out.e HV9.out.blk (by decide))))
              have hI10 := own_cells0 (own_keep HIN9.out g10 (.inr (own_ne HIN9.out HV9.out.blk (by decide))))
              have HE10 := Lib.hid hE10; have HI10 := Lib.hid hI10; have HV10 := Lib.hid hV10
              clear hE10 hI10 hV10
              go_wp2_with (fail)
              refine (equal_int m.esc ea ua ec uc w10 HE10.out HI10.out (by have := HM.out.elen; omega)).mono ?_
              rintro e w11 ⟨rfl, g11⟩
              go_wp2_with (fail)
              go_meet
              have hs11 := (hs9.keep g10 (fun q hq => by injection hq with hq; omega)).keep0 g11
              have hgr11 := gr_trans (gr_grown hgr9 g10 (fun q hq => by injection hq with hq; omega)) g11
              exact ⟨⟨_, _, _, _, _, _, _, HV10.out.keep0 g11, by rw [hcast]; exact HM.out.back hN0 hhi, ⟨HE.out.coins, HE.out.sold⟩, World.ownsRow_nil _ _ _ _, fun q hq => by simp [Value.ownBlock] at hq, hhi⟩, ⟨k + 3, by omega, hs11⟩, hgr11⟩
            · by_cases hz2 : z = 2
              · subst hz2
                go_wp2_with (fail)
                refine (fill_any m x 1 base M tv kv sv jv ev dv w9 HV9.out HM.out.tub hxb.1 (by omega) (by decide) (by decide) HM.out.filled.1 (by have := HM.out.filled.2; omega)).mono ?_
                rintro e w10 (⟨r, rfl, hr0, g10⟩ | ⟨rfl, _, kk, hkk, hval, hmost, hV10, g10⟩)
                · go_wp2_with (fail)
                  go_meet
                  exact ⟨⟨_, _, _, _, _, _, _, HV9.out.keep0 g10, by rw [hcast]; exact HM.out.more, HE.out, own_keep0 HIN9.out g10, HSEP.out, hhi⟩, ⟨k + 3, by omega, hs9.keep0 g10⟩, gr_trans hgr9 g10⟩
                · go_wp2_with (fail)
                  go_meet
                  have hs10 := hs9.keepG g10 (fun q hq => Nat.lt_of_lt_of_le hpb (MachW.ge HV9.out hq))
                  have hgr10 := gr_ofS hgr9 g10 (fun q hq => Nat.le_trans hwb (MachW.ge HV9.out hq))
                  exact ⟨⟨_, _, _, _, _, _, _, hV10, by rw [hcast]; exact HM.out.fill hkk hxb.1 (by omega) hmost, HE.out.fill hkk hval, grS.own HIN9.out g10 (in_free HV9.out HIN9.out HSEP.out), HSEP.out, hhi⟩, ⟨k + 3, by omega, hs10⟩, hgr10⟩
              · by_cases hz3 : z = 3
                · subst hz3
                  go_wp2_with (fail)
                  refine (collect_any m base M tv kv sv jv ev dv w9 HV9.out HM.out.box.1 (by have := HM.out.box; omega) HM.out.box.2.1 (by have := HM.out.box; omega)).mono ?_
                  rintro e w10 ⟨rfl, hV10, g10⟩
                  go_wp2_with (fail)
                  go_meet
                  have hs10 := hs9.keep g10 (fun q hq => by injection hq with hq; omega)
                  have hgr10 := gr_grown hgr9 g10 (fun q hq => by injection hq with hq; omega)
                  exact ⟨⟨_, _, _, _, _, _, _, hV10, by rw [hcast]; exact HM.out.collect, HE.out.collect, own_keep HIN9.out g10 (.inr (own_ne HIN9.out HV9.out.blk (by decide))), HSEP.out, hhi⟩, ⟨k + 3, by omega, hs10⟩, hgr10⟩
                · go_wp2_with (fail)
                  refine (insert_any m x base M tv kv sv jv ev dv w9 HV9.out HM.out.tlen hxb.1 (by omega) hc0 (by omega) (by have := HM.out.elen; omega)).mono ?_
                  rintro e w10 (⟨r, rfl, hr0, g10⟩ | ⟨rfl, _, hle, ev', hV10, g10, hev⟩)
                  · have hrn : r ≠ 0 := by rcases hr0 with ⟨_, rfl⟩ | ⟨_, _, rfl⟩ <;> decide
                    clear hr0
                    go_wp2_with (fail)
                    go_meet
                    exact ⟨⟨_, _, _, _, _, _, _, HV9.out.keep0 g10, by rw [hcast]; exact HM.out.more, HE.out, own_keep0 HIN9.out g10, HSEP.out, hhi⟩, ⟨k + 3, by omega, hs9.keep0 g10⟩, gr_trans hgr9 g10⟩
                  · have hs10 := hs9.keepG g10 (fun q hq => Nat.lt_of_lt_of_le hpb (MachW.ge HV9.out hq))
                    have hgr10 := gr_ofS hgr9 g10 (fun q hq => Nat.le_trans hwb (MachW.ge HV9.out hq))
                    have hI10 := grS.own HIN9.out g10 (in_free HV9.out HIN9.out HSEP.out)
                    have hel := HM.out.elen
                    have HV10 := Lib.hid hV10
                    have HI10 := Lib.hid hI10
                    clear hV10 hI10
                    go_wp2_with (at_builtin; refine wpList_app1F eInt rfl _ _ rfl base _ m.esc.length (ints m.esc) rfl w10 #[.int .i64 x] rfl HI10.out _ rfl rfl rfl rfl ?_ ?_ ?_; (· omega); (· exact Nat.le_of_lt (Nat.lt_of_le_of_lt HV10.out.low (lt_of_block HV10.out.blk))); intro v11 w11 hown11 hg11 hlt11 hf11)
                    go_meet
                    have hk10 : ∀ q, u9.ownBlock = some q → ev'.ownBlock ≠ some q ∧ kv.ownBlock ≠ some q := by
                      intro q hq
                      refine ⟨fun hq2 => ?_, (HSEP.out q hq).2⟩
                      rcases hev q hq2 with h1 | h1
                      · exact (HSEP.out q hq).1 h1
                      · obtain ⟨cs, hcs⟩ := own_blk HIN9.out hq
                        have := lt_of_block hcs
                        omega
                    have hV11 := HV10.out.keepInt HI10.out hg11 hk10
                    have hsp : ∀ q, v11.ownBlock = some q → ev'.ownBlock ≠ some q ∧ kv.ownBlock ≠ some q := by
                      intro q hq
                      rcases hf11 q hq with h1 | h1
                      · exact hk10 q h1
                      · refine ⟨fun hq2 => ?_, fun hq2 => ?_⟩
                        · obtain ⟨cs, hcs⟩ := own_blk HV10.out.e hq2
                          have := lt_of_block hcs
                          omega
                        · obtain ⟨cs, hcs⟩ := own_blk HV10.out.k hq2
                          have := lt_of_block hcs
                          omega
                    have hs11 := hs10.keep hg11 (fun q hq => by have := hlt11 q hq; omega)
                    have hgr11 := gr_grown hgr10 hg11 (fun q hq => by have := hlt11 q hq; omega)
                    exact ⟨⟨_, _, _, _, _, _, _, hV11, by rw [hcast]; exact HM.out.insert hxb.1 (by omega) hle, ⟨HE.out.coins, HE.out.sold⟩, by simpa [ints] using hown11, hsp, hhi⟩, ⟨k + 3, by omega, hs11⟩, hgr11⟩
        case rest =>
        obtain ⟨⟨m2, tv2, kv2, sv2, jv2, ev2, dv2, hV2, hm2, he2, hin2, hsep2, hhi2⟩, ⟨k2, hk2, hs2⟩, hgr2⟩ := hcut
        have HV2 := Lib.hid hV2; have HM2 := Lib.hid hm2; have HE2 := Lib.hid he2; have HIN2 := Lib.hid hin2; have HSEP2 := Lib.hid hsep2
        have hN2 : ((i + 1 : Nat) : Int) ≤ 30 := by omega
        have ht2 := hm2.tub.len
        have hsd2 : m2.sold.length ≤ 60 := by rw [hm2.sol]; exact hm2.s60
        obtain ⟨b0, b1⟩ := hm2.inn
        obtain ⟨b2, b3⟩ := hm2.out
        obtain ⟨b4, b5⟩ := hm2.filled
        obtain ⟨b6, b7, b8⟩ := hm2.box
        have hel2 := hm2.elen
        have HSOLD := Lib.hid he2.sold
        have hcoins := he2.coins
        have HCRED := Lib.hid hm2.cred
        have hesc := hm2.esc
        have htot := totT_bound hm2.tub
        have HES := Lib.hid hesc
        clear hV2 hm2 he2 hin2 hsep2 hesc
        clear HV9 HIN9 HV HM HE HIN HSEP hs9 hgr9 hgr hch hhh hc0
        go_wp2_with (fail)
        refine (audit_any m2 base M tv2 kv2 sv2 jv2 ev2 dv2 _ HV2.out (by omega) (by omega)).mono ?_
        rintro e w12 ⟨asv, atv, rfl, ho1, ho2, g12⟩
        obtain ⟨xa, xc, rfl, _, _, hxc, _⟩ := own_shape ho1
        obtain ⟨ya, yc, rfl, _, _, hyc, _⟩ := own_shape ho2
        have HXC := Lib.hid hxc; have HYC := Lib.hid hyc
        clear ho1 ho2 hxc hyc
        go_wp2_with (fail)
        have hA13 := heap_alloc_new w12 (.cells #[.slice xa m2.sold.length xc, .int .i64 m2.inn, .int .i64 m2.out, .int .i64 m2.filled, .int .i64 m2.collected, .int .i64 m2.box, .int .i64 m2.credit, .slice ya m2.tubes.length yc] 46)
        have g13' := gr_alloc (gr_refl w12 none) (.cells #[.slice xa m2.sold.length xc, .int .i64 m2.inn, .int .i64 m2.out, .int .i64 m2.filled, .int .i64 m2.collected, .int .i64 m2.box, .int .i64 m2.credit, .slice ya m2.tubes.length yc] 46)
        obtain ⟨w13, hw13⟩ : ∃ w13, w13 = w12.alloc (.cells #[.slice xa m2.sold.length xc, .int .i64 m2.inn, .int .i64 m2.out, .int .i64 m2.filled, .int .i64 m2.collected, .int .i64 m2.box, .int .i64 m2.credit, .slice ya m2.tubes.length yc] 46) := ⟨_, rfl⟩
        rw [← hw13] at hA13 g13'
        rw [← hw13]
        obtain ⟨A, hAe⟩ : ∃ A, A = w12.heap.size := ⟨_, rfl⟩
        rw [← hAe] at hA13
        rw [← hAe]
        clear hw13 hAe
        refine (total_ok m2.tubes ya yc w13 (HYC.out.keep0 g13') HM2.out.tub).mono ?_
        rintro e w14 ⟨rfl, g14⟩
        have hA14 := (g14.block A (lt_of_block hA13) (by simp)).trans hA13
        have g24 := gr_trans g12 (gr_trans g13' g14)
        have hgr14 := gr_trans hgr2 g24
        have hs14 := hs2.keep0 g24
        have HV14 := Lib.hid (HV2.out.keep0 g24)
        have HIN14 := Lib.hid (own_keep0 HIN2.out g24)
        have HX14 := Lib.hid (HXC.out.keep0 (gr_trans g13' g14))
        have HA14 := Lib.hid hA14
        obtain ⟨tot, htt⟩ : ∃ t, t = totT m2.tubes := ⟨_, rfl⟩
        rw [← htt] at hcoins htot
        rw [← htt]
        have HCOINS := Lib.hid hcoins
        clear hcoins htt hA13 hA14 g24 g12 g13' g14 hs2 hgr2
        have a0 := blkC HA14.out 0 rfl
        have hSV := HM2.out.sval
        have HSV := Lib.hid hSV
        clear hSV
        go_wp2_with (fail)
        clear a0
        go_loopw [18, 103] (fun sv ix wr => ∃ j : Nat, j ≤ m2.sold.length ∧ ix = .int .i64 j ∧ sv = .int .i64 (((m2.sold.map Tally.value).take j).sum) ∧ w14.grownBy wr none) (fun _ ix _ => m2.sold.length - (intOf ix).toNat)
        case atStart => exact ⟨0, Nat.zero_le _, rfl, rfl, gr_refl _ _⟩
        case round =>
          obtain ⟨j, hj, rfl, rfl, hgj⟩ := hrel
          obtain ⟨wj, rfl⟩ : ∃ wj : World, wj = wr := ⟨_, rfl⟩
          obtain ⟨S, hS⟩ : ∃ S, S = ((m2.sold.map Tally.value).take j).sum := ⟨_, rfl⟩
          have hSb := sum_bound (m2.sold.map Tally.value) 0 1000000 (by decide) (by decide) (fun x hx => by
            obtain ⟨t, ht, rfl⟩ := List.mem_map.1 hx
            have := HSV.out t ht
            omega) j
          rw [← hS] at hSb
          rw [← hS]
          by_cases hjl : j < m2.sold.length
          · obtain ⟨b, off, rfl, hcs⟩ := flat_cells (enc := encTally) (m := 3) (fun _ => rfl) (by decide) (HX14.out.keep0 hgj) (by omega)
            obtain ⟨t, ht⟩ : ∃ t, t = m2.sold[j] := ⟨_, rfl⟩
            have e0 : wj.cell? ⟨b, off + j * 3, none⟩ = some (.string t.key) := by have := hcs j hjl 0 _ rfl; simpa [← ht] using this
            have e1 : wj.cell? ⟨b, off + j * 3 + 1, none⟩ = some (.int .i64 t.many) := by have := hcs j hjl 1 _ rfl; simpa [← ht] using this
            have e2 : wj.cell? ⟨b, off + j * 3 + 2, none⟩ = some (.int .i64 t.value) := by have := hcs j hjl 2 _ rfl; simpa [← ht] using this
            have hnx := sum_next (m2.sold.map Tally.value) j (by simpa using hjl)
            have hgt : (m2.sold.map Tally.value).getD j 0 = t.value := by rw [ht]; simp [List.getD_eq_getElem?_getD, List.getElem?_eq_getElem hjl]
            rw [hgt, ← hS] at hnx
            have htv := HSV.out t (by rw [ht]; exact List.getElem_mem hjl)
            have HNX := Lib.hid hnx
            clear hcs hS ht hgt hnx
            go_wp2_with (fail)
            go_roundw
            case rel => exact ⟨j + 1, by omega, by go_num, by rw [HNX.out], gr_alloc hgj _⟩
            case measure => simp [intOf]; omega
          · obtain rfl : j = m2.sold.length := by omega
            have hSe : S = soldT m2.sold := by
              rw [hS]
              unfold soldT
              rw [List.take_of_length_le (by simp)]
            have hsold := HSOLD.out
            rw [← hSe] at hsold
            have hAj := (hgj.block A (lt_of_block HA14.out) (by simp)).trans HA14.out
            have a1 := blkC hAj 1 rfl
            have a2 := blkC hAj 2 rfl
            have a3 := blkC hAj 3 rfl
            have a4 := blkC hAj 4 rfl
            have a5 := blkC hAj 5 rfl
            have a6 := blkC hAj 6 rfl
            have hIj := own_keep0 HIN14.out hgj
            obtain ⟨ua, uc, hue, _, _, hci, _⟩ := own_shape hIj
            have HCI := Lib.hid hci
            have TOT : Hid (∀ q, Calls Tryd.prog 36 #[.slice ua m2.esc.length uc] (wj.drewN q) fun e w' => e = .returned (.int .i64 m2.esc.sum) ∧ w' = wj.drewN q) := fun q => keepTotal_same m2.esc ua uc _ (HCI.out.keep0 (gr_drewN (gr_refl _ _) _)) (by omega) (fun x hx => by have := HES.out x hx; omega)
            have HIJ := Lib.hid hIj
            have hgrj := gr_trans hgr14 hgj
            have hsj := hs14.keep0 hgj
            have HVJ := Lib.hid (HV14.out.keep0 hgj)
            subst hue
            have n1 : (m2.inn - m2.out != S) = false := by rw [hsold]; simp
            have n2 : (tot + m2.box != start + m2.inn - m2.out + m2.filled - m2.collected) = false := by rw [HCOINS.out]; simp
            have n3 : (m2.credit != m2.esc.sum) = false := by rw [HCRED.out]; simp
            have HS1 := Lib.hid hsold
            clear hAj hci hIj hS hSe hsold
            go_wp2_with (fail)
            go_quiet ((first
              | (go_at_call 36; exact Calls.quiet_of_same (TOT.out _))))
            go_wp2_with (fail)
            go_roundw
            case rel =>
              have gq := gr_drewN (gr_refl wj none) nq
              exact ⟨i + 1, by omega, by go_num, ⟨m2, _, _, _, _, _, _, HVJ.out.keep0 gq, HM2.out, HE2.out, own_keep0 HIJ.out gq, HSEP2.out, hhi2⟩, ⟨k2, hk2, hsj.keep0 gq⟩, gr_trans hgrj gq⟩
            case measure => simp [intOf]; omega
      · obtain rfl : i = n := by omega
        have hgr := hla.gr
        clear hla
        go_wp2_with (fail)
        refine (vends_any _).mono ?_
        rintro e w4 ⟨rfl, g4⟩
        go_wp2_with (fail)
        go_ret
        exact ⟨rfl, gr_trans hgr g4⟩
  · go_wp2_with (fail)
    refine (vends_any _).mono ?_
    rintro e w4 ⟨rfl, g4⟩
    go_wp2_with (fail)
    go_ret
    exact ⟨rfl, gr_trans hgr3 g4⟩
end Go.Proofs.YtdjnomeabadbnaaDoor
