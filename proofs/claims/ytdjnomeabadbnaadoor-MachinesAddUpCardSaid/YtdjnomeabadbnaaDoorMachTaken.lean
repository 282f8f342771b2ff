/- Machine.taken. -/
import Derived.Test.YtdjnomeabadbnaaDoorMach
import Derived.Test.YtdjnomeabadbnaaDoorSettle
import Derived.Test.YtdjnomeabadbnaaDoorFloat
import Derived.Test.YtdjnomeabadbnaaDoorTable
namespace Go.Proofs.YtdjnomeabadbnaaDoor
open Go.RowKit
attribute [local go_sem ↓] Go.wp_at_zero Go.wp_at_succ

theorem own_cells0 {w : World} {base e size n cap : Nat} {a : Option Addr} {xs : List Value} (h : w.ownsRow base e size (.slice a n cap) n xs) : CellsAt w a xs := by
  obtain ⟨_, _, he, _, _, hc, _⟩ := own_shape h
  cases he
  exact hc
theorem worthM_zero (l : List Tube) : worthM l (List.replicate l.length 0) = 0 := by
  induction l with
  | nil => rfl
  | cons t l ih =>
    simp only [worthM, worthL, List.length_cons, List.replicate_succ, List.zipWith_cons_cons, List.sum_cons] at ih ⊢
    omega
theorem restT_bound (l : List Tube) (add : List Int) (ho : OkTubes l) (ha : OkAdd l add) : 0 ≤ restT l add ∧ restT l add ≤ 100000000000 := by
  have hl := ho.len
  have hB := sum_bound_all (restL l add) 0 10000000000 (by decide) (by decide) (restL_mem l add ho ha)
  have hR0 : (restL l add).length = l.length := by simp [restL, ha.1]
  unfold restT
  omega
def TakenPost (m : Mach) (w : World) (e : Ending) (w' : World) : Prop :=
  ∃ v add rest, e = .returned (.tuple #[v, .int .i64 (rest + restT m.tubes add)]) ∧ OkAdd m.tubes add ∧ 0 ≤ rest ∧ worthM m.tubes add + rest = m.esc.sum ∧ w'.ownsRow w.heap.size 41 3 v m.tubes.length (tubes (settledT m.tubes add)) ∧ w.grownBy w' none
set_option maxRecDepth 100000 in
set_option maxHeartbeats 2000000 in
theorem taken_any (m : Mach) (base M : Nat) (tv kv sv jv ev dv : Value) (w : World) (h : MachV w base M m tv kv sv jv ev dv) (ht : OkTubes m.tubes) (he0 : ∀ x ∈ m.esc, 0 ≤ x ∧ x ≤ 20000) (hel : m.esc.length ≤ 10000) :
    Calls Tryd.prog 96 #[.pointer (some ⟨M, 0, none⟩)] w (TakenPost m w) := by
  have htl := ht.len
  obtain ⟨c0, z0⟩ := mb0 h.blk
  obtain ⟨c5, z5⟩ := mb5 h.blk
  obtain ⟨ta, tc, rfl, _, _, hct, _⟩ := own_shape h.t
  obtain ⟨ea, ec, rfl, _, _, hce, _⟩ := own_shape h.e
  have HCE := Lib.hid hce
  have HCT := Lib.hid hct
  have hnT := own_nil h.t
  have H := Lib.hid h
  clear h hct hce
  go_enter Tryd.func96, Tryd.ntmps96
  go_wp2_with (at_make; refine wpList_mk _ eInt rfl _ _ rfl w.heap.size _ m.tubes.length rfl rfl rfl ?_ ?_ ?_; (· omega); (· exact Nat.le_refl _); intro w2 hown2 hg2; have hbl := lt_of_block H.out.blk; have hM2 := (hg2.block M hbl (by simp)).trans H.out.blk; obtain ⟨d0, _⟩ := mb0 hM2; obtain ⟨d5, _⟩ := mb5 hM2)
  clear c0 z0 c5 z5 d0 d5 hM2
  go_loopw [5, 22] (fun r c wr => ∃ (i : Nat) (add : List Int) (rest : Int), i ≤ m.esc.length ∧ c = .int .i64 i ∧ r = .int .i64 rest ∧ add.length = m.tubes.length ∧ (∀ x ∈ add, 0 ≤ x ∧ x ≤ i) ∧ 0 ≤ rest ∧ rest ≤ i * 20000 ∧ worthM m.tubes add + rest = (m.esc.take i).sum ∧ wr.ownsRow w.heap.size 3 1 (.slice (some ⟨w.heap.size, 0, none⟩) m.tubes.length m.tubes.length) m.tubes.length (ints add) ∧ w.grownBy wr none)
    (fun _ c _ => m.esc.length - (intOf c).toNat)
  case atStart =>
    refine ⟨0, List.replicate m.tubes.length 0, 0, Nat.zero_le _, rfl, rfl, by simp, ?_, Int.le_refl _, by simp, ?_, ?_, hg2⟩
    · intro x hx
      obtain ⟨_, rfl⟩ := List.mem_replicate.1 hx
      simp
    · simp [worthM_zero]
    · simpa [ints] using hown2
  case round =>
    obtain ⟨i, add, rest, hi, rfl, rfl, hal, hab, hr0, hr1, hsum, hown, hgr⟩ := hrel
    obtain ⟨wo, rfl⟩ : ∃ wo : World, wo = wr := ⟨_, rfl⟩
    have hsz := hgr.size
    have HS := Lib.hid hsum; have HAB := Lib.hid hab; have HO := Lib.hid hown
    clear hsum hab hown
    by_cases hlt : i < m.esc.length
    · obtain ⟨b, off, rfl, hcell⟩ := (HCE.out.keep0 hgr) i _ (ints_get m.esc i hlt)
      obtain ⟨x, hx⟩ : ∃ x, x = m.esc.getD i 0 := ⟨_, rfl⟩
      rw [← hx] at hcell
      have hmx := he0 x (by rw [hx, getD_eq _ _ _ hlt]; exact List.getElem_mem _)
      have htk : (m.esc.take (i + 1)).sum = (m.esc.take i).sum + x := by
        rw [List.take_add_one, List.getElem?_eq_getElem hlt, List.sum_append, hx, getD_eq _ _ _ hlt]
        simp
      have HTK := Lib.hid htk
      have HX := Lib.hid hx
      clear hx htk
      go_wp2_with (fail)
      refine (tube_any m x base M _ kv sv jv _ dv wo (H.out.keep0 hgr) (by omega)).mono ?_
      rintro e w3 ⟨rfl, hg3⟩
      have hgr3 := gr_trans hgr hg3
      have HO3 := Lib.hid (own_keep0 HO.out hg3)
      rcases findA_or (fun t : Tube => t.value == x) m.tubes with hk | ⟨k, hk, hf, hp⟩
      · rw [hk]
        clear hk
        go_wp2_with (fail)
        go_roundw
        case rel =>
          refine ⟨i + 1, add, rest + x, by omega, by go_num, by go_num, hal, fun y hy => ⟨(HAB.out y hy).1, by have := (HAB.out y hy).2; omega⟩, by omega, by omega, ?_, HO3.out, hgr3⟩
          rw [HTK.out, ← HS.out]
          omega
        case measure => simp [intOf]; omega
      · rw [hf]
        clear hf
        rw [← tubeAt_get hk] at hp
        have hp : (tubeAt m.tubes k).value = x := by simpa using hp
        have HP := Lib.hid hp
        clear hp
        obtain ⟨e0, f0, st0⟩ := own_int HO3.out k hk
        have hmem := HAB.out (add.getD k 0) (by rw [getD_eq _ _ _ (by omega)]; exact List.getElem_mem _)
        have ST := Lib.hid (st0 (add.getD k 0 + 1))
        clear st0
        obtain ⟨y, hy⟩ : ∃ y, y = add.getD k 0 := ⟨_, rfl⟩
        rw [← hy] at e0 hmem ST
        have HY := Lib.hid hy
        clear hy
        go_wp2_with (fail)
        go_roundw
        case rel =>
          refine ⟨i + 1, add.set k (y + 1), rest, by omega, by go_num, rfl, by simpa using hal, ?_, hr0, by omega, ?_, ST.out, gr_new hgr3 (Nat.le_refl _) _⟩
          · intro z hz
            rcases List.mem_or_eq_of_mem_set hz with h1 | h1
            · exact ⟨(HAB.out z h1).1, by have := (HAB.out z h1).2; omega⟩
            · omega
          · rw [HTK.out, ← HS.out, HY.out, worth_set m.tubes add k hal hk, HP.out]
            omega
        case measure => simp [intOf]; omega
    · obtain rfl : i = m.esc.length := by omega
      obtain ⟨d0, _⟩ := mb0 (H.out.keep0 hgr).blk
      have hadd : OkAdd m.tubes add := ⟨hal, fun x hx => ⟨(HAB.out x hx).1, by have := (HAB.out x hx).2; omega⟩⟩
      have HADD := Lib.hid hadd
      have hca := own_cells0 HO.out
      have HCA := Lib.hid hca
      clear hadd hca
      have hset := settled_any m.tubes add ta tc (some ⟨w.heap.size, 0, none⟩) m.tubes.length wo (HCT.out.keep0 hgr) hnT HCA.out ht HADD.out
      rw [hal] at hset
      have HSET := Lib.hid hset
      clear hset
      go_wp2_with (fail)
      refine HSET.out.mono ?_
      rintro e w4 ⟨v, rfl, hown4, hg4⟩
      have hrb := restT_bound m.tubes add ht HADD.out
      obtain ⟨R, hR⟩ : ∃ R, R = restT m.tubes add := ⟨_, rfl⟩
      rw [← hR] at hrb
      rw [← hR]
      have HR := Lib.hid hR
      clear hR
      have hgr4 := gr_trans hgr hg4
      have hb4 := own_base hown4 hsz
      have HB4 := Lib.hid hb4
      obtain ⟨va, vc, rfl, _⟩ := own_shape hb4
      have hS := HS.out
      rw [List.take_length] at hS
      have HS2 := Lib.hid hS
      clear hb4 hown4 hS
      go_wp2_with (fail)
      go_ret2
      exact ⟨_, add, rest, by rw [← HR.out]; rfl, HADD.out, hr0, HS2.out, HB4.out, hgr4⟩

/-! A machine's counts: of no program. -/

theorem addTo_len (l : List Tube) (k : Nat) (n : Int) : (addTo l k n).length = l.length := by simp [addTo]
theorem addTo_at (l : List Tube) (k j : Nat) (n : Int) (hk : k < l.length) : tubeAt (addTo l k n) j = if j = k then ⟨(tubeAt l k).value, (tubeAt l k).count + n, (tubeAt l k).most⟩ else tubeAt l j := by
  unfold addTo
  by_cases e : j = k
  · subst e
    simp [tubeAt, List.getD_eq_getElem?_getD, hk]
  · have e' : ¬ k = j := fun h => e h.symm
    simp [tubeAt, List.getD_eq_getElem?_getD, e, e']
theorem addTo_val (l : List Tube) (k j : Nat) (n : Int) (hk : k < l.length) : (tubeAt (addTo l k n) j).value = (tubeAt l j).value ∧ (tubeAt (addTo l k n) j).most = (tubeAt l j).most := by
  rw [addTo_at l k j n hk]
  by_cases e : j = k
  · subst e; simp
  · simp [e]
theorem addTo_ok {l : List Tube} {k : Nat} {n : Int} (ho : OkTubes l) (hk : k < l.length) (h0 : 0 ≤ (tubeAt l k).count + n) (h1 : (tubeAt l k).count + n ≤ (tubeAt l k).most) : OkTubes (addTo l k n) := by
  refine ⟨by rw [addTo_len]; exact ho.len, fun i hi => ?_⟩
  rw [addTo_len] at hi
  have o := ho.ok i hi
  obtain ⟨hv, hm⟩ := addTo_val l k i n hk
  refine ⟨by rw [hv]; exact o.v0, by rw [hv]; exact o.v1, fun h => ?_, by rw [hm]; exact o.m0, by rw [hm]; exact o.m1, ?_, ?_⟩
  · rw [hv, (addTo_val l k (i - 1) n hk).1]; exact o.up h
  · rw [addTo_at l k i n hk]
    split
    · exact h0
    · exact o.c0
  · rw [hm, addTo_at l k i n hk]
    split
    · next e => subst e; exact h1
    · exact o.c1
theorem addTo_tot (l : List Tube) (k : Nat) (n : Int) (hk : k < l.length) : totT (addTo l k n) = totT l + n * (tubeAt l k).value := by
  unfold addTo totT totL
  rw [List.map_set, sum_set _ _ _ (by simpa using hk)]
  have : (List.map (fun t : Tube => t.value * t.count) l).getD k 0 = (tubeAt l k).value * (tubeAt l k).count := by
    simp [tubeAt, List.getD_eq_getElem?_getD, List.getElem?_eq_getElem hk]
  rw [this]
  simp only
  rw [Int.mul_add, Int.mul_comm n]
  omega
/-- The tubes behind i of the coins that were given. -/
def lessTo (l : List Tube) (f : List Int) : Nat → List Tube
  | 0 => l
  | i + 1 => addTo (lessTo l f i) i (- f.getD i 0)
theorem lessTo_len (l : List Tube) (f : List Int) (i : Nat) : (lessTo l f i).length = l.length := by
  induction i with
  | zero => rfl
  | succ i ih => simp only [lessTo, addTo_len, ih]
theorem lessTo_at (l : List Tube) (f : List Int) (i j : Nat) (hi : i ≤ j) (hj : i ≤ l.length) : tubeAt (lessTo l f i) j = tubeAt l j := by
  induction i with
  | zero => rfl
  | succ i ih =>
    simp only [lessTo]
    rw [addTo_at _ _ _ _ (by rw [lessTo_len]; omega), if_neg (by omega)]
    exact ih (by omega) (by omega)
theorem lessTo_val (l : List Tube) (f : List Int) (i j : Nat) (hj : i ≤ l.length) : (tubeAt (lessTo l f i) j).value = (tubeAt l j).value := by
  induction i with
  | zero => rfl
  | succ i ih =>
    simp only [lessTo]
    rw [(addTo_val _ _ _ _ (by rw [lessTo_len]; omega)).1]
    exact ih (by omega)
theorem lessTo_ok {l : List Tube} {f : List Int} (ho : OkTubes l) (hf : ∀ k, k < l.length → 0 ≤ f.getD k 0 ∧ f.getD k 0 ≤ (tubeAt l k).count) (i : Nat) (hi : i ≤ l.length) : OkTubes (lessTo l f i) := by
  induction i with
  | zero => exact ho
  | succ i ih =>
    have a := lessTo_at l f i i (Nat.le_refl _) (by omega)
    have b := hf i (by omega)
    have c := (ho.ok i (by omega)).c1
    exact addTo_ok (ih (by omega)) (by rw [lessTo_len]; omega) (by rw [a]; omega) (by rw [a]; omega)
theorem lessTo_tot {l : List Tube} {f : List Int} (hl : f.length = l.length) (i : Nat) (hi : i ≤ l.length) : totT (lessTo l f i) = totT l - ((worthL l f).take i).sum := by
  induction i with
  | zero => simp [lessTo]
  | succ i ih =>
    have hw := worthL_len l f (by omega)
    have hg := worthL_get l f i (by omega) (by omega)
    have hn := sum_next (worthL l f) i (by omega)
    simp only [lessTo]
    rw [addTo_tot _ _ _ (by rw [lessTo_len]; omega), ih (by omega), lessTo_val _ _ _ _ (by omega), hn, hg, Int.neg_mul]
    omega
theorem lessTo_all {l : List Tube} {f : List Int} (hl : f.length = l.length) : totT (lessTo l f l.length) = totT l - worthM l f := by
  rw [lessTo_tot hl _ (Nat.le_refl _), List.take_of_length_le (by rw [worthL_len l f (by omega)]; omega)]
  rfl
structure MOk (m : Mach) (N : Int) : Prop where
  tub : OkTubes m.tubes
  tlen : m.takes.length ≤ 1000
  tak : ∀ x ∈ m.takes, 0 ≤ x ∧ x ≤ 20000
  s60 : m.slots.length ≤ 60
  slo : ∀ i, i < m.slots.length → 1 ≤ (slotAt m.slots i).price ∧ (slotAt m.slots i).price ≤ 20000 ∧ 0 ≤ (slotAt m.slots i).count ∧ (slotAt m.slots i).count ≤ 1000
  jam : m.jam.length = m.slots.length
  sol : m.sold.length = m.slots.length
  high : m.high ≤ 20000
  cred : m.credit = m.esc.sum
  credh : m.credit ≤ m.high
  esc : ∀ x ∈ m.esc, 0 ≤ x ∧ x ≤ 20000
  elen : m.esc.length ≤ N
  inn : 0 ≤ m.inn ∧ m.inn ≤ N * 1000000000000
  out : 0 ≤ m.out ∧ m.out ≤ N * 1000000000000
  filled : 0 ≤ m.filled ∧ m.filled ≤ N * 1000000000000
  box : 0 ≤ m.box ∧ 0 ≤ m.collected ∧ m.box + m.collected ≤ N * 1000000000000
  sval : ∀ x ∈ m.sold, 0 ≤ x.many ∧ x.many ≤ N ∧ 0 ≤ x.value ∧ x.value ≤ N * 20000

/-! What Machine.Press does: its words. -/
attribute [local go_sem ↓] Go.wp_at_zero Go.wp_at_succ

def tallyAt (l : List Tally) (i : Nat) : Tally := l.getD i ⟨⟨#[]⟩, 0, 0⟩
theorem tallyAt_get {l : List Tally} {k : Nat} (h : k < l.length) : tallyAt l k = l[k] := getD_eq l k _ h
theorem slotAt_get {l : List Slot} {k : Nat} (h : k < l.length) : slotAt l k = l[k] := getD_eq l k _ h
theorem worthM_nonneg {l : List Tube} {add : List Int} (ho : OkTubes l) (ha : OkAdd l add) : 0 ≤ worthM l add := by
  have hl := worthL_len l add (by rw [ha.1]; exact Nat.le_refl _)
  have := sum_bound_all (worthL l add) 0 10000000000 (by decide) (by decide) (fun z hz => ⟨?_, ?_⟩)
  · unfold worthM; omega
  · obtain ⟨k, hk, rfl⟩ := List.getElem_of_mem hz
    have hg := worthL_get l add k (by rw [ha.1]; exact Nat.le_refl _) (by omega)
    rw [getD_eq _ _ _ hk] at hg
    rw [hg]
    have h1 := ha.2 _ (show add.getD k 0 ∈ add by rw [getD_eq _ _ _ (by omega)]; exact List.getElem_mem _)
    have h2 := (ho.ok k (by have := ha.1; omega)).v0
    exact Int.mul_nonneg h1.1 (by omega)
  · exact (worthL_mem l add (by rw [ha.1]; exact Nat.le_refl _) ho (fun x hx => by have := ha.2 x hx; omega) z hz).2
theorem MachV.newTubes {w : World} {base M : Nat} {m : Mach} {tv kv sv jv ev dv : Value} (h : MachV w base M m tv kv sv jv ev dv) {l : List Tube} {tv' : Value} (ho : w.ownsRow base 41 3 tv' l.length (tubes l)) :
    MachV (w.setCell ⟨M, 0, none⟩ tv') base M { m with tubes := l } tv' kv sv jv ev dv := by
  have g : w.grownBy (w.setCell ⟨M, 0, none⟩ tv') (some M) := gr_set (q := ⟨M, 0, none⟩) (gr_refl w (some M)) rfl tv'
  exact ⟨heap_setCell_same w M 0 _ _ tv' h.blk, own_keep ho g (.inr (own_ne ho h.blk (by decide))), own_keep h.k g (.inr (own_ne h.k h.blk (by decide))), own_keep h.s g (.inr (own_ne h.s h.blk (by decide))), own_keep h.j g (.inr (own_ne h.j h.blk (by decide))), own_keep h.e g (.inr (own_ne h.e h.blk (by decide))), own_keep h.d g (.inr (own_ne h.d h.blk (by decide))), h.sep, h.low⟩
theorem MachV.noEsc {w : World} {base M : Nat} {m : Mach} {tv kv sv jv ev dv : Value} (h : MachV w base M m tv kv sv jv ev dv) :
    MachV (w.setCell ⟨M, 5, none⟩ (.slice none 0 0)) base M { m with esc := [] } tv kv sv jv (.slice none 0 0) dv := by
  have g : w.grownBy (w.setCell ⟨M, 5, none⟩ (.slice none 0 0)) (some M) := gr_set (q := ⟨M, 5, none⟩) (gr_refl w (some M)) rfl _
  exact ⟨heap_setCell_same w M 5 _ _ _ h.blk, own_keep h.t g (.inr (own_ne h.t h.blk (by decide))), own_keep h.k g (.inr (own_ne h.k h.blk (by decide))), own_keep h.s g (.inr (own_ne h.s h.blk (by decide))), own_keep h.j g (.inr (own_ne h.j h.blk (by decide))), World.ownsRow_nil _ _ _ _, own_keep h.d g (.inr (own_ne h.d h.blk (by decide))), fun _ _ => by simp [Value.ownBlock], h.low⟩
theorem MachV.solded {w w1 : World} {base M : Nat} {m : Mach} {tv kv sv jv ev dv : Value} (h : MachV w base M m tv kv sv jv ev dv) (l : List Tally) {n : Nat} (hl : l.length = n) (g : w.grownBy w1 dv.ownBlock) (ho : w1.ownsRow base 79 3 dv n (flat encTally l)) :
    MachV w1 base M { m with sold := l } tv kv sv jv ev dv := by
  have off : ∀ {e z n : Nat} {v : Value} {xs : List Value}, w.ownsRow base e z v n xs → e ≠ 79 → w1.ownsRow base e z v n xs := by
    intro e z n v xs hh he
    exact own_keepU hh h.d he g
  exact ⟨(g.block M (lt_of_block h.blk) (fun e => own_ne h.d h.blk (by decide) e.symm)).trans h.blk, off h.t (by decide), off h.k (by decide), off h.s (by decide), off h.j (by decide), off h.e (by decide), by rw [hl]; exact ho, h.sep, h.low⟩
theorem MachV.slotted {w w1 : World} {base M : Nat} {m : Mach} {tv kv sv jv ev dv : Value} (h : MachV w base M m tv kv sv jv ev dv) (l : List Slot) {n : Nat} (hl : l.length = n) (g : w.grownBy w1 sv.ownBlock) (ho : w1.ownsRow base 43 5 sv n (flat encSlot l)) :
    MachV w1 base M { m with slots := l } tv kv sv jv ev dv := by
  have off : ∀ {e z n : Nat} {v : Value} {xs : List Value}, w.ownsRow base e z v n xs → e ≠ 43 → w1.ownsRow base e z v n xs := by
    intro e z n v xs hh he
    exact own_keepU hh h.s he g
  exact ⟨(g.block M (lt_of_block h.blk) (fun e => own_ne h.s h.blk (by decide) e.symm)).trans h.blk, off h.t (by decide), off h.k (by decide), by rw [hl]; exact ho, off h.j (by decide), off h.e (by decide), off h.d (by decide), h.sep, h.low⟩
/-- A block of another type was written. -/
theorem MachV.keepOff {w w1 : World} {base M R tR : Nat} {m : Mach} {tv kv sv jv ev dv : Value} {cs : Array Value} (h : MachV w base M m tv kv sv jv ev dv) (hR : w.heap[R]? = some (.cells cs tR (0, 0))) (hn : ∀ e ∈ [139, 41, 3, 43, 4, 79], e ≠ tR) (g : w.grownBy w1 (some R)) : MachV w1 base M m tv kv sv jv ev dv := by
  have hMR : M ≠ R := by
    intro e
    have h1 := h.blk
    rw [e, hR] at h1
    injection h1 with h1
    injection h1 with _ h1
    exact hn _ (by simp) h1.symm
  exact ⟨(g.block M (lt_of_block h.blk) (fun e => hMR (by injection e))).trans h.blk, own_keep h.t g (.inr (own_ne h.t hR (hn _ (by simp)))), own_keep h.k g (.inr (own_ne h.k hR (hn _ (by simp)))), own_keep h.s g (.inr (own_ne h.s hR (hn _ (by simp)))), own_keep h.j g (.inr (own_ne h.j hR (hn _ (by simp)))), own_keep h.e g (.inr (own_ne h.e hR (hn _ (by simp)))), own_keep h.d g (.inr (own_ne h.d hR (hn _ (by simp)))), h.sep, h.low⟩
def PressM (m : Mach) (k : Nat) (add f : List Int) (rest : Int) : Mach :=
  { m with tubes := lessTo (settledT m.tubes add) f m.tubes.length, box := m.box + (rest + restT m.tubes add), inn := m.inn + m.credit, out := m.out + (m.credit - (slotAt m.slots k).price), credit := 0, esc := [],
           sold := m.sold.set k ⟨(tallyAt m.sold k).key, (tallyAt m.sold k).many + 1, (tallyAt m.sold k).value + (slotAt m.slots k).price⟩,
           slots := m.slots.set k ⟨(slotAt m.slots k).key, (slotAt m.slots k).prod, (slotAt m.slots k).price, (slotAt m.slots k).most, (slotAt m.slots k).count - 1⟩ }
def SaleV (z : Value) : Prop := ∃ (s : ByteArray) (n : Int) (a : Option Addr) (k c : Nat), z = .agg #[.string s, .int .i64 n, .slice a k c]
def PressPost (m : Mach) (base M : Nat) (tv kv sv jv ev dv : Value) (w : World) (e : Ending) (w' : World) : Prop :=
  (∃ z r, e = .returned (.tuple #[z, .int .i64 r]) ∧ SaleV z ∧ r ≠ 0 ∧ w.grownBy w' none) ∨
  (∃ z, e = .returned (.tuple #[z, .int .i64 0]) ∧ SaleV z ∧ ∃ k add f rest tv', k < m.slots.length ∧ OkAdd m.tubes add ∧ 0 ≤ rest ∧ worthM m.tubes add + rest = m.esc.sum ∧ f.length = m.tubes.length ∧
    (∀ k, k < m.tubes.length → 0 ≤ f.getD k 0 ∧ f.getD k 0 ≤ (tubeAt (settledT m.tubes add) k).count) ∧ 1 ≤ (slotAt m.slots k).count ∧ (slotAt m.slots k).price ≤ m.credit ∧ worthM (settledT m.tubes add) f = m.credit - (slotAt m.slots k).price ∧
    MachV w' base M (PressM m k add f rest) tv' kv sv jv (.slice none 0 0) dv ∧ grS w w' (MachW M tv sv ev dv))

/-! What the operations of a machine keep: of no program. -/

theorem cfgSlots_key (l : List Int) (k i : Nat) : ∀ s ∈ (cfgSlots l k i).1, s.key.size ≤ 100 ∧ s.prod.size ≤ 100 := by
  have hs : ∀ j i, (cfgSlot l j i).key.size ≤ 100 ∧ (cfgSlot l j i).prod.size ≤ 100 := by
    intro j i
    constructor
    · show (keyABC i).size ≤ 100
      unfold keyABC
      split
      · decide
      · split <;> decide
    · have := oneS_mem l (j + 1) [⟨#[99, 97, 110]⟩, ⟨#[98, 97, 114]⟩] (by decide)
      simp only [List.mem_cons, List.not_mem_nil, or_false] at this
      show (oneS l (j + 1) [⟨#[99, 97, 110]⟩, ⟨#[98, 97, 114]⟩]).size ≤ 100
      rcases this with h | h <;> rw [h] <;> decide
  induction i with
  | zero => intro s h; simp [cfgSlots] at h
  | succ i ih =>
    intro s h
    simp only [cfgSlots] at h
    split at h
    · rcases List.mem_append.1 h with h | h
      · exact ih s h
      · simp only [List.mem_cons, List.not_mem_nil, or_false] at h
        rw [h]; exact hs _ _
    · split at h
      · rcases List.mem_append.1 h with h | h
        · exact ih s h
        · simp only [List.mem_cons, List.not_mem_nil, or_false] at h
          rw [h]; exact hs _ _
      · exact ih s h
theorem cfgM_small (l : List Int) (k : Nat) : (cfgM l k).1.tubes.length ≤ 10 ∧ (cfgM l k).1.takes.length ≤ 10 ∧ (cfgM l k).1.slots.length ≤ 10 ∧ ∀ s ∈ (cfgM l k).1.slots, s.key.size ≤ 100 ∧ s.prod.size ≤ 100 := by
  have h1 := tubesTo_len l k 5
  have h2 := cfgSlots_len l (tubesK l k + 1) 3
  have h3 := cfgSlots_key l (tubesK l k + 1) 3
  have h0 : (cfg0 l k).tubes.length ≤ 5 ∧ (cfg0 l k).takes.length = 6 ∧ (cfg0 l k).slots.length ≤ 3 ∧ ∀ s ∈ (cfg0 l k).slots, s.key.size ≤ 100 ∧ s.prod.size ≤ 100 := ⟨h1, rfl, h2, h3⟩
  obtain ⟨c, hc⟩ : ∃ c, c = cfg0 l k := ⟨_, rfl⟩
  unfold cfgM
  rw [← hc] at h0 ⊢
  obtain ⟨a1, a2, a3, a4⟩ := h0
  split
  · unfold cfgTurn
    split
    · refine ⟨by simp; omega, by simp; omega, by simp; omega, a4⟩
    · split
      · refine ⟨by simp; omega, by simp; omega, by simp; omega, a4⟩
      · split
        · refine ⟨by simp; omega, by simp; omega, by simp; omega, fun s hs => ?_⟩
          rcases List.mem_append.1 hs with hs | hs
          · exact a4 s hs
          · simp only [List.mem_cons, List.not_mem_nil, or_false] at hs
            rw [hs]
            constructor
            · have := oneS_mem l (cfgJ l k + 2) [⟨#[]⟩, ⟨#[97]⟩, ⟨#[100]⟩] (by decide)
              simp only [List.mem_cons, List.not_mem_nil, or_false] at this
              show (oneS l (cfgJ l k + 2) [⟨#[]⟩, ⟨#[97]⟩, ⟨#[100]⟩]).size ≤ 100
              rcases this with h | h | h <;> rw [h] <;> decide
            · have := oneS_mem l (cfgJ l k + 3) [⟨#[]⟩, ⟨#[99, 97, 110]⟩] (by decide)
              simp only [List.mem_cons, List.not_mem_nil, or_false] at this
              show (oneS l (cfgJ l k + 3) [⟨#[]⟩, ⟨#[99, 97, 110]⟩]).size ≤ 100
              rcases this with h | h <;> rw [h] <;> decide
        · split
          · exact ⟨by simp; omega, by simp; omega, by simp, fun s hs => by simp at hs⟩
          · split
            · exact ⟨by simp; omega, by simp; omega, by simp; omega, a4⟩
            · exact ⟨by simp; omega, by simp; omega, by simp; omega, a4⟩
  · exact ⟨by show c.tubes.length ≤ 10; omega, by show c.takes.length ≤ 10; omega, by show c.slots.length ≤ 10; omega, a4⟩

def soldT (l : List Tally) : Int := (l.map Tally.value).sum
structure Even (m : Mach) (start : Int) : Prop where
  coins : totT m.tubes + m.box = start + m.inn - m.out + m.filled - m.collected
  sold : m.inn - m.out = soldT m.sold
theorem MOk.more {m : Mach} {N : Int} (h : MOk m N) : MOk m (N + 1) :=
  ⟨h.tub, h.tlen, h.tak, h.s60, h.slo, h.jam, h.sol, h.high, h.cred, h.credh, h.esc, by have := h.elen; omega, by have := h.inn; omega, by have := h.out; omega, by have := h.filled; omega, by have := h.box; omega,
    fun x hx => by have := h.sval x hx; omega⟩
theorem MOk.new {c : Cfg} (h : CfgOk c) (N : Int) (hN : 0 ≤ N) : MOk (machNew c c.slots.length) N where
  tub := h.tub
  tlen := by have := h.tlen; show c.takes.length ≤ 1000; omega
  tak := fun x hx => by
    obtain ⟨i, hi, rfl⟩ := List.getElem_of_mem hx
    have := h.tak i hi
    have e : c.takes.getD i 0 = c.takes[i] := getD_eq _ _ _ hi
    have h1 := this.v0
    have h2 := this.v1
    rw [e] at h1 h2
    show 0 ≤ c.takes[i] ∧ c.takes[i] ≤ 20000
    omega
  s60 := h.s60
  slo := fun i hi => by have := h.slo i hi; exact ⟨this.p0, this.p1, this.c0, by have h1 := this.c1; have h2 := this.m1; show (slotAt c.slots i).count ≤ 1000; omega⟩
  jam := by simp [machNew]
  sol := by simp [machNew]
  high := h.h1
  cred := rfl
  credh := by have := h.h0; show (0 : Int) ≤ c.high; omega
  esc := fun x hx => by simp [machNew] at hx
  elen := by show ((0 : Nat) : Int) ≤ N; omega
  inn := ⟨Int.le_refl _, by show (0 : Int) ≤ _; omega⟩
  out := ⟨Int.le_refl _, by show (0 : Int) ≤ _; omega⟩
  filled := ⟨Int.le_refl _, by show (0 : Int) ≤ _; omega⟩
  box := ⟨Int.le_refl _, Int.le_refl _, by show (0 : Int) + 0 ≤ _; omega⟩
  sval := fun x hx => by
    simp only [machNew, List.mem_map] at hx
    obtain ⟨s, _, rfl⟩ := hx
    exact ⟨Int.le_refl _, hN, Int.le_refl _, by show (0 : Int) ≤ _; omega⟩
theorem Even.new (c : Cfg) (k : Nat) : Even (machNew c k) (totT c.tubes) where
  coins := by simp [machNew]
  sold := by
    have : ∀ l : List Slot, soldT (l.map fun s => (⟨s.key, 0, 0⟩ : Tally)) = 0 := by
      intro l
      induction l with
      | nil => rfl
      | cons s l ih => simp only [soldT, List.map_cons, List.sum_cons] at ih ⊢; omega
    simp only [machNew]
    rw [this]
    rfl
theorem MOk.insert {m : Mach} {N x : Int} (h : MOk m N) (hx0 : 0 ≤ x) (hx1 : x ≤ 20000) (hh : m.credit + x ≤ m.high) : MOk { m with esc := m.esc ++ [x], credit := m.credit + x } (N + 1) :=
  let g := h.more
  ⟨g.tub, g.tlen, g.tak, g.s60, g.slo, g.jam, g.sol, g.high, by have := h.cred; simp [this], hh, fun y hy => by
      rcases List.mem_append.1 hy with hy | hy
      · exact h.esc y hy
      · simp at hy; omega, by have := h.elen; simp; omega, g.inn, g.out, g.filled, g.box, g.sval⟩
theorem MOk.back {m : Mach} {N : Int} (h : MOk m N) (hN : 0 ≤ N) (hh : 0 ≤ m.high) : MOk { m with esc := [], credit := 0 } (N + 1) :=
  let g := h.more
  ⟨g.tub, g.tlen, g.tak, g.s60, g.slo, g.jam, g.sol, g.high, rfl, hh, fun y hy => by simp at hy, by simp; omega, g.inn, g.out, g.filled, g.box, g.sval⟩
theorem MOk.collect {m : Mach} {N : Int} (h : MOk m N) : MOk { m with box := 0, collected := m.collected + m.box } (N + 1) :=
  let g := h.more
  ⟨g.tub, g.tlen, g.tak, g.s60, g.slo, g.jam, g.sol, g.high, g.cred, g.credh, g.esc, g.elen, g.inn, g.out, g.filled, ⟨Int.le_refl _, by have := h.box; show 0 ≤ m.collected + m.box; omega, by have := g.box; show 0 + (m.collected + m.box) ≤ _; omega⟩, g.sval⟩
theorem Even.collect {m : Mach} {s : Int} (h : Even m s) : Even { m with box := 0, collected := m.collected + m.box } s := ⟨by have := h.coins; simp only; omega, h.sold⟩
theorem MOk.fill {m : Mach} {N x : Int} {k : Nat} (h : MOk m N) (hk : k < m.tubes.length) (hx0 : 0 ≤ x) (hx1 : x ≤ 20000) (hm : 1 ≤ (tubeAt m.tubes k).most - (tubeAt m.tubes k).count) : MOk { m with tubes := addTo m.tubes k 1, filled := m.filled + 1 * x } (N + 1) :=
  let g := h.more
  ⟨addTo_ok h.tub hk (by have := (h.tub.ok k hk).c0; omega) (by omega), g.tlen, g.tak, g.s60, g.slo, g.jam, g.sol, g.high, g.cred, g.credh, g.esc, g.elen, g.inn, g.out, by have := h.filled; simp only; omega, g.box, g.sval⟩
theorem Even.fill {m : Mach} {s x : Int} {k : Nat} (h : Even m s) (hk : k < m.tubes.length) (hv : (tubeAt m.tubes k).value = x) : Even { m with tubes := addTo m.tubes k 1, filled := m.filled + 1 * x } s := by
  refine ⟨?_, h.sold⟩
  have := h.coins
  simp only
  rw [addTo_tot _ _ _ hk, hv]
  omega
theorem soldT_set (l : List Tally) (k : Nat) (hk : k < l.length) (key : ByteArray) (n p : Int) : soldT (l.set k ⟨key, n, (tallyAt l k).value + p⟩) = soldT l + p := by
  unfold soldT
  rw [List.map_set, sum_set _ _ _ (by simpa using hk)]
  have : (List.map Tally.value l).getD k 0 = (tallyAt l k).value := by simp [tallyAt, List.getD_eq_getElem?_getD, List.getElem?_eq_getElem hk]
  rw [this]
  simp only
  omega
theorem slot_set (l : List Slot) (k i : Nat) (x : Slot) (hk : k < l.length) : slotAt (l.set k x) i = if i = k then x else slotAt l i := by
  by_cases e : i = k
  · subst e
    simp [slotAt, List.getD_eq_getElem?_getD, hk]
  · have e' : ¬ k = i := fun h => e h.symm
    simp [slotAt, List.getD_eq_getElem?_getD, e, e']
section
variable {m : Mach} {N s : Int} {k : Nat} {add f : List Int} {rest : Int}
theorem MOk.press (h : MOk m N) (hN : 0 ≤ N) (hN1 : N ≤ 1000) (hk : k < m.slots.length) (ha : OkAdd m.tubes add) (hr : 0 ≤ rest) (hsum : worthM m.tubes add + rest = m.esc.sum)
    (hf : ∀ k, k < m.tubes.length → 0 ≤ f.getD k 0 ∧ f.getD k 0 ≤ (tubeAt (settledT m.tubes add) k).count) (hc1 : 1 ≤ (slotAt m.slots k).count) (hp : (slotAt m.slots k).price ≤ m.credit) : MOk (PressM m k add f rest) (N + 1) := by
  have g := h.more
  have hl := settled_len m.tubes add ha.1
  have hcr : m.credit ≤ 20000 := by have := h.credh; have := h.high; omega
  have hsl := h.slo k hk
  have hrb := restT_bound m.tubes add h.tub ha
  have hw := worthM_nonneg h.tub ha
  have hcred := h.cred
  refine ⟨?_, g.tlen, g.tak, ?_, ?_, ?_, ?_, g.high, rfl, ?_, fun y hy => by simp [PressM] at hy, by simp [PressM]; omega, ?_, ?_, g.filled, ?_, ?_⟩
  · show OkTubes (lessTo (settledT m.tubes add) f m.tubes.length)
    exact lessTo_ok (settled_ok m.tubes add h.tub ha) (by rw [hl]; exact hf) _ (by rw [hl]; exact Nat.le_refl _)
  · simp [PressM]; exact h.s60
  · intro i hi
    have hi' : i < m.slots.length := by simpa [PressM] using hi
    simp only [PressM]
    rw [slot_set _ _ _ _ hk]
    split
    · simp only; omega
    · exact h.slo i hi'
  · simp [PressM]; exact h.jam
  · simp [PressM]; exact h.sol
  · show (0 : Int) ≤ m.high
    have := h.credh; omega
  · show 0 ≤ m.inn + m.credit ∧ m.inn + m.credit ≤ _
    have := h.inn; omega
  · show 0 ≤ m.out + _ ∧ m.out + _ ≤ _
    have := h.out; omega
  · show 0 ≤ m.box + _ ∧ 0 ≤ m.collected ∧ m.box + _ + m.collected ≤ _
    have := h.box; omega
  · intro x hx
    simp only [PressM] at hx
    have hkd : k < m.sold.length := by rw [h.sol]; exact hk
    rcases List.mem_or_eq_of_mem_set hx with h1 | h1
    · exact g.sval x h1
    · have := h.sval _ (List.getElem_mem hkd)
      rw [← tallyAt_get hkd] at this
      rw [h1]
      simp only
      omega
theorem Even.press (h : Even m s) (ok : MOk m N) (hk : k < m.slots.length) (ha : OkAdd m.tubes add) (hsum : worthM m.tubes add + rest = m.esc.sum) (hfl : f.length = m.tubes.length)
    (hw : worthM (settledT m.tubes add) f = m.credit - (slotAt m.slots k).price) : Even (PressM m k add f rest) s := by
  have hl := settled_len m.tubes add ha.1
  have h1 := settle_even m.tubes add ha.1
  have h2 := lessTo_all (l := settledT m.tubes add) (f := f) (by rw [hl]; exact hfl)
  rw [hl] at h2
  have h3 := h.coins
  have h4 := h.sold
  have h5 := ok.cred
  constructor
  · simp only [PressM]
    rw [h2, hw]
    omega
  · simp only [PressM]
    rw [soldT_set _ _ (by rw [ok.sol]; exact hk)]
    omega
end
end Go.Proofs.YtdjnomeabadbnaaDoor
