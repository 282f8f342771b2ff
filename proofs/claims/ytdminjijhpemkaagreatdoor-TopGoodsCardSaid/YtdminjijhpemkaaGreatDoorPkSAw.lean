/- The coils that a law makes stay right: pushed and sold. No program in sight. -/
import Derived.Test.YtdminjijhpemkaaGreatDoorPkSAu
import Derived.Test.YtdminjijhpemkaaGreatDoorPkSAv
import Derived.Test.YtdminjijhpemkaaGreatDoorPkSAb
namespace Go.Proofs.YtdminjijhpemkaaGreatDoor
open Go.RowKit

theorem many_le_sum (ps : List Piece) (h : ∀ x ∈ ps, 0 ≤ x.many) : ∀ x ∈ ps, x.many ≤ pcSum ps := by
  induction ps with
  | nil => intro x hx; cases hx
  | cons y ps ih =>
    have hy := h y (by simp)
    have hps : ∀ x ∈ ps, 0 ≤ x.many := fun x hx => h x (by simp [hx])
    have hs : 0 ≤ pcSum ps := by
      clear ih h hy
      induction ps with
      | nil => simp [pcSum]
      | cons z ps ih => rw [pcSum_cons]; have := hps z (by simp); have := ih (fun x hx => hps x (by simp [hx])); omega
    intro x hx
    rw [pcSum_cons]
    rcases List.mem_cons.1 hx with rfl | hx
    · omega
    · have := ih hps x hx; omega
theorem pcSum_nonneg (ps : List Piece) (h : ∀ x ∈ ps, 0 ≤ x.many) : 0 ≤ pcSum ps := by
  induction ps with
  | nil => simp [pcSum]
  | cons z ps ih => rw [pcSum_cons]; have := h z (by simp); have := ih (fun x hx => h x (by simp [hx])); omega
theorem CoilOk.los {c : Coil} (h : CoilOk c) : ∀ x ∈ c.ps, 1 ≤ x.many ∧ x.many ≤ 1000 := by
  intro x hx
  obtain ⟨i, hi, rfl⟩ := List.getElem_of_mem hx
  have hp := h.all i hi
  have e := pc_get c.ps i hi
  rw [e]
  exact ⟨hp.lo, hp.hi⟩
theorem CoilOk.keys {c : Coil} (h : CoilOk c) : ∀ x ∈ c.ps, keyB x.lot = true := by
  intro x hx
  obtain ⟨i, hi, rfl⟩ := List.getElem_of_mem hx
  have hp := h.all i hi
  have e := pc_get c.ps i hi
  rw [e]
  exact hp.key
/-- A right coil out of parts. -/
theorem coilOk_mk (P : ByteArray) (m : Int) (ps : List Piece) (h1 : keyB P = true) (h2 : 0 ≤ m) (h3 : m ≤ 1000) (hk : ∀ x ∈ ps, keyB x.lot = true) (hlo : ∀ x ∈ ps, 1 ≤ x.many) (hs : pcSum ps ≤ m) (hne : ∀ i, 0 < i → i < ps.length → (pcLot ps i).toList ≠ (pcLot ps (i - 1)).toList) : CoilOk ⟨P, m, ps⟩ := by
  have hle := many_le_sum ps (fun x hx => by have := hlo x hx; omega)
  have hlen : (ps.length : Int) ≤ pcSum ps := by
    clear hne hs hk h1 hle
    induction ps with
    | nil => simp [pcSum]
    | cons y ps ih =>
      rw [pcSum_cons]
      have := hlo y (by simp)
      have := ih (fun x hx => hlo x (by simp [hx]))
      simp only [List.length_cons]
      omega
  refine ⟨h1, h2, h3, by simp only; omega, fun i hi => ?_, hs⟩
  simp only at hi ⊢
  have e := pc_get ps i hi
  have hm := List.getElem_mem hi
  rw [e] at hm
  exact ⟨hk _ hm, hlo _ hm, by have := hle _ hm; simp only at this; omega, fun h0 => hne i h0 hi⟩
theorem pcLot_map (ps : List Piece) (i : Nat) : pcLot ps i = (ps.map Piece.lot).getD i ⟨#[]⟩ := by
  unfold pcLot
  rw [List.getD_eq_getElem?_getD, List.getD_eq_getElem?_getD, List.getElem?_map]
  cases ps[i]? <;> rfl
theorem coilOk_sell {c : Coil} (h : CoilOk c) (n : Int) (h0 : 0 ≤ n) (hs : n ≤ pcSum c.ps) : CoilOk ⟨c.prod, c.most, (sellL c.ps n).2⟩ := by
  obtain ⟨_, l2, l3, d, l4⟩ := sellL_law c.ps n h0 hs (fun x hx => (h.los x hx).1)
  have hlots : ∀ i, pcLot (sellL c.ps n).2 i = pcLot c.ps (d + i) := by
    intro i
    rw [pcLot_map, pcLot_map, l4, List.getD_eq_getElem?_getD, List.getElem?_drop, ← List.getD_eq_getElem?_getD]
  have hln : (sellL c.ps n).2.length = c.ps.length - d := by
    have := congrArg List.length l4
    simpa using this
  refine coilOk_mk _ _ _ h.key h.m0 h.m1 (fun x hx => ?_) l3 (by have := h.sum; omega) (fun i h1 h2 => ?_)
  · obtain ⟨i, hi, rfl⟩ := List.getElem_of_mem hx
    have e := pc_get (sellL c.ps n).2 i hi
    rw [e]
    simp only
    rw [hlots]
    exact (h.all (d + i) (by omega)).key
  · rw [hlots, hlots, show d + (i - 1) = d + i - 1 by omega]
    exact (h.all (d + i) (by omega)).ne (by omega)
theorem lotHas_key {xs : List Lot} {k : ByteArray} (h : LotsOk xs) (hk : lotHas xs k = true) : keyB k = true := by
  obtain ⟨x, hx, he⟩ := List.any_eq_true.1 hk
  have : x.id = k := bytes_of (by simpa [idIs] using he)
  rw [← this]
  exact (h.all x hx).id
theorem push_los {c : Coil} {xs : List Lot} {p : List Piece} (h : PushOk c xs p) : ∀ x ∈ c.ps ++ p, 1 ≤ x.many ∧ x.many ≤ 1000 := by
  intro x hx
  rcases List.mem_append.1 hx with hx | hx
  · exact h.coil.los x hx
  · obtain ⟨i, hi, rfl⟩ := List.getElem_of_mem hx
    have hp := h.fit i hi
    have e := pc_get p i hi
    rw [e]
    exact ⟨hp.lo, hp.hi⟩
theorem coilOk_push {c : Coil} {xs : List Lot} {p : List Piece} (hx : LotsOk xs) (h : PushOk c xs p) : CoilOk ⟨c.prod, c.most, joinL (c.ps ++ p)⟩ ∧ pcSum (joinL (c.ps ++ p)) = pcSum (c.ps ++ p) ∧ unitsL (joinL (c.ps ++ p)) = unitsL (c.ps ++ p) := by
  have hlo := push_los h
  obtain ⟨j1, j2, j3, j4⟩ := joinL_law (c.ps ++ p) (fun x hx => (hlo x hx).1)
  refine ⟨coilOk_mk _ _ _ h.coil.key h.coil.m0 h.coil.m1 (fun x hxx => ?_) j1.lo (by rw [j3, pcSum_app]; exact h.sum) j1.ne, j3, j2⟩
  obtain ⟨y, hy, e⟩ := j4 x hxx
  rw [e]
  rcases List.mem_append.1 hy with hy | hy
  · exact h.coil.keys y hy
  · obtain ⟨i, hi, rfl⟩ := List.getElem_of_mem hy
    have hp := h.fit i hi
    have e := pc_get p i hi
    rw [e]
    exact lotHas_key hx hp.has
theorem keyB_sm {k : ByteArray} (h : keyB k = true) : k.size ≤ 1000 := by
  have hs : k.size = k.data.toList.length := by simp
  unfold keyB at h
  rw [hs]
  generalize k.data.toList = l at h
  cases l with
  | nil => simp
  | cons c l =>
    simp only [keyL, Bool.and_eq_true, decide_eq_true_eq] at h
    omega
theorem coilM_most (l : List Int) (k : Nat) (h : CoilOk (coilM l k).1) : (coilM l k).1.most ≤ 30 := by
  have h1 := h.m1
  have hmo := pickM_mem l k [5, 10, 15, 30] (by decide)
  simp only [List.mem_cons, List.not_mem_nil, or_false] at hmo
  have hm : coilMost l k ≤ 30 := by unfold coilMost; omega
  unfold coilM at h1 ⊢
  generalize coilS l k = s at h1 ⊢
  generalize coilMost l k = m at hm h1 ⊢
  unfold coilEnd at h1 ⊢
  split at h1 <;> rename_i c1
  · rw [if_pos c1]
    split at h1 <;> rename_i c2
    · rw [if_pos c2]; exact hm
    · rw [if_neg c2]
      split at h1 <;> rename_i c3
      · rw [if_pos c3]
        have hp := pickM_mem l (s.k + 1 + 1) [-1, 0, 1001] (by decide)
        simp only [List.mem_cons, List.not_mem_nil, or_false] at hp
        simp only at h1 ⊢
        omega
      · rw [if_neg c3]
        split at h1 <;> rename_i c4
        · rw [if_pos c4]; exact hm
        · rw [if_neg c4]; exact hm
  · rw [if_neg c1]; exact hm
theorem coilM_len (l : List Int) (k : Nat) : (coilM l k).1.ps.length ≤ 6 := by
  have hn : coilN l k ≤ 3 := by
    have := nxt_range l (k + 1) 4 (by decide)
    unfold coilN; omega
  have hmo := pickM_mem l k [5, 10, 15, 30] (by decide)
  simp only [List.mem_cons, List.not_mem_nil, or_false] at hmo
  have hb := coilTo_bd l (k + 1 + 1) (coilMost l k) (by unfold coilMost; omega) (coilN l k)
  have hl : (coilS l k).ps.length ≤ 3 := by unfold coilS; omega
  unfold coilM
  generalize coilS l k = s at hl
  unfold coilEnd
  split
  · split
    · simp only; omega
    · split
      · simp only; omega
      · split <;> simp <;> omega
  · simp only; omega

/-! What stands while CoilsKeepOrder empties its coil. -/

theorem sellL_len (ps : List Piece) (n : Int) (h0 : 0 ≤ n) (hlo : ∀ x ∈ ps, 1 ≤ x.many) : ((sellL ps n).1.length : Int) ≤ n := by
  induction ps generalizing n with
  | nil => simp only [sellL, List.length_nil]; omega
  | cons p ps ih =>
    have hp := hlo p (by simp)
    simp only [sellL]
    split
    · simp only [List.length_nil]; omega
    · split
      · simp only [List.length_cons, List.length_nil]; omega
      · have := ih (n - p.many) (by omega) (fun x hx => hlo x (by simp [hx]))
        simp only [List.length_cons]; omega
theorem sum_zero_nil {ps : List Piece} (h : ∀ x ∈ ps, 1 ≤ x.many) (hs : pcSum ps = 0) : ps = [] := by
  cases ps with
  | nil => rfl
  | cons p ps =>
    rw [pcSum_cons] at hs
    have := h p (by simp)
    have := pcSum_nonneg ps (fun x hx => by have := h x (by simp [hx]); omega)
    omega
theorem lotGet_exp {xs : List Lot} (h : LotsOk xs) (k : ByteArray) : 0 ≤ (lotGet xs k).exp ∧ (lotGet xs k).exp ≤ 4000 := by
  unfold lotGet
  cases e : xs.find? (idIs k) with
  | none => simp
  | some x => have := h.all x (List.mem_of_find?_eq_some e); exact ⟨this.e0, this.e1⟩
/-- What stands while the coil is emptied: its variable T, the pieces R that are left, the pieces G that came out. -/
structure KeepInv (wr wb : World) (p lw : Nat) (l : List Int) (q T Bg : Nat) (P : ByteArray) (m : Int) (wa : Option Addr) (W : List Piece) (i : Nat) (R G : List Piece) (rv gv : Value) (lo hi : Nat) : Prop where
  bt : wr.heap[T]? = some (.cells #[.string P, .int .i64 m, rv] 44 (0, 0))
  row : RowAt wr lo hi rv R.length (flat encPc R)
  tlo : T < lo ∨ hi ≤ T
  hiw : hi ≤ wr.heap.size
  plo : p < lo
  pw : p < wb.heap.size
  pt : p < T
  tb : wb.heap.size ≤ T
  bb : wb.heap.size ≤ Bg
  bg : Bg ≤ wr.heap.size
  got : wr.ownsRow Bg 53 2 gv G.length (flat encPc G)
  sep : ∀ b, gv.ownBlock = some b → b < lo ∨ hi ≤ b
  want : CellsAt wr wa (flat encPc W)
  wsep : ∀ b off, wa = some ⟨b, off, none⟩ → b < Bg ∧ b ≠ T ∧ p < b
  str : StreamAt wr p lw l q
  gr : wb.grownBy wr (some p)
  units : unitsL W = unitsL G ++ unitsL R
  ok : CoilOk ⟨P, m, R⟩
  sum : pcSum R + (i : Int) ≤ 30
  glen : G.length ≤ 3 * i
theorem KeepInv.sm {wr wb : World} {p lw : Nat} {l : List Int} {kk T Bg : Nat} {P : ByteArray} {m : Int} {wa : Option Addr} {W : List Piece} {i : Nat} {R G : List Piece} {rv gv : Value} {lo hi : Nat} (h : KeepInv wr wb p lw l kk T Bg P m wa W i R G rv gv lo hi) :
    CoilSm ⟨P, m, R⟩ ∧ 0 ≤ pcSum R := by
  refine ⟨⟨keyB_sm h.ok.key, h.ok.len, fun x hx => ?_⟩, pcSum_nonneg R (fun x hx => by have := (h.ok.los x hx).1; omega)⟩
  have h1 := h.ok.keys x hx
  have h2 := h.ok.los x hx
  exact ⟨keyB_sm h1, by omega, by omega⟩
/-- Growth that writes nothing of it. -/
theorem KeepInv.keep0 {wr w1 wb : World} {p lw : Nat} {l : List Int} {kk T Bg : Nat} {P : ByteArray} {m : Int} {wa : Option Addr} {W : List Piece} {i : Nat} {R G : List Piece} {rv gv : Value} {lo hi : Nat} (h : KeepInv wr wb p lw l kk T Bg P m wa W i R G rv gv lo hi) (g : wr.grownBy w1 none) :
    KeepInv w1 wb p lw l kk T Bg P m wa W i R G rv gv lo hi :=
  ⟨(g.block T (lt_of_block h.bt) (by simp)).trans h.bt, h.row.keep0 g, h.tlo, Nat.le_trans h.hiw g.size, h.plo, h.pw, h.pt, h.tb, h.bb, Nat.le_trans h.bg g.size, own_keep0 h.got g, h.sep, h.want.keep0 g, h.wsep, h.str.keep0 g, gr_trans h.gr (gr_weak g _), h.units, h.ok, h.sum, h.glen⟩
/-- The stream goes on. -/
theorem KeepInv.draw {wr w1 wb : World} {p lw : Nat} {l : List Int} {kk k2 T Bg : Nat} {P : ByteArray} {m : Int} {wa : Option Addr} {W : List Piece} {i : Nat} {R G : List Piece} {rv gv : Value} {lo hi : Nat} (h : KeepInv wr wb p lw l kk T Bg P m wa W i R G rv gv lo hi) (g : wr.grownBy w1 (some p)) (hs : StreamAt w1 p lw l k2) :
    KeepInv w1 wb p lw l k2 T Bg P m wa W i R G rv gv lo hi :=
  ⟨(g.block T (lt_of_block h.bt) (fun e => by have := h.pt; cases e; omega)).trans h.bt, h.row.keep g (fun q e => by have := h.plo; cases e; omega), h.tlo, Nat.le_trans h.hiw g.size, h.plo, h.pw, h.pt, h.tb, h.bb, Nat.le_trans h.bg g.size, own_keepS h.got g (by have := h.bb; have := h.pw; omega), h.sep, h.want.keep g (fun b off e e2 => by have := (h.wsep b off e).2.2; cases e2; omega), h.wsep, hs, gr_trans h.gr g, h.units, h.ok, h.sum, h.glen⟩
/-- Units were sold, and what came out was put behind what had come out. -/
theorem KeepInv.step {wr w3 w5 wb : World} {p lw : Nat} {l : List Int} {kk T Bg : Nat} {P : ByteArray} {m : Int} {wa : Option Addr} {W : List Piece} {i : Nat} {R G R2 O2 : List Piece} {rv gv v gv2 : Value} {lo hi : Nat} {n : Int}
    (h : KeepInv wr wb p lw l kk T Bg P m wa W i R G rv gv lo hi) (h1 : 1 ≤ n) (h3 : n ≤ 3) (hs : n ≤ pcSum R) (e1 : O2 = (sellL R n).1) (e2 : R2 = (sellL R n).2)
    (g3 : wr.grownBy w3 none) (r3 : RowAt w3 wr.heap.size w3.heap.size v R2.length (flat encPc R2))
    (g5 : w3.grownBy w5 gv.ownBlock) (z5 : w3.heap.size ≤ w5.heap.size) (o5 : w5.ownsRow Bg 53 2 gv2 (G.length + O2.length) (flat encPc G ++ flat encPc O2)) (hf : ∀ k, gv2.ownBlock = some k → gv.ownBlock = some k ∨ w3.heap.size ≤ k) :
    KeepInv (((w5.setCell ⟨T, 0, none⟩ (.string P)).setCell ⟨T, 1, none⟩ (.int .i64 m)).setCell ⟨T, 2, none⟩ v) wb p lw l kk T Bg P m wa W (i + 1) R2 (G ++ O2) v gv2 wr.heap.size w3.heap.size := by
  obtain ⟨l1, l2, l3, d, l4⟩ := sellL_law R n (by omega) hs (fun x hx => (h.ok.los x hx).1)
  have lln := sellL_len R n (by omega) (fun x hx => (h.ok.los x hx).1)
  have lok := coilOk_sell h.ok n (by omega) hs
  simp only at lok
  rw [← e2] at l1 l2 l3 l4 lok
  rw [← e1] at l1 lln
  have hT := lt_of_block h.bt
  have hT3 := (g3.block T hT (by simp)).trans h.bt
  have hgl : ∀ b, gv.ownBlock = some b → Bg ≤ b ∧ b < wr.heap.size := fun b hb => h.got.lt b hb
  have hT5 := (g5.block T (lt_of_block hT3) (fun e => own_ne (own_keep0 h.got g3) hT3 (by decide) e.symm)).trans hT3
  have gs := set3R_gr w5 T (.string P) (.int .i64 m) v
  have hpw := h.str.lt
  refine ⟨set3R_heap hT5 _ _ _, ?_, .inl hT, ?_, hpw, h.pw, h.pt, h.tb, h.bb, ?_, ?_, ?_, ?_, h.wsep, ?_, ?_, ?_, lok, ?_, ?_⟩
  · exact (r3.keep g5 (fun b hb => .inl (hgl b hb).2)).keep gs (fun b hb => by cases hb; exact .inl hT)
  · exact Nat.le_trans z5 gs.size
  · exact Nat.le_trans h.bg (Nat.le_trans g3.size (Nat.le_trans z5 gs.size))
  · rw [List.length_append, flat_append]
    exact own_keep o5 gs (.inr (own_ne o5 hT5 (by decide)))
  · intro b hb
    rcases hf b hb with hb | hb
    · exact .inl (hgl b hb).2
    · exact .inr hb
  · refine ((h.want.keep0 g3).keep g5 (fun b off e e2 => ?_)).keep gs (fun b off e e2 => ?_)
    · have := (h.wsep b off e).1
      have := (hgl b e2.symm).1
      omega
    · have := (h.wsep b off e).2.1
      cases e2
      exact this rfl
  · refine ((h.str.keep0 g3).keep g5 (fun b hb => ?_)).keep gs (fun b hb => ?_)
    · have := (hgl b hb).1
      have := h.bb
      have := h.pw
      omega
    · cases hb; exact h.pt
  · refine gr_grown (gr_grown (gr_trans h.gr (gr_weak g3 _)) g5 (fun b hb => ?_)) gs (fun b hb => ?_)
    · exact Nat.le_trans h.bb (hgl b hb).1
    · cases hb; exact h.tb
  · rw [unitsL_app, h.units, l1, List.append_assoc]
  · have := h.sum; omega
  · rw [List.length_append]
    have := h.glen; omega
theorem unitsL_perm {a b : List Piece} (h : a.Perm b) : (unitsL a).Perm (unitsL b) := h.flatMap_right _
theorem pcSum_perm {a b : List Piece} (h : a.Perm b) : pcSum a = pcSum b := by
  induction h with
  | nil => rfl
  | cons x _ ih => rw [pcSum_cons, pcSum_cons, ih]
  | swap x y l => rw [pcSum_cons, pcSum_cons, pcSum_cons, pcSum_cons]; omega
  | trans _ _ ih1 ih2 => exact ih1.trans ih2
/-- What is known of pieces that the counts are made of. -/
structure PcsFine (ps : List Piece) : Prop where
  len : ps.length ≤ 1000
  all : ∀ x ∈ ps, 1 ≤ x.many ∧ x.many ≤ 100000 ∧ x.lot.size ≤ 1000
  ulen : (unitsL ps).length ≤ 1000
theorem pcsFine_of {ps : List Piece} (h : ∀ x ∈ ps, 1 ≤ x.many ∧ x.lot.size ≤ 1000) (hs : pcSum ps ≤ 1000) : PcsFine ps := by
  have hle := many_le_sum ps (fun x hx => by have := (h x hx).1; omega)
  have hlen : (ps.length : Int) ≤ pcSum ps := by
    clear hle hs
    induction ps with
    | nil => simp [pcSum]
    | cons y ps ih =>
      rw [pcSum_cons]
      have := (h y (by simp)).1
      have := ih (fun x hx => h x (by simp [hx]))
      simp only [List.length_cons]
      omega
  have hu := unitsL_len ps (fun i hi => by
    have e := pc_get ps i hi
    have := h _ (List.getElem_mem hi)
    rw [e] at this
    simp only at this
    omega)
  exact ⟨by omega, fun x hx => ⟨(h x hx).1, by have := hle x hx; omega, (h x hx).2⟩, by omega⟩
theorem cntU_key {ps : List Piece} (h : PcsFine ps) {s : ByteArray} {x : Int} (hx : cntU (unitsL ps) s = some x) : s.size ≤ 1000000 := by
  unfold cntU at hx
  split at hx
  · rename_i h0
    unfold cntN at h0
    obtain ⟨y, hy⟩ := List.exists_mem_of_length_pos h0
    rw [List.mem_filter] at hy
    have e : y = s := by simpa using hy.2
    subst e
    unfold unitsL at hy
    obtain ⟨p, hp, h2⟩ := List.mem_flatMap.1 hy.1
    rw [List.mem_replicate] at h2
    have := (h.all p hp).2.2
    rw [h2.2]; omega
  · cases hx
theorem MapIs.len {w : World} {b n : Nat} {f : ByteArray → Option Int} (h : MapIs w b n f) : ∃ k : Nat, SizeOf f k ∧ ∀ ty, (Builtin.len_ #[37] ty #[.map (some b)]).run Tryz.prog w = .ok (.int .i64 k) w := by
  obtain ⟨D, h1, h2⟩ := h
  exact ⟨_, ⟨D, h1.canon keyedS, h2, rfl⟩, h1.len Tryz.underlying37⟩
/-- What is rotated. -/
theorem rot_fine {xs : List Lot} {W O : List Piece} (hp : O.Perm W) (hs : Srt (rotCm xs) ⟨⟨#[]⟩, 0⟩ O W.length) (hW : ∀ x ∈ W, 1 ≤ x.many ∧ x.lot.size ≤ 1000) (hsum : pcSum W ≤ 1000) :
    PcsFine (joinL O) ∧ cntU (unitsL (joinL O)) = cntU (unitsL W) ∧ ∀ i, i + 1 < (joinL O).length → ¬ (lotGet xs ((joinL O).getD (i + 1) ⟨⟨#[]⟩, 0⟩).lot).exp - (lotGet xs ((joinL O).getD i ⟨⟨#[]⟩, 0⟩).lot).exp < 0 := by
  have hO : ∀ x ∈ O, 1 ≤ x.many ∧ x.lot.size ≤ 1000 := fun x hx => hW x (hp.mem_iff.1 hx)
  obtain ⟨j1, j2, j3, j4⟩ := joinL_law O (fun x hx => (hO x hx).1)
  refine ⟨pcsFine_of (fun x hx => ⟨j1.lo x hx, ?_⟩) (by rw [j3, pcSum_perm hp]; exact hsum), by rw [j2]; exact cntU_perm (unitsL_perm hp), fun i hi => ?_⟩
  · obtain ⟨y, hy, e⟩ := j4 x hx
    rw [e]; exact (hO y hy).2
  · have := joinL_mono (fun k => (lotGet xs k).exp) O (fun p q h1 h2 => by
      have := hs p q h1 (by rw [← hp.length_eq]; exact h2)
      rw [rotCm_neg] at this
      unfold pcLot
      have h3 : ¬ (lotGet xs (O.getD q ⟨⟨#[]⟩, 0⟩).lot).exp < (lotGet xs (O.getD p ⟨⟨#[]⟩, 0⟩).lot).exp := fun h => this (.inl h)
      omega) i hi
    unfold pcLot at this
    omega
end Go.Proofs.YtdminjijhpemkaaGreatDoor
