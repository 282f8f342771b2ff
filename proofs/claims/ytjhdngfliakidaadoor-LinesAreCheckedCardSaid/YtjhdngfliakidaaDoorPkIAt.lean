/- Readings, as the stream makes them: as a function; with where their values lie. -/
import Derived.Test.YtjhdngfliakidaaDoorPkIAk
import Derived.Test.YtjhdngfliakidaaDoorPkIAs
import Derived.Test.YtjhdngfliakidaaDoorPkIAb
import Derived.Test.YtjhdngfliakidaaDoorPkIAr
namespace Go.Proofs.YtjhdngfliakidaaDoor
open Go.RowKit

/-! Readings that are in memory: a reading with the place of its values. -/
structure SlV where
  a : Option Addr
  n : Nat
  c : Nat
structure RdC where
  at_ : Int
  v : SlV
def encC (x : RdC) : List Value := [.int .i64 x.at_, .slice x.v.a x.v.n x.v.c]
structure RdG where
  rd : Rd
  a : Option Addr
  c : Nat
def RdG.cell (g : RdG) : RdC := ⟨g.rd.at_, ⟨g.a, g.rd.vs.length, g.c⟩⟩
def cellsG (L : List RdG) : List Value := flat encC (L.map RdG.cell)
def rdsG (L : List RdG) : List Rd := L.map RdG.rd
theorem cellsG_app (L : List RdG) (x : RdG) : cellsG (L ++ [x]) = cellsG L ++ encC x.cell := by
  simp [cellsG, flat_append, flat_one]
theorem cellsG_len (L : List RdG) : (cellsG L).length = L.length * 2 := by
  induction L with
  | nil => rfl
  | cons x l ih =>
    have : cellsG (x :: l) = encC x.cell ++ cellsG l := by simp [cellsG, flat]
    rw [this, List.length_append, ih]
    simp [encC]; omega
theorem rdsG_app (L : List RdG) (x : RdG) : rdsG (L ++ [x]) = rdsG L ++ [x.rd] := by simp [rdsG]
theorem rdsG_len (L : List RdG) : (rdsG L).length = L.length := by simp [rdsG]

/-! What the stream makes. -/
structure RdsS where
  out : List Rd
  now : List Int
  at_ : Int
  j : Nat
def rdsATo (l : List Int) (k : Nat) (m : Mtr) : Nat → List Rd × Nat
  | 0 => ([], k)
  | i + 1 => ((rdsATo l k m i).1 ++ [rdOne l (rdsATo l k m i).2 m], rdK3 l (rdsATo l k m i).2 m)
def nowPick (m : Mtr) : List Int := [0, 1, 3, m.fast, 2 * m.fast, 40]
def nowTo (l : List Int) (k : Nat) (m : Mtr) (now : List Int) : Nat → List Int
  | 0 => now
  | i + 1 => (nowTo l k m now i).set i (((nowTo l k m now i).getD i 0 + pickM l (k + i) (nowPick m)) % m.turn)
def nowFlip (l : List Int) (j : Nat) (N : List Int) : List Int := if flipM l j 8 then N.set (nxt l (j + 1) N.length).toNat 0 else N
def nowJ (l : List Int) (j : Nat) : Nat := if flipM l j 8 then j + 1 + 1 else j + 1
def rdsStep (l : List Int) (m : Mtr) (s : RdsS) : RdsS :=
  ⟨s.out ++ [⟨s.at_, nowFlip l (s.j + s.now.length) (nowTo l s.j m s.now s.now.length)⟩], nowFlip l (s.j + s.now.length) (nowTo l s.j m s.now s.now.length), s.at_ + pickM l (nowJ l (s.j + s.now.length)) [1, 700, 1440, 4000], nowJ l (s.j + s.now.length) + 1⟩
def rdsBTo (l : List Int) (k : Nat) (m : Mtr) : Nat → RdsS
  | 0 => ⟨[], List.replicate m.cnt.toNat 0, nxt l k 2000, k + 1 + 1⟩
  | i + 1 => rdsStep l m (rdsBTo l k m i)
def rdsN (l : List Int) (k : Nat) : Nat := (nxt l (k + 1) 6).toNat
def rd0 : Rd := ⟨0, []⟩
def rdsB (l : List Int) (k : Nat) (m : Mtr) : RdsS := rdsBTo l k m (rdsN l k)
def rdsMore (l : List Int) (s : RdsS) : List Rd := if flipM l s.j 3 && decide (0 < s.out.length) then s.out ++ [s.out.getD (nxt l (s.j + 1) s.out.length).toNat rd0] else s.out
def rdsMoreJ (l : List Int) (s : RdsS) : Nat := if flipM l s.j 3 && decide (0 < s.out.length) then s.j + 1 + 1 else s.j + 1
def mixM (O : List Int) (R : List Rd) : List Rd := O.map fun k => R.getD k.toNat rd0
/-- 'right' is whether the meter is right. -/
def rdsM (l : List Int) (k : Nat) (m : Mtr) (right : Bool) : List Rd :=
  if right then (if flipM l k 6 then (rdsATo l (k + 1 + 1) m (nxt l (k + 1) 4).toNat).1 else mixM (ordM l (rdsMoreJ l (rdsB l (k + 1) m)) (rdsMore l (rdsB l (k + 1) m)).length) (rdsMore l (rdsB l (k + 1) m)))
  else (rdsATo l (k + 1) m (nxt l k 4).toNat).1
def rdsK (l : List Int) (k : Nat) (m : Mtr) (right : Bool) : Nat :=
  if right then (if flipM l k 6 then (rdsATo l (k + 1 + 1) m (nxt l (k + 1) 4).toNat).2 else rdsMoreJ l (rdsB l (k + 1) m) + ((rdsMore l (rdsB l (k + 1) m)).length - 1))
  else (rdsATo l (k + 1) m (nxt l k 4).toNat).2
theorem rdsATo_len (l : List Int) (k : Nat) (m : Mtr) (i : Nat) : (rdsATo l k m i).1.length = i := by
  induction i with
  | zero => rfl
  | succ i ih => simp [rdsATo, ih]
theorem rdsATo_j (l : List Int) (k : Nat) (m : Mtr) (i : Nat) : k ≤ (rdsATo l k m i).2 ∧ (rdsATo l k m i).2 ≤ k + 20 * i := by
  induction i with
  | zero => exact ⟨Nat.le_refl _, Nat.le_refl _⟩
  | succ i ih =>
    have := rdK3_le l (rdsATo l k m i).2 m
    simp only [rdsATo]
    omega
theorem nowTo_len (l : List Int) (k : Nat) (m : Mtr) (now : List Int) (i : Nat) : (nowTo l k m now i).length = now.length := by
  induction i with
  | zero => rfl
  | succ i ih => simp [nowTo, ih]
theorem nowFlip_len (l : List Int) (j : Nat) (N : List Int) : (nowFlip l j N).length = N.length := by
  unfold nowFlip; split <;> simp
theorem nowJ_le (l : List Int) (j : Nat) : j < nowJ l j ∧ nowJ l j ≤ j + 2 := by
  unfold nowJ; split <;> omega
theorem mem_set_all {P : Int → Prop} {L : List Int} (h : ∀ x ∈ L, P x) {i : Nat} {x : Int} (hx : P x) : ∀ y ∈ L.set i x, P y := by
  intro y hy
  rcases List.mem_or_eq_of_mem_set hy with h1 | h1
  · exact h y h1
  · rw [h1]; exact hx
def InTurn (t : Int) (N : List Int) : Prop := ∀ x ∈ N, 0 ≤ x ∧ x < t
theorem nowTo_in (l : List Int) (k : Nat) (m : Mtr) (ht : 1 ≤ m.turn) (now : List Int) (h : InTurn m.turn now) (i : Nat) : InTurn m.turn (nowTo l k m now i) := by
  induction i with
  | zero => exact h
  | succ i ih => exact mem_set_all ih ⟨Int.emod_nonneg _ (by omega), Int.emod_lt_of_pos _ (by omega)⟩
theorem nowFlip_in (l : List Int) (j : Nat) (t : Int) (ht : 1 ≤ t) (N : List Int) (h : InTurn t N) : InTurn t (nowFlip l j N) := by
  unfold nowFlip
  split
  · exact mem_set_all h ⟨by omega, by omega⟩
  · exact h
structure RdsOk (m : Mtr) (k i : Nat) (s : RdsS) : Prop where
  olen : s.out.length = i
  nlen : s.now.length = m.cnt.toNat
  nin : InTurn m.turn s.now
  a0 : 0 ≤ s.at_
  a1 : s.at_ ≤ 2000 + 4000 * i
  j0 : k ≤ s.j
  j1 : s.j ≤ k + 2 + 63 * i
  oin : ∀ r ∈ s.out, r.vs.length ≤ 60
theorem rdsBTo_ok (l : List Int) (k : Nat) (m : Mtr) (hm : MtrOk m) (i : Nat) : RdsOk m k i (rdsBTo l k m i) := by
  have hc1 := hm.c1
  have hc2 := hm.c2
  have ht1 := hm.t1
  induction i with
  | zero =>
    have := nxt_range l k 2000 (by decide)
    exact ⟨rfl, by simp [rdsBTo], fun x hx => by
      have := List.eq_of_mem_replicate hx
      omega, by simp only [rdsBTo]; omega, by simp only [rdsBTo]; omega, by simp only [rdsBTo]; omega, by simp only [rdsBTo]; omega, fun r h => by cases h⟩
  | succ i ih =>
    obtain ⟨h1, h2, h3, h4, h5, h6, h7, h8⟩ := ih
    have hj := nowJ_le l ((rdsBTo l k m i).j + (rdsBTo l k m i).now.length)
    have hp := pickM_mem l (nowJ l ((rdsBTo l k m i).j + (rdsBTo l k m i).now.length)) [1, 700, 1440, 4000] (by decide)
    simp only [List.mem_cons, List.not_mem_nil, or_false] at hp
    refine ⟨by simp [rdsBTo, rdsStep, h1], ?_, ?_, ?_, ?_, ?_, ?_, ?_⟩
    · simp only [rdsBTo, rdsStep, nowFlip_len, nowTo_len]; exact h2
    · simp only [rdsBTo, rdsStep]
      exact nowFlip_in _ _ _ (by omega) _ (nowTo_in _ _ _ (by omega) _ h3 _)
    · simp only [rdsBTo, rdsStep]; omega
    · simp only [rdsBTo, rdsStep]; omega
    · simp only [rdsBTo, rdsStep]; omega
    · simp only [rdsBTo, rdsStep]; omega
    · simp only [rdsBTo, rdsStep]
      intro r hr
      rcases List.mem_append.1 hr with hr | hr
      · exact h8 r hr
      · simp only [List.mem_cons, List.not_mem_nil, or_false] at hr
        rw [hr]
        simp only [nowFlip_len, nowTo_len]
        omega
theorem rdsN_le (l : List Int) (k : Nat) : rdsN l k ≤ 5 ∧ ((rdsN l k : Nat) : Int) = nxt l (k + 1) 6 := by
  have := nxt_range l (k + 1) 6 (by decide)
  unfold rdsN; omega
theorem rdsMore_len (l : List Int) (s : RdsS) : (rdsMore l s).length ≤ s.out.length + 1 := by
  unfold rdsMore; split <;> simp
theorem rdsMore_small (l : List Int) (s : RdsS) (h : ∀ r ∈ s.out, r.vs.length ≤ 60) : ∀ r ∈ rdsMore l s, r.vs.length ≤ 60 := by
  unfold rdsMore
  split
  · rename_i hc
    intro r hr
    rcases List.mem_append.1 hr with hr | hr
    · exact h r hr
    · simp only [List.mem_cons, List.not_mem_nil, or_false] at hr
      simp only [Bool.and_eq_true, decide_eq_true_eq] at hc
      have hq := nxt_range l (s.j + 1) s.out.length (by omega)
      rw [hr, getD_eq _ _ _ (by omega)]
      exact h _ (List.getElem_mem _)
  · exact h
theorem ordAt_order (l : List Int) (k n j : Nat) (hj : j ≤ n - 1) : IsOrder n (ordAt l k n j) := by
  induction j with
  | zero => exact List.Perm.refl _
  | succ j ih =>
    have h := ih (by omega)
    have hl := h.len
    have hr := nxt_range l (k + j) (((n - 1 - j : Nat) : Int) + 1) (by omega)
    exact order_swap h (i := n - 1 - j) (j := (nxt l (k + j) (((n - 1 - j : Nat) : Int) + 1)).toNat) (by omega) (by omega)
theorem ordM_order (l : List Int) (k n : Nat) : IsOrder n (ordM l k n) := ordAt_order l k n (n - 1) (Nat.le_refl _)
/-- What is small of them. -/
theorem rdsM_small (l : List Int) (k : Nat) (m : Mtr) (right : Bool) (hr : right = true → MtrOk m) : (rdsM l k m right).length ≤ 6 ∧ (∀ r ∈ rdsM l k m right, r.vs.length ≤ 60) ∧ rdsK l k m right ≤ k + 400 := by
  have hA : ∀ k i, ∀ r ∈ (rdsATo l k m i).1, r.vs.length ≤ 60 := by
    intro k i
    induction i with
    | zero => intro r h; cases h
    | succ i ih =>
      intro r h
      simp only [rdsATo] at h
      rcases List.mem_append.1 h with h | h
      · exact ih r h
      · simp only [List.mem_cons, List.not_mem_nil, or_false] at h
        rw [h]
        have := rdV2_len l (rdsATo l k m i).2 m
        simp only [rdOne]
        omega
  have n1 := nxt_range l k 4 (by decide)
  have n2 := nxt_range l (k + 1) 4 (by decide)
  unfold rdsM rdsK
  cases right with
  | false =>
    simp only [Bool.false_eq_true, if_false]
    have := rdsATo_j l (k + 1) m (nxt l k 4).toNat
    exact ⟨by rw [rdsATo_len]; omega, hA _ _, by omega⟩
  | true =>
    simp only [if_true]
    split
    · have := rdsATo_j l (k + 1 + 1) m (nxt l (k + 1) 4).toNat
      exact ⟨by rw [rdsATo_len]; omega, hA _ _, by omega⟩
    · have hb := rdsBTo_ok l (k + 1) m (hr rfl) (rdsN l (k + 1))
      have hn := rdsN_le l (k + 1)
      have hl := rdsMore_len l (rdsB l (k + 1) m)
      have h1 := hb.olen
      have h2 := hb.j1
      have hj : rdsMoreJ l (rdsB l (k + 1) m) ≤ (rdsB l (k + 1) m).j + 2 := by unfold rdsMoreJ; split <;> omega
      have e1 : (rdsB l (k + 1) m).out.length = rdsN l (k + 1) := h1
      have e2 : (rdsB l (k + 1) m).j ≤ k + 1 + 2 + 63 * rdsN l (k + 1) := h2
      have hs := rdsMore_small l (rdsB l (k + 1) m) hb.oin
      refine ⟨?_, ?_, ?_⟩
      · simp only [mixM, List.length_map]
        have := (ordM_order l (rdsMoreJ l (rdsB l (k + 1) m)) (rdsMore l (rdsB l (k + 1) m)).length).len
        omega
      · intro r hr
        simp only [mixM, List.mem_map] at hr
        obtain ⟨q, hq, rfl⟩ := hr
        have := ((ordM_order l (rdsMoreJ l (rdsB l (k + 1) m)) (rdsMore l (rdsB l (k + 1) m)).length).mem q).1 hq
        rw [getD_eq _ _ _ (by omega)]
        exact hs _ (List.getElem_mem _)
      · omega
end Go.Proofs.YtjhdngfliakidaaDoor

/-! Readings as elements of slices. -/
namespace Go.Proofs.YtjhdngfliakidaaDoor
open Go.RowKit
theorem eRd : ElemT Tryd.prog 80 70 (.agg #[.int .i64 0, .slice none 0 0]) 2 32 := ⟨by kernel_rfl, by kernel_rfl, by decide, by decide, by decide⟩
theorem cellsG_one (L : List RdG) : ∀ u ∈ cellsG L, u.oneCell' = true := flat_ones (enc := encC) (fun _ => rfl) _
/-- A slice of readings that is owned from a block on, and so are the readings' values. -/
structure Rds (w : World) (base : Nat) (v : Value) (L : List RdG) : Prop where
  row : w.ownsRow base 70 2 v L.length (cellsG L)
  vals : ∀ g ∈ L, w.ownsRow base 3 1 (.slice g.a g.rd.vs.length g.c) g.rd.vs.length (ints g.rd.vs)
theorem Rds.nil (w : World) (base : Nat) : Rds w base (.slice none 0 0) [] := ⟨World.ownsRow_nil _ _ _ _, fun _ h => by cases h⟩
theorem Rds.keep0 {w w1 : World} {base : Nat} {v : Value} {L : List RdG} (h : Rds w base v L) (g : w.grownBy w1 none) : Rds w1 base v L := ⟨own_keep0 h.row g, fun x hx => own_keep0 (h.vals x hx) g⟩
theorem Rds.keepS {w w1 : World} {base p : Nat} {v : Value} {L : List RdG} (h : Rds w base v L) (g : w.grownBy w1 (some p)) (hp : p < base) : Rds w1 base v L := ⟨own_keepS h.row g hp, fun x hx => own_keepS (h.vals x hx) g hp⟩
theorem Rds.base {w : World} {base base' : Nat} {v : Value} {L : List RdG} (h : Rds w base v L) (hb : base' ≤ base) : Rds w base' v L := ⟨own_base h.row hb, fun x hx => own_base (h.vals x hx) hb⟩
theorem Rds.shape {w : World} {base : Nat} {v : Value} {L : List RdG} (h : Rds w base v L) : ∃ a c, v = .slice a L.length c ∧ L.length ≤ c ∧ c ≤ maxLen := by
  obtain ⟨a, c, rfl, h1, h2, -, -⟩ := own_shape h.row
  exact ⟨a, c, rfl, h1, h2⟩
/-- One more, behind an append. -/
theorem Rds.push {W w9 : World} {base : Nat} {v v9 : Value} {L : List RdG} {x : RdG} (h : Rds W base v L) (hx : W.ownsRow base 3 1 (.slice x.a x.rd.vs.length x.c) x.rd.vs.length (ints x.rd.vs)) (ho : w9.ownsRow base 70 2 v9 (L.length + 1) (cellsG L ++ encC x.cell)) (g : W.grownBy w9 v.ownBlock) : Rds w9 base v9 (L ++ [x]) := by
  refine ⟨by rw [cellsG_app, List.length_append]; exact ho, fun y hy => ?_⟩
  rcases List.mem_append.1 hy with hy | hy
  · exact own_keepU (h.vals y hy) h.row (by decide) g
  · simp only [List.mem_cons, List.not_mem_nil, or_false] at hy
    subst hy
    exact own_keepU hx h.row (by decide) g
/-- What is read of an element. -/
theorem Rds.at {w : World} {base : Nat} {v : Value} {L : List RdG} (h : Rds w base v L) {k : Nat} (hk : k < L.length) : ∃ g c, v = .slice (some ⟨g, 0, none⟩) L.length c ∧ base ≤ g ∧ g < w.heap.size ∧ w.cell? ⟨g, k * 2, none⟩ = some (.int .i64 L[k].rd.at_) ∧ w.cell? ⟨g, k * 2 + 1, none⟩ = some (.slice L[k].a L[k].rd.vs.length L[k].c) := by
  obtain ⟨g, c, rfl, hb, hl, -, -⟩ := own_some h.row (by omega)
  obtain ⟨a, c2, e, -, -, hc, -⟩ := own_shape h.row
  cases e
  have hk2 : k < (L.map RdG.cell).length := by simpa using hk
  obtain ⟨b, off, e, hcs⟩ := flat_cells (enc := encC) (m := 2) (fun _ => rfl) (by decide) (l := L.map RdG.cell) hc (by omega)
  cases e
  have e2 : (L.map RdG.cell)[k] = L[k].cell := by simp
  have h0 := hcs k hk2 0 _ (by rw [e2]; rfl)
  have h1 := hcs k hk2 1 _ (by rw [e2]; rfl)
  rw [Nat.zero_add] at h0 h1
  exact ⟨g, c, rfl, hb, hl, h0, h1⟩
end Go.Proofs.YtjhdngfliakidaaDoor

/-! Equality of rows of ints, and of readings. -/
namespace Go.Proofs.YtjhdngfliakidaaDoor
open Go.RowKit

set_option maxRecDepth 100000 in
theorem equalD_int (xs ys : List Int) (a b : Option Addr) (c d : Nat) (w : World) (ha : CellsAt w a (ints xs)) (hb : CellsAt w b (ints ys)) (hl2 : ys.length ≤ 1000000) :
    Calls Tryd.prog 69 #[.slice a xs.length c, .slice b ys.length d] w fun e w' => e = .returned (.bool (decide (xs = ys))) ∧ w.grownBy w' none := by
  by_cases hlen : xs.length = ys.length
  · have hne : ((xs.length : Int) != (ys.length : Int)) = false := by simp [hlen]
    have HLEN := Lib.hid hlen
    have hle : xs.length ≤ ys.length := by omega
    clear hlen
    go_enter Tryd.func69, Tryd.ntmps69
    go_wp2_with (fail)
    go_loopw [13] (fun i wr => ∃ k : Nat, k ≤ xs.length ∧ i = .int .i64 k ∧ Hid (∀ j, j < k → xs[j]? = ys[j]?) ∧ w.grownBy wr none) (fun i _ => xs.length - (intOf i).toNat)
    case atStart => exact ⟨0, Nat.zero_le _, rfl, fun j hj => absurd hj (Nat.not_lt_zero _), gr_refl _ _⟩
    case round =>
      obtain ⟨k, hk, rfl, HPRE, hgr⟩ := hrel
      obtain ⟨wo, rfl⟩ : ∃ wo : World, wo = wr := ⟨_, rfl⟩
      by_cases hlt : k < xs.length
      · have hlt2 : k < ys.length := by omega
        obtain ⟨b1, o1, rfl, c1⟩ := (ha.keep0 hgr) k _ (ints_get xs k hlt)
        obtain ⟨b2, o2, rfl, c2⟩ := (hb.keep0 hgr) k _ (ints_get ys k hlt2)
        have HE : Hid (xs.getD k 0 = ys.getD k 0 → ∀ j, j < k + 1 → xs[j]? = ys[j]?) := by
          show _ → _
          intro h j hj
          by_cases e : j = k
          · subst e
            rw [getD_eq _ _ _ hlt, getD_eq _ _ _ hlt2] at h
            rw [List.getElem?_eq_getElem hlt, List.getElem?_eq_getElem hlt2, h]
          · exact HPRE.out j (by omega)
        have HN : Hid (xs.getD k 0 ≠ ys.getD k 0 → xs ≠ ys) := fun h e => h (by rw [e])
        obtain ⟨x, hx⟩ : ∃ x, x = xs.getD k 0 := ⟨_, rfl⟩
        obtain ⟨y, hy⟩ : ∃ y, y = ys.getD k 0 := ⟨_, rfl⟩
        rw [← hx] at c1 HE HN
        rw [← hy] at c2 HE HN
        clear hx hy
        by_cases hxy : x = y
        · subst hxy
          have HE2 := Lib.hid (HE.out rfl)
          clear HE HN
          go_wp2_with (fail)
          go_region
          all_goals (go_wp2_with (fail))
          all_goals go_roundw
          case rel => exact ⟨k + 1, by omega, by go_num, HE2, gr_drew hgr⟩
          case measure => simp [intOf]; omega
        · have hq : (x != y) = true := by simpa using hxy
          have HN2 := Lib.hid (HN.out hxy)
          clear HE HN hxy
          go_wp2_with (fail)
          go_region
          all_goals (go_wp2_with (fail))
          all_goals go_ret
          all_goals exact ⟨ret_bool (decide_eq_false HN2.out).symm, gr_drew hgr⟩
      · have hkl : k = xs.length := by omega
        have HEQ : Hid (xs = ys) := by
          show _ = _
          apply List.ext_getElem?
          intro j
          by_cases hj : j < k
          · exact HPRE.out j hj
          · have := HLEN.out
            rw [List.getElem?_eq_none (by omega), List.getElem?_eq_none (by omega)]
        clear hkl
        go_wp2_with (fail)
        go_ret
        exact ⟨ret_bool (decide_eq_true HEQ.out).symm, hgr⟩
  · have hne : ((xs.length : Int) != (ys.length : Int)) = true := by simp; omega
    have HN : Hid (xs ≠ ys) := fun e => hlen (by rw [e])
    clear hlen
    go_enter Tryd.func69, Tryd.ntmps69
    go_wp2_with (fail)
    go_ret
    exact ⟨ret_bool (decide_eq_false HN.out).symm, gr_refl _ _⟩

/-! Readings in memory. -/
/-- The row and all its values are there. -/
structure RdsC (w : World) (a : Option Addr) (L : List RdG) : Prop where
  row : CellsAt w a (cellsG L)
  vals : ∀ g ∈ L, CellsAt w g.a (ints g.rd.vs)
  nil : ∀ g ∈ L, g.a = none → g.rd.vs.length = 0 ∧ g.c = 0
theorem RdsC.keep0 {w w1 : World} {a : Option Addr} {L : List RdG} (h : RdsC w a L) (g : w.grownBy w1 none) : RdsC w1 a L := ⟨h.row.keep0 g, fun x hx => (h.vals x hx).keep0 g, h.nil⟩
theorem RdsC.at {w : World} {a : Option Addr} {L : List RdG} (h : RdsC w a L) {k : Nat} (hk : k < L.length) : ∃ b off, a = some ⟨b, off, none⟩ ∧ w.cell? ⟨b, off + k * 2, none⟩ = some (.int .i64 L[k].rd.at_) ∧ w.cell? ⟨b, off + k * 2 + 1, none⟩ = some (.slice L[k].a L[k].rd.vs.length L[k].c) ∧ CellsAt w L[k].a (ints L[k].rd.vs) := by
  have hk2 : k < (L.map RdG.cell).length := by simpa using hk
  obtain ⟨b, off, e, hc⟩ := flat_cells (enc := encC) (m := 2) (fun _ => rfl) (by decide) (l := L.map RdG.cell) h.row (by omega)
  have e2 : (L.map RdG.cell)[k] = L[k].cell := by simp
  exact ⟨b, off, e, hc k hk2 0 _ (by rw [e2]; rfl), hc k hk2 1 _ (by rw [e2]; rfl), h.vals _ (List.getElem_mem hk)⟩
set_option maxRecDepth 100000 in
theorem sameR1_any (t : Int) (vs : List Int) (a b : Option Addr) (c d : Nat) (w : World) (ha : CellsAt w a (ints vs)) (hb : CellsAt w b (ints vs)) (hl : vs.length ≤ 1000000) :
    Calls Tryd.prog 78 #[.agg #[.int .i64 t, .slice a vs.length c], .agg #[.int .i64 t, .slice b vs.length d]] w fun e w' => e = .returned (.bool true) ∧ w.grownBy w' none := by
  obtain ⟨hP, hQ⟩ := heap_2 w (.cells #[.int .i64 t, .slice a vs.length c] 70) (.cells #[.int .i64 t, .slice b vs.length d] 70)
  have g2 := gr_alloc (gr_alloc (gr_refl w none) (.cells #[.int .i64 t, .slice a vs.length c] 70)) (.cells #[.int .i64 t, .slice b vs.length d] 70)
  obtain ⟨w2, hw2⟩ : ∃ w2, w2 = (w.alloc (.cells #[.int .i64 t, .slice a vs.length c] 70)).alloc (.cells #[.int .i64 t, .slice b vs.length d] 70) := ⟨_, rfl⟩
  rw [← hw2] at hP hQ g2
  have p0 : w2.cell? ⟨w.heap.size, 0, none⟩ = some (.int .i64 t) := blkC hP 0 rfl
  have p1 : w2.cell? ⟨w.heap.size, 1, none⟩ = some (.slice a vs.length c) := blkC hP 1 rfl
  have q0 : w2.cell? ⟨w.heap.size + 1, 0, none⟩ = some (.int .i64 t) := blkC hQ 0 rfl
  have q1 : w2.cell? ⟨w.heap.size + 1, 1, none⟩ = some (.slice b vs.length d) := blkC hQ 1 rfl
  have EQ := Lib.hid (fun (W : World) (g : w2.grownBy W none) => equal_int vs a b c d W (ha.keep0 (gr_trans g2 g)) (hb.keep0 (gr_trans g2 g)) hl)
  have HG := Lib.hid g2
  have HW := Lib.hid hw2
  clear hP hQ g2 hw2 ha hb
  go_enter Tryd.func78, Tryd.ntmps78
  go_wp2_with (fail)
  rw [← HW.out]
  refine (EQ.out w2 (gr_refl _ _)).mono ?_
  rintro e w3 ⟨rfl, g3⟩
  have HG3 := Lib.hid (gr_trans HG.out g3)
  go_wp2_with (fail)
  go_ret
  exact ⟨rfl, HG3.out⟩
theorem sameR1_fn : ∀ (args : Array Value) (w : World), (callFunc 78 args).run Tryd.prog w = .ok (.enter 78 args) w := fun _ _ => by kernel_rfl
set_option maxRecDepth 100000 in
theorem sameReadings_any (L M : List RdG) (he : rdsG L = rdsG M) (a b : Option Addr) (c d : Nat) (w : World) (ha : RdsC w a L) (hb : RdsC w b M) (hl : L.length ≤ 1000000) (hv : ∀ g ∈ L, g.rd.vs.length ≤ 1000000) :
    Calls Tryd.prog 35 #[.slice a L.length c, .slice b M.length d] w fun e w' => e = .returned (.bool true) ∧ w.grownBy w' none := by
  have hlen : M.length = L.length := by have := congrArg List.length he; simpa [rdsG] using this.symm
  have hat : ∀ k (h : k < L.length) (h2 : k < M.length), M[k].rd = L[k].rd := by
    intro k h h2
    have e := congrArg (fun l => l[k]?) he
    simp only [rdsG, List.getElem?_map, List.getElem?_eq_getElem h, List.getElem?_eq_getElem h2, Option.map_some, Option.some.injEq] at e
    exact e.symm
  have HAT := Lib.hid hat
  have HV := Lib.hid hv
  have HLN := Lib.hid hlen
  have hle : L.length ≤ M.length := by omega
  rw [hlen]
  have EQ : Hid (Calls Tryd.prog 77 #[.slice a L.length c, .slice b L.length d, .func (.func 78) #[] #[]] w fun e w' => e = .returned (.bool true) ∧ w.grownBy w' none) := by
    show Calls _ _ _ _ _
    have hE := sameR1_fn
    clear hat hv hlen he
    go_enter Tryd.func77, Tryd.ntmps77
    go_wp2_with (fail)
    go_loopw [17] (fun i wr => ∃ k : Nat, k ≤ L.length ∧ i = .int .i64 k ∧ w.grownBy wr none) (fun i _ => L.length - (intOf i).toNat)
    case atStart => exact ⟨0, Nat.zero_le _, rfl, gr_refl _ _⟩
    case round =>
      obtain ⟨k, hk, rfl, hgr⟩ := hrel
      obtain ⟨wo, rfl⟩ : ∃ wo : World, wo = wr := ⟨_, rfl⟩
      by_cases hlt : k < L.length
      · have hlt2 : k < M.length := by omega
        obtain ⟨b1, o1, rfl, c0, c1, cv⟩ := (ha.keep0 hgr).at hlt
        obtain ⟨b2, o2, rfl, d0, d1, dv⟩ := (hb.keep0 hgr).at hlt2
        rw [HAT.out k hlt hlt2] at d0 d1 dv
        have hvl := HV.out _ (List.getElem_mem hlt)
        obtain ⟨x, hx⟩ : ∃ x, x = L[k] := ⟨_, rfl⟩
        obtain ⟨y, hy⟩ : ∃ y, y = M[k] := ⟨_, rfl⟩
        rw [← hx] at c0 c1 cv d0 d1 dv hvl
        rw [← hy] at d1 dv
        clear hx hy
        obtain ⟨⟨t, vs⟩, xa, xc⟩ := x
        obtain ⟨yr, ya, yc⟩ := y
        simp only at c0 c1 cv d0 d1 dv hvl
        have HC := Lib.hid (fun (W : World) (g : wo.grownBy W none) => sameR1_any t vs xa ya xc yc W (cv.keep0 g) (dv.keep0 g) hvl)
        have ga := gr_alloc (gr_alloc (gr_refl wo none) (.cells #[.int .i64 t, .slice xa vs.length xc] 70)) (.cells #[.int .i64 t, .slice ya vs.length yc] 70)
        have e0 := held_cell (gr_refl (wo.alloc (.cells #[.int .i64 t, .slice xa vs.length xc] 70)) none) d0
        have e1 := held_cell (gr_refl (wo.alloc (.cells #[.int .i64 t, .slice xa vs.length xc] 70)) none) d1
        have HGA := Lib.hid ga
        clear cv dv ga
        go_wp2_with (fail)
        refine (HC.out _ HGA.out).mono ?_
        rintro e w1 ⟨rfl, hg1⟩
        have hgr1 := gr_trans hgr (gr_trans HGA.out hg1)
        go_wp2_with (fail)
        go_roundw
        case rel => exact ⟨k + 1, by omega, by go_num, hgr1⟩
        case measure => simp [intOf]; omega
      · go_wp2_with (fail)
        go_ret
        exact ⟨rfl, hgr⟩
  clear hat hv hlen he
  go_enter Tryd.func35, Tryd.ntmps35
  go_wp2_with (fail)
  refine EQ.out.mono ?_
  rintro e w1 ⟨rfl, hg1⟩
  go_wp2_with (fail)
  go_ret
  exact ⟨rfl, hg1⟩
end Go.Proofs.YtjhdngfliakidaaDoor
