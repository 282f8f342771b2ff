/- Readings, as the stream makes them: as a function; with where their values lie. -/
import Derived.Test.YtjhfglhoiplfmaaPkSAd
import Derived.Test.YtjhfglhoiplfmaaPkSAh
import Derived.Test.YtjhfglhoiplfmaaPkSAa
namespace Go.Proofs.Ytjhfglhoiplfmaa
open Go.RowKit

/-! Readings that are in memory: a reading with the place of its values. -/
structure SlV where
  a : Option Addr
  n : Nat
  c : Nat
structure RdC where
  at_ : Int
  v : SlV
def encC (x : RdC) : List Value := [.int .i64 x.at_, .slice x.v.a x.v.n x.v.c]
structure RdG where
  rd : Rd
  a : Option Addr
  c : Nat
def RdG.cell (g : RdG) : RdC := ⟨g.rd.at_, ⟨g.a, g.rd.vs.length, g.c⟩⟩
def cellsG (L : List RdG) : List Value := flat encC (L.map RdG.cell)
def rdsG (L : List RdG) : List Rd := L.map RdG.rd
theorem cellsG_app (L : List RdG) (x : RdG) : cellsG (L ++ [x]) = cellsG L ++ encC x.cell := by
  simp [cellsG, flat_append, flat_one]
theorem cellsG_len (L : List RdG) : (cellsG L).length = L.length * 2 := by
  induction L with
  | nil => rfl
  | cons x l ih =>
    have : cellsG (x :: l) = encC x.cell ++ cellsG l := by simp [cellsG, flat]
    rw [this, List.length_append, ih]
    simp [encC]; omega
theorem rdsG_app (L : List RdG) (x : RdG) : rdsG (L ++ [x]) = rdsG L ++ [x.rd] := by simp [rdsG]
theorem rdsG_len (L : List RdG) : (rdsG L).length = L.length := by simp [rdsG]

/-! What the stream makes. -/
structure RdsS where
  out : List Rd
  now : List Int
  at_ : Int
  j : Nat
def rdsATo (l : List Int) (k : Nat) (m : Mtr) : Nat → List Rd × Nat
  | 0 => ([], k)
  | i + 1 => ((rdsATo l k m i).1 ++ [rdOne l (rdsATo l k m i).2 m], rdK3 l (rdsATo l k m i).2 m)
def nowPick (m : Mtr) : List Int := [0, 1, 3, m.fast, 2 * m.fast, 40]
def nowTo (l : List Int) (k : Nat) (m : Mtr) (now : List Int) : Nat → List Int
  | 0 => now
  | i + 1 => (nowTo l k m now i).set i (((nowTo l k m now i).getD i 0 + pickM l (k + i) (nowPick m)) % m.turn)
def nowFlip (l : List Int) (j : Nat) (N : List Int) : List Int := if flipM l j 8 then N.set (nxt l (j + 1) N.length).toNat 0 else N
def nowJ (l : List Int) (j : Nat) : Nat := if flipM l j 8 then j + 1 + 1 else j + 1
def rdsStep (l : List Int) (m : Mtr) (s : RdsS) : RdsS :=
  ⟨s.out ++ [⟨s.at_, nowFlip l (s.j + s.now.length) (nowTo l s.j m s.now s.now.length)⟩], nowFlip l (s.j + s.now.length) (nowTo l s.j m s.now s.now.length), s.at_ + pickM l (nowJ l (s.j + s.now.length)) [1, 700, 1440, 4000], nowJ l (s.j + s.now.length) + 1⟩
def rdsBTo (l : List Int) (k : Nat) (m : Mtr) : Nat → RdsS
  | 0 => ⟨[], List.replicate m.cnt.toNat 0, nxt l k 2000, k + 1 + 1⟩
  | i + 1 => rdsStep l m (rdsBTo l k m i)
def rdsN (l : List Int) (k : Nat) : Nat := (nxt l (k + 1) 6).toNat
def rd0 : Rd := ⟨0, []⟩
def rdsB (l : List Int) (k : Nat) (m : Mtr) : RdsS := rdsBTo l k m (rdsN l k)
def rdsMore (l : List Int) (s : RdsS) : List Rd := if flipM l s.j 3 && decide (0 < s.out.length) then s.out ++ [s.out.getD (nxt l (s.j + 1) s.out.length).toNat rd0] else s.out
def rdsMoreJ (l : List Int) (s : RdsS) : Nat := if flipM l s.j 3 && decide (0 < s.out.length) then s.j + 1 + 1 else s.j + 1
def mixM (O : List Int) (R : List Rd) : List Rd := O.map fun k => R.getD k.toNat rd0
/-- 'right' is whether the meter is right. -/
def rdsM (l : List Int) (k : Nat) (m : Mtr) (right : Bool) : List Rd :=
  if right then (if flipM l k 6 then (rdsATo l (k + 1 + 1) m (nxt l (k + 1) 4).toNat).1 else mixM (ordM l (rdsMoreJ l (rdsB l (k + 1) m)) (rdsMore l (rdsB l (k + 1) m)).length) (rdsMore l (rdsB l (k + 1) m)))
  else (rdsATo l (k + 1) m (nxt l k 4).toNat).1
def rdsK (l : List Int) (k : Nat) (m : Mtr) (right : Bool) : Nat :=
  if right then (if flipM l k 6 then (rdsATo l (k + 1 + 1) m (nxt l (k + 1) 4).toNat).2 else rdsMoreJ l (rdsB l (k + 1) m) + ((rdsMore l (rdsB l (k + 1) m)).length - 1))
  else (rdsATo l (k + 1) m (nxt l k 4).toNat).2
theorem rdsATo_len (l : List Int) (k : Nat) (m : Mtr) (i : Nat) : (rdsATo l k m i).1.length = i := by
  induction i with
  | zero => rfl
  | succ i ih => simp [rdsATo, ih]
theorem rdsATo_j (l : List Int) (k : Nat) (m : Mtr) (i : Nat) : k ≤ (rdsATo l k m i).2 ∧ (rdsATo l k m i).2 ≤ k + 20 * i := by
  induction i with
  | zero => exact ⟨Nat.le_refl _, Nat.le_refl _⟩
  | succ i ih =>
    have := rdK3_le l (rdsATo l k m i).2 m
    simp only [rdsATo]
    omega
theorem nowTo_len (l : List Int) (k : Nat) (m : Mtr) (now : List Int) (i : Nat) : (nowTo l k m now i).length = now.length := by
  induction i with
  | zero => rfl
  | succ i ih => simp [nowTo, ih]
theorem nowFlip_len (l : List Int) (j : Nat) (N : List Int) : (nowFlip l j N).length = N.length := by
  unfold nowFlip; split <;> simp
theorem nowJ_le (l : List Int) (j : Nat) : j < nowJ l j ∧ nowJ l j ≤ j + 2 := by
  unfold nowJ; split <;> omega
theorem mem_set_all {P : Int → Prop} {L : List Int} (h : ∀ x ∈ L, P x) {i : Nat} {x : Int} (hx : P x) : ∀ y ∈ L.set i x, P y := by
  intro y hy
  rcases List.mem_or_eq_of_mem_set hy with h1 | h1
  · exact h y h1
  · rw [h1]; exact hx
def InTurn (t : Int) (N : List Int) : Prop := ∀ x ∈ N, 0 ≤ x ∧ x < t
theorem nowTo_in (l : List Int) (k : Nat) (m : Mtr) (ht : 1 ≤ m.turn) (now : List Int) (h : InTurn m.turn now) (i : Nat) : InTurn m.turn (nowTo l k m now i) := by
  induction i with
  | zero => exact h
  | succ i ih => exact mem_set_all ih ⟨Int.emod_nonneg _ (by omega), Int.emod_lt_of_pos _ (by omega)⟩
theorem nowFlip_in (l : List Int) (j : Nat) (t : Int) (ht : 1 ≤ t) (N : List Int) (h : InTurn t N) : InTurn t (nowFlip l j N) := by
  unfold nowFlip
  split
  · exact mem_set_all h ⟨by omega, by omega⟩
  · exact h
structure RdsOk (m : Mtr) (k i : Nat) (s : RdsS) : Prop where
  olen : s.out.length = i
  nlen : s.now.length = m.cnt.toNat
  nin : InTurn m.turn s.now
  a0 : 0 ≤ s.at_
  a1 : s.at_ ≤ 2000 + 4000 * i
  j0 : k ≤ s.j
  j1 : s.j ≤ k + 2 + 63 * i
  oin : ∀ r ∈ s.out, r.vs.length ≤ 60
theorem rdsBTo_ok (l : List Int) (k : Nat) (m : Mtr) (hm : MtrOk m) (i : Nat) : RdsOk m k i (rdsBTo l k m i) := by
  have hc1 := hm.c1
  have hc2 := hm.c2
  have ht1 := hm.t1
  induction i with
  | zero =>
    have := nxt_range l k 2000 (by decide)
    exact ⟨rfl, by simp [rdsBTo], fun x hx => by
      have := List.eq_of_mem_replicate hx
      omega, by simp only [rdsBTo]; omega, by simp only [rdsBTo]; omega, by simp only [rdsBTo]; omega, by simp only [rdsBTo]; omega, fun r h => by cases h⟩
  | succ i ih =>
    obtain ⟨h1, h2, h3, h4, h5, h6, h7, h8⟩ := ih
    have hj := nowJ_le l ((rdsBTo l k m i).j + (rdsBTo l k m i).now.length)
    have hp := pickM_mem l (nowJ l ((rdsBTo l k m i).j + (rdsBTo l k m i).now.length)) [1, 700, 1440, 4000] (by decide)
    simp only [List.mem_cons, List.not_mem_nil, or_false] at hp
    refine ⟨by simp [rdsBTo, rdsStep, h1], ?_, ?_, ?_, ?_, ?_, ?_, ?_⟩
    · simp only [rdsBTo, rdsStep, nowFlip_len, nowTo_len]; exact h2
    · simp only [rdsBTo, rdsStep]
      exact nowFlip_in _ _ _ (by omega) _ (nowTo_in _ _ _ (by omega) _ h3 _)
    · simp only [rdsBTo, rdsStep]; omega
    · simp only [rdsBTo, rdsStep]; omega
    · simp only [rdsBTo, rdsStep]; omega
    · simp only [rdsBTo, rdsStep]; omega
    · simp only [rdsBTo, rdsStep]
      intro r hr
      rcases List.mem_append.1 hr with hr | hr
      · exact h8 r hr
      · simp only [List.mem_cons, List.not_mem_nil, or_false] at hr
        rw [hr]
        simp only [nowFlip_len, nowTo_len]
        omega
theorem rdsN_le (l : List Int) (k : Nat) : rdsN l k ≤ 5 ∧ ((rdsN l k : Nat) : Int) = nxt l (k + 1) 6 := by
  have := nxt_range l (k + 1) 6 (by decide)
  unfold rdsN; omega
theorem rdsMore_len (l : List Int) (s : RdsS) : (rdsMore l s).length ≤ s.out.length + 1 := by
  unfold rdsMore; split <;> simp
theorem rdsMore_small (l : List Int) (s : RdsS) (h : ∀ r ∈ s.out, r.vs.length ≤ 60) : ∀ r ∈ rdsMore l s, r.vs.length ≤ 60 := by
  unfold rdsMore
  split
  · rename_i hc
    intro r hr
    rcases List.mem_append.1 hr with hr | hr
    · exact h r hr
    · simp only [List.mem_cons, List.not_mem_nil, or_false] at hr
      simp only [Bool.and_eq_true, decide_eq_true_eq] at hc
      have hq := nxt_range l (s.j + 1) s.out.length (by omega)
      rw [hr, getD_eq _ _ _ (by omega)]
      exact h _ (List.getElem_mem _)
  · exact h
theorem ordAt_order (l : List Int) (k n j : Nat) (hj : j ≤ n - 1) : IsOrder n (ordAt l k n j) := by
  induction j with
  | zero => exact List.Perm.refl _
  | succ j ih =>
    have h := ih (by omega)
    have hl := h.len
    have hr := nxt_range l (k + j) (((n - 1 - j : Nat) : Int) + 1) (by omega)
    exact order_swap h (i := n - 1 - j) (j := (nxt l (k + j) (((n - 1 - j : Nat) : Int) + 1)).toNat) (by omega) (by omega)
theorem ordM_order (l : List Int) (k n : Nat) : IsOrder n (ordM l k n) := ordAt_order l k n (n - 1) (Nat.le_refl _)
/-- What is small of them. -/
theorem rdsM_small (l : List Int) (k : Nat) (m : Mtr) (right : Bool) (hr : right = true → MtrOk m) : (rdsM l k m right).length ≤ 6 ∧ (∀ r ∈ rdsM l k m right, r.vs.length ≤ 60) ∧ rdsK l k m right ≤ k + 400 := by
  have hA : ∀ k i, ∀ r ∈ (rdsATo l k m i).1, r.vs.length ≤ 60 := by
    intro k i
    induction i with
    | zero => intro r h; cases h
    | succ i ih =>
      intro r h
      simp only [rdsATo] at h
      rcases List.mem_append.1 h with h | h
      · exact ih r h
      · simp only [List.mem_cons, List.not_mem_nil, or_false] at h
        rw [h]
        have := rdV2_len l (rdsATo l k m i).2 m
        simp only [rdOne]
        omega
  have n1 := nxt_range l k 4 (by decide)
  have n2 := nxt_range l (k + 1) 4 (by decide)
  unfold rdsM rdsK
  cases right with
  | false =>
    simp only [Bool.false_eq_true, if_false]
    have := rdsATo_j l (k + 1) m (nxt l k 4).toNat
    exact ⟨by rw [rdsATo_len]; omega, hA _ _, by omega⟩
  | true =>
    simp only [if_true]
    split
    · have := rdsATo_j l (k + 1 + 1) m (nxt l (k + 1) 4).toNat
      exact ⟨by rw [rdsATo_len]; omega, hA _ _, by omega⟩
    · have hb := rdsBTo_ok l (k + 1) m (hr rfl) (rdsN l (k + 1))
      have hn := rdsN_le l (k + 1)
      have hl := rdsMore_len l (rdsB l (k + 1) m)
      have h1 := hb.olen
      have h2 := hb.j1
      have hj : rdsMoreJ l (rdsB l (k + 1) m) ≤ (rdsB l (k + 1) m).j + 2 := by unfold rdsMoreJ; split <;> omega
      have e1 : (rdsB l (k + 1) m).out.length = rdsN l (k + 1) := h1
      have e2 : (rdsB l (k + 1) m).j ≤ k + 1 + 2 + 63 * rdsN l (k + 1) := h2
      have hs := rdsMore_small l (rdsB l (k + 1) m) hb.oin
      refine ⟨?_, ?_, ?_⟩
      · simp only [mixM, List.length_map]
        have := (ordM_order l (rdsMoreJ l (rdsB l (k + 1) m)) (rdsMore l (rdsB l (k + 1) m)).length).len
        omega
      · intro r hr
        simp only [mixM, List.mem_map] at hr
        obtain ⟨q, hq, rfl⟩ := hr
        have := ((ordM_order l (rdsMoreJ l (rdsB l (k + 1) m)) (rdsMore l (rdsB l (k + 1) m)).length).mem q).1 hq
        rw [getD_eq _ _ _ (by omega)]
        exact hs _ (List.getElem_mem _)
      · omega
end Go.Proofs.Ytjhfglhoiplfmaa

/-! Readings as elements of slices. -/
namespace Go.Proofs.Ytjhfglhoiplfmaa
open Go.RowKit
theorem eRd : ElemT Try.prog 36 56 (.agg #[.int .i64 0, .slice none 0 0]) 2 32 := ⟨by kernel_rfl, by kernel_rfl, by decide, by decide, by decide⟩
theorem cellsG_one (L : List RdG) : ∀ u ∈ cellsG L, u.oneCell' = true := flat_ones (enc := encC) (fun _ => rfl) _
/-- A slice of readings that is owned from a block on, and so are the readings' values. -/
structure Rds (w : World) (base : Nat) (v : Value) (L : List RdG) : Prop where
  row : w.ownsRow base 56 2 v L.length (cellsG L)
  vals : ∀ g ∈ L, w.ownsRow base 3 1 (.slice g.a g.rd.vs.length g.c) g.rd.vs.length (ints g.rd.vs)
theorem Rds.nil (w : World) (base : Nat) : Rds w base (.slice none 0 0) [] := ⟨World.ownsRow_nil _ _ _ _, fun _ h => by cases h⟩
theorem Rds.keep0 {w w1 : World} {base : Nat} {v : Value} {L : List RdG} (h : Rds w base v L) (g : w.grownBy w1 none) : Rds w1 base v L := ⟨own_keep0 h.row g, fun x hx => own_keep0 (h.vals x hx) g⟩
theorem Rds.keepS {w w1 : World} {base p : Nat} {v : Value} {L : List RdG} (h : Rds w base v L) (g : w.grownBy w1 (some p)) (hp : p < base) : Rds w1 base v L := ⟨own_keepS h.row g hp, fun x hx => own_keepS (h.vals x hx) g hp⟩
theorem Rds.base {w : World} {base base' : Nat} {v : Value} {L : List RdG} (h : Rds w base v L) (hb : base' ≤ base) : Rds w base' v L := ⟨own_base h.row hb, fun x hx => own_base (h.vals x hx) hb⟩
theorem Rds.shape {w : World} {base : Nat} {v : Value} {L : List RdG} (h : Rds w base v L) : ∃ a c, v = .slice a L.length c ∧ L.length ≤ c ∧ c ≤ maxLen := by
  obtain ⟨a, c, rfl, h1, h2, -, -⟩ := own_shape h.row
  exact ⟨a, c, rfl, h1, h2⟩
/-- One more, behind an append. -/
theorem Rds.push {W w9 : World} {base : Nat} {v v9 : Value} {L : List RdG} {x : RdG} (h : Rds W base v L) (hx : W.ownsRow base 3 1 (.slice x.a x.rd.vs.length x.c) x.rd.vs.length (ints x.rd.vs)) (ho : w9.ownsRow base 56 2 v9 (L.length + 1) (cellsG L ++ encC x.cell)) (g : W.grownBy w9 v.ownBlock) : Rds w9 base v9 (L ++ [x]) := by
  refine ⟨by rw [cellsG_app, List.length_append]; exact ho, fun y hy => ?_⟩
  rcases List.mem_append.1 hy with hy | hy
  · exact own_keepU (h.vals y hy) h.row (by decide) g
  · simp only [List.mem_cons, List.not_mem_nil, or_false] at hy
    subst hy
    exact own_keepU hx h.row (by decide) g
/-- What is read of an element. -/
theorem Rds.at {w : World} {base : Nat} {v : Value} {L : List RdG} (h : Rds w base v L) {k : Nat} (hk : k < L.length) : ∃ g c, v = .slice (some ⟨g, 0, none⟩) L.length c ∧ base ≤ g ∧ g < w.heap.size ∧ w.cell? ⟨g, k * 2, none⟩ = some (.int .i64 L[k].rd.at_) ∧ w.cell? ⟨g, k * 2 + 1, none⟩ = some (.slice L[k].a L[k].rd.vs.length L[k].c) := by
  obtain ⟨g, c, rfl, hb, hl, -, -⟩ := own_some h.row (by omega)
  obtain ⟨a, c2, e, -, -, hc, -⟩ := own_shape h.row
  cases e
  have hk2 : k < (L.map RdG.cell).length := by simpa using hk
  obtain ⟨b, off, e, hcs⟩ := flat_cells (enc := encC) (m := 2) (fun _ => rfl) (by decide) (l := L.map RdG.cell) hc (by omega)
  cases e
  have e2 : (L.map RdG.cell)[k] = L[k].cell := by simp
  have h0 := hcs k hk2 0 _ (by rw [e2]; rfl)
  have h1 := hcs k hk2 1 _ (by rw [e2]; rfl)
  rw [Nat.zero_add] at h0 h1
  exact ⟨g, c, rfl, hb, hl, h0, h1⟩
end Go.Proofs.Ytjhfglhoiplfmaa

/-! Readings in order: no program in sight. -/
namespace Go.Proofs.Ytjhfglhoiplfmaa
open Go.RowKit

/-- Y are the readings of X in order, each moment once. -/
structure Asc (Y X : List Rd) : Prop where
  asc : Y.Pairwise (fun a b => a.at_ < b.at_)
  mem : ∀ r, r ∈ Y ↔ r ∈ X
def NoConf (X : List Rd) : Prop := ∀ a ∈ X, ∀ b ∈ X, a.at_ = b.at_ → a = b
theorem pw_unique {Y Z : List Rd} (hy : Y.Pairwise (fun a b => a.at_ < b.at_)) (hz : Z.Pairwise (fun a b => a.at_ < b.at_)) (hm : ∀ r, r ∈ Y ↔ r ∈ Z) : Y = Z := by
  induction Y generalizing Z with
  | nil =>
    cases Z with
    | nil => rfl
    | cons z zs => have := (hm z).2 (by simp); simp at this
  | cons y ys ih =>
    cases Z with
    | nil => have := (hm y).1 (by simp); simp at this
    | cons z zs =>
      rw [List.pairwise_cons] at hy hz
      have e : y = z := by
        rcases List.mem_cons.1 ((hm y).1 (by simp)) with h | h
        · exact h
        · rcases List.mem_cons.1 ((hm z).2 (by simp)) with h2 | h2
          · exact h2.symm
          · have := hz.1 y h; have := hy.1 z h2; omega
      subst e
      rw [ih hy.2 hz.2 fun r => ?_]
      constructor
      · intro h
        rcases List.mem_cons.1 ((hm r).1 (by simp [h])) with h2 | h2
        · subst h2; have := hy.1 r h; omega
        · exact h2
      · intro h
        rcases List.mem_cons.1 ((hm r).2 (by simp [h])) with h2 | h2
        · subst h2; have := hz.1 r h; omega
        · exact h2
theorem Asc.unique {Y Z X : List Rd} (h : Asc Y X) (g : Asc Z X) : Y = Z := pw_unique h.asc g.asc fun r => (h.mem r).trans (g.mem r).symm
theorem Asc.noConf {Y X : List Rd} (h : Asc Y X) : NoConf X := by
  intro a ha b hb e
  have ha' := (h.mem a).2 ha
  have hb' := (h.mem b).2 hb
  have key : ∀ (L : List Rd), L.Pairwise (fun a b => a.at_ < b.at_) → a ∈ L → b ∈ L → a = b := by
    intro L
    induction L with
    | nil => intro _ h; cases h
    | cons x l ih =>
      intro hp h1 h2
      rw [List.pairwise_cons] at hp
      rcases List.mem_cons.1 h1 with k1 | k1 <;> rcases List.mem_cons.1 h2 with k2 | k2
      · rw [k1, k2]
      · have := hp.1 b k2; rw [← k1] at this; omega
      · have := hp.1 a k1; rw [← k2] at this; omega
      · exact ih hp.2 k1 k2
  exact key Y h.asc ha' hb'
theorem Asc.of_mem {Y X X' : List Rd} (h : Asc Y X) (hm : ∀ r, r ∈ X ↔ r ∈ X') : Asc Y X' := ⟨h.asc, fun r => (h.mem r).trans (hm r)⟩
theorem Asc.nil : Asc [] [] := ⟨List.Pairwise.nil, fun _ => Iff.rfl⟩
theorem pw_getD {Y : List Rd} (h : Y.Pairwise (fun a b => a.at_ < b.at_)) {i j : Nat} (hij : i < j) (hj : j < Y.length) : (Y[i]'(by omega)).at_ < (Y[j]).at_ := List.pairwise_iff_getElem.1 h i j (by omega) hj hij
/-- The place of a moment. -/
structure PlaceAt (Y : List Rd) (t : Int) (i : Nat) : Prop where
  le : i ≤ Y.length
  low : ∀ j (hj : j < Y.length), j < i → Y[j].at_ < t
  high : ∀ j (hj : j < Y.length), i ≤ j → t ≤ Y[j].at_
theorem Asc.insert {Y X : List Rd} (h : Asc Y X) {r : Rd} {i : Nat} (hp : PlaceAt Y r.at_ i) (hno : ∀ (hi : i < Y.length), Y[i].at_ ≠ r.at_) : Asc (Y.take i ++ [r] ++ Y.drop i) (X ++ [r]) := by
  have hlow : ∀ a ∈ Y.take i, a.at_ < r.at_ := by
    intro a ha
    obtain ⟨j, hj, rfl⟩ := List.mem_iff_getElem.1 ha
    rw [List.length_take] at hj
    rw [List.getElem_take]
    exact hp.low j (by omega) (by omega)
  have hhigh : ∀ a ∈ Y.drop i, r.at_ < a.at_ := by
    intro a ha
    obtain ⟨j, hj, rfl⟩ := List.mem_iff_getElem.1 ha
    rw [List.length_drop] at hj
    rw [List.getElem_drop]
    have h1 := hp.high (i + j) (by omega) (by omega)
    by_cases e : j = 0
    · subst e
      have := hno (by omega)
      have e2 : (Y[i + 0]'(by omega)).at_ = (Y[i]'(by omega)).at_ := rfl
      rw [e2] at h1 ⊢
      omega
    · have h2 := hp.high i (by omega) (by omega)
      have h3 := hno (by omega)
      have h4 := pw_getD h.asc (i := i) (j := i + j) (by omega) (by omega)
      omega
  have hY : (Y.take i ++ Y.drop i).Pairwise (fun a b => a.at_ < b.at_) := by rw [List.take_append_drop]; exact h.asc
  rw [List.pairwise_append] at hY
  refine ⟨?_, fun q => ?_⟩
  · rw [List.append_assoc, List.pairwise_append]
    refine ⟨hY.1, ?_, ?_⟩
    · simp only [List.singleton_append, List.pairwise_cons]
      exact ⟨hhigh, hY.2.1⟩
    · intro a ha b hb
      simp only [List.singleton_append, List.mem_cons] at hb
      rcases hb with rfl | hb
      · exact hlow a ha
      · exact hY.2.2 a ha b hb
  · have hm := h.mem q
    have e : q ∈ Y ↔ q ∈ Y.take i ∨ q ∈ Y.drop i := by
      conv => lhs; rw [← List.take_append_drop i Y]
      rw [List.mem_append]
    simp only [List.mem_append, List.mem_singleton]
    rw [← hm, e]
    constructor
    · rintro ((h1 | h1) | h1)
      · exact .inl (.inl h1)
      · exact .inr h1
      · exact .inl (.inr h1)
    · rintro ((h1 | h1) | h1)
      · exact .inl (.inl h1)
      · exact .inr h1
      · exact .inl (.inr h1)
/-- A moment that is there is at its place. -/
theorem Asc.found {Y X : List Rd} (h : Asc Y X) {r : Rd} {i : Nat} (hi : i < Y.length) (he : Y[i].at_ = r.at_) (hr : NoConf (X ++ [r])) : Y[i] = r :=
  hr _ (by rw [List.mem_append]; exact .inl ((h.mem _).1 (List.getElem_mem hi))) r (by simp) he
theorem Asc.again {Y X : List Rd} (h : Asc Y X) {r : Rd} (hr : r ∈ Y) : Asc Y (X ++ [r]) := ⟨h.asc, fun q => by
  rw [List.mem_append, List.mem_singleton, ← h.mem q]
  constructor
  · exact .inl
  · rintro (h1 | h1)
    · exact h1
    · rw [h1]; exact hr⟩
/-- Putting in order, each moment once. -/
theorem perm_unmap {α β : Type} (f : α → β) {L : List α} {O : List β} (h : O.Perm (L.map f)) : ∃ L' : List α, L'.Perm L ∧ L'.map f = O := by
  generalize hM : L.map f = M at h
  induction h generalizing L with
  | nil => exact ⟨[], by cases L with | nil => exact .refl _ | cons a l => simp at hM, rfl⟩
  | cons x hp ih =>
    cases L with
    | nil => simp at hM
    | cons a l =>
      simp only [List.map_cons, List.cons.injEq] at hM
      obtain ⟨L', h1, h2⟩ := ih hM.2
      exact ⟨a :: L', h1.cons a, by simp [h2, hM.1]⟩
  | swap x y t =>
    cases L with
    | nil => simp at hM
    | cons a l =>
      cases l with
      | nil => simp at hM
      | cons b l =>
        simp only [List.map_cons, List.cons.injEq] at hM
        obtain ⟨h1, h2, h3⟩ := hM
        exact ⟨b :: a :: l, .swap a b l, by simp [h1, h2, h3]⟩
  | trans hp hq ih1 ih2 =>
    obtain ⟨L1, h1, h2⟩ := ih2 hM
    obtain ⟨L2, h3, h4⟩ := ih1 h2
    exact ⟨L2, h3.trans h1, h4⟩
end Go.Proofs.Ytjhfglhoiplfmaa

/-! Package slices at elements coilrack/api.Reading: with a function value. Written by mkfind.py. -/
namespace Go.Proofs.Ytjhfglhoiplfmaa
open Go.RowKit

set_option maxRecDepth 100000 in
set_option maxHeartbeats 1000000 in
theorem indexFunc_Rd (F : FuncId) (q : Nat) (P : RdC → Bool) (xs : List (RdC)) (a : Option Addr) (c : Nat) (w : World) (hc : CellsAt w a (flat encC xs)) (hl : xs.length ≤ 137438953472)
    (hE : ∀ (args : Array Value) (w : World), (callFunc F args).run Try.prog w = .ok (.enter F args) w)
    (hF : ∀ x ∈ xs, ∀ w1, w.grownBy w1 none → Calls Try.prog F #[.agg #[.int .i64 x.at_, .slice x.v.a x.v.n x.v.c], .pointer (some ⟨q, 0, none⟩)] w1 fun e w2 => e = .returned (.bool (P x)) ∧ w1.grownBy w2 none) :
    Calls Try.prog 29 #[.slice a xs.length c, Value.func (.func F) #[] #[.pointer (some ⟨q, 0, none⟩)]] w fun e w' => e = .returned (.int .i64 (findA P xs)) ∧ w.grownBy w' none := by
  have HF := Lib.hid hF; clear hF
  go_enter Try.func29, Try.ntmps29
  go_wp2_with (fail)
  go_loopw [8] (fun i wr => ∃ k : Nat, k ≤ xs.length ∧ i = .int .i64 k ∧ (∀ j (hj : j < xs.length), j < k → P xs[j] = false) ∧ w.grownBy wr none) (fun i _ => xs.length - (intOf i).toNat)
  case atStart => exact ⟨0, Nat.zero_le _, rfl, fun j _ hj => absurd hj (Nat.not_lt_zero _), gr_refl _ _⟩
  case round =>
    obtain ⟨k, hk, rfl, hno, hgr⟩ := hrel
    obtain ⟨wo, rfl⟩ : ∃ wo : World, wo = wr := ⟨_, rfl⟩
    have HNO := Lib.hid hno; clear hno
    by_cases hlt : k < xs.length
    · obtain ⟨b, off, rfl, hcs⟩ := flat_cells (enc := encC) (m := 2) (fun _ => rfl) (by decide) (hc.keep0 hgr) (by omega)
      have hmem : xs[k] ∈ xs := List.getElem_mem hlt
      obtain ⟨x, hx⟩ : ∃ x, x = xs[k] := ⟨_, rfl⟩
      have HX := Lib.hid hx
      have d0 : wo.cell? ⟨b, off + k * 2, none⟩ = some (.int .i64 x.at_) := by have := hcs k hlt 0 _ rfl; simpa [← HX.out] using this
      have d1 : wo.cell? ⟨b, off + k * 2 + 1, none⟩ = some (.slice x.v.a x.v.n x.v.c) := by have := hcs k hlt 1 _ rfl; simpa [← HX.out] using this
      rw [← hx] at hmem
      clear hx
      have HM := Lib.hid hmem; clear hmem hcs
      go_wp2_with (fail)
      refine (HF.out x HM.out wo hgr).mono ?_
      rintro e w1 ⟨rfl, hg1⟩
      cases hp : P x with
      | true =>
        have HP := Lib.hid hp; clear hp
        go_wp2_with (fail)
        go_ret
        refine ⟨ret_int (findA_at hlt (by rw [← HX.out]; exact HP.out) (fun j hj => HNO.out j (by omega) hj)).symm, gr_trans hgr hg1⟩
      | false =>
        have HP := Lib.hid hp; clear hp
        go_wp2_with (fail)
        go_roundw
        case rel =>
          refine ⟨k + 1, by omega, by go_num, fun j hjl hj => ?_, gr_trans hgr hg1⟩
          by_cases hjk : j = k
          · subst hjk; rw [← HX.out]; exact HP.out
          · exact HNO.out j hjl (by omega)
        case measure => simp [intOf]; omega
    · have hkl : k = xs.length := by omega
      have HK := Lib.hid hkl; clear hkl
      go_wp2_with (fail)
      go_ret
      exact ⟨ret_int (findA_none (fun j hj => HNO.out j hj (by rw [HK.out]; exact hj))).symm, hgr⟩

end Go.Proofs.Ytjhfglhoiplfmaa

/-! slices.Clone at []coilrack/api.Reading. Written by mkclone.py. -/
namespace Go.Proofs.Ytjhfglhoiplfmaa
open Go.RowKit

theorem cloneRd_any (a : Option Addr) (n c : Nat) (xs : List Value) (w : World) (hn : xs.length = n * 2) (hc : CellsAt w a xs) (hnil : a = none → n = 0 ∧ c = 0) (h1 : ∀ u ∈ xs, u.oneCell' = true) (hb : n ≤ 137438953472) :
    Calls Try.prog 62 #[.slice a n c] w fun e w' => ∃ v, e = .returned v ∧ w'.ownsRow w.heap.size 56 2 v n xs ∧ w.grownBy w' none := by
  have q22 : ∀ (w : World) (a : Option Addr) (n c n' c' : Nat), (binOp .eql 36 (.slice a n c) (.slice none n' c')).run Try.prog w = .ok (.bool a.isNone) w := fun w a n c n' c' => Lib.run_eql_slice_nil w _ _ a n c n' c' Try.underlying36
  cases a with
  | none =>
    obtain ⟨hn0, hc0⟩ := hnil rfl
    subst hn0 hc0
    have hx : xs = [] := List.eq_nil_of_length_eq_zero (by omega)
    subst hx
    clear hnil hn
    go_enter Try.func62, Try.ntmps62
    go_wp2
    go_ret
    exact ⟨_, rfl, World.ownsRow_nil _ _ _ _, gr_refl _ _⟩
  | some ad =>
    have HN := Lib.hid hn
    clear hnil hn
    go_enter Try.func62, Try.ntmps62
    go_wp2_with (at_builtin; refine wpList_app eRd rfl _ _ rfl w.heap.size _ _ _ rfl (World.ownsRow_made w #[] 0 (Nat.le_refl _) (Nat.zero_le _) rfl) (some ad) n c xs rfl ?c1 ?c2 ?c3 ?c4 ?c5 ?c6 ?_)
    case c1 => rw [HN.out]
    case c2 => exact hc.alloc _
    case c3 => intro h; cases h
    case c4 => exact h1
    case c5 => omega
    case c6 => simp
    intro v' w1 hown hg
    go_wp2
    go_ret
    refine ⟨v', rfl, by simpa using hown, ?_⟩
    exact gr_grown (gr_alloc (gr_refl _ _) _) hg (by intro k hk; simp [Value.ownBlock] at hk; omega)
end Go.Proofs.Ytjhfglhoiplfmaa
