/- What a store adds up to, call by call: plain laws; and worlds that agree below a block. -/
import Derived.Test.YtakabckmiodjaaaPkSBa
import Derived.Test.YtakabckmiodjaaaPkSBb
import Derived.Test.YtakabckmiodjaaaPkSAw
namespace Go.Proofs.Ytakabckmiodjaaa
open Go.RowKit

/-- For each lot: what is in the store, at the two places, and gone is what there was. -/
structure StI (X xs : List Lot) (P : Nat → ByteArray → Option Int) (G : ByteArray → Option Int) : Prop where
  len : xs.length = X.length
  same : ∀ i, i < X.length → (lotN xs i).id = (lotN X i).id ∧ (lotN xs i).prod = (lotN X i).prod ∧ (lotN xs i).exp = (lotN X i).exp
  m0 : ∀ i, i < X.length → 0 ≤ (lotN xs i).many
  pk : ∀ i s v, i < X.length → P i s = some v → 0 ≤ v ∧ (s = xS ∨ s = yS)
  g0 : ∀ s, 0 ≤ (G s).getD 0
  sum : ∀ i, i < X.length → (lotN xs i).many + (G (lotN X i).id).getD 0 + (P i xS).getD 0 + (P i yS).getD 0 = (lotN X i).many
variable {X xs xs' : List Lot} {P Q : Nat → ByteArray → Option Int} {G : ByteArray → Option Int} {pl : ByteArray} {ps : List Piece}
theorem StI.start (h : ∀ i, i < X.length → 0 ≤ (lotN X i).many) : StI X X (fun _ _ => none) (fun _ => none) :=
  ⟨rfl, fun _ _ => ⟨rfl, rfl, rfl⟩, h, fun _ _ _ _ e => (by cases e), fun _ => Int.le_refl _, fun _ _ => (by simp)⟩
theorem StI.p0 (h : StI X xs P G) (i : Nat) (hi : i < X.length) (s : ByteArray) : 0 ≤ (P i s).getD 0 := by
  cases hp : P i s with
  | none => exact Int.le_refl _
  | some v => exact (h.pk i s v hi hp).1
theorem StI.bd (h : StI X xs P G) (hX : ∀ i, i < X.length → (lotN X i).many ≤ 100000) (i : Nat) (hi : i < X.length) :
    (0 ≤ (lotN xs i).many ∧ (lotN xs i).many ≤ 100000) ∧ (0 ≤ (G (lotN X i).id).getD 0 ∧ (G (lotN X i).id).getD 0 ≤ 100000) ∧ (0 ≤ (P i xS).getD 0 ∧ (P i xS).getD 0 ≤ 100000) ∧ (0 ≤ (P i yS).getD 0 ∧ (P i yS).getD 0 ≤ 100000) := by
  have h1 := h.m0 i hi
  have h2 := h.g0 (lotN X i).id
  have h3 := h.p0 i hi xS
  have h4 := h.p0 i hi yS
  have h5 := h.sum i hi
  have h6 := hX i hi
  omega
theorem other_place {i : Nat} (hpl : pl = xS ∨ pl = yS) (oth : ∀ i s, s ≠ pl → Q i s = P i s) : (Q i xS).getD 0 + (Q i yS).getD 0 = (P i xS).getD 0 + (P i yS).getD 0 + ((Q i pl).getD 0 - (P i pl).getD 0) := by
  rcases hpl with rfl | rfl
  · rw [oth i yS (fun e => xy_ne e.symm)]; omega
  · rw [oth i xS xy_ne]; omega
theorem StI.keys (h : StI X xs P G) (hpl : pl = xS ∨ pl = yS) (oth : ∀ i s, s ≠ pl → Q i s = P i s) (nn : ∀ i, i < X.length → 0 ≤ (Q i pl).getD 0) : ∀ i s v, i < X.length → Q i s = some v → 0 ≤ v ∧ (s = xS ∨ s = yS) := by
  intro i s v hi hq
  by_cases e : s = pl
  · subst e
    have := nn i hi
    rw [hq] at this
    exact ⟨this, hpl⟩
  · rw [oth i s e] at hq
    exact h.pk i s v hi hq
theorem StI.move (h : StI X xs P G) (hpl : pl = xS ∨ pl = yS) (hm : MoveRel xs xs' P Q pl) : StI X xs' Q G := by
  have hl := h.len
  refine ⟨hm.len.trans hl, fun i hi => ?_, fun i hi => hm.m0 i (by omega), h.keys hpl hm.oth (fun i hi => hm.nn i (by omega)), h.g0, fun i hi => ?_⟩
  · obtain ⟨a, b, c⟩ := hm.same i (by omega)
    obtain ⟨a', b', c'⟩ := h.same i hi
    exact ⟨a.trans a', b.trans b', c.trans c'⟩
  · have h1 := hm.sum i (by omega)
    have h2 := other_place (i := i) hpl hm.oth
    have h3 := h.sum i hi
    omega
theorem StI.waste {f : Int → Option Int} {H : ByteArray → Option Int} (h : StI X xs P G) (hpl : pl = xS ∨ pl = yS) (hb : BackRel xs P Q pl ps f) (hH : ∀ s, (H s).getD 0 = (G s).getD 0 + cntP ps s) (h0 : ∀ s, 0 ≤ cntP ps s) : StI X xs Q H := by
  have hl := h.len
  refine ⟨hl, h.same, h.m0, h.keys hpl hb.oth (fun i hi => ?_), fun s => ?_, fun i hi => ?_⟩
  · have h1 := hb.got i (by omega)
    have h2 := hb.nn i (by omega)
    omega
  · have := hH s
    have := h.g0 s
    have := h0 s
    omega
  · have h1 := hb.got i (by omega)
    rw [(h.same i hi).1] at h1
    have h2 := other_place (i := i) hpl hb.oth
    have h3 := h.sum i hi
    have h4 := hH (lotN X i).id
    omega
theorem nm_cellsW {w : World} {a : Option Addr} {p : List Nm} (h : CellsAt w a (flat encNm p)) (k : Nat) (hk : k < p.length) : ∃ b off, a = some ⟨b, off, none⟩ ∧ w.cell? ⟨b, off + k * 2, none⟩ = some (.string p[k].key) ∧ w.cell? ⟨b, off + k * 2 + 1, none⟩ = some (.int .i64 p[k].many) := by
  obtain ⟨b, off, rfl, hcs⟩ := flat_cells (enc := encNm) (m := 2) (fun _ => rfl) (by decide) h (by omega)
  exact ⟨b, off, rfl, hcs k hk 0 _ rfl, hcs k hk 1 _ rfl⟩
theorem nmSum_take (O : List Nm) (k : Nat) (hk : k < O.length) : nmSum (O.take (k + 1)) = nmSum (O.take k) + O[k].many := by
  rw [take_next O k hk, nmSum_app]
  simp [nmSum]
theorem nmSum_bd (O : List Nm) (h : ∀ x ∈ O, 1 ≤ x.many) (k : Nat) : 0 ≤ nmSum (O.take k) ∧ nmSum (O.take k) ≤ nmSum O := by
  have h1 : ∀ L : List Nm, (∀ x ∈ L, 1 ≤ x.many) → 0 ≤ nmSum L := by
    intro L
    induction L with
    | nil => intro _; simp [nmSum]
    | cons x L ih =>
      intro hL
      have h2 := ih (fun y hy => hL y (by simp [hy]))
      have h3 := hL x (by simp)
      have e : nmSum (x :: L) = x.many + nmSum L := by simp [nmSum]
      omega
  have e : nmSum O = nmSum (O.take k) + nmSum (O.drop k) := by rw [← nmSum_app, List.take_append_drop]
  have h2 := h1 (O.take k) (fun x hx => h x (List.mem_of_mem_take hx))
  have h3 := h1 (O.drop k) (fun x hx => h x (List.mem_of_mem_drop hx))
  omega
theorem cntP_pos (ps : List Piece) (hp : ∀ p ∈ ps, 1 ≤ p.many) (k : ByteArray) : 0 ≤ cntP ps k := by
  induction ps with
  | nil => simp [cntP]
  | cons p qs ih =>
    have h1 := ih (fun q hq => hp q (by simp [hq]))
    have h2 := hp p (by simp)
    have e := cntP_app [p] qs k
    rw [cntP_one] at e
    have e2 : cntP (p :: qs) k = (if p.lot = k then p.many else 0) + cntP qs k := e
    rw [e2]
    split <;> omega
theorem cntN_cntP (ps : List Piece) (hp : ∀ p ∈ ps, 1 ≤ p.many) (k : ByteArray) : ((cntN (unitsL ps) k : Nat) : Int) = cntP ps k := by
  induction ps with
  | nil => rfl
  | cons p qs ih =>
    have h1 := ih (fun q hq => hp q (by simp [hq]))
    have h2 := hp p (by simp)
    have e := cntP_app [p] qs k
    rw [cntP_one] at e
    have e2 : cntP (p :: qs) k = (if p.lot = k then p.many else 0) + cntP qs k := e
    rw [e2, unitsL_cons, cntN_app, cntN_rep, Int.natCast_add, h1]
    by_cases hk : p.lot = k
    · rw [if_pos hk, if_pos hk.symm]; omega
    · rw [if_neg hk, if_neg (fun e => hk e.symm)]; rfl
theorem units_lenB (ps : List Piece) (hp : ∀ p ∈ ps, 1 ≤ p.many ∧ p.many ≤ 100000) : (unitsL ps).length ≤ 100000 * ps.length := by
  induction ps with
  | nil => simp [unitsL]
  | cons p qs ih =>
    have h1 := ih (fun q hq => hp q (by simp [hq]))
    have h2 := hp p (by simp)
    rw [unitsL_cons, List.length_append, List.length_replicate, List.length_cons]
    omega
/-- While what was thrown away is counted. -/
def GoneS (G H U : ByteArray → Option Int) (left : Lit → Bool) : Prop := ∀ s, (H s).getD 0 = (G s).getD 0 + (if left (skey s) then 0 else (U s).getD 0)
theorem GoneS.start {U : ByteArray → Option Int} {left : Lit → Bool} (h : ∀ s, left (skey s) = (U s).isSome) : GoneS G G U left := fun s => by
  rw [h]
  cases U s <;> simp
theorem GoneS.next {H U : ByteArray → Option Int} {left : Lit → Bool} {k : ByteArray} {v : Int} (h : GoneS G H U left) (hu : U k = some v) (hl : left (skey k) = true) :
    GoneS G (fun t => if t = k then some ((H k).getD 0 + v) else H t) U (fun z => left z && !z.sameKey (skey k)) := fun s => by
  have h1 := h s
  by_cases e : s = k
  · subst e
    rw [hl, if_pos rfl] at h1
    simp only [if_true, skey_sm, hu, Bool.not_true, Bool.and_false]
    simp; omega
  · simp only [if_neg e]
    have hne : skey s ≠ skey k := fun e2 => e (skey_inj e2)
    simp only [Maps.sameKey_ne hne, Bool.not_false, Bool.and_true]
    exact h1
theorem GoneS.done {H : ByteArray → Option Int} {left : Lit → Bool} (h : GoneS G H (cntU (unitsL ps)) left) (hp : ∀ p ∈ ps, 1 ≤ p.many) (hl : ∀ kl, left kl = false) (s : ByteArray) : (H s).getD 0 = (G s).getD 0 + cntP ps s := by
  rw [h s, hl, cntU_get, cntN_cntP ps hp]; rfl
/-- What stays below the store's memory, block by block. -/
theorem Keep0.blk {base : Nat} {Bs : List Nat} {w w' : World} (h : Keep0 base Bs w w') (hz : base ≤ w.heap.size) (b : Nat) (hb : b < base) : w'.heap[b]? = w.heap[b]? := by
  have e : ∀ k, k < base → (w.heap.extract 0 base)[k]? = w.heap[k]? := fun k hk => by
    rw [Array.getElem?_extract]
    simp; omega
  have g0 : ({ w with heap := w.heap.extract 0 base } : World).grownBy w none := ⟨rfl, rfl, rfl, by simp; omega, fun k hk _ => by
    have : k < base := by simp at hk; omega
    exact (e k this).symm⟩
  have g1 := h.1 _ (by simp; omega) g0
  rw [g1.block b (by simp; omega) (by simp)]
  exact e b hb
theorem StreamAt.frS {w w1 : World} {p lw k : Nat} {l : List Int} (h : StreamAt w p lw l k) (hp : w1.heap[p]? = w.heap[p]?) (hl : ∀ b, b < lw → w1.heap[b]? = w.heap[b]?) : StreamAt w1 p lw l k := by
  obtain ⟨⟨a, cap, hb, hc, hne⟩, hlen, hlow⟩ := h
  refine ⟨⟨a, cap, hp.trans hb, fun i v hv => ?_, hne⟩, hlen, hlow⟩
  obtain ⟨b, off, he, hcell⟩ := hc i v hv
  have h0 : 0 < l.length := by
    cases l with
    | nil => simp at hv
    | cons x l => simp
  exact ⟨b, off, he, (World.cell?_of_block (w := w) (hl b (hne h0 b off he))).trans hcell⟩
theorem StreamAt.keepK {base : Nat} {Bs : List Nat} {w w1 : World} {p lw k : Nat} {l : List Int} (h : StreamAt w p lw l k) (g : Keep0 base Bs w w1) (hz : base ≤ w.heap.size) (hp : p < base) : StreamAt w1 p lw l k :=
  h.frS (g.blk hz p hp) (fun b hb => g.blk hz b (by have := h.low; omega))
/-- A store that is being filled: its rows lie from rb on, its variable below. -/
structure PreM (w : World) (rb S : Nat) (xs : List Lot) (Bs : List Nat) : Prop where
  st : StoreX w rb S xs (Bs.map mapV)
  len : Bs.length = xs.length
  maps : ∀ (i b : Nat), Bs[i]? = some b → rb ≤ b ∧ MapIs w b 0 (fun _ => none)
  nd : Bs.Nodup
theorem PreM.keepR {w w1 : World} {rb S : Nat} {Bs : List Nat} {r : Option Nat} (h : PreM w rb S xs Bs) (g : w.grownBy w1 r) (hr : ∀ q, r = some q → q < rb ∧ q ≠ S) : PreM w1 rb S xs Bs :=
  ⟨h.st.keepR g hr, h.len, fun i b hb => ⟨(h.maps i b hb).1, (h.maps i b hb).2.keep g (fun e => by have := hr b e.symm; have := (h.maps i b hb).1; omega)⟩, h.nd⟩
theorem PreM.take {w w1 : World} {rb S : Nat} {x : Lot} {Bs : List Nat} {b : Nat} (h : PreM w rb S xs Bs) (hs : StoreX w1 rb S (xs ++ [x]) (Bs.map mapV ++ [.map (some b)])) (hm : MapIs w1 b 0 (fun _ => none)) (hb : w.heap.size ≤ b) {T : Nat → Prop} (hk : MapsStay T w w1) (hbs : rb ≤ b) : PreM w1 rb S (xs ++ [x]) (Bs ++ [b]) := by
  have hlen := h.len
  refine ⟨by rw [List.map_append]; exact hs, by simp [hlen], fun i c hc => ?_, ?_⟩
  · by_cases hi : i < Bs.length
    · rw [List.getElem?_append_left hi] at hc
      obtain ⟨h1, h3⟩ := h.maps i c hc
      obtain ⟨es, cl, ho⟩ := h3.obj
      exact ⟨h1, h3.of_block ((hk.1 c es cl ho).trans ho.symm)⟩
    · have hi2 := (List.getElem?_eq_some_iff.1 hc).1
      simp at hi2
      obtain rfl : i = Bs.length := by omega
      rw [List.getElem?_append_right (Nat.le_refl _), Nat.sub_self] at hc
      simp at hc
      subst hc
      exact ⟨hbs, hm⟩
  · unfold List.Nodup
    rw [List.pairwise_append]
    refine ⟨h.nd, by simp, fun c hc d hd e => ?_⟩
    simp at hd
    subst hd; subst e
    obtain ⟨i, hi⟩ := List.getElem?_of_mem hc
    have := (h.maps i c hi).2.lt
    omega
theorem PreM.full {w : World} {rb S : Nat} {Bs : List Nat} (h : PreM w rb S xs Bs) (hS : S ≤ rb) : StoreM w S S 0 xs Bs (fun _ _ => none) :=
  ⟨h.st.base hS, h.len, fun i b hb => ⟨Nat.le_trans hS (h.maps i b hb).1, 0, Nat.le_refl _, (h.maps i b hb).2⟩, h.nd, Nat.le_refl _⟩
/-- What is neither the store nor the map of what came, and lies below the rows, stays. -/
def Fr3 (rb S C : Nat) (w w1 : World) : Prop := ∀ (c : Nat) (o : Obj), c < rb → c ≠ S → c ≠ C → w.heap[c]? = some o → w1.heap[c]? = some o
theorem Fr3.refl (rb S C : Nat) (w : World) : Fr3 rb S C w w := fun _ _ _ _ _ h => h
theorem Fr3.trans {rb S C : Nat} {a b c : World} (h : Fr3 rb S C a b) (g : Fr3 rb S C b c) : Fr3 rb S C a c := fun k o h1 h2 h3 h4 => g k o h1 h2 h3 (h k o h1 h2 h3 h4)
theorem Fr3.ofM {rb S C : Nat} {a b : World} {T : Nat → Prop} (h : MapsStay T a b) (hT : ∀ c, c < rb → c ≠ S → T c) : Fr3 rb S C a b := fun k o h1 h2 _ h4 => h.2 k o (hT k h1 h2) h4
theorem StoreX.notStore {w w1 : World} {rb S L : Nat} {ms : List Value} (h : StoreX w rb S xs ms) (g : w.grownBy w1 none) (hL : w.heap.size ≤ L) (hLS : L ≠ S) : NotStore w1 S (fun c => (c < rb ∧ c ≠ S) ∨ c = L) := by
  obtain ⟨v, u, h1, h2, h3⟩ := h.ex
  have hS := (g.block S (lt_of_block h1) (by simp)).trans h1
  intro c hc
  refine ⟨by rcases hc with hc | hc <;> omega, fun v' u' h' => ?_⟩
  rw [hS] at h'
  injection h' with h'; injection h' with h' _; injection h' with h'
  injection h' with e1 h'; injection h' with e2 _
  subst e1; subst e2
  exact ⟨fun e => by have := h2.lt c e; rcases hc with hc | hc <;> omega, fun e => by have := h3.lt c e; rcases hc with hc | hc <;> omega⟩
theorem Fr3.of {rb S C : Nat} {a b : World} {r : Option Nat} (g : a.grownBy b r) (hr : ∀ q, r = some q → q = C) : Fr3 rb S C a b := fun k _ _ _ h3 h4 => (g.block k (Array.getElem?_eq_some_iff.1 h4).1 (fun e => h3 (hr k e.symm))).trans h4
theorem Fr3.cells {rb S C : Nat} {w w1 : World} {a : Option Addr} {vs : List Value} (h : Fr3 rb S C w w1) (hc : CellsAt w a vs) (ha : ∀ b off, a = some ⟨b, off, none⟩ → b < rb ∧ b ≠ S ∧ b ≠ C) : CellsAt w1 a vs := fun j v hj => by
  obtain ⟨b, off, e, hv⟩ := hc j v hj
  obtain ⟨h1, h2, h3⟩ := ha b off e
  have hlt := lt_of_cell hv
  exact ⟨b, off, e, (World.cell?_of_block (w := w) ((h b _ h1 h2 h3 (Array.getElem?_eq_getElem hlt)).trans (Array.getElem?_eq_getElem hlt).symm)).trans hv⟩
theorem Fr3.blk {rb S C : Nat} {w w1 : World} (h : Fr3 rb S C w w1) {b : Nat} (h1 : b < rb) (h2 : b ≠ S) (h3 : b ≠ C) (hlt : b < w.heap.size) : w1.heap[b]? = w.heap[b]? := (h b _ h1 h2 h3 (Array.getElem?_eq_getElem hlt)).trans (Array.getElem?_eq_getElem hlt).symm
theorem StoreM.at {w : World} {base S mx : Nat} {Bs : List Nat} (h : StoreM w base S mx xs Bs P) : StoreAt w base S xs := by
  obtain ⟨v, u, h1, h2, h3⟩ := h.st.ex
  exact ⟨⟨v, u, _, h1, h2, h3⟩, h.low⟩
end Go.Proofs.Ytakabckmiodjaaa
