/- A store with a map for each lot: what its variable holds, and what keeps it. -/
import Derived.Test.YtakabckmiodjaaaPkSAo
import Derived.Test.YtakabckmiodjaaaPkSAu
import Derived.Test.YtakabckmiodjaaaPkSAp
import Derived.Test.YtakabckmiodjaaaPkSAn
import Derived.Test.YtakabckmiodjaaaPkSAt
import Derived.Test.YtakabckmiodjaaaPkSAd
import Derived.Test.YtakabckmiodjaaaPkSAq
import Derived.Test.YtakabckmiodjaaaPkSAc
namespace Go.Proofs.Ytakabckmiodjaaa
open Go.RowKit

def mapV (b : Nat) : Value := .map (some b)
structure StoreM (w : World) (base S mx : Nat) (xs : List Lot) (Bs : List Nat) (P : Nat → ByteArray → Option Int) : Prop where
  st : StoreX w base S xs (Bs.map mapV)
  len : Bs.length = xs.length
  maps : ∀ (i b : Nat), Bs[i]? = some b → base ≤ b ∧ ∃ m, m ≤ mx ∧ MapIs w b m (P i)
  nd : Bs.Nodup
  low : base ≤ S
variable {w w1 : World} {base S mx : Nat} {xs : List Lot} {Bs : List Nat} {P : Nat → ByteArray → Option Int}
theorem StoreM.keepR {r : Option Nat} (h : StoreM w base S mx xs Bs P) (g : w.grownBy w1 r) (hr : ∀ q, r = some q → q < base) : StoreM w1 base S mx xs Bs P :=
  ⟨h.st.keepR g (fun q e => ⟨hr q e, by have := hr q e; have := h.low; omega⟩), h.len, fun i b hb => by
    obtain ⟨h1, m, h2, h3⟩ := h.maps i b hb
    exact ⟨h1, m, h2, h3.keep g (fun e => by have := hr b e.symm; omega)⟩, h.nd, h.low⟩
theorem StoreM.keep0 (h : StoreM w base S mx xs Bs P) (g : w.grownBy w1 none) : StoreM w1 base S mx xs Bs P := h.keepR g (fun q e => by cases e)
theorem StoreM.keepS {p : Nat} (h : StoreM w base S mx xs Bs P) (g : w.grownBy w1 (some p)) (hp : p < base) : StoreM w1 base S mx xs Bs P := h.keepR g (fun q e => by cases e; exact hp)
theorem StoreM.up {mx' : Nat} (h : StoreM w base S mx xs Bs P) (hm : mx ≤ mx') : StoreM w base S mx' xs Bs P :=
  ⟨h.st, h.len, fun i b hb => by
    obtain ⟨h1, m, h2, h3⟩ := h.maps i b hb
    exact ⟨h1, m, Nat.le_trans h2 hm, h3⟩, h.nd, h.low⟩
theorem StoreM.lt (h : StoreM w base S mx xs Bs P) : S < w.heap.size ∧ base ≤ S := by
  obtain ⟨v, u, h1, _⟩ := h.st.ex
  exact ⟨lt_of_block h1, h.low⟩
theorem own_iter_ne {base e size n c : Nat} {v : Value} {xs : List Value} {o : Obj} (h : w.ownsRow base e size v n xs) (hc : w.heap[c]? = some o) (ho : ∀ cs t fr, o ≠ .cells cs t fr) : v.ownBlock ≠ some c := by
  rcases h.2 with ⟨rfl, _⟩ | ⟨g', cap, cur, rfl, _, hh, _⟩
  · simp [Value.ownBlock]
  · intro he
    have : g' = c := by simpa [Value.ownBlock] using he
    subst this
    rw [hc] at hh
    injection hh with hh
    exact ho _ _ _ hh
/-- A range's own block is written. -/
theorem StoreM.keepI {r : Nat} {m : Option Nat} {a c : Nat} {sn : Array Nat} (h : StoreM w base S mx xs Bs P) (g : w.grownBy w1 (some r)) (ho : w.heap[r]? = some (.mapIter m a sn c)) : StoreM w1 base S mx xs Bs P := by
  obtain ⟨v, u, h1, h2, h3⟩ := h.st.ex
  refine ⟨⟨⟨v, u, (g.block S (lt_of_block h1) (fun e => by cases e; rw [h1] at ho; cases ho)).trans h1, own_keep h2 g (.inr (own_iter_ne h2 ho (fun _ _ _ e => by cases e))), own_keep h3 g (.inr (own_iter_ne h3 ho (fun _ _ _ e => by cases e)))⟩⟩, h.len, fun j b hb => ?_, h.nd, h.low⟩
  obtain ⟨q1, q, q2, q3⟩ := h.maps j b hb
  refine ⟨q1, q, q2, q3.keep g (fun e => ?_)⟩
  cases e
  obtain ⟨es, cl, hm⟩ := q3.obj
  rw [hm] at ho
  cases ho
/-- A map that is none of the store's is written. -/
theorem StoreM.keepM {b cl : Nat} {es : Array MapEntry} (h : StoreM w base S mx xs Bs P) (g : w.grownBy w1 (some b)) (ho : w.heap[b]? = some (Obj.map es cl)) (hb : b ∉ Bs) : StoreM w1 base S mx xs Bs P := by
  obtain ⟨v, u, h1, h2, h3⟩ := h.st.ex
  refine ⟨⟨v, u, (g.block S (lt_of_block h1) (fun e => by cases e; rw [h1] at ho; cases ho)).trans h1, own_keep h2 g (.inr (own_map_ne h2 ho)), own_keep h3 g (.inr (own_map_ne h3 ho))⟩, h.len, fun j c hc => ?_, h.nd, h.low⟩
  obtain ⟨q1, q, q2, q3⟩ := h.maps j c hc
  exact ⟨q1, q, q2, q3.keep g (fun e => by cases e; exact hb (List.mem_of_getElem? hc))⟩
/-- The lots are written in their own row. -/
theorem StoreM.lots {v u : Value} {xs' : List Lot} (h : StoreM w base S mx xs Bs P) (hS : w.heap[S]? = some (.cells #[v, u] 118 (0, 0))) (o : w1.ownsRow base 69 4 v xs.length (flat encLot xs')) (g : w.grownBy w1 v.ownBlock) (hl : xs'.length = xs.length) : StoreM w1 base S mx xs' Bs P := by
  obtain ⟨v', u', h1, h2, h3⟩ := h.st.ex
  rw [hS] at h1
  injection h1 with h1; injection h1 with h1 _; injection h1 with h1
  injection h1 with e1 h1; injection h1 with e2 _
  subst e1; subst e2
  refine ⟨⟨⟨v, u, (g.block S (lt_of_block hS) (fun e => own_ne h2 hS (by decide) e.symm)).trans hS, by rw [hl]; exact o, by rw [hl]; exact own_keepU h3 h2 (by decide) g⟩⟩, h.len.trans hl.symm, fun i b hb => ?_, h.nd, h.low⟩
  obtain ⟨k1, m, k2, k3⟩ := h.maps i b hb
  obtain ⟨es, cl, ho⟩ := k3.obj
  exact ⟨k1, m, k2, k3.keep g (fun e => own_map_ne h2 ho e.symm)⟩
/-- One of the maps is written. -/
theorem StoreM.put {i b m mx' : Nat} {f : ByteArray → Option Int} (h : StoreM w base S mx xs Bs P) (hb : Bs[i]? = some b) (hm : MapIs w1 b m f) (hm1 : m ≤ mx') (hm2 : mx ≤ mx') (g : w.grownBy w1 (some b)) : StoreM w1 base S mx' xs Bs (fun j => if j = i then f else P j) := by
  obtain ⟨v, u, h1, h2, h3⟩ := h.st.ex
  obtain ⟨k1, m0, k2, k3⟩ := h.maps i b hb
  obtain ⟨es, cl, ho⟩ := k3.obj
  refine ⟨⟨⟨v, u, (g.block S (lt_of_block h1) (fun e => by cases e; rw [h1] at ho; cases ho)).trans h1, own_keep h2 g (.inr (own_map_ne h2 ho)), own_keep h3 g (.inr (own_map_ne h3 ho))⟩⟩, h.len, fun j c hc => ?_, h.nd, h.low⟩
  obtain ⟨q1, q, q2, q3⟩ := h.maps j c hc
  by_cases e : j = i
  · subst e
    rw [hb] at hc
    cases hc
    rw [if_pos rfl]
    exact ⟨q1, m, hm1, hm⟩
  · rw [if_neg e]
    have hne : c ≠ b := fun e2 => by
      subst e2
      obtain ⟨hi, hi2⟩ := List.getElem?_eq_some_iff.1 hb
      obtain ⟨hj, hj2⟩ := List.getElem?_eq_some_iff.1 hc
      rcases Nat.lt_or_gt_of_ne e with h' | h'
      · exact (List.pairwise_iff_getElem.1 h.nd) _ _ hj hi h' (hj2.trans hi2.symm)
      · exact (List.pairwise_iff_getElem.1 h.nd) _ _ hi hj h' (hi2.trans hj2.symm)
    exact ⟨q1, q, Nat.le_trans q2 hm2, q3.keep g (by simpa using hne)⟩
/-- The cells that the walk reads. -/
theorem StoreM.cells (h : StoreM w base S mx xs Bs P) : ∃ va vc ua uc, w.heap[S]? = some (.cells #[.slice va xs.length vc, .slice ua xs.length uc] 118 (0, 0)) ∧ w.cell? ⟨S, 0, none⟩ = some (.slice va xs.length vc) ∧ w.cell? ⟨S, 1, none⟩ = some (.slice ua xs.length uc) ∧ CellsAt w va (flat encLot xs) ∧
    w.ownsRow base 69 4 (.slice va xs.length vc) xs.length (flat encLot xs) ∧ xs.length ≤ uc ∧ uc ≤ maxLen ∧ ∀ i b, Bs[i]? = some b → ∃ g, ua = some ⟨g, 0, none⟩ ∧ w.cell? ⟨g, i, none⟩ = some (.map (some b)) := by
  obtain ⟨v, u, h1, h2, h3⟩ := h.st.ex
  obtain ⟨va, vc, rfl, -, -, hc, -⟩ := own_shape h2
  have h3' := h3
  obtain ⟨ua, uc, rfl, hu1, hu2, hcu, -⟩ := own_shape h3
  refine ⟨va, vc, ua, uc, h1, blkC h1 0 rfl, blkC h1 1 rfl, hc, h2, hu1, hu2, fun i b hb => ?_⟩
  have hi := (List.getElem?_eq_some_iff.1 hb).1
  obtain ⟨g, c, e, -⟩ := own_some h3' (by have := h.len; omega)
  cases e
  obtain ⟨g', off, e, hcell⟩ := hcu i (.map (some b)) (by rw [List.getElem?_map, hb]; rfl)
  cases e
  exact ⟨g, rfl, by simpa using hcell⟩
theorem lotGet_id {xs : List Lot} {k : ByteArray} (h : lotHas xs k = true) : (lotGet xs k).id = k := by
  rw [lotHas_get] at h
  obtain ⟨x, hx⟩ := Option.isSome_iff_exists.1 h
  have h2 := List.find?_some hx
  unfold lotGet
  rw [hx]
  exact bytes_of (by simpa [idIs] using h2)
/-- The number of a lot. -/
theorem lotIx_of {xs : List Lot} {k : ByteArray} {i : Nat} (hd : Apart xs) (hi : i < xs.length) (he : (lotN xs i).id = k) : lotIx xs k = i := by
  have hh : lotHas xs k = true := by
    cases h : lotHas xs k with
    | true => rfl
    | false =>
      exfalso
      unfold lotHas at h
      rw [List.any_eq_false] at h
      refine h xs[i] (List.getElem_mem hi) ?_
      rw [lotN_get hi] at he
      subst he
      simp [idIs]
  obtain ⟨j, hj, e1, e2⟩ := lotIx_at hh
  have : (lotN xs j).id = k := by
    rw [lotN_get hj, e2]
    exact lotGet_id hh
  rw [e1, hd j i hj hi (this.trans he.symm)]
end Go.Proofs.Ytakabckmiodjaaa

/-! How many units of each product are needed: a map; what is wrong with a kit's needs. -/
namespace Go.Proofs.Ytakabckmiodjaaa
open Go.RowKit
attribute [local go_sem ↓] Go.wp_at_zero Go.wp_at_succ

def needSum (N : List Need) (s : ByteArray) : Int := (N.map (fun x => if x.prod = s then x.many else 0)).sum
def needMap (N : List Need) (s : ByteArray) : Option Int := if N.any (fun x => decide (x.prod = s)) = true then some (needSum N s) else none
theorem needSum_app (a b : List Need) (s : ByteArray) : needSum (a ++ b) s = needSum a s + needSum b s := by simp [needSum]
theorem needSum_bd (N : List Need) (s : ByteArray) (h : ∀ x ∈ N, NeedSm x) : -(N.length : Int) ≤ needSum N s ∧ needSum N s ≤ 100001 * N.length := by
  induction N with
  | nil => simp [needSum]
  | cons x N ih =>
    have h1 := ih (fun y hy => h y (by simp [hy]))
    obtain ⟨-, -, h2, h3⟩ := h x (by simp)
    have e : needSum (x :: N) s = (if x.prod = s then x.many else 0) + needSum N s := by simp [needSum]
    rw [e]
    simp only [List.length_cons]
    split <;> omega
theorem needMap_get (N : List Need) (s : ByteArray) : (needMap N s).getD 0 = needSum N s := by
  unfold needMap
  split
  · rfl
  · rename_i h
    induction N with
    | nil => rfl
    | cons x N ih =>
      simp only [List.any_cons, Bool.or_eq_true, decide_eq_true_eq, not_or] at h
      have e : needSum (x :: N) s = (if x.prod = s then x.many else 0) + needSum N s := by simp [needSum]
      rw [e, if_neg h.1, ← ih h.2]; rfl
theorem needMap_next (N : List Need) (k : Nat) (hk : k < N.length) (t : ByteArray) : needMap (N.take (k + 1)) t = if t = N[k].prod then some ((needMap (N.take k) N[k].prod).getD 0 + N[k].many) else needMap (N.take k) t := by
  have e : N.take (k + 1) = N.take k ++ [N[k]] := by simp
  rw [needMap_get, e]
  unfold needMap
  rw [needSum_app, List.any_append]
  by_cases h : t = N[k].prod
  · subst h
    rw [if_pos rfl]
    simp [needSum]
  · rw [if_neg h]
    have h2 : ¬ N[k].prod = t := fun e => h e.symm
    simp [needSum, h2]
theorem needMap_key {N : List Need} {s : ByteArray} {x : Int} (h : ∀ x ∈ N, NeedSm x) (hx : needMap N s = some x) : s.size ≤ 3 ∧ x = needSum N s ∧ ∃ y ∈ N, y.prod = s := by
  unfold needMap at hx
  split at hx
  · rename_i hy
    obtain ⟨y, hy, e⟩ := List.any_eq_true.1 hy
    have e : y.prod = s := by simpa using e
    injection hx with hx
    exact ⟨by rw [← e]; exact (h y hy).2.1, hx.symm, y, hy, e⟩
  · cases hx
/-! How many units of each product are wanted: the program's map. -/
attribute [local go_sem ↓] Go.wp_at_zero Go.wp_at_succ

end Go.Proofs.Ytakabckmiodjaaa

/-! Kits: how they lie in memory, and what their parts keep. -/
namespace Go.Proofs.Ytakabckmiodjaaa
open Go.RowKit

structure KitV where
  place : ByteArray
  prod : ByteArray
  pv : Value
  ps : List Piece
def encKit (x : KitV) : List Value := [.string x.place, .string x.prod, x.pv]
theorem encKit_len (x : KitV) : (encKit x).length = 3 := rfl
def allPs (ks : List KitV) : List Piece := ks.flatMap (·.ps)
theorem allPs_app (ks : List KitV) (x : KitV) : allPs (ks ++ [x]) = allPs ks ++ x.ps := by simp [allPs]
theorem cellUp {w : World} {b o : Nat} {v : Value} (h : w.cell? ⟨b, o, none⟩ = some v) (ob : Obj) : (w.alloc ob).cell? ⟨b, o, none⟩ = some v := (gr_cell (gr_alloc (gr_refl w none) ob) (lt_of_cell h)).trans h
/-- Two rows of ints that grow side by side. -/
structure TwoI (wr : World) (base : Nat) (u v : Value) (A B : List Int) : Prop where
  a : wr.ownsRow base 3 1 u A.length (ints A)
  b : wr.ownsRow base 3 1 v B.length (ints B)
  ne : ∀ k, u.ownBlock = some k → v.ownBlock ≠ some k
theorem TwoI.keep0 {wr w1 : World} {base : Nat} {u v : Value} {A B : List Int} (h : TwoI wr base u v A B) (g : wr.grownBy w1 none) : TwoI w1 base u v A B := ⟨own_keep0 h.a g, own_keep0 h.b g, h.ne⟩
theorem TwoI.app1 {wr w6 : World} {base : Nat} {u v u6 : Value} {A B : List Int} {x : Int} (h : TwoI wr base u v A B) (o6 : w6.ownsRow base 3 1 u6 (A.length + 1) (ints A ++ [.int .i64 x])) (g6 : wr.grownBy w6 u.ownBlock) (hf : ∀ k, u6.ownBlock = some k → u.ownBlock = some k ∨ wr.heap.size ≤ k) : TwoI w6 base u6 v (A ++ [x]) B := by
  refine ⟨by simpa [ints] using o6, own_keep h.b g6 ?_, fun k hk e => ?_⟩
  · cases hv : v.ownBlock with
    | none => exact .inl rfl
    | some k => exact .inr (fun e => h.ne k e.symm hv)
  · rcases hf k hk with h1 | h1
    · exact h.ne k h1 e
    · have := (h.b.lt k e).2; omega
theorem TwoI.app2 {wr w6 : World} {base : Nat} {u v v6 : Value} {A B : List Int} {x : Int} (h : TwoI wr base u v A B) (o6 : w6.ownsRow base 3 1 v6 (B.length + 1) (ints B ++ [.int .i64 x])) (g6 : wr.grownBy w6 v.ownBlock) (hf : ∀ k, v6.ownBlock = some k → v.ownBlock = some k ∨ wr.heap.size ≤ k) : TwoI w6 base u v6 A (B ++ [x]) := by
  refine ⟨own_keep h.a g6 ?_, by simpa [ints] using o6, fun k hk e => ?_⟩
  · cases hu : u.ownBlock with
    | none => exact .inl rfl
    | some k => exact .inr (fun e => h.ne k hu e.symm)
  · rcases hf k e with h1 | h1
    · exact h.ne k hk h1
    · have := (h.a.lt k hk).2; omega
theorem TwoI.step1 {w3 Wc w6 : World} {base q : Nat} {u v u6 : Value} {A B : List Int} {x : Int} {cs : Array Value} {t : TypeId} (h : TwoI w3 base u v A B) (gW : w3.grownBy Wc none) (o6 : w6.ownsRow base 3 1 u6 (A.length + 1) (ints A ++ [.int .i64 x])) (g6 : Wc.grownBy w6 u.ownBlock) (hf : ∀ k, u6.ownBlock = some k → u.ownBlock = some k ∨ Wc.heap.size ≤ k) (hV : w3.heap[q]? = some (.cells cs t (0, 0))) (ht : 3 ≠ t) :
    TwoI w6 base u6 v (A ++ [x]) B ∧ w6.heap[q]? = some (.cells cs t (0, 0)) ∧ ∀ w0 : World, w0.heap.size ≤ base → w0.grownBy w3 none → w0.grownBy w6 none := by
  have hc := h.keep0 gW
  exact ⟨hc.app1 o6 g6 hf, held_own hc.a ((gW.block q (lt_of_block hV) (by simp)).trans hV) g6 ht, fun w0 hz g0 => gr_grown (gr_trans g0 gW) g6 (fun k hk => Nat.le_trans hz (hc.a.lt k hk).1)⟩
theorem TwoI.step2 {w3 Wc w6 : World} {base q : Nat} {u v v6 : Value} {A B : List Int} {x : Int} {cs : Array Value} {t : TypeId} (h : TwoI w3 base u v A B) (gW : w3.grownBy Wc none) (o6 : w6.ownsRow base 3 1 v6 (B.length + 1) (ints B ++ [.int .i64 x])) (g6 : Wc.grownBy w6 v.ownBlock) (hf : ∀ k, v6.ownBlock = some k → v.ownBlock = some k ∨ Wc.heap.size ≤ k) (hV : w3.heap[q]? = some (.cells cs t (0, 0))) (ht : 3 ≠ t) :
    TwoI w6 base u v6 A (B ++ [x]) ∧ w6.heap[q]? = some (.cells cs t (0, 0)) ∧ ∀ w0 : World, w0.heap.size ≤ base → w0.grownBy w3 none → w0.grownBy w6 none := by
  have hc := h.keep0 gW
  exact ⟨hc.app2 o6 g6 hf, held_own hc.b ((gW.block q (lt_of_block hV) (by simp)).trans hV) g6 ht, fun w0 hz g0 => gr_grown (gr_trans g0 gW) g6 (fun k hk => Nat.le_trans hz (hc.b.lt k hk).1)⟩
end Go.Proofs.Ytakabckmiodjaaa
