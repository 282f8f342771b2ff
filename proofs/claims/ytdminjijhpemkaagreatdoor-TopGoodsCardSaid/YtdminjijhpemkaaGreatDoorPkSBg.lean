/- Right offers, as the stream makes them. -/
import Derived.Test.YtdminjijhpemkaaGreatDoorPkSAd
import Derived.Test.YtdminjijhpemkaaGreatDoorPkSAc
import Derived.Deep.RegionLaw
import Derived.Deep.DeepFit
import Derived.IntWalk
import Derived.Laws.Cover4
import Derived.Test.YtdminjijhpemkaaGreatDoorPkSAa
namespace Go.Proofs.YtdminjijhpemkaaGreatDoor
open Go.RowKit
variable {lw : Nat}

structure Offer where
  key : ByteArray
  group : ByteArray
  profits : List Int
  has : List ByteArray
  hates : List ByteArray
def OffR (base : Nat) (w : World) (o : Offer) (c : List Value) : Prop :=
  ∃ v1 v2 v3, c = [.string o.key, .string o.group, v1, v2, v3] ∧ w.ownsRow base 3 1 v1 o.profits.length (ints o.profits) ∧ w.ownsRow base 9 1 v2 o.has.length (strs o.has) ∧ w.ownsRow base 9 1 v3 o.hates.length (strs o.hates)
theorem OffR.keep0 {base : Nat} {w w1 : World} (g : w.grownBy w1 none) (o : Offer) (c : List Value) (h : OffR base w o c) : OffR base w1 o c := by
  obtain ⟨v1, v2, v3, rfl, h1, h2, h3⟩ := h
  exact ⟨v1, v2, v3, rfl, own_keep0 h1 g, own_keep0 h2 g, own_keep0 h3 g⟩
theorem OffR.keepS {base p : Nat} {w w1 : World} (g : w.grownBy w1 (some p)) (hp : p < base) (o : Offer) (c : List Value) (h : OffR base w o c) : OffR base w1 o c := by
  obtain ⟨v1, v2, v3, rfl, h1, h2, h3⟩ := h
  exact ⟨v1, v2, v3, rfl, own_keepS h1 g hp, own_keepS h2 g hp, own_keepS h3 g hp⟩
/-- A row of offers is written: what they hold stays. -/
theorem OffR.keepU {base b2 e z n : Nat} {w w1 : World} {u : Value} {us : List Value} (hu : w.ownsRow b2 e z u n us) (h3 : 3 ≠ e) (hs : 9 ≠ e) (g : w.grownBy w1 u.ownBlock) (o : Offer) (c : List Value) (h : OffR base w o c) : OffR base w1 o c := by
  obtain ⟨v1, v2, v3, rfl, q1, q2, q3⟩ := h
  exact ⟨v1, v2, v3, rfl, own_keepU q1 hu h3 g, own_keepU q2 hu hs g, own_keepU q3 hu hs g⟩
theorem eOffer : ElemT Tryz.prog 133 132 (.agg #[.string ⟨#[]⟩, .string ⟨#[]⟩, .slice none 0 0, .slice none 0 0, .slice none 0 0]) 5 104 := ⟨by kernel_rfl, by kernel_rfl, by decide, by decide, by decide⟩
/-- Some of some strings. -/
def someM (l : List Int) (k : Nat) (n : Int) : List ByteArray → List ByteArray
  | [] => []
  | x :: xs => if flipM l k n then x :: someM l (k + 1) n xs else someM l (k + 1) n xs
theorem someM_snoc (l : List Int) (k : Nat) (n : Int) (xs : List ByteArray) (x : ByteArray) : someM l k n (xs ++ [x]) = someM l k n xs ++ (if flipM l (k + xs.length) n then [x] else []) := by
  induction xs generalizing k with
  | nil => simp [someM]
  | cons y ys ih =>
    simp only [List.cons_append, someM, List.length_cons]
    rw [ih (k + 1), show k + 1 + ys.length = k + (ys.length + 1) by omega]
    split <;> simp
theorem someM_len (l : List Int) (k : Nat) (n : Int) (xs : List ByteArray) : (someM l k n xs).length ≤ xs.length := by
  induction xs generalizing k with
  | nil => simp [someM]
  | cons y ys ih => have := ih (k + 1); simp only [someM]; split <;> simp <;> omega
theorem someM_sub (l : List Int) (k : Nat) (n : Int) (xs : List ByteArray) : List.Sublist (someM l k n xs) xs := by
  induction xs generalizing k with
  | nil => exact List.Sublist.refl _
  | cons y ys ih =>
    simp only [someM]
    split
    · exact (ih (k + 1)).cons_cons y
    · exact (ih (k + 1)).cons y
/-! The offers themselves. -/
def profTo (l : List Int) (k : Nat) (p : Int) : Nat → List Int × Int
  | 0 => ([], p)
  | n + 1 => ((profTo l k p n).1 ++ [(profTo l k p n).2], (profTo l k p n).2 - pickM l (k + n) [0, 1, 2, 4])
theorem profTo_len (l : List Int) (k : Nat) (p : Int) (n : Nat) : (profTo l k p n).1.length = n := by
  induction n with
  | zero => rfl
  | succ n ih => simp [profTo, ih]
theorem profTo_bd (l : List Int) (k : Nat) (p : Int) (n : Nat) : p - 4 * n ≤ (profTo l k p n).2 ∧ (profTo l k p n).2 ≤ p := by
  induction n with
  | zero => simp [profTo]
  | succ n ih =>
    have := pickM_mem l (k + n) [0, 1, 2, 4] (by decide)
    simp only [List.mem_cons, List.not_mem_nil, or_false] at this
    simp only [profTo]
    omega
theorem profTo_mem (l : List Int) (k : Nat) (p : Int) (n : Nat) : ∀ x ∈ (profTo l k p n).1, p - 4 * n ≤ x ∧ x ≤ p := by
  induction n with
  | zero => intro x hx; simp [profTo] at hx
  | succ n ih =>
    intro x hx
    simp only [profTo, List.mem_append, List.mem_cons, List.not_mem_nil, or_false] at hx
    have := profTo_bd l k p n
    rcases hx with hx | rfl
    · have := ih x hx; omega
    · omega
def offGroups : List ByteArray := [⟨#[115, 97, 108, 116]⟩, ⟨#[115, 119, 101, 101, 116]⟩, ⟨#[99, 111, 108, 100]⟩]
def offNuts : List ByteArray := [⟨#[109, 105, 108, 107]⟩, ⟨#[110, 117, 116]⟩]
def offN (l : List Int) (j : Nat) : Nat := (1 + nxt l (j + 2) (3 - 1 + 1)).toNat
theorem offN_le (l : List Int) (j : Nat) : 1 ≤ offN l j ∧ offN l j ≤ 3 ∧ ((offN l j : Nat) : Int) = 1 + nxt l (j + 2) (3 - 1 + 1) := by
  have := nxt_range l (j + 2) (3 - 1 + 1) (by decide)
  unfold offN
  omega
def offerAt (l : List Int) (j i : Nat) : Offer :=
  ⟨Utf8.encode (97 + (i : Int)), oneS l j offGroups, (profTo l (j + 3) (pickM l (j + 1) [3, 5, 9]) (offN l j)).1, someM l (j + 3 + offN l j) 4 offNuts, someM l (j + 5 + offN l j) 4 offNuts⟩
def offersTo (l : List Int) (k : Nat) : Nat → List Offer × Nat
  | 0 => ([], k)
  | i + 1 => ((offersTo l k i).1 ++ [offerAt l (offersTo l k i).2 i], (offersTo l k i).2 + 7 + offN l (offersTo l k i).2)
theorem offersTo_len (l : List Int) (k i : Nat) : (offersTo l k i).1.length = i := by
  induction i with
  | zero => rfl
  | succ i ih => simp [offersTo, ih]
theorem offersTo_k (l : List Int) (k i : Nat) : (offersTo l k i).2 ≤ k + 10 * i := by
  induction i with
  | zero => simp [offersTo]
  | succ i ih => have := offN_le l (offersTo l k i).2; simp only [offersTo]; omega
def offersN (l : List Int) (k most : Nat) : Nat := (nxt l k ((most : Int) + 1)).toNat
theorem offersN_le (l : List Int) (k most : Nat) : offersN l k most ≤ most ∧ ((offersN l k most : Nat) : Int) = nxt l k ((most : Int) + 1) := by
  have := nxt_range l k ((most : Int) + 1) (by omega)
  unfold offersN; omega
def offersM (l : List Int) (k most : Nat) : List Offer := (offersTo l (k + 1) (offersN l k most)).1
def offersK (l : List Int) (k most : Nat) : Nat := (offersTo l (k + 1) (offersN l k most)).2
def OffersPost (l : List Int) (k most p lw : Nat) (w : World) (e : Ending) (w' : World) : Prop :=
  ∃ v, e = .returned v ∧ OwnNest (OffR w.heap.size) w' w.heap.size 132 5 v (offersM l k most) ∧ StreamAt w' p lw l (offersK l k most) ∧ w.grownBy w' (some p)
theorem blk5 {w : World} {g t : Nat} {a b c d e : Value} (h : w.heap[g]? = some (.cells #[a, b, c, d, e] t (0, 0))) : w.cell? ⟨g, 0, none⟩ = some a ∧ w.cell? ⟨g, 1, none⟩ = some b ∧ w.cell? ⟨g, 2, none⟩ = some c ∧ w.cell? ⟨g, 3, none⟩ = some d ∧ w.cell? ⟨g, 4, none⟩ = some e :=
  ⟨blkC h 0 rfl, blkC h 1 rfl, blkC h 2 rfl, blkC h 3 rfl, blkC h 4 rfl⟩
end Go.Proofs.YtdminjijhpemkaaGreatDoor

/-! Layouts, as the stream makes them. -/
namespace Go.Proofs.YtdminjijhpemkaaGreatDoor
open Go.RowKit
variable {lw : Nat}

theorem offKey {B : Nat} {w : World} {a : Option Addr} {os : List Offer} (h : NestAt (OffR B) w 5 a os) (i : Nat) (hi : i < os.length) : ∃ b off, a = some ⟨b, off, none⟩ ∧ w.cell? ⟨b, off + i * 5, none⟩ = some (.string os[i].key) := by
  obtain ⟨b, off, c, rfl, _, ⟨v1, v2, v3, rfl, _⟩, hc⟩ := h.at i hi
  exact ⟨b, off, rfl, hc 0 _ rfl⟩
def layE (l : List Int) (k : Nat) (ks : List ByteArray) : ByteArray × Nat :=
  if ks.length = 0 then (⟨#[]⟩, k) else if flipM l k 4 then (⟨#[]⟩, k + 1) else (ks.getD (nxt l (k + 1) ks.length).toNat ⟨#[]⟩, k + 2)
def layTo (l : List Int) (k : Nat) (ks : List ByteArray) : Nat → List ByteArray × Nat
  | 0 => ([], k)
  | i + 1 => ((layTo l k ks i).1 ++ [(layE l (layTo l k ks i).2 ks).1], (layE l (layTo l k ks i).2 ks).2)
theorem layE_k (l : List Int) (k : Nat) (ks : List ByteArray) : (layE l k ks).2 ≤ k + 2 := by
  unfold layE
  split
  · omega
  · split <;> simp
theorem layTo_k (l : List Int) (k : Nat) (ks : List ByteArray) (i : Nat) : (layTo l k ks i).2 ≤ k + 2 * i := by
  induction i with
  | zero => simp [layTo]
  | succ i ih => have := layE_k l (layTo l k ks i).2 ks; simp only [layTo]; omega
theorem layTo_len (l : List Int) (k : Nat) (ks : List ByteArray) (i : Nat) : (layTo l k ks i).1.length = i := by
  induction i with
  | zero => rfl
  | succ i ih => simp [layTo, ih]
def layOne : List ByteArray := [⟨#[]⟩, ⟨#[97]⟩, ⟨#[122, 122]⟩, ⟨#[90]⟩]
def laySet : List ByteArray := [⟨#[122, 122]⟩, ⟨#[90]⟩, ⟨#[97]⟩]
def layA (l : List Int) (x : List ByteArray × Nat) : List ByteArray × Nat := if flipM l x.2 15 then (x.1 ++ [oneS l (x.2 + 1) layOne], x.2 + 2) else (x.1, x.2 + 1)
def layB (l : List Int) (x : List ByteArray × Nat) : List ByteArray × Nat :=
  if flipM l x.2 15 then (if x.1.length = 0 then (x.1, x.2 + 1) else (x.1.set (nxt l (x.2 + 1) x.1.length).toNat (oneS l (x.2 + 2) laySet), x.2 + 3)) else (x.1, x.2 + 1)
def layM (l : List Int) (k n : Nat) (ks : List ByteArray) : List ByteArray := (layB l (layA l (layTo l k ks n))).1
def layK (l : List Int) (k n : Nat) (ks : List ByteArray) : Nat := (layB l (layA l (layTo l k ks n))).2
theorem layA_k (l : List Int) (x : List ByteArray × Nat) : (layA l x).2 ≤ x.2 + 2 ∧ (layA l x).1.length ≤ x.1.length + 1 := by
  unfold layA
  split <;> simp
theorem layB_k (l : List Int) (x : List ByteArray × Nat) : (layB l x).2 ≤ x.2 + 3 ∧ (layB l x).1.length = x.1.length := by
  unfold layB
  split
  · split <;> simp
  · simp
theorem layM_len (l : List Int) (k n : Nat) (ks : List ByteArray) : (layM l k n ks).length ≤ n + 1 := by
  have h1 := layB_k l (layA l (layTo l k ks n))
  have h2 := layA_k l (layTo l k ks n)
  have h3 := layTo_len l k ks n
  unfold layM
  omega
theorem layK_le (l : List Int) (k n : Nat) (ks : List ByteArray) : layK l k n ks ≤ k + 2 * n + 5 := by
  have h1 := layB_k l (layA l (layTo l k ks n))
  have h2 := layA_k l (layTo l k ks n)
  have h3 := layTo_k l k ks n
  unfold layK
  omega
def keysOf (os : List Offer) : List ByteArray := os.map Offer.key
def LayoutPost (l : List Int) (k n p lw : Nat) (ks : List ByteArray) (w : World) (e : Ending) (w' : World) : Prop :=
  ∃ v, e = .returned v ∧ w'.ownsRow w.heap.size 9 1 v (layM l k n ks).length (strs (layM l k n ks)) ∧ StreamAt w' p lw l (layK l k n ks) ∧ w.grownBy w' (some p)
end Go.Proofs.YtdminjijhpemkaaGreatDoor

/-! Offers for reading: the cells of each, and what it holds. -/
namespace Go.Proofs.YtdminjijhpemkaaGreatDoor
open Go.RowKit

structure OV where
  key : ByteArray
  group : ByteArray
  pa : Option Addr
  pn : Nat
  pc : Nat
  ha : Option Addr
  hn : Nat
  hc : Nat
  ta : Option Addr
  tn : Nat
  tc : Nat
def encOV (o : OV) : List Value := [.string o.key, .string o.group, .slice o.pa o.pn o.pc, .slice o.ha o.hn o.hc, .slice o.ta o.tn o.tc]
theorem encOV_len (o : OV) : (encOV o).length = 5 := rfl
structure OvR (w : World) (v : OV) (o : Offer) : Prop where
  key : v.key = o.key
  group : v.group = o.group
  pn : v.pn = o.profits.length
  hn : v.hn = o.has.length
  tn : v.tn = o.hates.length
  pr : CellsAt w v.pa (ints o.profits)
  has : CellsAt w v.ha (strs o.has)
  hat : CellsAt w v.ta (strs o.hates)
  cap : v.pn ≤ v.pc ∧ v.pc ≤ maxLen
theorem OvR.keep0 {w w1 : World} {v : OV} {o : Offer} (h : OvR w v o) (g : w.grownBy w1 none) : OvR w1 v o := ⟨h.key, h.group, h.pn, h.hn, h.tn, h.pr.keep0 g, h.has.keep0 g, h.hat.keep0 g, h.cap⟩
structure OffsAt (w : World) (a : Option Addr) (vs : List OV) (os : List Offer) : Prop where
  len : vs.length = os.length
  cells : CellsAt w a (flat encOV vs)
  rel : ∀ (i : Nat) (v : OV) (o : Offer), vs[i]? = some v → os[i]? = some o → OvR w v o
theorem OffsAt.keep0 {w w1 : World} {a : Option Addr} {vs : List OV} {os : List Offer} (h : OffsAt w a vs os) (g : w.grownBy w1 none) : OffsAt w1 a vs os :=
  ⟨h.len, h.cells.keep0 g, fun i v o h1 h2 => (h.rel i v o h1 h2).keep0 g⟩
theorem OffR.ov {B : Nat} {w : World} {o : Offer} {c : List Value} (h : OffR B w o c) : ∃ v : OV, c = encOV v ∧ OvR w v o := by
  obtain ⟨v1, v2, v3, rfl, h1, h2, h3⟩ := h
  obtain ⟨a1, c1, rfl, hn, hm, e1, _⟩ := own_shape h1
  obtain ⟨a2, c2, rfl, _, _, e2, _⟩ := own_shape h2
  obtain ⟨a3, c3, rfl, _, _, e3, _⟩ := own_shape h3
  exact ⟨⟨o.key, o.group, a1, o.profits.length, c1, a2, o.has.length, c2, a3, o.hates.length, c3⟩, rfl, rfl, rfl, rfl, rfl, rfl, e1, e2, e3, hn, hm⟩
theorem ovs_of {B : Nat} {w : World} : ∀ (cs : List (List Value)) (os : List Offer), cs.length = os.length → (∀ (i : Nat) (x : Offer) (c : List Value), os[i]? = some x → cs[i]? = some c → OffR B w x c) →
    ∃ vs : List OV, vs.length = os.length ∧ flat encOV vs = flat id cs ∧ ∀ (i : Nat) (v : OV) (o : Offer), vs[i]? = some v → os[i]? = some o → OvR w v o
  | [], [], _, _ => ⟨[], rfl, rfl, fun i v o h => by simp at h⟩
  | [], _ :: _, h, _ => by simp at h
  | _ :: _, [], h, _ => by simp at h
  | c :: cs, o :: os, h, hr => by
    obtain ⟨v, hv, hrv⟩ := (hr 0 o c rfl rfl).ov
    obtain ⟨vs, h1, h2, h3⟩ := ovs_of cs os (by simpa using h) (fun i x c' hx hc => hr (i + 1) x c' (by simpa using hx) (by simpa using hc))
    refine ⟨v :: vs, by simp [h1], ?_, ?_⟩
    · show encOV v ++ flat encOV vs = c ++ flat id cs
      rw [h2, hv]
    · intro i v' o' hv' ho'
      cases i with
      | zero =>
        simp only [List.getElem?_cons_zero, Option.some.injEq] at hv' ho'
        rw [← hv', ← ho']; exact hrv
      | succ i => exact h3 i v' o' (by simpa using hv') (by simpa using ho')
theorem OffsAt.of {B e : Nat} {w : World} {v : Value} {os : List Offer} (h : OwnNest (OffR B) w B e 5 v os) : ∃ a cap vs, v = .slice a os.length cap ∧ OffsAt w a vs os ∧ os.length ≤ cap ∧ cap ≤ maxLen := by
  obtain ⟨cs, h1, h2, h3, h4⟩ := h.ex
  obtain ⟨vs, hl, hf, hr⟩ := ovs_of cs os h1 h4
  obtain ⟨a, cap, rfl, hn, hm, hc, _⟩ := own_shape h3
  exact ⟨a, cap, vs, rfl, ⟨hl, hf ▸ hc, hr⟩, hn, hm⟩
theorem OffsAt.at {w : World} {a : Option Addr} {vs : List OV} {os : List Offer} (h : OffsAt w a vs os) (i : Nat) (hi : i < os.length) :
    ∃ (b off : Nat) (v : OV), a = some ⟨b, off, none⟩ ∧ OvR w v os[i] ∧ w.cell? ⟨b, off + i * 5, none⟩ = some (.string v.key) ∧ w.cell? ⟨b, off + i * 5 + 1, none⟩ = some (.string v.group) ∧ w.cell? ⟨b, off + i * 5 + 2, none⟩ = some (.slice v.pa v.pn v.pc) ∧ w.cell? ⟨b, off + i * 5 + 3, none⟩ = some (.slice v.ha v.hn v.hc) ∧ w.cell? ⟨b, off + i * 5 + 4, none⟩ = some (.slice v.ta v.tn v.tc) := by
  have hl := h.len
  obtain ⟨b, off, rfl, hcs⟩ := flat_cells (enc := encOV) (m := 5) encOV_len (by decide) h.cells (by omega)
  have hi' : i < vs.length := by omega
  exact ⟨b, off, vs[i], rfl, h.rel i _ _ (List.getElem?_eq_getElem hi') (List.getElem?_eq_getElem hi), hcs i hi' 0 _ rfl, hcs i hi' 1 _ rfl, hcs i hi' 2 _ rfl, hcs i hi' 3 _ rfl, hcs i hi' 4 _ rfl⟩
/-- Where an offer of a key is, or -1. -/
def offIx (os : List Offer) (key : ByteArray) : Int := findA (fun o : Offer => o.key.toList == key.toList) os
theorem OffsAt.ix {w : World} {a : Option Addr} {vs : List OV} {os : List Offer} (h : OffsAt w a vs os) (key : ByteArray) : findA (fun o : OV => o.key.toList == key.toList) vs = offIx os key := by
  have e : ∀ (vs : List OV) (os : List Offer), vs.length = os.length → (∀ (i : Nat) (v : OV) (o : Offer), vs[i]? = some v → os[i]? = some o → v.key = o.key) → vs.findIdx (fun o : OV => o.key.toList == key.toList) = os.findIdx (fun o : Offer => o.key.toList == key.toList) := by
    intro vs
    induction vs with
    | nil => intro os hl _; cases os with
      | nil => rfl
      | cons _ _ => simp at hl
    | cons v vs ih =>
      intro os hl hr
      cases os with
      | nil => simp at hl
      | cons o os =>
        have h1 := hr 0 v o rfl rfl
        have h2 := ih os (by simpa using hl) (fun i v' o' hv ho => hr (i + 1) v' o' (by simpa using hv) (by simpa using ho))
        simp only [List.findIdx_cons, h1, h2]
  unfold offIx findA
  rw [e vs os h.len (fun i v o h1 h2 => (h.rel i v o h1 h2).key), h.len]
end Go.Proofs.YtdminjijhpemkaaGreatDoor

/-! Package slices at elements coilrack/api.Offer: with a function value. Written by mkfind.py. -/
namespace Go.Proofs.YtdminjijhpemkaaGreatDoor
open Go.RowKit

end Go.Proofs.YtdminjijhpemkaaGreatDoor
