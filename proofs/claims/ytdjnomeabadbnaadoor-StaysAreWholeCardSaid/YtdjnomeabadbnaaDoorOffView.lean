/- Offers for reading: the cells of each, and what it holds. -/
import Derived.Test.YtdjnomeabadbnaaDoorLayout
namespace Go.Proofs.YtdjnomeabadbnaaDoor
open Go.RowKit

structure OV where
  key : ByteArray
  group : ByteArray
  pa : Option Addr
  pn : Nat
  pc : Nat
  ha : Option Addr
  hn : Nat
  hc : Nat
  ta : Option Addr
  tn : Nat
  tc : Nat
def encOV (o : OV) : List Value := [.string o.key, .string o.group, .slice o.pa o.pn o.pc, .slice o.ha o.hn o.hc, .slice o.ta o.tn o.tc]
theorem encOV_len (o : OV) : (encOV o).length = 5 := rfl
structure OvR (w : World) (v : OV) (o : Offer) : Prop where
  key : v.key = o.key
  group : v.group = o.group
  pn : v.pn = o.profits.length
  hn : v.hn = o.has.length
  tn : v.tn = o.hates.length
  pr : CellsAt w v.pa (ints o.profits)
  has : CellsAt w v.ha (strs o.has)
  hat : CellsAt w v.ta (strs o.hates)
  cap : v.pn ≤ v.pc ∧ v.pc ≤ maxLen
theorem OvR.keep0 {w w1 : World} {v : OV} {o : Offer} (h : OvR w v o) (g : w.grownBy w1 none) : OvR w1 v o := ⟨h.key, h.group, h.pn, h.hn, h.tn, h.pr.keep0 g, h.has.keep0 g, h.hat.keep0 g, h.cap⟩
structure OffsAt (w : World) (a : Option Addr) (vs : List OV) (os : List Offer) : Prop where
  len : vs.length = os.length
  cells : CellsAt w a (flat encOV vs)
  rel : ∀ (i : Nat) (v : OV) (o : Offer), vs[i]? = some v → os[i]? = some o → OvR w v o
theorem OffsAt.keep0 {w w1 : World} {a : Option Addr} {vs : List OV} {os : List Offer} (h : OffsAt w a vs os) (g : w.grownBy w1 none) : OffsAt w1 a vs os :=
  ⟨h.len, h.cells.keep0 g, fun i v o h1 h2 => (h.rel i v o h1 h2).keep0 g⟩
theorem OffR.ov {B : Nat} {w : World} {o : Offer} {c : List Value} (h : OffR B w o c) : ∃ v : OV, c = encOV v ∧ OvR w v o := by
  obtain ⟨v1, v2, v3, rfl, h1, h2, h3⟩ := h
  obtain ⟨a1, c1, rfl, hn, hm, e1, _⟩ := own_shape h1
  obtain ⟨a2, c2, rfl, _, _, e2, _⟩ := own_shape h2
  obtain ⟨a3, c3, rfl, _, _, e3, _⟩ := own_shape h3
  exact ⟨⟨o.key, o.group, a1, o.profits.length, c1, a2, o.has.length, c2, a3, o.hates.length, c3⟩, rfl, rfl, rfl, rfl, rfl, rfl, e1, e2, e3, hn, hm⟩
theorem ovs_of {B : Nat} {w : World} : ∀ (cs : List (List Value)) (os : List Offer), cs.length = os.length → (∀ (i : Nat) (x : Offer) (c : List Value), os[i]? = some x → cs[i]? = some c → OffR B w x c) →
    ∃ vs : List OV, vs.length = os.length ∧ flat encOV vs = flat id cs ∧ ∀ (i : Nat) (v : OV) (o : Offer), vs[i]? = some v → os[i]? = some o → OvR w v o
  | [], [], _, _ => ⟨[], rfl, rfl, fun i v o h => by simp at h⟩
  | [], _ :: _, h, _ => by simp at h
  | _ :: _, [], h, _ => by simp at h
  | c :: cs, o :: os, h, hr => by
    obtain ⟨v, hv, hrv⟩ := (hr 0 o c rfl rfl).ov
    obtain ⟨vs, h1, h2, h3⟩ := ovs_of cs os (by simpa using h) (fun i x c' hx hc => hr (i + 1) x c' (by simpa using hx) (by simpa using hc))
    refine ⟨v :: vs, by simp [h1], ?_, ?_⟩
    · show encOV v ++ flat encOV vs = c ++ flat id cs
      rw [h2, hv]
    · intro i v' o' hv' ho'
      cases i with
      | zero =>
        simp only [List.getElem?_cons_zero, Option.some.injEq] at hv' ho'
        rw [← hv', ← ho']; exact hrv
      | succ i => exact h3 i v' o' (by simpa using hv') (by simpa using ho')
theorem OffsAt.of {B e : Nat} {w : World} {v : Value} {os : List Offer} (h : OwnNest (OffR B) w B e 5 v os) : ∃ a cap vs, v = .slice a os.length cap ∧ OffsAt w a vs os ∧ os.length ≤ cap ∧ cap ≤ maxLen := by
  obtain ⟨cs, h1, h2, h3, h4⟩ := h.ex
  obtain ⟨vs, hl, hf, hr⟩ := ovs_of cs os h1 h4
  obtain ⟨a, cap, rfl, hn, hm, hc, _⟩ := own_shape h3
  exact ⟨a, cap, vs, rfl, ⟨hl, hf ▸ hc, hr⟩, hn, hm⟩
theorem OffsAt.at {w : World} {a : Option Addr} {vs : List OV} {os : List Offer} (h : OffsAt w a vs os) (i : Nat) (hi : i < os.length) :
    ∃ (b off : Nat) (v : OV), a = some ⟨b, off, none⟩ ∧ OvR w v os[i] ∧ w.cell? ⟨b, off + i * 5, none⟩ = some (.string v.key) ∧ w.cell? ⟨b, off + i * 5 + 1, none⟩ = some (.string v.group) ∧ w.cell? ⟨b, off + i * 5 + 2, none⟩ = some (.slice v.pa v.pn v.pc) ∧ w.cell? ⟨b, off + i * 5 + 3, none⟩ = some (.slice v.ha v.hn v.hc) ∧ w.cell? ⟨b, off + i * 5 + 4, none⟩ = some (.slice v.ta v.tn v.tc) := by
  have hl := h.len
  obtain ⟨b, off, rfl, hcs⟩ := flat_cells (enc := encOV) (m := 5) encOV_len (by decide) h.cells (by omega)
  have hi' : i < vs.length := by omega
  exact ⟨b, off, vs[i], rfl, h.rel i _ _ (List.getElem?_eq_getElem hi') (List.getElem?_eq_getElem hi), hcs i hi' 0 _ rfl, hcs i hi' 1 _ rfl, hcs i hi' 2 _ rfl, hcs i hi' 3 _ rfl, hcs i hi' 4 _ rfl⟩
/-- Where an offer of a key is, or -1. -/
def offIx (os : List Offer) (key : ByteArray) : Int := findA (fun o : Offer => o.key.toList == key.toList) os
theorem OffsAt.ix {w : World} {a : Option Addr} {vs : List OV} {os : List Offer} (h : OffsAt w a vs os) (key : ByteArray) : findA (fun o : OV => o.key.toList == key.toList) vs = offIx os key := by
  have e : ∀ (vs : List OV) (os : List Offer), vs.length = os.length → (∀ (i : Nat) (v : OV) (o : Offer), vs[i]? = some v → os[i]? = some o → v.key = o.key) → vs.findIdx (fun o : OV => o.key.toList == key.toList) = os.findIdx (fun o : Offer => o.key.toList == key.toList) := by
    intro vs
    induction vs with
    | nil => intro os hl _; cases os with
      | nil => rfl
      | cons _ _ => simp at hl
    | cons v vs ih =>
      intro os hl hr
      cases os with
      | nil => simp at hl
      | cons o os =>
        have h1 := hr 0 v o rfl rfl
        have h2 := ih os (by simpa using hl) (fun i v' o' hv ho => hr (i + 1) v' o' (by simpa using hv) (by simpa using ho))
        simp only [List.findIdx_cons, h1, h2]
  unfold offIx findA
  rw [e vs os h.len (fun i v o h1 h2 => (h.rel i v o h1 h2).key), h.len]
end Go.Proofs.YtdjnomeabadbnaaDoor
