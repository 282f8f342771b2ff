/- make of a slice of ints, as a law for a walk; an int stored into a slice that the call owns. -/
import Derived.Test.YtehhmgbgkemidaaDoorPkSAa
import Derived.Test.YtehhmgbgkemidaaDoorChecked
import Derived.Test.YtehhmgbgkemidaaDoorPkSAb
namespace Go.Proofs.YtehhmgbgkemidaaDoor
open Go.RowKit

theorem eInt : ElemT Tryd.prog 22 3 (.int .i64 0) 1 8 := ⟨by kernel_rfl, by kernel_rfl, by decide, by decide, by decide⟩
theorem wpList_mk {P : Program} (w : World) {ops : Array Oper} {rest : List Oper} {o : Oper} {a : Act} {Q : Exit → Act → World → Prop} {t e : Nat} (E : ElemT P t e (.int .i64 0) 1 8)
    (hg : o.guard = none) (l c : Operand) (hop : o.op = Op.makeSlice t l c) (base : Nat) (L : Int) (n : Nat) (hl : a.eval l = .int .i64 L) (hc : a.eval c = .int .i64 L) (hL : L = (n : Int)) (hn : n ≤ 1000000000) (b4 : base ≤ w.heap.size)
    (hK : ∀ w', w'.ownsRow base e 1 (.slice (some ⟨w.heap.size, 0, none⟩) n n) n (ints (List.replicate n 0)) → w.grownBy w' none → wpList P ops Q rest (a.put o.dst (.slice (some ⟨w.heap.size, 0, none⟩) n n)) w') :
    wpList P ops Q (o :: rest) a w := by
  obtain ⟨i, hi, hz, hz1, hz2⟩ := info_parts E.info
  refine wpList_make_full w hg l c t hop base e i (.int .i64 0) 1 E.und hi hz hz1 .i64 .i64 L L n hl hc hL hL (by rw [hz2]; omega) (by unfold maxLen; omega) b4 (fun w' h1 h2 => hK w' ?_ h2)
  have e1 : (madeCells (Value.int .i64 0).cells (n * 1)).toList = ints (List.replicate n 0) := by
    rw [Nat.mul_one, show (Value.int .i64 0).cells = #[.int .i64 0] from rfl, toList_madeCells_one]
    simp [ints]
  rw [e1] at h1
  exact h1

theorem ints_set (l : List Int) (k : Nat) (x : Int) : (ints l).set k (.int .i64 x) = ints (l.set k x) := by simp [ints, List.map_set]
theorem ints_at (l : List Int) (j : Nat) (h : j < l.length) : (ints l)[j]? = some (.int .i64 (l.getD j 0)) := by
  simp [ints, List.getD_eq_getElem?_getD, List.getElem?_eq_getElem h]
/-- The cell of an owned slice of ints, that it may be written, and what is owned behind a store into it. -/
theorem own_int {w : World} {base e n cap g : Nat} {l : List Int} (h : w.ownsRow base e 1 (.slice (some ⟨g, 0, none⟩) n cap) n (ints l)) (k : Nat) (hk : k < n) :
    w.cell? ⟨g, k, none⟩ = some (.int .i64 (l.getD k 0)) ∧ w.frozen? ⟨g, k, none⟩ = false ∧ ∀ x, (w.setCell ⟨g, k, none⟩ (.int .i64 x)).ownsRow base e 1 (.slice (some ⟨g, 0, none⟩) n cap) n (ints (l.set k x)) := by
  have hl : l.length = n := by have := h.1; simpa [ints] using this
  refine ⟨by rw [h.cellAt k (by omega)]; exact ints_at l k (by omega), h.frozenAt k, fun x => ?_⟩
  rw [← ints_set]
  exact (h.stored k _).1
theorem own_len {w : World} {base e n : Nat} {v : Value} {l : List Int} (h : w.ownsRow base e 1 v n (ints l)) : l.length = n := by
  have := h.1
  simpa [ints] using this
theorem own_nil {w : World} {base e size n cap : Nat} {a : Option Addr} {xs : List Value} (h : w.ownsRow base e size (.slice a n cap) n xs) : a = none → n = 0 ∧ cap = 0 := by
  intro ha
  subst ha
  rcases h.2 with ⟨h2, h3⟩ | ⟨g, c, cur, h2, _⟩
  · cases h2; exact ⟨rfl, rfl⟩
  · cases h2
/-- The cells of an owned row stay behind a step that writes a block below it. -/
theorem own_cells {w w1 : World} {base e size n cap p : Nat} {a : Option Addr} {xs : List Value} (h : w.ownsRow base e size (.slice a n cap) n xs) (g : w.grownBy w1 (some p)) (hp : p < base) : CellsAt w1 a xs := by
  obtain ⟨_, _, he, _, _, hc, _⟩ := own_shape (own_keepS h g hp)
  cases he
  exact hc

/-! Rows of one cell an element that a call owns: of bools. -/

theorem wpList_mkZ {P : Program} (w : World) {ops : Array Oper} {rest : List Oper} {o : Oper} {a : Act} {Q : Exit → Act → World → Prop} {t e bytes : Nat} {z : Value} (E : ElemT P t e z 1 bytes) (hz0 : z.cells = #[z]) (hby : bytes ≤ 64)
    (hg : o.guard = none) (l c : Operand) (hop : o.op = Op.makeSlice t l c) (base : Nat) (L : Int) (n : Nat) (hl : a.eval l = .int .i64 L) (hc : a.eval c = .int .i64 L) (hL : L = (n : Int)) (hn : n ≤ 1000000000) (b4 : base ≤ w.heap.size)
    (hK : ∀ w', w'.ownsRow base e 1 (.slice (some ⟨w.heap.size, 0, none⟩) n n) n (List.replicate n z) → w.grownBy w' none → wpList P ops Q rest (a.put o.dst (.slice (some ⟨w.heap.size, 0, none⟩) n n)) w') :
    wpList P ops Q (o :: rest) a w := by
  obtain ⟨i, hi, hz, hz1, hz2⟩ := info_parts E.info
  have hle : i.bytes * n ≤ 64 * 1000000000 := Nat.mul_le_mul (by omega) hn
  refine wpList_make_full w hg l c t hop base e i z 1 E.und hi hz hz1 .i64 .i64 L L n hl hc hL hL (by omega) (by unfold maxLen; omega) b4 (fun w' h1 h2 => hK w' ?_ h2)
  have e1 : (madeCells z.cells (n * 1)).toList = List.replicate n z := by
    rw [Nat.mul_one, hz0, toList_madeCells_one]
  rw [e1] at h1
  exact h1
theorem eBool : ElemT Tryd.prog 63 4 (.bool false) 1 1 := ⟨by kernel_rfl, by kernel_rfl, by decide, by decide, by decide⟩
def bools (l : List Bool) : List Value := l.map Value.bool
theorem bools_at (l : List Bool) (j : Nat) (h : j < l.length) : (bools l)[j]? = some (.bool (l.getD j false)) := by
  simp [bools, List.getD_eq_getElem?_getD, List.getElem?_eq_getElem h]
theorem bools_set (l : List Bool) (k : Nat) (x : Bool) : (bools l).set k (.bool x) = bools (l.set k x) := by simp [bools, List.map_set]
theorem own_bool {w : World} {base e n cap g : Nat} {l : List Bool} (h : w.ownsRow base e 1 (.slice (some ⟨g, 0, none⟩) n cap) n (bools l)) (k : Nat) (hk : k < n) :
    w.cell? ⟨g, k, none⟩ = some (.bool (l.getD k false)) ∧ w.frozen? ⟨g, k, none⟩ = false ∧ ∀ x, (w.setCell ⟨g, k, none⟩ (.bool x)).ownsRow base e 1 (.slice (some ⟨g, 0, none⟩) n cap) n (bools (l.set k x)) := by
  have hl : l.length = n := by have := h.1; simpa [bools] using this
  refine ⟨by rw [h.cellAt k (by omega)]; exact bools_at l k (by omega), h.frozenAt k, fun x => ?_⟩
  rw [← bools_set]
  exact (h.stored k _).1
theorem bools_rep (n : Nat) : List.replicate n (Value.bool false) = bools (List.replicate n false) := by simp [bools]
end Go.Proofs.YtehhmgbgkemidaaDoor

/-! slices.Clone at []int. Written by mkclone.py. -/
namespace Go.Proofs.YtehhmgbgkemidaaDoor
open Go.RowKit

theorem cloneInt_any (a : Option Addr) (n c : Nat) (xs : List Value) (w : World) (hn : xs.length = n * 1) (hc : CellsAt w a xs) (hnil : a = none → n = 0 ∧ c = 0) (h1 : ∀ u ∈ xs, u.oneCell' = true) (hb : n ≤ 137438953472) :
    Calls Tryd.prog 16 #[.slice a n c] w fun e w' => ∃ v, e = .returned v ∧ w'.ownsRow w.heap.size 3 1 v n xs ∧ w.grownBy w' none := by
  have q22 : ∀ (w : World) (a : Option Addr) (n c n' c' : Nat), (binOp .eql 22 (.slice a n c) (.slice none n' c')).run Tryd.prog w = .ok (.bool a.isNone) w := fun w a n c n' c' => Lib.run_eql_slice_nil w _ _ a n c n' c' Tryd.underlying22
  cases a with
  | none =>
    obtain ⟨hn0, hc0⟩ := hnil rfl
    subst hn0 hc0
    have hx : xs = [] := List.eq_nil_of_length_eq_zero (by omega)
    subst hx
    clear hnil hn
    go_enter Tryd.func16, Tryd.ntmps16
    go_wp2
    go_ret
    exact ⟨_, rfl, World.ownsRow_nil _ _ _ _, gr_refl _ _⟩
  | some ad =>
    have HN := Lib.hid hn
    clear hnil hn
    go_enter Tryd.func16, Tryd.ntmps16
    go_wp2_with (at_builtin; refine wpList_app eInt rfl _ _ rfl w.heap.size _ _ _ rfl (World.ownsRow_made w #[] 0 (Nat.le_refl _) (Nat.zero_le _) rfl) (some ad) n c xs rfl ?c1 ?c2 ?c3 ?c4 ?c5 ?c6 ?_)
    case c1 => rw [HN.out]
    case c2 => exact hc.alloc _
    case c3 => intro h; cases h
    case c4 => exact h1
    case c5 => omega
    case c6 => simp
    intro v' w1 hown hg
    go_wp2
    go_ret
    refine ⟨v', rfl, by simpa using hown, ?_⟩
    exact gr_grown (gr_alloc (gr_refl _ _) _) hg (by intro k hk; simp [Value.ownBlock] at hk; omega)
end Go.Proofs.YtehhmgbgkemidaaDoor

/-! Package slices at ints: with a function value that has one capture. -/
namespace Go.Proofs.YtehhmgbgkemidaaDoor
open Go.RowKit

end Go.Proofs.YtehhmgbgkemidaaDoor

/-! The stream's Pick of numbers that lie somewhere below the newest block. -/
namespace Go.Proofs.YtehhmgbgkemidaaDoor
open Go.RowKit
variable {lw : Nat}

set_option maxRecDepth 100000 in
theorem pick_at (l : List Int) (k : Nat) (xs : List Int) (p b : Nat) (w : World) (hs : StreamAt w p lw l k) (hk : k < 1000000000) (h0 : 0 < xs.length) (h1 : xs.length ≤ 1000) (hc : CellsAt w (some ⟨b, 0, none⟩) (ints xs)) (hb : p ≠ b) :
    Calls Tryd.prog 6 #[.pointer (some ⟨p, 0, none⟩), .slice (some ⟨b, 0, none⟩) xs.length xs.length] w
      fun e w' => e = .returned (.int .i64 (pickM l k xs)) ∧ StreamAt w' p lw l (k + 1) ∧ w.grownBy w' (some p) := by
  have hr := nxt_range l k xs.length (by omega)
  obtain ⟨i, hi⟩ : ∃ i : Nat, nxt l k xs.length = i := ⟨(nxt l k xs.length).toNat, by omega⟩
  have hil : i < xs.length := by omega
  have hfin : Hid (pickM l k xs = xs.getD i 0) := by show _ = _; unfold pickM; rw [hi]; rfl
  have HI := Lib.hid hi; clear hi hr
  obtain ⟨x, hx⟩ : ∃ x, x = xs.getD i 0 := ⟨_, rfl⟩
  have HX := Lib.hid hx; clear hx
  have hcell : w.cell? ⟨b, i, none⟩ = some (.int .i64 x) := by
    obtain ⟨b', off, he, hx⟩ := hc i (.int .i64 x) (by rw [HX.out]; exact ints_get xs i hil)
    cases he
    simpa using hx
  go_enter Tryd.func6, Tryd.ntmps6
  go_wp2_with (fail)
  refine (next_any l k _ p w hs hk (by omega)).mono ?_
  rintro e w1 ⟨rfl, hs1, hg1⟩
  rw [HI.out]
  have c1 : w1.cell? ⟨b, i, none⟩ = some (.int .i64 x) := hg1.cell hcell (by simp; omega)
  go_wp2_with (fail)
  go_ret
  exact ⟨ret_int (by rw [hfin.out, HX.out]), hs1, hg1⟩
end Go.Proofs.YtehhmgbgkemidaaDoor
