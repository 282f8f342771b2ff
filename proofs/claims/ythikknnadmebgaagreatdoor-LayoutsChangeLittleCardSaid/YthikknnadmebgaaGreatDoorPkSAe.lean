/- make of a slice of ints, as a law for a walk; an int stored into a slice that the call owns. -/
import Derived.Test.YthikknnadmebgaaGreatDoorPkSAa
import Derived.Test.YthikknnadmebgaaGreatDoorChecked
namespace Go.Proofs.YthikknnadmebgaaGreatDoor
open Go.RowKit

theorem eInt : ElemT Tryz.prog 22 3 (.int .i64 0) 1 8 := ⟨by kernel_rfl, by kernel_rfl, by decide, by decide, by decide⟩
theorem wpList_mk {P : Program} (w : World) {ops : Array Oper} {rest : List Oper} {o : Oper} {a : Act} {Q : Exit → Act → World → Prop} {t e : Nat} (E : ElemT P t e (.int .i64 0) 1 8)
    (hg : o.guard = none) (l c : Operand) (hop : o.op = Op.makeSlice t l c) (base : Nat) (L : Int) (n : Nat) (hl : a.eval l = .int .i64 L) (hc : a.eval c = .int .i64 L) (hL : L = (n : Int)) (hn : n ≤ 1000000000) (b4 : base ≤ w.heap.size)
    (hK : ∀ w', w'.ownsRow base e 1 (.slice (some ⟨w.heap.size, 0, none⟩) n n) n (ints (List.replicate n 0)) → w.grownBy w' none → wpList P ops Q rest (a.put o.dst (.slice (some ⟨w.heap.size, 0, none⟩) n n)) w') :
    wpList P ops Q (o :: rest) a w := by
  obtain ⟨i, hi, hz, hz1, hz2⟩ := info_parts E.info
  refine wpList_make_full w hg l c t hop base e i (.int .i64 0) 1 E.und hi hz hz1 .i64 .i64 L L n hl hc hL hL (by rw [hz2]; omega) (by unfold maxLen; omega) b4 (fun w' h1 h2 => hK w' ?_ h2)
  have e1 : (madeCells (Value.int .i64 0).cells (n * 1)).toList = ints (List.replicate n 0) := by
    rw [Nat.mul_one, show (Value.int .i64 0).cells = #[.int .i64 0] from rfl, toList_madeCells_one]
    simp [ints]
  rw [e1] at h1
  exact h1

theorem ints_set (l : List Int) (k : Nat) (x : Int) : (ints l).set k (.int .i64 x) = ints (l.set k x) := by simp [ints, List.map_set]
theorem ints_at (l : List Int) (j : Nat) (h : j < l.length) : (ints l)[j]? = some (.int .i64 (l.getD j 0)) := by
  simp [ints, List.getD_eq_getElem?_getD, List.getElem?_eq_getElem h]
/-- The cell of an owned slice of ints, that it may be written, and what is owned behind a store into it. -/
theorem own_int {w : World} {base e n cap g : Nat} {l : List Int} (h : w.ownsRow base e 1 (.slice (some ⟨g, 0, none⟩) n cap) n (ints l)) (k : Nat) (hk : k < n) :
    w.cell? ⟨g, k, none⟩ = some (.int .i64 (l.getD k 0)) ∧ w.frozen? ⟨g, k, none⟩ = false ∧ ∀ x, (w.setCell ⟨g, k, none⟩ (.int .i64 x)).ownsRow base e 1 (.slice (some ⟨g, 0, none⟩) n cap) n (ints (l.set k x)) := by
  have hl : l.length = n := by have := h.1; simpa [ints] using this
  refine ⟨by rw [h.cellAt k (by omega)]; exact ints_at l k (by omega), h.frozenAt k, fun x => ?_⟩
  rw [← ints_set]
  exact (h.stored k _).1
theorem own_len {w : World} {base e n : Nat} {v : Value} {l : List Int} (h : w.ownsRow base e 1 v n (ints l)) : l.length = n := by
  have := h.1
  simpa [ints] using this
theorem own_nil {w : World} {base e size n cap : Nat} {a : Option Addr} {xs : List Value} (h : w.ownsRow base e size (.slice a n cap) n xs) : a = none → n = 0 ∧ cap = 0 := by
  intro ha
  subst ha
  rcases h.2 with ⟨h2, h3⟩ | ⟨g, c, cur, h2, _⟩
  · cases h2; exact ⟨rfl, rfl⟩
  · cases h2
/-- The cells of an owned row stay behind a step that writes a block below it. -/
theorem own_cells {w w1 : World} {base e size n cap p : Nat} {a : Option Addr} {xs : List Value} (h : w.ownsRow base e size (.slice a n cap) n xs) (g : w.grownBy w1 (some p)) (hp : p < base) : CellsAt w1 a xs := by
  obtain ⟨_, _, he, _, _, hc, _⟩ := own_shape (own_keepS h g hp)
  cases he
  exact hc

/-! Rows of one cell an element that a call owns: of bools. -/

theorem wpList_mkZ {P : Program} (w : World) {ops : Array Oper} {rest : List Oper} {o : Oper} {a : Act} {Q : Exit → Act → World → Prop} {t e bytes : Nat} {z : Value} (E : ElemT P t e z 1 bytes) (hz0 : z.cells = #[z]) (hby : bytes ≤ 64)
    (hg : o.guard = none) (l c : Operand) (hop : o.op = Op.makeSlice t l c) (base : Nat) (L : Int) (n : Nat) (hl : a.eval l = .int .i64 L) (hc : a.eval c = .int .i64 L) (hL : L = (n : Int)) (hn : n ≤ 1000000000) (b4 : base ≤ w.heap.size)
    (hK : ∀ w', w'.ownsRow base e 1 (.slice (some ⟨w.heap.size, 0, none⟩) n n) n (List.replicate n z) → w.grownBy w' none → wpList P ops Q rest (a.put o.dst (.slice (some ⟨w.heap.size, 0, none⟩) n n)) w') :
    wpList P ops Q (o :: rest) a w := by
  obtain ⟨i, hi, hz, hz1, hz2⟩ := info_parts E.info
  have hle : i.bytes * n ≤ 64 * 1000000000 := Nat.mul_le_mul (by omega) hn
  refine wpList_make_full w hg l c t hop base e i z 1 E.und hi hz hz1 .i64 .i64 L L n hl hc hL hL (by omega) (by unfold maxLen; omega) b4 (fun w' h1 h2 => hK w' ?_ h2)
  have e1 : (madeCells z.cells (n * 1)).toList = List.replicate n z := by
    rw [Nat.mul_one, hz0, toList_madeCells_one]
  rw [e1] at h1
  exact h1
def bools (l : List Bool) : List Value := l.map Value.bool
theorem bools_at (l : List Bool) (j : Nat) (h : j < l.length) : (bools l)[j]? = some (.bool (l.getD j false)) := by
  simp [bools, List.getD_eq_getElem?_getD, List.getElem?_eq_getElem h]
theorem bools_set (l : List Bool) (k : Nat) (x : Bool) : (bools l).set k (.bool x) = bools (l.set k x) := by simp [bools, List.map_set]
theorem own_bool {w : World} {base e n cap g : Nat} {l : List Bool} (h : w.ownsRow base e 1 (.slice (some ⟨g, 0, none⟩) n cap) n (bools l)) (k : Nat) (hk : k < n) :
    w.cell? ⟨g, k, none⟩ = some (.bool (l.getD k false)) ∧ w.frozen? ⟨g, k, none⟩ = false ∧ ∀ x, (w.setCell ⟨g, k, none⟩ (.bool x)).ownsRow base e 1 (.slice (some ⟨g, 0, none⟩) n cap) n (bools (l.set k x)) := by
  have hl : l.length = n := by have := h.1; simpa [bools] using this
  refine ⟨by rw [h.cellAt k (by omega)]; exact bools_at l k (by omega), h.frozenAt k, fun x => ?_⟩
  rw [← bools_set]
  exact (h.stored k _).1
theorem bools_rep (n : Nat) : List.replicate n (Value.bool false) = bools (List.replicate n false) := by simp [bools]
end Go.Proofs.YthikknnadmebgaaGreatDoor

/-! Strings and rows of ints as elements. -/
namespace Go.Proofs.YthikknnadmebgaaGreatDoor
open Go.RowKit

theorem eStr : ElemT Tryz.prog 57 9 (.string { data := #[] }) 1 16 := ⟨by kernel_rfl, by kernel_rfl, by decide, by decide, by decide⟩
end Go.Proofs.YthikknnadmebgaaGreatDoor

/-! Package slices at elements string: with a function value. Written by mkfind.py. -/
namespace Go.Proofs.YthikknnadmebgaaGreatDoor
open Go.RowKit

set_option maxRecDepth 100000 in
set_option maxHeartbeats 1000000 in
theorem indexFunc_StrC (F : FuncId) (ad : Addr) (P : ByteArray → Bool) (xs : List (ByteArray)) (a : Option Addr) (c : Nat) (w : World) (hc : CellsAt w a (flat (fun s => [Value.string s]) xs)) (hl : xs.length ≤ 137438953472)
    (hE : ∀ (args : Array Value) (w : World), (callFunc F args).run Tryz.prog w = .ok (.enter F args) w)
    (hF : ∀ x ∈ xs, ∀ w1, w.grownBy w1 none → Calls Tryz.prog F #[.string x, .pointer (some ad)] w1 fun e w2 => e = .returned (.bool (P x)) ∧ w1.grownBy w2 none) :
    Calls Tryz.prog 114 #[.slice a xs.length c, Value.func (.func F) #[] #[.pointer (some ad)]] w fun e w' => e = .returned (.int .i64 (findA P xs)) ∧ w.grownBy w' none := by
  have HF := Lib.hid hF; clear hF
  go_enter Tryz.func114, Tryz.ntmps114
  go_wp2_with (fail)
  go_loopw [8] (fun i wr => ∃ k : Nat, k ≤ xs.length ∧ i = .int .i64 k ∧ (∀ j (hj : j < xs.length), j < k → P xs[j] = false) ∧ w.grownBy wr none) (fun i _ => xs.length - (intOf i).toNat)
  case atStart => exact ⟨0, Nat.zero_le _, rfl, fun j _ hj => absurd hj (Nat.not_lt_zero _), gr_refl _ _⟩
  case round =>
    obtain ⟨k, hk, rfl, hno, hgr⟩ := hrel
    obtain ⟨wo, rfl⟩ : ∃ wo : World, wo = wr := ⟨_, rfl⟩
    have HNO := Lib.hid hno; clear hno
    by_cases hlt : k < xs.length
    · obtain ⟨b, off, rfl, hcs⟩ := flat_cells (enc := (fun s => [Value.string s])) (m := 1) (fun _ => rfl) (by decide) (hc.keep0 hgr) (by omega)
      have hmem : xs[k] ∈ xs := List.getElem_mem hlt
      obtain ⟨x, hx⟩ : ∃ x, x = xs[k] := ⟨_, rfl⟩
      have HX := Lib.hid hx
      have d0 : wo.cell? ⟨b, off + k, none⟩ = some (.string x) := by have := hcs k hlt 0 _ rfl; simpa [← HX.out] using this
      rw [← hx] at hmem
      clear hx
      have HM := Lib.hid hmem; clear hmem hcs
      go_wp2_with (fail)
      refine (HF.out x HM.out wo hgr).mono ?_
      rintro e w1 ⟨rfl, hg1⟩
      cases hp : P x with
      | true =>
        have HP := Lib.hid hp; clear hp
        go_wp2_with (fail)
        go_ret
        refine ⟨ret_int (findA_at hlt (by rw [← HX.out]; exact HP.out) (fun j hj => HNO.out j (by omega) hj)).symm, gr_trans hgr hg1⟩
      | false =>
        have HP := Lib.hid hp; clear hp
        go_wp2_with (fail)
        go_roundw
        case rel =>
          refine ⟨k + 1, by omega, by go_num, fun j hjl hj => ?_, gr_trans hgr hg1⟩
          by_cases hjk : j = k
          · subst hjk; rw [← HX.out]; exact HP.out
          · exact HNO.out j hjl (by omega)
        case measure => simp [intOf]; omega
    · have hkl : k = xs.length := by omega
      have HK := Lib.hid hkl; clear hkl
      go_wp2_with (fail)
      go_ret
      exact ⟨ret_int (findA_none (fun j hj => HNO.out j hj (by rw [HK.out]; exact hj))).symm, hgr⟩

theorem containsFunc_StrC (F : FuncId) (ad : Addr) (P : ByteArray → Bool) (xs : List (ByteArray)) (a : Option Addr) (c : Nat) (w : World) (hc : CellsAt w a (flat (fun s => [Value.string s]) xs)) (hl : xs.length ≤ 137438953472)
    (hE : ∀ (args : Array Value) (w : World), (callFunc F args).run Tryz.prog w = .ok (.enter F args) w)
    (hF : ∀ x ∈ xs, ∀ w1, w.grownBy w1 none → Calls Tryz.prog F #[.string x, .pointer (some ad)] w1 fun e w2 => e = .returned (.bool (P x)) ∧ w1.grownBy w2 none) :
    Calls Tryz.prog 73 #[.slice a xs.length c, Value.func (.func F) #[] #[.pointer (some ad)]] w fun e w' => e = .returned (.bool (xs.any P)) ∧ w.grownBy w' none := by
  have HA := Lib.hid (any_findA P xs)
  go_enter Tryz.func73, Tryz.ntmps73
  go_wp2_with (fail)
  refine (indexFunc_StrC F ad P xs a c _ hc hl hE hF).mono ?_
  rintro e w1 ⟨rfl, hg1⟩
  go_wp2_with (fail)
  go_ret
  exact ⟨ret_bool (by rw [HA.out]), hg1⟩
end Go.Proofs.YthikknnadmebgaaGreatDoor

/-! Package slices at elements string: with a function value. Written by mkfind.py. -/
namespace Go.Proofs.YthikknnadmebgaaGreatDoor
open Go.RowKit

set_option maxRecDepth 100000 in
set_option maxHeartbeats 1000000 in
theorem indexFunc_Str0 (F : FuncId)  (P : ByteArray → Bool) (xs : List (ByteArray)) (a : Option Addr) (c : Nat) (w : World) (hc : CellsAt w a (flat (fun s => [Value.string s]) xs)) (hl : xs.length ≤ 137438953472)
    (hE : ∀ (args : Array Value) (w : World), (callFunc F args).run Tryz.prog w = .ok (.enter F args) w)
    (hF : ∀ x ∈ xs, ∀ w1, w.grownBy w1 none → Calls Tryz.prog F #[.string x] w1 fun e w2 => e = .returned (.bool (P x)) ∧ w1.grownBy w2 none) :
    Calls Tryz.prog 114 #[.slice a xs.length c, Value.func (.func F) #[] #[]] w fun e w' => e = .returned (.int .i64 (findA P xs)) ∧ w.grownBy w' none := by
  have HF := Lib.hid hF; clear hF
  go_enter Tryz.func114, Tryz.ntmps114
  go_wp2_with (fail)
  go_loopw [8] (fun i wr => ∃ k : Nat, k ≤ xs.length ∧ i = .int .i64 k ∧ (∀ j (hj : j < xs.length), j < k → P xs[j] = false) ∧ w.grownBy wr none) (fun i _ => xs.length - (intOf i).toNat)
  case atStart => exact ⟨0, Nat.zero_le _, rfl, fun j _ hj => absurd hj (Nat.not_lt_zero _), gr_refl _ _⟩
  case round =>
    obtain ⟨k, hk, rfl, hno, hgr⟩ := hrel
    obtain ⟨wo, rfl⟩ : ∃ wo : World, wo = wr := ⟨_, rfl⟩
    have HNO := Lib.hid hno; clear hno
    by_cases hlt : k < xs.length
    · obtain ⟨b, off, rfl, hcs⟩ := flat_cells (enc := (fun s => [Value.string s])) (m := 1) (fun _ => rfl) (by decide) (hc.keep0 hgr) (by omega)
      have hmem : xs[k] ∈ xs := List.getElem_mem hlt
      obtain ⟨x, hx⟩ : ∃ x, x = xs[k] := ⟨_, rfl⟩
      have HX := Lib.hid hx
      have d0 : wo.cell? ⟨b, off + k, none⟩ = some (.string x) := by have := hcs k hlt 0 _ rfl; simpa [← HX.out] using this
      rw [← hx] at hmem
      clear hx
      have HM := Lib.hid hmem; clear hmem hcs
      go_wp2_with (fail)
      refine (HF.out x HM.out wo hgr).mono ?_
      rintro e w1 ⟨rfl, hg1⟩
      cases hp : P x with
      | true =>
        have HP := Lib.hid hp; clear hp
        go_wp2_with (fail)
        go_ret
        refine ⟨ret_int (findA_at hlt (by rw [← HX.out]; exact HP.out) (fun j hj => HNO.out j (by omega) hj)).symm, gr_trans hgr hg1⟩
      | false =>
        have HP := Lib.hid hp; clear hp
        go_wp2_with (fail)
        go_roundw
        case rel =>
          refine ⟨k + 1, by omega, by go_num, fun j hjl hj => ?_, gr_trans hgr hg1⟩
          by_cases hjk : j = k
          · subst hjk; rw [← HX.out]; exact HP.out
          · exact HNO.out j hjl (by omega)
        case measure => simp [intOf]; omega
    · have hkl : k = xs.length := by omega
      have HK := Lib.hid hkl; clear hkl
      go_wp2_with (fail)
      go_ret
      exact ⟨ret_int (findA_none (fun j hj => HNO.out j hj (by rw [HK.out]; exact hj))).symm, hgr⟩

theorem containsFunc_Str0 (F : FuncId)  (P : ByteArray → Bool) (xs : List (ByteArray)) (a : Option Addr) (c : Nat) (w : World) (hc : CellsAt w a (flat (fun s => [Value.string s]) xs)) (hl : xs.length ≤ 137438953472)
    (hE : ∀ (args : Array Value) (w : World), (callFunc F args).run Tryz.prog w = .ok (.enter F args) w)
    (hF : ∀ x ∈ xs, ∀ w1, w.grownBy w1 none → Calls Tryz.prog F #[.string x] w1 fun e w2 => e = .returned (.bool (P x)) ∧ w1.grownBy w2 none) :
    Calls Tryz.prog 73 #[.slice a xs.length c, Value.func (.func F) #[] #[]] w fun e w' => e = .returned (.bool (xs.any P)) ∧ w.grownBy w' none := by
  have HA := Lib.hid (any_findA P xs)
  go_enter Tryz.func73, Tryz.ntmps73
  go_wp2_with (fail)
  refine (indexFunc_Str0 F  P xs a c _ hc hl hE hF).mono ?_
  rintro e w1 ⟨rfl, hg1⟩
  go_wp2_with (fail)
  go_ret
  exact ⟨ret_bool (by rw [HA.out]), hg1⟩
end Go.Proofs.YthikknnadmebgaaGreatDoor

/-! slices.Clone at []int. Written by mkclone.py. -/
namespace Go.Proofs.YthikknnadmebgaaGreatDoor
open Go.RowKit

theorem cloneInt_any (a : Option Addr) (n c : Nat) (xs : List Value) (w : World) (hn : xs.length = n * 1) (hc : CellsAt w a xs) (hnil : a = none → n = 0 ∧ c = 0) (h1 : ∀ u ∈ xs, u.oneCell' = true) (hb : n ≤ 137438953472) :
    Calls Tryz.prog 69 #[.slice a n c] w fun e w' => ∃ v, e = .returned v ∧ w'.ownsRow w.heap.size 3 1 v n xs ∧ w.grownBy w' none := by
  have q22 : ∀ (w : World) (a : Option Addr) (n c n' c' : Nat), (binOp .eql 22 (.slice a n c) (.slice none n' c')).run Tryz.prog w = .ok (.bool a.isNone) w := fun w a n c n' c' => Lib.run_eql_slice_nil w _ _ a n c n' c' Tryz.underlying22
  cases a with
  | none =>
    obtain ⟨hn0, hc0⟩ := hnil rfl
    subst hn0 hc0
    have hx : xs = [] := List.eq_nil_of_length_eq_zero (by omega)
    subst hx
    clear hnil hn
    go_enter Tryz.func69, Tryz.ntmps69
    go_wp2
    go_ret
    exact ⟨_, rfl, World.ownsRow_nil _ _ _ _, gr_refl _ _⟩
  | some ad =>
    have HN := Lib.hid hn
    clear hnil hn
    go_enter Tryz.func69, Tryz.ntmps69
    go_wp2_with (at_builtin; refine wpList_app eInt rfl _ _ rfl w.heap.size _ _ _ rfl (World.ownsRow_made w #[] 0 (Nat.le_refl _) (Nat.zero_le _) rfl) (some ad) n c xs rfl ?c1 ?c2 ?c3 ?c4 ?c5 ?c6 ?_)
    case c1 => rw [HN.out]
    case c2 => exact hc.alloc _
    case c3 => intro h; cases h
    case c4 => exact h1
    case c5 => omega
    case c6 => simp
    intro v' w1 hown hg
    go_wp2
    go_ret
    refine ⟨v', rfl, by simpa using hown, ?_⟩
    exact gr_grown (gr_alloc (gr_refl _ _) _) hg (by intro k hk; simp [Value.ownBlock] at hk; omega)
end Go.Proofs.YthikknnadmebgaaGreatDoor

/-! slices.Clone at []string. Written by mkclone.py. -/
namespace Go.Proofs.YthikknnadmebgaaGreatDoor
open Go.RowKit

theorem cloneStr_any (a : Option Addr) (n c : Nat) (xs : List Value) (w : World) (hn : xs.length = n * 1) (hc : CellsAt w a xs) (hnil : a = none → n = 0 ∧ c = 0) (h1 : ∀ u ∈ xs, u.oneCell' = true) (hb : n ≤ 137438953472) :
    Calls Tryz.prog 75 #[.slice a n c] w fun e w' => ∃ v, e = .returned v ∧ w'.ownsRow w.heap.size 9 1 v n xs ∧ w.grownBy w' none := by
  have q22 : ∀ (w : World) (a : Option Addr) (n c n' c' : Nat), (binOp .eql 57 (.slice a n c) (.slice none n' c')).run Tryz.prog w = .ok (.bool a.isNone) w := fun w a n c n' c' => Lib.run_eql_slice_nil w _ _ a n c n' c' Tryz.underlying57
  cases a with
  | none =>
    obtain ⟨hn0, hc0⟩ := hnil rfl
    subst hn0 hc0
    have hx : xs = [] := List.eq_nil_of_length_eq_zero (by omega)
    subst hx
    clear hnil hn
    go_enter Tryz.func75, Tryz.ntmps75
    go_wp2
    go_ret
    exact ⟨_, rfl, World.ownsRow_nil _ _ _ _, gr_refl _ _⟩
  | some ad =>
    have HN := Lib.hid hn
    clear hnil hn
    go_enter Tryz.func75, Tryz.ntmps75
    go_wp2_with (at_builtin; refine wpList_app eStr rfl _ _ rfl w.heap.size _ _ _ rfl (World.ownsRow_made w #[] 0 (Nat.le_refl _) (Nat.zero_le _) rfl) (some ad) n c xs rfl ?c1 ?c2 ?c3 ?c4 ?c5 ?c6 ?_)
    case c1 => rw [HN.out]
    case c2 => exact hc.alloc _
    case c3 => intro h; cases h
    case c4 => exact h1
    case c5 => omega
    case c6 => simp
    intro v' w1 hown hg
    go_wp2
    go_ret
    refine ⟨v', rfl, by simpa using hown, ?_⟩
    exact gr_grown (gr_alloc (gr_refl _ _) _) hg (by intro k hk; simp [Value.ownBlock] at hk; omega)
end Go.Proofs.YthikknnadmebgaaGreatDoor
