/- A lot is taken into a store, behind all others. -/
import Derived.Test.YtakabckmiodjaaaPkSAm
import Derived.Test.YtakabckmiodjaaaPkSAn
import Derived.Test.YtakabckmiodjaaaPkSAa
import Derived.Deep.RegionLaw
import Derived.Carry
import Derived.Deep.CutRange
import Derived.Deep.DeepFit
namespace Go.Proofs.Ytakabckmiodjaaa
open Go.RowKit
attribute [local go_sem ↓] Go.wp_at_zero Go.wp_at_succ

/-- A store that holds lots: its variable is block S; all that it has lies from 'base' on. -/
structure StoreAt (w : World) (base S : Nat) (xs : List Lot) : Prop where
  ex : ∃ v u ms, w.heap[S]? = some (.cells #[v, u] 118 (0, 0)) ∧ w.ownsRow base 69 4 v xs.length (flat encLot xs) ∧ w.ownsRow base 65 1 u xs.length ms
  low : base ≤ S
theorem StoreAt.keep0 {w w1 : World} {base S : Nat} {xs : List Lot} (h : StoreAt w base S xs) (g : w.grownBy w1 none) : StoreAt w1 base S xs := by
  obtain ⟨⟨v, u, ms, h1, h2, h3⟩, h4⟩ := h
  exact ⟨⟨v, u, ms, (g.block S (lt_of_block h1) (by simp)).trans h1, own_keep0 h2 g, own_keep0 h3 g⟩, h4⟩
theorem StoreAt.keepS {w w1 : World} {base S p : Nat} {xs : List Lot} (h : StoreAt w base S xs) (g : w.grownBy w1 (some p)) (hp : p < base) : StoreAt w1 base S xs := by
  obtain ⟨⟨v, u, ms, h1, h2, h3⟩, h4⟩ := h
  exact ⟨⟨v, u, ms, (g.block S (lt_of_block h1) (by simp; omega)).trans h1, own_keepS h2 g hp, own_keepS h3 g hp⟩, h4⟩
/-- A row of cells is no map. -/
theorem own_map_ne {w : World} {base e size n c cl : Nat} {v : Value} {xs : List Value} {es : Array MapEntry} (h : w.ownsRow base e size v n xs) (hc : w.heap[c]? = some (Obj.map es cl)) : v.ownBlock ≠ some c := by
  rcases h.2 with ⟨rfl, _⟩ | ⟨g', cap, cur, rfl, _, hh, _⟩
  · simp [Value.ownBlock]
  · intro he
    have : g' = c := by simpa [Value.ownBlock] using he
    subst this
    rw [hc] at hh
    cases hh
theorem MapIs.obj {w : World} {b n : Nat} {f : ByteArray → Option Int} (h : MapIs w b n f) : ∃ es cl, w.heap[b]? = some (Obj.map es cl) := by
  obtain ⟨D, ⟨es, cl, hb, _⟩, _⟩ := h
  exact ⟨es, cl, hb⟩
theorem MapIs.of_block {w w1 : World} {b n : Nat} {f : ByteArray → Option Int} (h : MapIs w b n f) (hb : w1.heap[b]? = w.heap[b]?) : MapIs w1 b n f := by
  obtain ⟨D, ⟨es, cl, h1, h2⟩, h3⟩ := h
  exact ⟨D, ⟨es, cl, hb.trans h1, h2⟩, h3⟩
theorem MapIs.mono {w : World} {b n m : Nat} {f : ByteArray → Option Int} (h : MapIs w b n f) (hm : n ≤ m) : MapIs w b m f := by
  obtain ⟨D, h1, h2⟩ := h
  exact ⟨D, h1.mono hm, h2⟩
/-- What a store's variable holds: the lots, and a map for each. -/
structure StoreX (w : World) (base S : Nat) (xs : List Lot) (ms : List Value) : Prop where
  ex : ∃ v u, w.heap[S]? = some (.cells #[v, u] 118 (0, 0)) ∧ w.ownsRow base 69 4 v xs.length (flat encLot xs) ∧ w.ownsRow base 65 1 u xs.length ms
theorem StoreX.keepR {w w1 : World} {base S : Nat} {xs : List Lot} {ms : List Value} {r : Option Nat} (h : StoreX w base S xs ms) (g : w.grownBy w1 r) (hr : ∀ q, r = some q → q < base ∧ q ≠ S) : StoreX w1 base S xs ms := by
  obtain ⟨v, u, h1, h2, h3⟩ := h.ex
  cases r with
  | none => exact ⟨v, u, (g.block S (lt_of_block h1) (by simp)).trans h1, own_keep0 h2 g, own_keep0 h3 g⟩
  | some p =>
    have hp := hr p rfl
    exact ⟨v, u, (g.block S (lt_of_block h1) (by simp; omega)).trans h1, own_keepS h2 g hp.1, own_keepS h3 g hp.1⟩
theorem StoreX.base {w : World} {base base' S : Nat} {xs : List Lot} {ms : List Value} (h : StoreX w base S xs ms) (hb : base' ≤ base) : StoreX w base' S xs ms := by
  obtain ⟨v, u, h1, h2, h3⟩ := h.ex
  exact ⟨v, u, h1, own_base h2 hb, own_base h3 hb⟩
/-- Maps that there were are what they were, and so are the blocks of a set. -/
def MapsStay (T : Nat → Prop) (w w1 : World) : Prop := (∀ (c : Nat) (es : Array MapEntry) (cl : Nat), w.heap[c]? = some (Obj.map es cl) → w1.heap[c]? = some (Obj.map es cl)) ∧ ∀ (c : Nat) (o : Obj), T c → w.heap[c]? = some o → w1.heap[c]? = some o
theorem MapsStay.trans {T : Nat → Prop} {a b c : World} (h : MapsStay T a b) (g : MapsStay T b c) : MapsStay T a c := ⟨fun k es cl hk => g.1 k es cl (h.1 k es cl hk), fun k o h1 h3 => g.2 k o h1 (h.2 k o h1 h3)⟩
theorem MapsStay.of {T : Nat → Prop} {w w1 : World} {r : Option Nat} (g : w.grownBy w1 r) (hr : ∀ (c : Nat) (es : Array MapEntry) (cl : Nat), w.heap[c]? = some (Obj.map es cl) → r ≠ some c) (hb : ∀ c, r = some c → ¬ T c) : MapsStay T w w1 :=
  ⟨fun c es cl h => (g.block c (lt_of_block h) (fun e => hr c es cl h e.symm)).trans h, fun c _ h1 h => (g.block c (Array.getElem?_eq_some_iff.1 h).1 (fun e => hb c e.symm h1)).trans h⟩
theorem MapsStay.of0 {T : Nat → Prop} {w w1 : World} (g : w.grownBy w1 none) : MapsStay T w w1 := .of g (fun _ _ _ _ => by simp) (fun _ e => by cases e)
/-- A set of blocks that are none of a store's. -/
def NotStore (w : World) (S : Nat) (T : Nat → Prop) : Prop := ∀ c, T c → c ≠ S ∧ ∀ v u, w.heap[S]? = some (.cells #[v, u] 118 (0, 0)) → v.ownBlock ≠ some c ∧ u.ownBlock ≠ some c
set_option maxRecDepth 100000 in
theorem newStoreX_any (w : World) : Calls Try.prog 24 #[] w fun e w' => e = .returned (.pointer (some ⟨w.heap.size, 0, none⟩)) ∧ (∀ base, StoreX w' base w.heap.size [] []) ∧ w.grownBy w' none := by
  have hS := heap_alloc_new w (.cells #[.slice none 0 0, .slice none 0 0] 118)
  have g := gr_alloc (gr_refl w none) (.cells #[.slice none 0 0, .slice none 0 0] 118)
  have HS := Lib.hid hS
  clear hS
  go_enter Try.func24, Try.ntmps24
  go_wp2_with (fail)
  go_ret
  exact ⟨rfl, fun base => ⟨⟨_, _, HS.out, World.ownsRow_nil _ _ _ _, World.ownsRow_nil _ _ _ _⟩⟩, g⟩
theorem newStore_any (w : World) : Calls Try.prog 24 #[] w fun e w' => e = .returned (.pointer (some ⟨w.heap.size, 0, none⟩)) ∧ StoreAt w' w.heap.size w.heap.size [] ∧ w.grownBy w' none :=
  (newStoreX_any w).mono (fun _ _ ⟨h1, hx, h6⟩ => ⟨h1, by obtain ⟨v, u, h2, h3, h4⟩ := (hx w.heap.size).ex; exact ⟨⟨v, u, [], h2, h3, h4⟩, Nat.le_refl _⟩, h6⟩)
theorem one_lots {x : Lot} (h : LotOk x) : LotsOk [x] := ⟨by simp, fun y hy => by simp at hy; subst hy; exact h, fun i h0 hi => by simp at hi; omega⟩
set_option maxRecDepth 100000 in
set_option maxHeartbeats 1000000 in
theorem takeX_any (xs : List Lot) (x : Lot) (base S : Nat) (ms : List Value) (w : World) (hst : StoreX w base S xs ms) (T : Nat → Prop) (hT : NotStore w S T) (hbw : base ≤ w.heap.size) (hx : LotOk x) (hall : ∀ y ∈ xs, cmpB y.id x.id < 0) (hl : xs.length < 500) :
    Calls Try.prog 26 #[.pointer (some ⟨S, 0, none⟩), .agg #[.string x.id, .string x.prod, .int .i64 x.exp, .int .i64 x.many]] w fun e w' => e = .returned (.int .i64 0) ∧ (∃ b, StoreX w' base S (xs ++ [x]) (ms ++ [.map (some b)]) ∧ MapIs w' b 0 (fun _ => none) ∧ w.heap.size ≤ b ∧ MapsStay T w w') ∧ ∀ w0 : World, w0.heap.size ≤ base → w0.heap.size ≤ S → w0.grownBy w none → w0.grownBy w' none := by
  obtain ⟨K, P, E, M⟩ := x
  obtain ⟨v, u, h1, h2, h3⟩ := hst.ex
  have HT : Hid (∀ c, T c → c ≠ S ∧ v.ownBlock ≠ some c ∧ u.ownBlock ≠ some c) := fun c hc => ⟨(hT c hc).1, (hT c hc).2 v u h1⟩
  clear hT
  have HX := Lib.hid (one_lots hx)
  have HALL := Lib.hid hall
  have hSl := lt_of_block h1
  simp only at HALL ⊢
  have g1 := gr_alloc (gr_refl w none) (.cells #[.string K, .string P, .int .i64 E, .int .i64 M] 69)
  have hL := heap_alloc_new w (.cells #[.string K, .string P, .int .i64 E, .int .i64 M] 69)
  obtain ⟨L, hLe⟩ : ∃ L, L = w.heap.size := ⟨_, rfl⟩
  rw [← hLe] at hL hSl
  obtain ⟨w1, hw1⟩ : ∃ w1, w1 = w.alloc (.cells #[.string K, .string P, .int .i64 E, .int .i64 M] 69) := ⟨_, rfl⟩
  rw [← hw1] at g1 hL
  have HW := Lib.hid hw1
  have HLE := Lib.hid hLe
  have HL := Lib.hid hL
  have hS1 := (g1.block S (lt_of_block h1) (by simp)).trans h1
  have HS1 := Lib.hid hS1
  have HV1 := Lib.hid (own_keep0 h2 g1)
  have HU1 := Lib.hid (own_keep0 h3 g1)
  have HG1 := Lib.hid g1
  obtain ⟨va, vc, rfl, vn, vm, -, -⟩ := own_shape h2
  obtain ⟨ua, uc, rfl, un, um, -, -⟩ := own_shape h3
  unfold maxLen at vm um
  obtain ⟨l0, l1, l2, l3⟩ := blk4 hL
  obtain ⟨s0, s1, -, -⟩ := blk2 hS1
  clear hx hall h1 h2 h3 hw1 hLe hL hS1 g1
  go_enter Try.func26, Try.ntmps26
  go_wp2_with (fail)
  rw [← HW.out, ← HLE.out]
  have CL : Hid (Calls Try.prog 73 #[.slice (some ⟨L + 1, 0, none⟩) 1 1] (w1.alloc (.cells #[.string K, .string P, .int .i64 E, .int .i64 M] 69)) fun e w' => e = .returned (.int .i64 0) ∧ (w1.alloc (.cells #[.string K, .string P, .int .i64 E, .int .i64 M] 69)).grownBy w' none) := (checkLots_ok [⟨K, P, E, M⟩] (some ⟨L + 1, 0, none⟩) 1 (w1.alloc (.cells #[.string K, .string P, .int .i64 E, .int .i64 M] 69)) (by have := CellsAt.new w1 #[.string K, .string P, .int .i64 E, .int .i64 M] 69; rw [show w1.heap.size = L + 1 by rw [HW.out, HLE.out]; simp] at this; exact this) HX.out)
  have ga := gr_alloc (gr_refl w1 none) (.cells #[.string K, .string P, .int .i64 E, .int .i64 M] 69)
  go_fit CL.out
  rintro e w2 ⟨rfl, g2⟩
  have g12 := gr_trans ga g2
  have HS2 := Lib.hid ((g12.block S (lt_of_block HS1.out) (by simp)).trans HS1.out)
  have HL2 := Lib.hid ((g12.block L (lt_of_block HL.out) (by simp)).trans HL.out)
  have HV2 := Lib.hid (own_keep0 HV1.out g12)
  have HU2 := Lib.hid (own_keep0 HU1.out g12)
  have HG2 := Lib.hid (gr_trans HG1.out g12)
  clear CL ga g2 g12 l0 l1 l2 l3 s0 s1 HS1 HL HV1 HU1 HG1
  obtain ⟨l0, l1, l2, l3⟩ := blk4 HL2.out
  obtain ⟨s0, s1, -, -⟩ := blk2 HS2.out
  have x0 := grew_cell l0
  have x1 := grew_cell s0
  have hSl2 := lt_of_block HS2.out
  have BS : Hid (∀ W, w2.grownBy W none → Calls Try.prog 74 #[.slice va xs.length vc, .string K, Value.func (.func 75) #[] #[]] W fun e w' => e = .returned (.tuple #[.int .i64 xs.length, .bool false]) ∧ W.grownBy w' none) := fun W g => by
    obtain ⟨_, _, e, -, -, hc, -⟩ := own_shape HV2.out
    cases e
    exact bsearchLot_end xs va vc K W (hc.keep0 g) (by omega) HALL.out
  go_wp2_with (fail)
  refine wp_region_grew (by kernel_rfl) (by kernel_rfl) ?_
  repeat (go_big_quiet_step (first
    | (go_at_call 74; exact Calls.grew_of (fun W g => BS.out W g))))
  refine wpQuiet_nil ?_
  rintro wq ⟨nn, rfl⟩
  have gq := nn.gr
  have HS3 := Lib.hid ((gq.block S (lt_of_block HS2.out) (by simp)).trans HS2.out)
  have HL3 := Lib.hid ((gq.block L (lt_of_block HL2.out) (by simp)).trans HL2.out)
  have HV3 := Lib.hid (own_keep0 HV2.out gq)
  have HU3 := Lib.hid (own_keep0 HU2.out gq)
  have HG3 := Lib.hid (gr_trans HG2.out gq)
  obtain ⟨w3, hw3⟩ : ∃ w3, w3 = nn.w := ⟨_, rfl⟩
  rw [← hw3] at HS3 HL3 HV3 HU3 HG3
  rw [← hw3]
  clear hw3 gq x0 x1 l0 l1 l2 l3 s0 s1 HS2 HL2 HV2 HU2 HG2 BS
  obtain ⟨l0, l1, l2, l3⟩ := blk4 HL3.out
  obtain ⟨s0, s1, f0, f1⟩ := blk2 HS3.out
  have hne : ((xs.length : Int) == 500) = false := by simp; omega
  go_wp2_with (fail)
  have hn := hl
  have hzb : base ≤ w3.heap.size := Nat.le_trans hbw HG3.out.size
  have hVS := Lib.hid (own_ne HV3.out HS3.out (by decide))
  have hUS := Lib.hid (own_ne HU3.out HS3.out (by decide))
  obtain ⟨N, hN⟩ : ∃ N, N = (w3.alloc (.cells #[.string K, .string P, .int .i64 E, .int .i64 M] 69)).drew := ⟨_, rfl⟩
  have gN : w3.grownBy N none := by rw [hN]; exact gr_drew (gr_alloc (gr_refl _ _) _)
  have INS : Hid (Calls Try.prog 77 #[.slice va xs.length vc, .int .i64 xs.length, .slice (some ⟨w3.heap.size, 0, none⟩) 1 1] N fun e w' => ∃ v, e = .returned v ∧ w'.ownsRow base 69 4 v (xs.length + 1) (flat encLot xs ++ [.string K, .string P, .int .i64 E, .int .i64 M]) ∧ N.grownBy w' (Value.slice va xs.length vc).ownBlock) :=
    insertEnd_Lot base va xs.length vc _ _ _ 1 N (own_keep0 HV3.out gN) (by rw [hN]; exact (CellsAt.new w3 #[.string K, .string P, .int .i64 E, .int .i64 M] 69).keep0 (gr_drew (gr_refl _ _))) rfl (fun u hu => List.all_eq_true.1 (encLot_one ⟨K, P, E, M⟩) u hu) (by omega) (Nat.le_trans hzb gN.size)
  have HSN := Lib.hid ((gN.block S (lt_of_block HS3.out) (by simp)).trans HS3.out)
  have HUN := Lib.hid (own_keep0 HU3.out gN)
  have HVN := Lib.hid (own_keep0 HV3.out gN)
  have HGN := Lib.hid gN
  rw [hN] at INS
  have HNE := Lib.hid hN
  clear hN gN
  go_cut [] from 33 to 43 (fun wx => ∃ z zc, wx.heap[S]? = some (.cells #[.slice z (xs.length + 1) zc, .slice ua xs.length uc] 118 (0, 0)) ∧ wx.ownsRow base 69 4 (.slice z (xs.length + 1) zc) (xs.length + 1) (flat encLot xs ++ [.string K, .string P, .int .i64 E, .int .i64 M]) ∧ wx.ownsRow base 65 1 (.slice ua xs.length uc) xs.length ms ∧ (∀ w0 : World, w0.heap.size ≤ base → w0.heap.size ≤ S → w0.grownBy w3 none → w0.grownBy wx none) ∧ MapsStay T w3 wx ∧ w3.heap.size ≤ wx.heap.size)
  case first =>
    have sA := (gr_cell (gr_alloc (gr_refl w3 none) (.cells #[.string K, .string P, .int .i64 E, .int .i64 M] 69)) (lt_of_cell s0)).trans s0
    go_region_law (first
      | (go_simp; go_at_call 77; (with_reducible refine (INS.out).mono ?_); rintro e w4 ⟨v4, rfl, ho4, g4⟩; rw [← HNE.out] at g4; obtain ⟨z, zc, rfl, -, -, -, -⟩ := own_shape ho4; have hS4 := (g4.block S (lt_of_block HSN.out) (fun e => hVS.out e.symm)).trans HSN.out; obtain ⟨c0, c1, y0, y1⟩ := blk2 hS4)
      | fail)
    all_goals (go_wp2_with (fail))
    all_goals
      have gs : ∀ u, w4.grownBy (w4.setCell ⟨S, 0, none⟩ u) (some S) := fun u => gr_set (gr_refl _ _) rfl _
      have hu4 := own_keepU HUN.out HVN.out (by decide) g4
      go_meet
      refine ⟨z, zc, heap_setCell_same w4 S 0 _ _ _ hS4, own_keep ho4 (gs _) (.inr (own_ne ho4 hS4 (by decide))), own_keep hu4 (gs _) (.inr (own_ne hu4 hS4 (by decide))), fun w0 hz hzS g => ?_, ((MapsStay.of0 HGN.out).trans (.of g4 (fun c es cl h => own_map_ne HVN.out h) (fun c e ht => (HT.out c ht).2.1 e))).trans (.of (gs _) (fun c es cl h e => by cases e; rw [hS4] at h; cases h) (fun c e ht => by cases e; exact (HT.out _ ht).1 rfl)), Nat.le_trans (Nat.le_trans HGN.out.size g4.size) (gs _).size⟩
      exact gr_new (gr_grown (gr_trans g HGN.out) g4 (fun q hq => Nat.le_trans hz (HVN.out.lt q hq).1)) hzS _
  case rest =>
  obtain ⟨z, zc, hS, ho, hu, hgg, hms, hz35⟩ := hcut
  have hz35 : w.heap.size ≤ wc.heap.size := Nat.le_trans HG3.out.size hz35
  have HMS := Lib.hid ((MapsStay.of0 HG3.out).trans hms)
  obtain ⟨w5, rfl⟩ : ∃ w5 : World, w5 = wc := ⟨_, rfl⟩
  have HS5 := Lib.hid hS
  have HO5 := Lib.hid ho
  have HU5 := Lib.hid hu
  have HG5 := Lib.hid hgg
  obtain ⟨c0, c1, y0, y1⟩ := blk2 hS
  clear hS ho hu hgg hms INS HNE HSN HUN HVN HGN s0 s1 f0 f1 l0 l1 l2 l3
  have hmm := @run_makeMap Try.prog
  go_wp2_with (fail)
  obtain ⟨N, hN⟩ : ∃ N, N = (w5.alloc (.map #[] 0)).alloc (.cells #[.map (some w5.heap.size)] 65) := ⟨_, rfl⟩
  have gN : w5.grownBy N none := by rw [hN]; exact gr_alloc (gr_alloc (gr_refl _ _) _) _
  have hzb5 : base ≤ w5.heap.size := Nat.le_trans hbw hz35
  have HSN := Lib.hid ((gN.block S (lt_of_block HS5.out) (by simp)).trans HS5.out)
  have HUN := Lib.hid (own_keep0 HU5.out gN)
  have HVN := Lib.hid (own_keep0 HO5.out gN)
  have hcn : CellsAt N (some ⟨w5.heap.size + 1, 0, none⟩) [.map (some w5.heap.size)] := by
    rw [hN]; have := CellsAt.new (w5.alloc (.map #[] 0)) #[.map (some w5.heap.size)] 65; simpa using this
  rw [← hN]
  refine (insertEnd_MapSI base ua xs.length uc ms [.map (some w5.heap.size)] (w5.heap.size + 1) 1 N HUN.out hcn rfl (fun u hu => by simp at hu; subst hu; rfl) (by omega) (Nat.le_trans hzb5 gN.size)).mono ?_
  rintro e w6 ⟨v6, rfl, ho6, g6⟩
  obtain ⟨y, yc, rfl, -, -, -, -⟩ := own_shape ho6
  have hS6 := (g6.block S (lt_of_block HSN.out) (fun e => own_ne HUN.out HSN.out (by decide) e.symm)).trans HSN.out
  have hv6 := own_keepU HVN.out HUN.out (by decide) g6
  have hm6 := (MapIs.made w5).keep0 (gr_alloc (gr_refl _ none) (.cells #[.map (some w5.heap.size)] 65))
  rw [← hN] at hm6
  have HM6 := Lib.hid (hm6.keep g6 (fun e => by obtain ⟨es, cl, ho⟩ := hm6.obj; exact own_map_ne HUN.out ho e.symm))
  have HMS6 := Lib.hid ((HMS.out.trans (.of0 gN)).trans (.of g6 (fun c es cl h => own_map_ne HUN.out h) (fun c e ht => (HT.out c ht).2.2 e)))
  have hwb5 : w.heap.size ≤ w5.heap.size := hz35
  have HG6 := Lib.hid (fun (w0 : World) hz hzS g => gr_grown (gr_trans (HG5.out w0 hz hzS g) gN) g6 (fun q hq => Nat.le_trans hz (HUN.out.lt q hq).1))
  have HS6 := Lib.hid hS6
  have HV6 := Lib.hid hv6
  have HU6 := Lib.hid ho6
  clear c0 c1 y0 y1
  obtain ⟨c0, c1, y0, y1⟩ := blk2 hS6
  clear hN gN HSN HUN HVN hcn hS6 hv6 ho6 g6 HS5 HO5 HU5 HG5
  go_wp2_with (fail)
  go_ret
  have gs : ∀ u, w6.grownBy (w6.setCell ⟨S, 1, none⟩ u) (some S) := fun u => gr_set (gr_refl _ _) rfl _
  refine ⟨rfl, ⟨w5.heap.size, ⟨⟨_, _, heap_setCell_same w6 S 1 _ _ _ HS6.out, ?_, ?_⟩⟩, HM6.out.keep (gs _) (fun e => by cases e; obtain ⟨es, cl, ho⟩ := HM6.out.obj; rw [HS6.out] at ho; cases ho), hwb5, HMS6.out.trans (.of (gs _) (fun c es cl h e => by cases e; rw [HS6.out] at h; cases h) (fun c e ht => by cases e; exact (HT.out _ ht).1 rfl))⟩, fun w0 hz hzS g => ?_⟩
  · rw [List.length_append, flat_append, flat_one]
    exact own_keep HV6.out (gs _) (.inr (own_ne HV6.out HS6.out (by decide)))
  · rw [List.length_append]
    exact own_keep HU6.out (gs _) (.inr (own_ne HU6.out HS6.out (by decide)))
  · exact gr_new (HG6.out w0 hz hzS (gr_trans g HG3.out)) hzS _
theorem take_any (xs : List Lot) (x : Lot) (base S : Nat) (w : World) (hst : StoreAt w base S xs) (hx : LotOk x) (hall : ∀ y ∈ xs, cmpB y.id x.id < 0) (hl : xs.length < 500) :
    Calls Try.prog 26 #[.pointer (some ⟨S, 0, none⟩), .agg #[.string x.id, .string x.prod, .int .i64 x.exp, .int .i64 x.many]] w fun e w' => e = .returned (.int .i64 0) ∧ StoreAt w' base S (xs ++ [x]) ∧ ∀ w0 : World, w0.heap.size ≤ base → w0.grownBy w none → w0.grownBy w' none := by
  obtain ⟨⟨v, u, ms, h1, h2, h3⟩, hlow⟩ := hst
  refine (takeX_any xs x base S ms w ⟨⟨v, u, h1, h2, h3⟩⟩ (fun _ => False) (fun _ h => h.elim) (by have := lt_of_block h1; omega) hx hall hl).mono ?_
  rintro e w' ⟨e1, ⟨b, hst', -⟩, e3⟩
  obtain ⟨v', u', k1, k2, k3⟩ := hst'.ex
  exact ⟨e1, ⟨⟨v', u', _, k1, k2, k3⟩, hlow⟩, fun w0 hz => e3 w0 hz (Nat.le_trans hz hlow)⟩
set_option maxRecDepth 100000 in
theorem lotsOf_any (xs : List Lot) (base S : Nat) (w : World) (hst : StoreAt w base S xs) (hl : xs.length ≤ 100000) :
    Calls Try.prog 33 #[.pointer (some ⟨S, 0, none⟩)] w fun e w' => ∃ v, e = .returned v ∧ w'.ownsRow w.heap.size 69 4 v xs.length (flat encLot xs) ∧ w.grownBy w' none := by
  obtain ⟨⟨v, u, ms, h1, h2, h3⟩, hlow⟩ := hst
  have hnil := fun a c (e : v = .slice a xs.length c) => own_nil (e ▸ h2)
  obtain ⟨va, vc, rfl, -, -, hc, -⟩ := own_shape h2
  have hnil := hnil va vc rfl
  have CL := Lib.hid (cloneLot_any va xs.length vc (flat encLot xs) w (flat_length encLot_len _) hc hnil (flat_ones encLot_one _) (by omega))
  obtain ⟨s0, s1, -, -⟩ := blk2 h1
  clear h1 h2 h3 hc hnil
  go_enter Try.func33, Try.ntmps33
  go_wp2_with (fail)
  refine CL.out.mono ?_
  rintro e w2 ⟨v2, rfl, o2, g2⟩
  have HO := Lib.hid o2
  clear o2
  go_wp2_with (fail)
  go_ret
  exact ⟨_, rfl, HO.out, g2⟩
end Go.Proofs.Ytakabckmiodjaaa
