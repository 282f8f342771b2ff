/- Picking units out of lots: what is taken, what is left. No program in sight. -/
import Derived.Test.YtdminjijhpemkaaGreatDoorPkSAv
import Derived.Test.YtdminjijhpemkaaGreatDoorPkSAa
import Derived.Test.YtdminjijhpemkaaGreatDoorPkSAn
namespace Go.Proofs.YtdminjijhpemkaaGreatDoor
open Go.RowKit

def noLot : Lot := ⟨⟨#[]⟩, ⟨#[]⟩, 0, 0⟩
def lotN (xs : List Lot) (i : Nat) : Lot := xs.getD i noLot
theorem lotN_get {xs : List Lot} {i : Nat} (h : i < xs.length) : lotN xs i = xs[i] := by
  unfold lotN
  rw [List.getD_eq_getElem?_getD, List.getElem?_eq_getElem h]; rfl
theorem lotN_set {xs : List Lot} {i j : Nat} (x : Lot) (h : j < xs.length) : lotN (xs.set i x) j = if i = j then x else lotN xs j := by
  rw [lotN_get (by simpa using h), lotN_get h, List.getElem_set]
/-- A lot that can be sent. -/
def canGo (P : ByteArray) (d : Int) (x : Lot) : Bool := (x.prod.toList == P.toList) && decide (d ≤ x.exp)
def takeOne (s : List Piece × List Lot × Int) (i : Nat) : List Piece × List Lot × Int :=
  if 0 < min s.2.2 (lotN s.2.1 i).many then
    (s.1 ++ [⟨(lotN s.2.1 i).id, min s.2.2 (lotN s.2.1 i).many⟩],
     s.2.1.set i ⟨(lotN s.2.1 i).id, (lotN s.2.1 i).prod, (lotN s.2.1 i).exp, (lotN s.2.1 i).many - min s.2.2 (lotN s.2.1 i).many⟩,
     s.2.2 - min s.2.2 (lotN s.2.1 i).many)
  else s
def takeTo (ord : List Nat) (L : List Lot) (m : Int) (k : Nat) : List Piece × List Lot × Int := (ord.take k).foldl takeOne ([], L, m)
theorem takeTo_succ (ord : List Nat) (L : List Lot) (m : Int) (k : Nat) (h : k < ord.length) : takeTo ord L m (k + 1) = takeOne (takeTo ord L m k) ord[k] := by
  unfold takeTo
  rw [List.take_succ_eq_append_getElem h, List.foldl_append]
  rfl
/-- How many units of a lot pieces have. -/
def cntP (ps : List Piece) (k : ByteArray) : Int := (ps.map (fun p => if (p.lot.toList == k.toList) = true then p.many else 0)).sum
theorem cntP_app (a b : List Piece) (k : ByteArray) : cntP (a ++ b) k = cntP a k + cntP b k := by simp [cntP]
theorem cntP_one (p : Piece) (k : ByteArray) : cntP [p] k = if p.lot = k then p.many else 0 := by
  have : ((p.lot.toList == k.toList) = true) ↔ p.lot = k := by
    rw [beq_iff_eq]
    exact ⟨bytes_of, fun h => by rw [h]⟩
  simp only [cntP, List.map_cons, List.map_nil, List.sum_cons, List.sum_nil]
  by_cases h : p.lot = k
  · rw [if_pos h, if_pos (this.2 h)]; omega
  · rw [if_neg h, if_neg (fun e => h (this.1 e))]; omega
/-- What was taken out of lots and what is left is what there was. -/
structure Keeps (L0 L : List Lot) (ps : List Piece) (B : Int) : Prop where
  len : L.length = L0.length
  same : ∀ i, i < L0.length → (lotN L i).id = (lotN L0 i).id ∧ (lotN L i).prod = (lotN L0 i).prod ∧ (lotN L i).exp = (lotN L0 i).exp
  sum : ∀ i, i < L0.length → (lotN L i).many + cntP ps (lotN L0 i).id = (lotN L0 i).many
  bd : ∀ i, i < L0.length → 0 ≤ (lotN L i).many ∧ (lotN L i).many ≤ B
  pcs : ∀ p ∈ ps, 1 ≤ p.many ∧ p.many ≤ B ∧ ∃ i, i < L0.length ∧ p.lot = (lotN L0 i).id
theorem Keeps.start {L0 : List Lot} {B : Int} (h : ∀ i, i < L0.length → 0 ≤ (lotN L0 i).many ∧ (lotN L0 i).many ≤ B) : Keeps L0 L0 [] B :=
  ⟨rfl, fun _ _ => ⟨rfl, rfl, rfl⟩, fun _ _ => by simp [cntP], h, fun p hp => by cases hp⟩
def Apart (L0 : List Lot) : Prop := ∀ i j, i < L0.length → j < L0.length → (lotN L0 i).id = (lotN L0 j).id → i = j
theorem Keeps.one {L0 : List Lot} {ps : List Piece} {B : Int} {s : List Piece × List Lot × Int} (hd : Apart L0) (h : Keeps L0 s.2.1 (ps ++ s.1) B) (i : Nat) (hi : i < L0.length) : Keeps L0 (takeOne s i).2.1 (ps ++ (takeOne s i).1) B := by
  unfold takeOne
  split
  · rename_i hn
    obtain ⟨n, hne⟩ : ∃ n, n = min s.2.2 (lotN s.2.1 i).many := ⟨_, rfl⟩
    rw [← hne] at hn ⊢
    have hle : n ≤ (lotN s.2.1 i).many := by rw [hne]; exact Int.min_le_right _ _
    have hb := h.bd i hi
    have hlen := h.len
    refine ⟨by simp [hlen], fun j hj => ?_, fun j hj => ?_, fun j hj => ?_, fun p hp => ?_⟩
    · simp only
      rw [lotN_set _ (by omega)]
      split
      · rename_i e; subst e; exact h.same i hj
      · exact h.same j hj
    · simp only
      rw [lotN_set _ (by omega), ← List.append_assoc, cntP_app, cntP_one]
      have hs := h.sum j hj
      by_cases e : i = j
      · subst e
        rw [if_pos rfl, if_pos (h.same i hj).1]
        simp only
        omega
      · rw [if_neg e, if_neg (fun e2 => e (hd i j hi hj ((h.same i hi).1.symm.trans e2)))]
        omega
    · simp only
      rw [lotN_set _ (by omega)]
      split
      · simp only; omega
      · exact h.bd j hj
    · simp only [← List.append_assoc] at hp
      rcases List.mem_append.1 hp with hp | hp
      · exact h.pcs p hp
      · obtain rfl : p = _ := by simpa using hp
        exact ⟨by simp only; omega, by simp only; omega, i, hi, (h.same i hi).1⟩
  · exact h
theorem Keeps.fold {L0 : List Lot} {ps : List Piece} {B : Int} (hd : Apart L0) (ord : List Nat) : ∀ (s : List Piece × List Lot × Int), Keeps L0 s.2.1 (ps ++ s.1) B → (∀ i ∈ ord, i < L0.length) → Keeps L0 (ord.foldl takeOne s).2.1 (ps ++ (ord.foldl takeOne s).1) B := by
  induction ord with
  | nil => intro s h _; exact h
  | cons i r ih =>
    intro s h hlt
    rw [List.foldl_cons]
    exact ih _ (h.one hd i (hlt i (by simp))) (fun j hj => hlt j (by simp [hj]))
theorem Keeps.take {L0 L : List Lot} {ps : List Piece} {B m : Int} (hd : Apart L0) (h : Keeps L0 L ps B) (ord : List Nat) (hlt : ∀ i ∈ ord, i < L0.length) (k : Nat) : Keeps L0 (takeTo ord L m k).2.1 (ps ++ (takeTo ord L m k).1) B :=
  Keeps.fold hd _ _ (by simpa using h) (fun i hi => hlt i (List.mem_of_mem_take hi))
theorem takeOne_m (s : List Piece × List Lot × Int) (i : Nat) (M : Int) (h : 0 ≤ s.2.2 ∧ s.2.2 ≤ M) : 0 ≤ (takeOne s i).2.2 ∧ (takeOne s i).2.2 ≤ M := by
  unfold takeOne
  split
  · rename_i hn
    have := Int.min_le_left s.2.2 (lotN s.2.1 i).many
    simp only
    omega
  · exact h
theorem takeTo_m (ord : List Nat) (L : List Lot) (m : Int) (hm : 0 ≤ m) (k : Nat) : 0 ≤ (takeTo ord L m k).2.2 ∧ (takeTo ord L m k).2.2 ≤ m := by
  unfold takeTo
  generalize ord.take k = r
  have : ∀ (r : List Nat) (s : List Piece × List Lot × Int), 0 ≤ s.2.2 ∧ s.2.2 ≤ m → 0 ≤ (r.foldl takeOne s).2.2 ∧ (r.foldl takeOne s).2.2 ≤ m := by
    intro r
    induction r with
    | nil => intro s h; exact h
    | cons i r ih => intro s h; rw [List.foldl_cons]; exact ih _ (takeOne_m s i m h)
  exact this r _ ⟨hm, Int.le_refl _⟩
theorem takeTo_len (ord : List Nat) (L : List Lot) (m : Int) (k : Nat) : (takeTo ord L m k).1.length ≤ k := by
  unfold takeTo
  have : ∀ (r : List Nat) (s : List Piece × List Lot × Int), (r.foldl takeOne s).1.length ≤ s.1.length + r.length := by
    intro r
    induction r with
    | nil => intro s; simp
    | cons i r ih =>
      intro s
      rw [List.foldl_cons]
      have h1 := ih (takeOne s i)
      have h2 : (takeOne s i).1.length ≤ s.1.length + 1 := by
        unfold takeOne
        split
        · simp
        · omega
      simp only [List.length_cons]; omega
  have := this (ord.take k) ([], L, m)
  simp only [List.length_nil, List.length_take] at this
  omega
/-- What is taken, lot by lot, out of lots that are not changed. -/
def outP (xs : List Lot) : List Nat → Int → List Piece
  | [], _ => []
  | i :: r, m => if 0 < min m (lotN xs i).many then ⟨(lotN xs i).id, min m (lotN xs i).many⟩ :: outP xs r (m - min m (lotN xs i).many) else outP xs r m
theorem take_outP (xs : List Lot) (ord : List Nat) (hnd : ord.Nodup) (hlt : ∀ i ∈ ord, i < xs.length) : ∀ (s : List Piece × List Lot × Int), s.2.1.length = xs.length → (∀ i ∈ ord, lotN s.2.1 i = lotN xs i) → (ord.foldl takeOne s).1 = s.1 ++ outP xs ord s.2.2 := by
  induction ord with
  | nil => intro s _ _; simp [outP]
  | cons i r ih =>
    intro s hl he
    obtain ⟨hni, hnr⟩ := List.nodup_cons.1 hnd
    have hi := he i (by simp)
    rw [List.foldl_cons]
    simp only [outP]
    by_cases hn : 0 < min s.2.2 (lotN xs i).many
    · have e : takeOne s i = (s.1 ++ [⟨(lotN xs i).id, min s.2.2 (lotN xs i).many⟩], s.2.1.set i ⟨(lotN xs i).id, (lotN xs i).prod, (lotN xs i).exp, (lotN xs i).many - min s.2.2 (lotN xs i).many⟩, s.2.2 - min s.2.2 (lotN xs i).many) := by
        unfold takeOne
        rw [hi, if_pos hn]
      rw [e, if_pos hn, ih hnr (fun j hj => hlt j (by simp [hj])) _ (by simpa using hl) (fun j hj => ?_)]
      · simp
      · simp only
        rw [lotN_set _ (by rw [hl]; exact hlt j (by simp [hj])), if_neg (fun e => hni (by rw [e]; exact hj))]
        exact he j (by simp [hj])
    · have e : takeOne s i = s := by
        unfold takeOne
        rw [hi, if_neg hn]
      rw [e, if_neg hn]
      exact ih hnr (fun j hj => hlt j (by simp [hj])) s hl (fun j hj => he j (by simp [hj]))
theorem takeTo_out (xs : List Lot) (ord : List Nat) (m : Int) (hnd : ord.Nodup) (hlt : ∀ i ∈ ord, i < xs.length) : (takeTo ord xs m ord.length).1 = outP xs ord m := by
  unfold takeTo
  rw [List.take_length, take_outP xs ord hnd hlt ([], xs, m) rfl (fun _ _ => rfl)]
  rfl
def manyOf (xs : List Lot) (ord : List Nat) : Int := (ord.map (fun i => (lotN xs i).many)).sum
theorem manyOf_cons (xs : List Lot) (i : Nat) (r : List Nat) : manyOf xs (i :: r) = (lotN xs i).many + manyOf xs r := by simp [manyOf]
theorem manyOf_app (xs : List Lot) (a b : List Nat) : manyOf xs (a ++ b) = manyOf xs a + manyOf xs b := by simp [manyOf]
theorem manyOf_nonneg (xs : List Lot) (ord : List Nat) (h : ∀ i ∈ ord, 0 ≤ (lotN xs i).many) : 0 ≤ manyOf xs ord := by
  induction ord with
  | nil => simp [manyOf]
  | cons i r ih => rw [manyOf_cons]; have := h i (by simp); have := ih (fun j hj => h j (by simp [hj])); omega
theorem manyOf_perm (xs : List Lot) {a b : List Nat} (h : a.Perm b) : manyOf xs a = manyOf xs b := by
  induction h with
  | nil => rfl
  | cons x _ ih => rw [manyOf_cons, manyOf_cons, ih]
  | swap x y l => rw [manyOf_cons, manyOf_cons, manyOf_cons, manyOf_cons]; omega
  | trans _ _ ih1 ih2 => exact ih1.trans ih2
theorem outP_sum (xs : List Lot) (ord : List Nat) (m : Int) (hm : 0 ≤ m) (h0 : ∀ i ∈ ord, 0 ≤ (lotN xs i).many) : pcSum (outP xs ord m) = min m (manyOf xs ord) := by
  induction ord generalizing m with
  | nil => simp only [outP, manyOf, List.map_nil, List.sum_nil]; rw [show pcSum [] = 0 from rfl]; omega
  | cons i r ih =>
    have hi := h0 i (by simp)
    have hr := manyOf_nonneg xs r (fun j hj => h0 j (by simp [hj]))
    rw [manyOf_cons]
    simp only [outP]
    split
    · rw [pcSum_cons, ih _ (by omega) (fun j hj => h0 j (by simp [hj]))]
      simp only
      omega
    · rw [ih m hm (fun j hj => h0 j (by simp [hj]))]
      omega
theorem outP_nil (xs : List Lot) (ord : List Nat) (m : Int) (hm : m ≤ 0) : outP xs ord m = [] := by
  induction ord generalizing m with
  | nil => rfl
  | cons i r ih =>
    simp only [outP]
    rw [if_neg (by omega)]
    exact ih m hm
/-- Nothing of an earlier lot is left while a later one is taken from. -/
theorem outP_old (xs : List Lot) (ord : List Nat) (m : Int) (hs : ord.Pairwise (fun i j => (lotN xs i).exp ≤ (lotN xs j).exp)) :
    ∀ p ∈ outP xs ord m, ∃ i ∈ ord, p.lot = (lotN xs i).id ∧ ∀ j ∈ ord, (lotN xs j).exp < (lotN xs i).exp → 0 < (lotN xs j).many → ⟨(lotN xs j).id, (lotN xs j).many⟩ ∈ outP xs ord m := by
  induction ord generalizing m with
  | nil => intro p hp; cases hp
  | cons i0 r ih =>
    obtain ⟨h1, h2⟩ := List.pairwise_cons.1 hs
    intro p hp
    have key : ∀ m' : Int, p ∈ outP xs r m' → (m' = m - min m (lotN xs i0).many ∧ 0 < min m (lotN xs i0).many ∨ m' = m ∧ ¬ 0 < min m (lotN xs i0).many) → ∃ i ∈ i0 :: r, p.lot = (lotN xs i).id ∧ ∀ j ∈ i0 :: r, (lotN xs j).exp < (lotN xs i).exp → 0 < (lotN xs j).many → ⟨(lotN xs j).id, (lotN xs j).many⟩ ∈ outP xs (i0 :: r) m := by
      intro m' hp' hm'
      obtain ⟨i, hi, e1, e2⟩ := ih m' h2 p hp'
      refine ⟨i, by simp [hi], e1, fun j hj he hpos => ?_⟩
      have hpm : 0 < m' := by
        apply Classical.byContradiction
        intro hc
        rw [outP_nil xs r m' (by omega)] at hp'
        cases hp'
      simp only [outP]
      rcases List.mem_cons.1 hj with rfl | hj
      · rcases hm' with ⟨e, hn⟩ | ⟨e, hn⟩
        · rw [if_pos hn]
          have : min m (lotN xs j).many = (lotN xs j).many := by omega
          rw [this]
          simp
        · omega
      · have := e2 j hj he hpos
        rcases hm' with ⟨e, hn⟩ | ⟨e, hn⟩
        · rw [if_pos hn, ← e]; simp [this]
        · rw [if_neg hn, ← e]; exact this
    simp only [outP] at hp
    split at hp
    · rename_i hn
      rcases List.mem_cons.1 hp with rfl | hp
      · refine ⟨i0, by simp, rfl, fun j hj he hpos => ?_⟩
        rcases List.mem_cons.1 hj with rfl | hj
        · omega
        · have := h1 j hj; omega
      · exact key _ hp (.inl ⟨rfl, hn⟩)
    · rename_i hn
      exact key _ hp (.inr ⟨rfl, hn⟩)
/-- The lots that can be sent, in order. -/
def pickOrd (xs : List Lot) (P : ByteArray) (d : Int) (k : Nat) : List Nat := (List.range k).filter (fun i => canGo P d (lotN xs i))
theorem pickOrd_succ (xs : List Lot) (P : ByteArray) (d : Int) (k : Nat) : pickOrd xs P d (k + 1) = if canGo P d (lotN xs k) = true then pickOrd xs P d k ++ [k] else pickOrd xs P d k := by
  unfold pickOrd
  rw [List.range_succ, List.filter_append]
  cases h : canGo P d (lotN xs k) <;> simp [h]
theorem pickOrd_mem {xs : List Lot} {P : ByteArray} {d : Int} {k i : Nat} : i ∈ pickOrd xs P d k ↔ i < k ∧ canGo P d (lotN xs i) = true := by
  unfold pickOrd
  simp
theorem pickOrd_nodup (xs : List Lot) (P : ByteArray) (d : Int) (k : Nat) : (pickOrd xs P d k).Nodup := List.Pairwise.filter _ List.nodup_range
theorem pickOrd_len (xs : List Lot) (P : ByteArray) (d : Int) (k : Nat) : (pickOrd xs P d k).length ≤ k := by
  have := List.length_filter_le (fun i => canGo P d (lotN xs i)) (List.range k)
  unfold pickOrd
  simpa using this
def freshTo (xs : List Lot) (P : ByteArray) (d : Int) (k : Nat) : Int := manyOf xs (pickOrd xs P d k)
theorem freshTo_succ (xs : List Lot) (P : ByteArray) (d : Int) (k : Nat) : freshTo xs P d (k + 1) = if canGo P d (lotN xs k) = true then freshTo xs P d k + (lotN xs k).many else freshTo xs P d k := by
  unfold freshTo
  rw [pickOrd_succ]
  split
  · rw [manyOf_app, manyOf_cons]; simp [manyOf]
  · rfl
theorem freshTo_bd (xs : List Lot) (P : ByteArray) (d : Int) (k : Nat) (hk : k ≤ xs.length) (h : ∀ i, i < xs.length → 0 ≤ (lotN xs i).many ∧ (lotN xs i).many ≤ 100000) : 0 ≤ freshTo xs P d k ∧ freshTo xs P d k ≤ 100000 * k := by
  induction k with
  | zero => simp [freshTo, pickOrd, manyOf]
  | succ k ih =>
    have := ih (by omega)
    have := h k (by omega)
    rw [freshTo_succ]
    split <;> omega
/-- The comparison of two lots by their places. -/
def expCm (xs : List Lot) (a b : Int) : Int := cmpN (lotN xs a.toNat).exp (lotN xs b.toNat).exp
theorem expCm_neg {xs : List Lot} {a b : Int} : expCm xs a b < 0 ↔ (lotN xs a.toNat).exp < (lotN xs b.toNat).exp := by
  unfold expCm cmpN
  split
  · simp [*]
  · split <;> simp <;> omega
theorem expCm_ok (xs : List Lot) : CmpOk (expCm xs) := ⟨fun a b h => by rw [expCm_neg] at *; omega, fun a b c h1 h2 => by rw [expCm_neg] at *; omega⟩
/-- A good way through lots: all that can be sent, by expiry. -/
structure OrdOk (xs : List Lot) (P : ByteArray) (d : Int) (ord : List Nat) : Prop where
  perm : ord.Perm (pickOrd xs P d xs.length)
  up : ord.Pairwise (fun i j => (lotN xs i).exp ≤ (lotN xs j).exp)
theorem OrdOk.lt {xs : List Lot} {P : ByteArray} {d : Int} {ord : List Nat} (h : OrdOk xs P d ord) : ∀ i ∈ ord, i < xs.length := fun _ hi => (pickOrd_mem.1 (h.perm.mem_iff.1 hi)).1
theorem OrdOk.nodup {xs : List Lot} {P : ByteArray} {d : Int} {ord : List Nat} (h : OrdOk xs P d ord) : ord.Nodup := h.perm.nodup_iff.2 (pickOrd_nodup xs P d _)
theorem OrdOk.len {xs : List Lot} {P : ByteArray} {d : Int} {ord : List Nat} (h : OrdOk xs P d ord) : ord.length ≤ xs.length := by
  rw [h.perm.length_eq]; exact pickOrd_len xs P d _
theorem ord_of (xs : List Lot) (P : ByteArray) (d : Int) (O : List Int) (n : Nat) (hp : O.Perm ((pickOrd xs P d xs.length).map Int.ofNat)) (hs : Srt (expCm xs) 0 O n) (hn : O.length = n) : ∃ ord : List Nat, O = ord.map Int.ofNat ∧ OrdOk xs P d ord := by
  refine ⟨O.map Int.toNat, ?_, ?_, ?_⟩
  · rw [List.map_map]
    have h1 : O.map (Int.ofNat ∘ Int.toNat) = O.map id := List.map_congr_left (fun x hx => by
      obtain ⟨y, _, rfl⟩ := List.mem_map.1 (hp.mem_iff.1 hx)
      rfl)
    rw [h1, List.map_id]
  · have := hp.map Int.toNat
    rw [List.map_map] at this
    have h1 : (pickOrd xs P d xs.length).map (Int.toNat ∘ Int.ofNat) = (pickOrd xs P d xs.length).map id := List.map_congr_left (fun x _ => rfl)
    rw [h1, List.map_id] at this
    exact this
  · rw [List.pairwise_iff_getElem]
    intro i j hi hj hij
    have h := hs i j hij (by simp at hj; omega)
    rw [expCm_neg, getD_eq O j 0 (by simpa using hj), getD_eq O i 0 (by simpa using hi)] at h
    simp only [List.getElem_map]
    omega
/-- What a pick has. -/
theorem pick_good (xs : List Lot) (P : ByteArray) (d m : Int) (ord : List Nat) (h : OrdOk xs P d ord) (hm : 0 ≤ m) (hb : ∀ i, i < xs.length → 0 ≤ (lotN xs i).many) (hf : m ≤ freshTo xs P d xs.length) :
    pcSum (takeTo ord xs m ord.length).1 = m ∧ ∀ p ∈ (takeTo ord xs m ord.length).1, ∃ i, i < xs.length ∧ p.lot = (lotN xs i).id ∧ ∀ j, j < xs.length → canGo P d (lotN xs j) = true → (lotN xs j).exp < (lotN xs i).exp → 0 < (lotN xs j).many → ⟨(lotN xs j).id, (lotN xs j).many⟩ ∈ (takeTo ord xs m ord.length).1 := by
  rw [takeTo_out xs ord m h.nodup h.lt]
  constructor
  · rw [outP_sum xs ord m hm (fun i hi => hb i (h.lt i hi)), manyOf_perm xs h.perm]
    unfold freshTo at hf
    omega
  · intro p hp
    obtain ⟨i, hi, e1, e2⟩ := outP_old xs ord m h.up p hp
    exact ⟨i, h.lt i hi, e1, fun j hj hc => e2 j (h.perm.mem_iff.2 (pickOrd_mem.2 ⟨hj, hc⟩))⟩
end Go.Proofs.YtdminjijhpemkaaGreatDoor
