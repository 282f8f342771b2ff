/- Picking units out of lots: what is taken, what is left. No program in sight. -/
import Derived.Test.YtakabckmiodjaaaPkSAr
import Derived.Test.YtakabckmiodjaaaPkSAa
import Derived.Test.YtakabckmiodjaaaPkSAt
import Derived.Test.YtakabckmiodjaaaPkSAp
import Derived.Test.YtakabckmiodjaaaPkSAc
import Derived.Test.YtakabckmiodjaaaPkSAe
import Derived.Test.YtakabckmiodjaaaPkSAl
namespace Go.Proofs.Ytakabckmiodjaaa
open Go.RowKit

def noLot : Lot := ⟨⟨#[]⟩, ⟨#[]⟩, 0, 0⟩
def lotN (xs : List Lot) (i : Nat) : Lot := xs.getD i noLot
theorem lotN_get {xs : List Lot} {i : Nat} (h : i < xs.length) : lotN xs i = xs[i] := by
  unfold lotN
  rw [List.getD_eq_getElem?_getD, List.getElem?_eq_getElem h]; rfl
theorem lotN_set {xs : List Lot} {i j : Nat} (x : Lot) (h : j < xs.length) : lotN (xs.set i x) j = if i = j then x else lotN xs j := by
  rw [lotN_get (by simpa using h), lotN_get h, List.getElem_set]
/-- A lot that can be sent. -/
def canGo (P : ByteArray) (d : Int) (x : Lot) : Bool := (x.prod.toList == P.toList) && decide (d ≤ x.exp)
def takeOne (s : List Piece × List Lot × Int) (i : Nat) : List Piece × List Lot × Int :=
  if 0 < min s.2.2 (lotN s.2.1 i).many then
    (s.1 ++ [⟨(lotN s.2.1 i).id, min s.2.2 (lotN s.2.1 i).many⟩],
     s.2.1.set i ⟨(lotN s.2.1 i).id, (lotN s.2.1 i).prod, (lotN s.2.1 i).exp, (lotN s.2.1 i).many - min s.2.2 (lotN s.2.1 i).many⟩,
     s.2.2 - min s.2.2 (lotN s.2.1 i).many)
  else s
def takeTo (ord : List Nat) (L : List Lot) (m : Int) (k : Nat) : List Piece × List Lot × Int := (ord.take k).foldl takeOne ([], L, m)
theorem takeTo_succ (ord : List Nat) (L : List Lot) (m : Int) (k : Nat) (h : k < ord.length) : takeTo ord L m (k + 1) = takeOne (takeTo ord L m k) ord[k] := by
  unfold takeTo
  rw [List.take_succ_eq_append_getElem h, List.foldl_append]
  rfl
/-- How many units of a lot pieces have. -/
def cntP (ps : List Piece) (k : ByteArray) : Int := (ps.map (fun p => if (p.lot.toList == k.toList) = true then p.many else 0)).sum
theorem cntP_app (a b : List Piece) (k : ByteArray) : cntP (a ++ b) k = cntP a k + cntP b k := by simp [cntP]
theorem cntP_one (p : Piece) (k : ByteArray) : cntP [p] k = if p.lot = k then p.many else 0 := by
  have : ((p.lot.toList == k.toList) = true) ↔ p.lot = k := by
    rw [beq_iff_eq]
    exact ⟨bytes_of, fun h => by rw [h]⟩
  simp only [cntP, List.map_cons, List.map_nil, List.sum_cons, List.sum_nil]
  by_cases h : p.lot = k
  · rw [if_pos h, if_pos (this.2 h)]; omega
  · rw [if_neg h, if_neg (fun e => h (this.1 e))]; omega
/-- What was taken out of lots and what is left is what there was. -/
structure Keeps (L0 L : List Lot) (ps : List Piece) (B : Int) : Prop where
  len : L.length = L0.length
  same : ∀ i, i < L0.length → (lotN L i).id = (lotN L0 i).id ∧ (lotN L i).prod = (lotN L0 i).prod ∧ (lotN L i).exp = (lotN L0 i).exp
  sum : ∀ i, i < L0.length → (lotN L i).many + cntP ps (lotN L0 i).id = (lotN L0 i).many
  bd : ∀ i, i < L0.length → 0 ≤ (lotN L i).many ∧ (lotN L i).many ≤ B
  pcs : ∀ p ∈ ps, 1 ≤ p.many ∧ p.many ≤ B ∧ ∃ i, i < L0.length ∧ p.lot = (lotN L0 i).id
theorem Keeps.start {L0 : List Lot} {B : Int} (h : ∀ i, i < L0.length → 0 ≤ (lotN L0 i).many ∧ (lotN L0 i).many ≤ B) : Keeps L0 L0 [] B :=
  ⟨rfl, fun _ _ => ⟨rfl, rfl, rfl⟩, fun _ _ => by simp [cntP], h, fun p hp => by cases hp⟩
def Apart (L0 : List Lot) : Prop := ∀ i j, i < L0.length → j < L0.length → (lotN L0 i).id = (lotN L0 j).id → i = j
theorem Keeps.one {L0 : List Lot} {ps : List Piece} {B : Int} {s : List Piece × List Lot × Int} (hd : Apart L0) (h : Keeps L0 s.2.1 (ps ++ s.1) B) (i : Nat) (hi : i < L0.length) : Keeps L0 (takeOne s i).2.1 (ps ++ (takeOne s i).1) B := by
  unfold takeOne
  split
  · rename_i hn
    obtain ⟨n, hne⟩ : ∃ n, n = min s.2.2 (lotN s.2.1 i).many := ⟨_, rfl⟩
    rw [← hne] at hn ⊢
    have hle : n ≤ (lotN s.2.1 i).many := by rw [hne]; exact Int.min_le_right _ _
    have hb := h.bd i hi
    have hlen := h.len
    refine ⟨by simp [hlen], fun j hj => ?_, fun j hj => ?_, fun j hj => ?_, fun p hp => ?_⟩
    · simp only
      rw [lotN_set _ (by omega)]
      split
      · rename_i e; subst e; exact h.same i hj
      · exact h.same j hj
    · simp only
      rw [lotN_set _ (by omega), ← List.append_assoc, cntP_app, cntP_one]
      have hs := h.sum j hj
      by_cases e : i = j
      · subst e
        rw [if_pos rfl, if_pos (h.same i hj).1]
        simp only
        omega
      · rw [if_neg e, if_neg (fun e2 => e (hd i j hi hj ((h.same i hi).1.symm.trans e2)))]
        omega
    · simp only
      rw [lotN_set _ (by omega)]
      split
      · simp only; omega
      · exact h.bd j hj
    · simp only [← List.append_assoc] at hp
      rcases List.mem_append.1 hp with hp | hp
      · exact h.pcs p hp
      · obtain rfl : p = _ := by simpa using hp
        exact ⟨by simp only; omega, by simp only; omega, i, hi, (h.same i hi).1⟩
  · exact h
theorem Keeps.fold {L0 : List Lot} {ps : List Piece} {B : Int} (hd : Apart L0) (ord : List Nat) : ∀ (s : List Piece × List Lot × Int), Keeps L0 s.2.1 (ps ++ s.1) B → (∀ i ∈ ord, i < L0.length) → Keeps L0 (ord.foldl takeOne s).2.1 (ps ++ (ord.foldl takeOne s).1) B := by
  induction ord with
  | nil => intro s h _; exact h
  | cons i r ih =>
    intro s h hlt
    rw [List.foldl_cons]
    exact ih _ (h.one hd i (hlt i (by simp))) (fun j hj => hlt j (by simp [hj]))
theorem Keeps.take {L0 L : List Lot} {ps : List Piece} {B m : Int} (hd : Apart L0) (h : Keeps L0 L ps B) (ord : List Nat) (hlt : ∀ i ∈ ord, i < L0.length) (k : Nat) : Keeps L0 (takeTo ord L m k).2.1 (ps ++ (takeTo ord L m k).1) B :=
  Keeps.fold hd _ _ (by simpa using h) (fun i hi => hlt i (List.mem_of_mem_take hi))
theorem takeOne_m (s : List Piece × List Lot × Int) (i : Nat) (M : Int) (h : 0 ≤ s.2.2 ∧ s.2.2 ≤ M) : 0 ≤ (takeOne s i).2.2 ∧ (takeOne s i).2.2 ≤ M := by
  unfold takeOne
  split
  · rename_i hn
    have := Int.min_le_left s.2.2 (lotN s.2.1 i).many
    simp only
    omega
  · exact h
theorem takeTo_m (ord : List Nat) (L : List Lot) (m : Int) (hm : 0 ≤ m) (k : Nat) : 0 ≤ (takeTo ord L m k).2.2 ∧ (takeTo ord L m k).2.2 ≤ m := by
  unfold takeTo
  generalize ord.take k = r
  have : ∀ (r : List Nat) (s : List Piece × List Lot × Int), 0 ≤ s.2.2 ∧ s.2.2 ≤ m → 0 ≤ (r.foldl takeOne s).2.2 ∧ (r.foldl takeOne s).2.2 ≤ m := by
    intro r
    induction r with
    | nil => intro s h; exact h
    | cons i r ih => intro s h; rw [List.foldl_cons]; exact ih _ (takeOne_m s i m h)
  exact this r _ ⟨hm, Int.le_refl _⟩
theorem takeTo_len (ord : List Nat) (L : List Lot) (m : Int) (k : Nat) : (takeTo ord L m k).1.length ≤ k := by
  unfold takeTo
  have : ∀ (r : List Nat) (s : List Piece × List Lot × Int), (r.foldl takeOne s).1.length ≤ s.1.length + r.length := by
    intro r
    induction r with
    | nil => intro s; simp
    | cons i r ih =>
      intro s
      rw [List.foldl_cons]
      have h1 := ih (takeOne s i)
      have h2 : (takeOne s i).1.length ≤ s.1.length + 1 := by
        unfold takeOne
        split
        · simp
        · omega
      simp only [List.length_cons]; omega
  have := this (ord.take k) ([], L, m)
  simp only [List.length_nil, List.length_take] at this
  omega
/-- What is taken, lot by lot, out of lots that are not changed. -/
def outP (xs : List Lot) : List Nat → Int → List Piece
  | [], _ => []
  | i :: r, m => if 0 < min m (lotN xs i).many then ⟨(lotN xs i).id, min m (lotN xs i).many⟩ :: outP xs r (m - min m (lotN xs i).many) else outP xs r m
theorem take_outP (xs : List Lot) (ord : List Nat) (hnd : ord.Nodup) (hlt : ∀ i ∈ ord, i < xs.length) : ∀ (s : List Piece × List Lot × Int), s.2.1.length = xs.length → (∀ i ∈ ord, lotN s.2.1 i = lotN xs i) → (ord.foldl takeOne s).1 = s.1 ++ outP xs ord s.2.2 := by
  induction ord with
  | nil => intro s _ _; simp [outP]
  | cons i r ih =>
    intro s hl he
    obtain ⟨hni, hnr⟩ := List.nodup_cons.1 hnd
    have hi := he i (by simp)
    rw [List.foldl_cons]
    simp only [outP]
    by_cases hn : 0 < min s.2.2 (lotN xs i).many
    · have e : takeOne s i = (s.1 ++ [⟨(lotN xs i).id, min s.2.2 (lotN xs i).many⟩], s.2.1.set i ⟨(lotN xs i).id, (lotN xs i).prod, (lotN xs i).exp, (lotN xs i).many - min s.2.2 (lotN xs i).many⟩, s.2.2 - min s.2.2 (lotN xs i).many) := by
        unfold takeOne
        rw [hi, if_pos hn]
      rw [e, if_pos hn, ih hnr (fun j hj => hlt j (by simp [hj])) _ (by simpa using hl) (fun j hj => ?_)]
      · simp
      · simp only
        rw [lotN_set _ (by rw [hl]; exact hlt j (by simp [hj])), if_neg (fun e => hni (by rw [e]; exact hj))]
        exact he j (by simp [hj])
    · have e : takeOne s i = s := by
        unfold takeOne
        rw [hi, if_neg hn]
      rw [e, if_neg hn]
      exact ih hnr (fun j hj => hlt j (by simp [hj])) s hl (fun j hj => he j (by simp [hj]))
theorem takeTo_out (xs : List Lot) (ord : List Nat) (m : Int) (hnd : ord.Nodup) (hlt : ∀ i ∈ ord, i < xs.length) : (takeTo ord xs m ord.length).1 = outP xs ord m := by
  unfold takeTo
  rw [List.take_length, take_outP xs ord hnd hlt ([], xs, m) rfl (fun _ _ => rfl)]
  rfl
def manyOf (xs : List Lot) (ord : List Nat) : Int := (ord.map (fun i => (lotN xs i).many)).sum
theorem manyOf_cons (xs : List Lot) (i : Nat) (r : List Nat) : manyOf xs (i :: r) = (lotN xs i).many + manyOf xs r := by simp [manyOf]
theorem manyOf_app (xs : List Lot) (a b : List Nat) : manyOf xs (a ++ b) = manyOf xs a + manyOf xs b := by simp [manyOf]
theorem manyOf_nonneg (xs : List Lot) (ord : List Nat) (h : ∀ i ∈ ord, 0 ≤ (lotN xs i).many) : 0 ≤ manyOf xs ord := by
  induction ord with
  | nil => simp [manyOf]
  | cons i r ih => rw [manyOf_cons]; have := h i (by simp); have := ih (fun j hj => h j (by simp [hj])); omega
theorem manyOf_perm (xs : List Lot) {a b : List Nat} (h : a.Perm b) : manyOf xs a = manyOf xs b := by
  induction h with
  | nil => rfl
  | cons x _ ih => rw [manyOf_cons, manyOf_cons, ih]
  | swap x y l => rw [manyOf_cons, manyOf_cons, manyOf_cons, manyOf_cons]; omega
  | trans _ _ ih1 ih2 => exact ih1.trans ih2
theorem outP_sum (xs : List Lot) (ord : List Nat) (m : Int) (hm : 0 ≤ m) (h0 : ∀ i ∈ ord, 0 ≤ (lotN xs i).many) : pcSum (outP xs ord m) = min m (manyOf xs ord) := by
  induction ord generalizing m with
  | nil => simp only [outP, manyOf, List.map_nil, List.sum_nil]; rw [show pcSum [] = 0 from rfl]; omega
  | cons i r ih =>
    have hi := h0 i (by simp)
    have hr := manyOf_nonneg xs r (fun j hj => h0 j (by simp [hj]))
    rw [manyOf_cons]
    simp only [outP]
    split
    · rw [pcSum_cons, ih _ (by omega) (fun j hj => h0 j (by simp [hj]))]
      simp only
      omega
    · rw [ih m hm (fun j hj => h0 j (by simp [hj]))]
      omega
theorem outP_nil (xs : List Lot) (ord : List Nat) (m : Int) (hm : m ≤ 0) : outP xs ord m = [] := by
  induction ord generalizing m with
  | nil => rfl
  | cons i r ih =>
    simp only [outP]
    rw [if_neg (by omega)]
    exact ih m hm
/-- Nothing of an earlier lot is left while a later one is taken from. -/
theorem outP_old (xs : List Lot) (ord : List Nat) (m : Int) (hs : ord.Pairwise (fun i j => (lotN xs i).exp ≤ (lotN xs j).exp)) :
    ∀ p ∈ outP xs ord m, ∃ i ∈ ord, p.lot = (lotN xs i).id ∧ ∀ j ∈ ord, (lotN xs j).exp < (lotN xs i).exp → 0 < (lotN xs j).many → ⟨(lotN xs j).id, (lotN xs j).many⟩ ∈ outP xs ord m := by
  induction ord generalizing m with
  | nil => intro p hp; cases hp
  | cons i0 r ih =>
    obtain ⟨h1, h2⟩ := List.pairwise_cons.1 hs
    intro p hp
    have key : ∀ m' : Int, p ∈ outP xs r m' → (m' = m - min m (lotN xs i0).many ∧ 0 < min m (lotN xs i0).many ∨ m' = m ∧ ¬ 0 < min m (lotN xs i0).many) → ∃ i ∈ i0 :: r, p.lot = (lotN xs i).id ∧ ∀ j ∈ i0 :: r, (lotN xs j).exp < (lotN xs i).exp → 0 < (lotN xs j).many → ⟨(lotN xs j).id, (lotN xs j).many⟩ ∈ outP xs (i0 :: r) m := by
      intro m' hp' hm'
      obtain ⟨i, hi, e1, e2⟩ := ih m' h2 p hp'
      refine ⟨i, by simp [hi], e1, fun j hj he hpos => ?_⟩
      have hpm : 0 < m' := by
        apply Classical.byContradiction
        intro hc
        rw [outP_nil xs r m' (by omega)] at hp'
        cases hp'
      simp only [outP]
      rcases List.mem_cons.1 hj with rfl | hj
      · rcases hm' with ⟨e, hn⟩ | ⟨e, hn⟩
        · rw [if_pos hn]
          have : min m (lotN xs j).many = (lotN xs j).many := by omega
          rw [this]
          simp
        · omega
      · have := e2 j hj he hpos
        rcases hm' with ⟨e, hn⟩ | ⟨e, hn⟩
        · rw [if_pos hn, ← e]; simp [this]
        · rw [if_neg hn, ← e]; exact this
    simp only [outP] at hp
    split at hp
    · rename_i hn
      rcases List.mem_cons.1 hp with rfl | hp
      · refine ⟨i0, by simp, rfl, fun j hj he hpos => ?_⟩
        rcases List.mem_cons.1 hj with rfl | hj
        · omega
        · have := h1 j hj; omega
      · exact key _ hp (.inl ⟨rfl, hn⟩)
    · rename_i hn
      exact key _ hp (.inr ⟨rfl, hn⟩)
/-- The lots that can be sent, in order. -/
def pickOrd (xs : List Lot) (P : ByteArray) (d : Int) (k : Nat) : List Nat := (List.range k).filter (fun i => canGo P d (lotN xs i))
theorem pickOrd_succ (xs : List Lot) (P : ByteArray) (d : Int) (k : Nat) : pickOrd xs P d (k + 1) = if canGo P d (lotN xs k) = true then pickOrd xs P d k ++ [k] else pickOrd xs P d k := by
  unfold pickOrd
  rw [List.range_succ, List.filter_append]
  cases h : canGo P d (lotN xs k) <;> simp [h]
theorem pickOrd_mem {xs : List Lot} {P : ByteArray} {d : Int} {k i : Nat} : i ∈ pickOrd xs P d k ↔ i < k ∧ canGo P d (lotN xs i) = true := by
  unfold pickOrd
  simp
theorem pickOrd_nodup (xs : List Lot) (P : ByteArray) (d : Int) (k : Nat) : (pickOrd xs P d k).Nodup := List.Pairwise.filter _ List.nodup_range
theorem pickOrd_len (xs : List Lot) (P : ByteArray) (d : Int) (k : Nat) : (pickOrd xs P d k).length ≤ k := by
  have := List.length_filter_le (fun i => canGo P d (lotN xs i)) (List.range k)
  unfold pickOrd
  simpa using this
def freshTo (xs : List Lot) (P : ByteArray) (d : Int) (k : Nat) : Int := manyOf xs (pickOrd xs P d k)
theorem freshTo_succ (xs : List Lot) (P : ByteArray) (d : Int) (k : Nat) : freshTo xs P d (k + 1) = if canGo P d (lotN xs k) = true then freshTo xs P d k + (lotN xs k).many else freshTo xs P d k := by
  unfold freshTo
  rw [pickOrd_succ]
  split
  · rw [manyOf_app, manyOf_cons]; simp [manyOf]
  · rfl
theorem freshTo_bd (xs : List Lot) (P : ByteArray) (d : Int) (k : Nat) (hk : k ≤ xs.length) (h : ∀ i, i < xs.length → 0 ≤ (lotN xs i).many ∧ (lotN xs i).many ≤ 100000) : 0 ≤ freshTo xs P d k ∧ freshTo xs P d k ≤ 100000 * k := by
  induction k with
  | zero => simp [freshTo, pickOrd, manyOf]
  | succ k ih =>
    have := ih (by omega)
    have := h k (by omega)
    rw [freshTo_succ]
    split <;> omega
/-- The comparison of two lots by their places. -/
def expCm (xs : List Lot) (a b : Int) : Int := cmpN (lotN xs a.toNat).exp (lotN xs b.toNat).exp
theorem expCm_neg {xs : List Lot} {a b : Int} : expCm xs a b < 0 ↔ (lotN xs a.toNat).exp < (lotN xs b.toNat).exp := by
  unfold expCm cmpN
  split
  · simp [*]
  · split <;> simp <;> omega
theorem expCm_ok (xs : List Lot) : CmpOk (expCm xs) := ⟨fun a b h => by rw [expCm_neg] at *; omega, fun a b c h1 h2 => by rw [expCm_neg] at *; omega⟩
/-- A good way through lots: all that can be sent, by expiry. -/
structure OrdOk (xs : List Lot) (P : ByteArray) (d : Int) (ord : List Nat) : Prop where
  perm : ord.Perm (pickOrd xs P d xs.length)
  up : ord.Pairwise (fun i j => (lotN xs i).exp ≤ (lotN xs j).exp)
theorem OrdOk.lt {xs : List Lot} {P : ByteArray} {d : Int} {ord : List Nat} (h : OrdOk xs P d ord) : ∀ i ∈ ord, i < xs.length := fun _ hi => (pickOrd_mem.1 (h.perm.mem_iff.1 hi)).1
theorem OrdOk.nodup {xs : List Lot} {P : ByteArray} {d : Int} {ord : List Nat} (h : OrdOk xs P d ord) : ord.Nodup := h.perm.nodup_iff.2 (pickOrd_nodup xs P d _)
theorem OrdOk.len {xs : List Lot} {P : ByteArray} {d : Int} {ord : List Nat} (h : OrdOk xs P d ord) : ord.length ≤ xs.length := by
  rw [h.perm.length_eq]; exact pickOrd_len xs P d _
theorem ord_of (xs : List Lot) (P : ByteArray) (d : Int) (O : List Int) (n : Nat) (hp : O.Perm ((pickOrd xs P d xs.length).map Int.ofNat)) (hs : Srt (expCm xs) 0 O n) (hn : O.length = n) : ∃ ord : List Nat, O = ord.map Int.ofNat ∧ OrdOk xs P d ord := by
  refine ⟨O.map Int.toNat, ?_, ?_, ?_⟩
  · rw [List.map_map]
    have h1 : O.map (Int.ofNat ∘ Int.toNat) = O.map id := List.map_congr_left (fun x hx => by
      obtain ⟨y, _, rfl⟩ := List.mem_map.1 (hp.mem_iff.1 hx)
      rfl)
    rw [h1, List.map_id]
  · have := hp.map Int.toNat
    rw [List.map_map] at this
    have h1 : (pickOrd xs P d xs.length).map (Int.toNat ∘ Int.ofNat) = (pickOrd xs P d xs.length).map id := List.map_congr_left (fun x _ => rfl)
    rw [h1, List.map_id] at this
    exact this
  · rw [List.pairwise_iff_getElem]
    intro i j hi hj hij
    have h := hs i j hij (by simp at hj; omega)
    rw [expCm_neg, getD_eq O j 0 (by simpa using hj), getD_eq O i 0 (by simpa using hi)] at h
    simp only [List.getElem_map]
    omega
/-- What a pick has. -/
theorem pick_good (xs : List Lot) (P : ByteArray) (d m : Int) (ord : List Nat) (h : OrdOk xs P d ord) (hm : 0 ≤ m) (hb : ∀ i, i < xs.length → 0 ≤ (lotN xs i).many) (hf : m ≤ freshTo xs P d xs.length) :
    pcSum (takeTo ord xs m ord.length).1 = m ∧ ∀ p ∈ (takeTo ord xs m ord.length).1, ∃ i, i < xs.length ∧ p.lot = (lotN xs i).id ∧ ∀ j, j < xs.length → canGo P d (lotN xs j) = true → (lotN xs j).exp < (lotN xs i).exp → 0 < (lotN xs j).many → ⟨(lotN xs j).id, (lotN xs j).many⟩ ∈ (takeTo ord xs m ord.length).1 := by
  rw [takeTo_out xs ord m h.nodup h.lt]
  constructor
  · rw [outP_sum xs ord m hm (fun i hi => hb i (h.lt i hi)), manyOf_perm xs h.perm]
    unfold freshTo at hf
    omega
  · intro p hp
    obtain ⟨i, hi, e1, e2⟩ := outP_old xs ord m h.up p hp
    exact ⟨i, h.lt i hi, e1, fun j hj hc => e2 j (h.perm.mem_iff.2 (pickOrd_mem.2 ⟨hj, hc⟩))⟩
end Go.Proofs.Ytakabckmiodjaaa

/-! How many units can be sent; the comparison of lots by their places. -/
namespace Go.Proofs.Ytakabckmiodjaaa
open Go.RowKit
attribute [local go_sem ↓] Go.wp_at_zero Go.wp_at_succ

set_option maxRecDepth 100000 in
set_option maxHeartbeats 1000000 in
theorem fresh_any (P : ByteArray) (d : Int) (xs : List Lot) (a : Option Addr) (c : Nat) (w : World) (h : CellsAt w a (flat encLot xs)) (hl : xs.length ≤ 500) (hb : ∀ i, i < xs.length → 0 ≤ (lotN xs i).many ∧ (lotN xs i).many ≤ 100000) :
    Calls Try.prog 114 #[.slice a xs.length c, .string P, .int .i64 d] w fun e w' => e = .returned (.int .i64 (freshTo xs P d xs.length)) ∧ w.grownBy w' none := by
  have H := Lib.hid h
  have HB := Lib.hid hb
  have F0 : Hid ((0 : Int) = freshTo xs P d 0) := by show _ = _; simp [freshTo, pickOrd, manyOf]
  clear h hb
  go_enter Try.func114, Try.ntmps114
  go_wp2_with (fail)
  go_loopw [7, 12] (fun s i wr => ∃ k : Nat, k ≤ xs.length ∧ i = .int .i64 k ∧ s = .int .i64 (freshTo xs P d k) ∧ w.grownBy wr none) (fun _ i _ => xs.length - (intOf i).toNat)
  case atStart => exact ⟨0, Nat.zero_le _, rfl, congrArg _ F0.out, gr_refl _ _⟩
  case round =>
    obtain ⟨k, hk, rfl, rfl, hgr⟩ := hrel
    obtain ⟨wo, rfl⟩ : ∃ wo : World, wo = wr := ⟨_, rfl⟩
    by_cases hlt : k < xs.length
    · obtain ⟨b, off, rfl, d0, d1, d2, d3⟩ := lot_cells (H.out.keep0 hgr) k hlt
      have hbd := freshTo_bd xs P d k hk HB.out
      have hmn := HB.out k hlt
      have hnx := freshTo_succ xs P d k
      rw [lotN_get hlt] at hmn hnx
      obtain ⟨x, hx⟩ : ∃ x, x = xs[k] := ⟨_, rfl⟩
      rw [← hx] at d0 d1 d2 d3 hmn hnx
      obtain ⟨K, Pr, E, M⟩ := x
      simp only [canGo, Bool.and_eq_true, decide_eq_true_eq] at d0 d1 d2 d3 hmn hnx
      obtain ⟨F, hF⟩ : ∃ F, F = freshTo xs P d k := ⟨_, rfl⟩
      rw [← hF] at hbd hnx
      rw [← hF]
      have HGR := Lib.hid hgr
      have HNX := Lib.hid hnx
      have hF2 : F ≤ 100000 * 500 := by omega
      clear hx hF hgr hnx
      cases hq : (Pr.toList == P.toList) with
      | true =>
        by_cases he : d ≤ E
        · have HE : Hid (F + M = freshTo xs P d (k + 1)) := by show _ = _; rw [HNX.out, if_pos ⟨hq, he⟩]
          have hdb : decide (d ≤ E) = true := decide_eq_true he
          clear HNX
          go_wp2_with (fail)
          go_roundw
          case rel => exact ⟨k + 1, by omega, by go_num, by rw [← HE.out], gr_alloc HGR.out _⟩
          case measure => simp [intOf]; omega
        · have HE : Hid (F = freshTo xs P d (k + 1)) := by show _ = _; rw [HNX.out, if_neg (fun h => he h.2)]
          have hdb : decide (d ≤ E) = false := decide_eq_false he
          clear HNX
          go_wp2_with (fail)
          go_roundw
          case rel => exact ⟨k + 1, by omega, by go_num, by rw [← HE.out], gr_alloc HGR.out _⟩
          case measure => simp [intOf]; omega
      | false =>
        have HE : Hid (F = freshTo xs P d (k + 1)) := by show _ = _; rw [HNX.out, if_neg (fun h => by rw [hq] at h; cases h.1)]
        clear HNX
        go_wp2_with (fail)
        go_roundw
        case rel => exact ⟨k + 1, by omega, by go_num, by rw [← HE.out], gr_alloc HGR.out _⟩
        case measure => simp [intOf]; omega
    · obtain rfl : k = xs.length := by omega
      go_wp2_with (fail)
      go_ret
      exact ⟨rfl, hgr⟩
theorem pickCmp_fn : ∀ (args : Array Value) (w : World), (callFunc 115 args).run Try.prog w = .ok (.enter 115 args) w := fun _ _ => by kernel_rfl
set_option maxRecDepth 100000 in
set_option maxHeartbeats 1000000 in
theorem pickCmp_any (xs : List Lot) (i j : Nat) (hi : i < xs.length) (hj : j < xs.length) (a : Option Addr) (c q : Nat) (w : World) (hq : w.cell? ⟨q, 0, none⟩ = some (.slice a xs.length c)) (h : CellsAt w a (flat encLot xs)) :
    Calls Try.prog 115 #[.int .i64 i, .int .i64 j, .pointer (some ⟨q, 0, none⟩)] w fun e w' => e = .returned (.int .i64 (expCm xs i j)) ∧ w.grownBy w' none := by
  obtain ⟨b, off, rfl, -, -, d2, -⟩ := lot_cells h i hi
  obtain ⟨_, _, e, -, -, e2, -⟩ := lot_cells h j hj
  cases e
  have hE : expCm xs i j = cmpN xs[i].exp xs[j].exp := by unfold expCm; rw [Int.toNat_natCast, Int.toNat_natCast, lotN_get hi, lotN_get hj]
  rw [hE]
  obtain ⟨u, hu⟩ : ∃ u, u = xs[i].exp := ⟨_, rfl⟩
  obtain ⟨v, hv⟩ : ∃ v, v = xs[j].exp := ⟨_, rfl⟩
  rw [← hu] at d2
  rw [← hv] at e2
  rw [← hu, ← hv]
  clear hu hv hE h
  go_enter Try.func115, Try.ntmps115
  have gq := grew_cell hq
  have gd := grew_cell d2
  have ge := grew_cell e2
  have h1 : (i : Int) < (xs.length : Int) := by omega
  have h2 : (j : Int) < (xs.length : Int) := by omega
  have h3 : (0 : Int) ≤ (i : Int) := by omega
  have h4 : (0 : Int) ≤ (j : Int) := by omega
  clear hq d2 e2
  go_wp2_with (fail)
  refine wp_region_grew (by kernel_rfl) (by kernel_rfl) ?_
  repeat (go_big_quiet_step (first
    | (go_at_call 59; exact Calls.grew_of (fun W g => (cmpInt_any _ _ W).mono fun _ _ h => ⟨h.1, by rw [← h.2]; exact gr_refl _ _⟩))))
  refine wpQuiet_nil ?_
  rintro wq ⟨nn, rfl⟩
  have g := nn.gr
  go_wp2_with (fail)
  go_ret
  exact ⟨rfl, g⟩

/-! Units are picked out of lots. -/
attribute [local go_sem ↓] Go.wp_at_zero Go.wp_at_succ

theorem takeTo_lots (ord : List Nat) (L : List Lot) (m B : Int) (h : ∀ i, i < L.length → 0 ≤ (lotN L i).many ∧ (lotN L i).many ≤ B) (k : Nat) : (takeTo ord L m k).2.1.length = L.length ∧ ∀ i, i < L.length → 0 ≤ (lotN (takeTo ord L m k).2.1 i).many ∧ (lotN (takeTo ord L m k).2.1 i).many ≤ B := by
  unfold takeTo
  generalize ord.take k = r
  have : ∀ (r : List Nat) (s : List Piece × List Lot × Int), s.2.1.length = L.length → (∀ i, i < L.length → 0 ≤ (lotN s.2.1 i).many ∧ (lotN s.2.1 i).many ≤ B) → (r.foldl takeOne s).2.1.length = L.length ∧ ∀ i, i < L.length → 0 ≤ (lotN (r.foldl takeOne s).2.1 i).many ∧ (lotN (r.foldl takeOne s).2.1 i).many ≤ B := by
    intro r
    induction r with
    | nil => intro s h1 h2; exact ⟨h1, h2⟩
    | cons j r ih =>
      intro s h1 h2
      rw [List.foldl_cons]
      refine ih _ ?_ ?_
      · unfold takeOne; split
        · simp [h1]
        · exact h1
      · intro i hi
        unfold takeOne
        split
        · rename_i hp
          simp only
          rw [lotN_set _ (by omega)]
          split
          · rename_i e
            subst e
            have := h2 j hi
            simp only
            omega
          · exact h2 i hi
        · exact h2 i hi
  exact this r _ rfl h
/-- What stands while units are picked: lots, pieces that are out, the order, the variable of the lots. -/
structure PickW (wr w : World) (base bo B g cap n : Nat) (L : List Lot) (ps : List Piece) (pv : Value) (w1z : Nat) (ov : Value) (O : List Int) : Prop where
  lots : wr.ownsRow base 69 4 (.slice (some ⟨g, 0, none⟩) n cap) n (flat encLot L)
  out : wr.ownsRow bo 130 2 pv ps.length (flat encPc ps)
  ord : wr.ownsRow w1z 3 1 ov O.length (ints O)
  box : wr.heap[B]? = some (.cells #[.slice (some ⟨g, 0, none⟩) n cap] 66 (0, 0))
  gr : w.grownBy wr (some g)
  bz : bo ≤ wr.heap.size
theorem PickW.keep0 {wr w1 w : World} {base bo B g cap n : Nat} {L : List Lot} {ps : List Piece} {pv : Value} {z : Nat} {ov : Value} {O : List Int} (h : PickW wr w base bo B g cap n L ps pv z ov O) (gg : wr.grownBy w1 none) : PickW w1 w base bo B g cap n L ps pv z ov O :=
  ⟨own_keep0 h.lots gg, own_keep0 h.out gg, own_keep0 h.ord gg, (gg.block B (lt_of_block h.box) (by simp)).trans h.box, gr_trans h.gr (gr_weak gg _), Nat.le_trans h.bz gg.size⟩
theorem PickW.app {wr w6 w : World} {base bo B g cap n : Nat} {L : List Lot} {ps : List Piece} {pv v6 : Value} {z : Nat} {ov : Value} {O : List Int} {K : ByteArray} {x : Int} (h : PickW wr w base bo B g cap n L ps pv z ov O) (hgb : g < bo) (hwb : w.heap.size ≤ bo) (o6 : w6.ownsRow bo 130 2 v6 (ps.length + 1) (flat encPc ps ++ [.string K, .int .i64 x])) (g6 : wr.grownBy w6 pv.ownBlock) (hlt : ∀ q, pv.ownBlock = some q → bo ≤ q) : PickW w6 w base bo B g cap n L (ps ++ [⟨K, x⟩]) v6 z ov O := by
  refine ⟨own_keep h.lots g6 (.inr (fun e => ?_)), ?_, own_keepU h.ord h.out (by decide) g6, ?_, gr_grown h.gr g6 (fun q e => Nat.le_trans hwb (hlt q e)), Nat.le_trans h.bz g6.size⟩
  · have := hlt g e.symm; omega
  · rw [List.length_append, flat_append]; exact o6
  · exact (g6.block _ (lt_of_block h.box) (fun e2 => own_ne h.out h.box (by decide) e2.symm)).trans h.box
theorem PickW.sto {wr w : World} {base bo B g cap n : Nat} {L : List Lot} {ps : List Piece} {pv : Value} {z : Nat} {ov : Value} {O : List Int} (h : PickW wr w base bo B g cap n L ps pv z ov O) (hgb : g < bo) (hgz : g < z) (hgB : g ≠ B) (i : Nat) (hi : i < L.length) (hn : L.length = n) (u : Value) (x : Lot) (hx : (encLot L[i]).set 3 u = encLot x) : PickW (wr.setCell ⟨g, i * 4 + 3, none⟩ u) w base bo B g cap n (L.set i x) ps pv z ov O := by
  have gg : wr.grownBy (wr.setCell ⟨g, i * 4 + 3, none⟩ u) (some g) := gr_set (gr_refl _ _) rfl _
  have hc := own_cellE encLot_len h.lots i hi 3 (by decide) (.int .i64 L[i].many) rfl hn
  exact ⟨hc.2.2 u x hx, own_keepS h.out gg hgb, own_keepS h.ord gg hgz, (gg.block B (lt_of_block h.box) (fun e => hgB (by injection e with e; exact e.symm))).trans h.box, gr_trans h.gr gg, Nat.le_trans h.bz gg.size⟩
def PickPost (P : ByteArray) (m d : Int) (L : List Lot) (v : Value) (n base : Nat) (w : World) (e : Ending) (w' : World) : Prop :=
  ∃ ord pv, e = .returned pv ∧ OrdOk L P d ord ∧ w'.ownsRow w.heap.size 130 2 pv (takeTo ord L m ord.length).1.length (flat encPc (takeTo ord L m ord.length).1) ∧
    w'.ownsRow base 69 4 v n (flat encLot (takeTo ord L m ord.length).2.1) ∧ w.grownBy w' v.ownBlock
set_option maxRecDepth 100000 in
set_option maxHeartbeats 4000000 in
theorem picked_any (P : ByteArray) (m d : Int) (L : List Lot) (g cap n base : Nat) (w : World) (hown : w.ownsRow base 69 4 (.slice (some ⟨g, 0, none⟩) n cap) n (flat encLot L)) (hL : L.length = n) (hn : n < 20) (hm0 : 0 ≤ m) (hm1 : m ≤ 1000000000) (hb : ∀ i, i < L.length → 0 ≤ (lotN L i).many ∧ (lotN L i).many ≤ 100000) :
    Calls Try.prog 81 #[.slice (some ⟨g, 0, none⟩) n cap, .string P, .int .i64 m, .int .i64 d] w (PickPost P m d L (.slice (some ⟨g, 0, none⟩) n cap) n base w) := by
  have hgl := hown.lt g rfl
  have hB := heap_alloc_new w (.cells #[.slice (some ⟨g, 0, none⟩) n cap] 66)
  have hg1 := gr_alloc (gr_refl w none) (.cells #[.slice (some ⟨g, 0, none⟩) n cap] 66)
  obtain ⟨w1, hw1⟩ : ∃ w1, w1 = w.alloc (.cells #[.slice (some ⟨g, 0, none⟩) n cap] 66) := ⟨_, rfl⟩
  have hz1 : w1.heap.size = w.heap.size + 1 := by rw [hw1]; simp
  rw [← hw1] at hB hg1
  have ho1 := own_keep0 hown hg1
  obtain ⟨B, hBe⟩ : ∃ B, B = w.heap.size := ⟨_, rfl⟩
  rw [← hBe] at hB hgl
  have HO1 := Lib.hid ho1
  have HB := Lib.hid hB
  have HG1 := Lib.hid hg1
  have HW := Lib.hid hw1
  have HBE := Lib.hid hBe
  have HZ1 := Lib.hid hz1
  have HBD := Lib.hid hb
  have HL := Lib.hid hL
  have HGL := Lib.hid hgl
  have HCC := Lib.hid (show CellsAt w1 (some ⟨g, 0, none⟩) (flat encLot L) by obtain ⟨_, _, e, _, _, hc, _⟩ := own_shape ho1; cases e; exact hc)
  clear hown hB hg1 hw1 ho1 hb hL hgl hBe hz1
  go_enter Try.func81, Try.ntmps81
  go_wp2_with (fail)
  rw [← HW.out, ← HBE.out]
  have l0 := blkC HB.out 0 rfl
  go_wp2_with (fail)
  go_loopw [9, 18] (fun o i wr => ∃ (k : Nat) (ov : Value), k ≤ n ∧ i = .int .i64 k ∧ ov = o ∧ wr.ownsRow w1.heap.size 3 1 ov (pickOrd L P d k).length (ints ((pickOrd L P d k).map Int.ofNat)) ∧ w1.grownBy wr none) (fun _ i _ => n - (intOf i).toNat)
  case atStart => exact ⟨0, _, Nat.zero_le _, rfl, rfl, World.ownsRow_nil _ _ _ _, gr_refl _ _⟩
  case round =>
    clear l0
    obtain ⟨k, ov, hk, rfl, rfl, oo, hgr⟩ := hrel
    obtain ⟨wo, rfl⟩ : ∃ wo : World, wo = wr := ⟨_, rfl⟩
    by_cases hlt : k < n
    · have hlt2 : k < L.length := by rw [HL.out]; exact hlt
      obtain ⟨b, off, e, d0, d1, d2, d3⟩ := lot_cells (HCC.out.keep0 hgr) k hlt2
      cases e
      have hln := pickOrd_len L P d k
      have hnx := pickOrd_succ L P d k
      rw [lotN_get hlt2] at hnx
      obtain ⟨x, hx⟩ : ∃ x, x = L[k] := ⟨_, rfl⟩
      rw [← hx] at d0 d1 d2 d3 hnx
      obtain ⟨K, Pr, E, M⟩ := x
      simp only [canGo, Bool.and_eq_true, decide_eq_true_eq, Nat.zero_add] at d0 d1 d2 d3 hnx
      obtain ⟨S, hS⟩ : ∃ S, S = pickOrd L P d k := ⟨_, rfl⟩
      rw [← hS] at oo hnx hln
      have HNX := Lib.hid hnx
      have HGR := Lib.hid (gr_alloc hgr (.cells #[.string K, .string Pr, .int .i64 E, .int .i64 M] 69))
      have HOO := Lib.hid (own_keep0 oo (gr_alloc (gr_refl wo none) (.cells #[.string K, .string Pr, .int .i64 E, .int .i64 M] 69)))
      have hsz := hgr.size
      clear hx hS oo hgr hnx
      cases hq : (Pr.toList == P.toList) with
      | true =>
        by_cases he : d ≤ E
        · have HE : Hid (pickOrd L P d (k + 1) = S ++ [k]) := by show _ = _; rw [HNX.out, if_pos ⟨hq, he⟩]
          have hdb : decide (d ≤ E) = true := decide_eq_true he
          clear HNX
          go_upto_region 6 with (fail)
          obtain ⟨w3, hw3⟩ : ∃ w3, w3 = wo.alloc (.cells #[.string K, .string Pr, .int .i64 E, .int .i64 M] 69) := ⟨_, rfl⟩
          have hz3 : wo.heap.size ≤ w3.heap.size := by rw [hw3]; simp
          rw [← hw3] at HGR HOO
          rw [← hw3]
          clear hw3 d0 d1 d2 d3
          go_wp2_with (at_builtin; refine wpList_app1 eInt rfl _ _ rfl w1.heap.size _ S.length (ints (S.map Int.ofNat)) rfl w3 #[.int .i64 k] rfl HOO.out _ rfl rfl rfl rfl ?_ ?_ ?_; (· omega); (· omega); intro v6 w6 o6 g6 hl6)
          go_roundw
          case rel =>
            refine ⟨k + 1, _, by omega, by go_num, rfl, ?_, gr_grown HGR.out g6 hl6⟩
            rw [HE.out, List.map_append, List.length_append]
            simpa [ints] using o6
          case measure => simp [intOf]; omega
        · have HE : Hid (pickOrd L P d (k + 1) = S) := by show _ = _; rw [HNX.out, if_neg (fun h => he h.2)]
          have hdb : decide (d ≤ E) = false := decide_eq_false he
          clear HNX
          go_wp2_with (fail)
          go_roundw
          case rel => exact ⟨k + 1, _, by omega, by go_num, rfl, by rw [HE.out]; exact HOO.out, HGR.out⟩
          case measure => simp [intOf]; omega
      | false =>
        have HE : Hid (pickOrd L P d (k + 1) = S) := by show _ = _; rw [HNX.out, if_neg (fun h => by rw [hq] at h; cases h.1)]
        clear HNX
        go_wp2_with (fail)
        go_roundw
        case rel => exact ⟨k + 1, _, by omega, by go_num, rfl, by rw [HE.out]; exact HOO.out, HGR.out⟩
        case measure => simp [intOf]; omega
    · obtain rfl : k = n := by omega
      obtain ⟨O0, hO0⟩ : ∃ O0, O0 = (pickOrd L P d k).map Int.ofNat := ⟨_, rfl⟩
      have hO0l : O0.length = (pickOrd L P d k).length := by rw [hO0]; simp
      have hpl := pickOrd_len L P d k
      rw [← hO0, ← hO0l] at oo
      have hOm : ∀ x ∈ O0, ∃ i : Nat, i < L.length ∧ x = (i : Int) := fun x hx => by
        rw [hO0] at hx
        obtain ⟨i, hi, rfl⟩ := List.mem_map.1 hx
        exact ⟨i, by rw [HL.out]; exact (pickOrd_mem.1 hi).1, rfl⟩
      have SF := sortC1_any 115 B O0.length (expCm L) ov w1.heap.size O0 wo oo rfl (by omega) pickCmp_fn (expCm_ok L) (fun x y W hx hy gW => by
        obtain ⟨i, hi, rfl⟩ := hOm x hx
        obtain ⟨j, hj, rfl⟩ := hOm y hy
        have hlow : ∀ b, b < w1.heap.size → some b ≠ ov.ownBlock := fun b hb e => by have := (oo.lt b e.symm).1; omega
        have hBW := (gW.block B (by have := hgr.size; have := lt_of_block HB.out; omega) (hlow B (lt_of_block HB.out))).trans ((hgr.block B (lt_of_block HB.out) (by simp)).trans HB.out)
        have hCW := (HCC.out.keep0 hgr).keep gW (fun b off e => by cases e; exact hlow g (by have := HGL.out.2; have := lt_of_block HB.out; omega))
        have := pickCmp_any L i j hi hj (some ⟨g, 0, none⟩) cap B W (by rw [HL.out]; exact blkC hBW 0 rfl) hCW
        exact this)
      have SF := Lib.hid SF
      have HO0 := Lib.hid hO0
      have HGR := Lib.hid hgr
      have HOO := Lib.hid oo
      clear hO0 hO0l hOm oo hgr
      go_wp2_with (fail)
      refine SF.out.mono ?_
      rintro e w3 ⟨O, rfl, o3, hperm, hsrt, -, g3⟩
      rw [HO0.out] at hperm
      have hOl : O.length = O0.length := by rw [HO0.out]; exact hperm.length_eq
      obtain ⟨ord, hOe, hord⟩ := ord_of L P d O O0.length (by rw [HL.out]; exact hperm) hsrt hOl
      rw [← hOl] at o3
      have hgr3 : w1.grownBy w3 none := gr_grown HGR.out g3 (fun q hq => (HOO.out.lt q hq).1)
      have hz3 := hgr3.size
      obtain ⟨oa, oc, rfl, -, -, -, -⟩ := own_shape o3
      have KW : PickW w3 w base w3.heap.size B g cap k L [] (.slice none 0 0) w1.heap.size (.slice oa O.length oc) O :=
        ⟨own_keep0 HO1.out hgr3, World.ownsRow_nil _ _ _ _, o3, (hgr3.block B (lt_of_block HB.out) (by simp)).trans HB.out, gr_weak (gr_trans HG1.out hgr3) _, Nat.le_refl _⟩
      have HKW := Lib.hid KW
      have HOE := Lib.hid hOe
      have hol : O.length = ord.length := by rw [hOe]; simp
      have HOL := Lib.hid hol
      have hok : O.length ≤ k := by have := hord.len; have := HL.out; omega
      have HORD := Lib.hid hord
      clear KW o3 hperm hsrt g3 hgr3 hOe hol hOl hord SF HOO HGR HO0 hpl
      go_wp2_with (fail)
      go_loopw [2, 12, 43] (fun mm o i wr => ∃ (j : Nat) (pv : Value), j ≤ O.length ∧ i = .int .i64 j ∧ mm = .int .i64 (takeTo ord L m j).2.2 ∧ pv = o ∧ PickW wr w base w3.heap.size B g cap k (takeTo ord L m j).2.1 (takeTo ord L m j).1 pv w1.heap.size (.slice oa O.length oc) O) (fun _ _ i _ => O.length - (intOf i).toNat)
      case atStart => exact ⟨0, _, Nat.zero_le _, rfl, rfl, rfl, HKW.out⟩
      case round =>
        clear HKW
        obtain ⟨j, pv, hj, rfl, rfl, rfl, hK⟩ := hrel
        obtain ⟨wo, rfl⟩ : ∃ wo : World, wo = wr := ⟨_, rfl⟩
        by_cases hjl : j < O.length
        · have hjo : j < ord.length := by rw [← HOL.out]; exact hjl
          obtain ⟨og, oc', e, -, -, -, -⟩ := own_some hK.ord (by omega)
          cases e
          have d0 := (own_cellc1 hK.ord hjl).1
          have hOj : O[j] = ((ord[j] : Nat) : Int) := by simp [HOE.out]
          rw [hOj] at d0
          have hi := HORD.out.lt ord[j] (List.getElem_mem hjo)
          have hTl := takeTo_lots ord L m 100000 HBD.out j
          have hTm := takeTo_m ord L m hm0 j
          have hTp := takeTo_len ord L m j
          have hnx := takeTo_succ ord L m j hjo
          obtain ⟨i, hie⟩ : ∃ i, i = ord[j] := ⟨_, rfl⟩
          rw [← hie] at d0 hi hnx
          obtain ⟨T, hT⟩ : ∃ T, T = takeTo ord L m j := ⟨_, rfl⟩
          rw [← hT] at hTl hTm hTp hnx hK
          rw [← hT]
          obtain ⟨ps, L', mm⟩ := T
          simp only at hTl hTm hTp hK ⊢
          obtain ⟨hl', hbd⟩ := hTl
          have hLk := HL.out
          have hi' : i < L'.length := by omega
          have hc0 := own_cellE encLot_len hK.lots i hi' 0 (by decide) (.string L'[i].id) rfl (by omega)
          have hc3 := own_cellE encLot_len hK.lots i hi' 3 (by decide) (.int .i64 L'[i].many) rfl (by omega)
          have hbi := hbd i hi
          unfold takeOne at hnx
          simp only at hnx
          rw [lotN_get hi'] at hnx hbi
          have e0 : wo.cell? ⟨g, i * 4, none⟩ = some (.string L'[i].id) := hc0.1
          have e3 := hc3.1
          have f3 := hc3.2.1
          have l0 := blkC hK.box 0 rfl
          obtain ⟨x, hx⟩ : ∃ x, x = L'[i] := ⟨_, rfl⟩
          have STO : Hid (∀ (w6 : World) (ps6 : List Piece) (pv6 : Value) (u : Int), PickW w6 w base w3.heap.size B g cap k L' ps6 pv6 w1.heap.size (.slice (some ⟨og, 0, none⟩) O.length oc) O → w6.cell? ⟨B, 0, none⟩ = some (.slice (some ⟨g, 0, none⟩) k cap) ∧ w6.cell? ⟨g, i * 4 + 3, none⟩ = some (.int .i64 x.many) ∧ w6.frozen? ⟨g, i * 4 + 3, none⟩ = false ∧ PickW (w6.setCell ⟨g, i * 4 + 3, none⟩ (.int .i64 u)) w base w3.heap.size B g cap k (L'.set i ⟨x.id, x.prod, x.exp, u⟩) ps6 pv6 w1.heap.size (.slice (some ⟨og, 0, none⟩) O.length oc) O) := fun w6 ps6 pv6 u h => by
            have hc := own_cellE encLot_len h.lots i hi' 3 (by decide) (.int .i64 L'[i].many) rfl (by omega)
            rw [hx]
            have hgB := HGL.out.2
            have hwz : w.heap.size < w1.heap.size := by rw [HZ1.out]; omega
            exact ⟨blkC h.box 0 rfl, hc.1, hc.2.1, h.sto (by have := HBE.out; omega) (by have := HBE.out; omega) (by have := HBE.out; omega) i hi' (by omega) _ _ rfl⟩
          rw [← hx] at hnx hbi e0 e3
          obtain ⟨K, Pr, E, M⟩ := x
          simp only at hnx hbi e0 e3 STO
          have HK := Lib.hid hK
          have HNX := Lib.hid hnx
          have HIK : Hid (i < k) := by show _ < _; omega
          have hik1 : (i : Int) < (k : Int) := by omega
          have hik0 : (0 : Int) ≤ (i : Int) := by omega
          obtain ⟨y, hy⟩ : ∃ y, y = min mm M := ⟨_, rfl⟩
          rw [← hy] at HNX
          have hmin : min mm M = y := hy.symm
          have hym : y ≤ mm := by rw [hy]; exact Int.min_le_left _ _
          have hyM : y ≤ M := by rw [hy]; exact Int.min_le_right _ _
          clear hK hnx hie hT hOj hc0 hc3 hx hbd hy hl' hi' hi hjo
          by_cases hp : 0 < y
          · have NX := HNX.out
            rw [if_pos hp] at NX
            have HNX := Lib.hid NX
            clear NX
            go_upto_region 15 with (fail)
            go_wp2_with (at_builtin; refine wpList_app1 ePc rfl _ _ rfl w3.heap.size _ ps.length (flat encPc ps) rfl wo #[.string K, .int .i64 y] rfl HK.out.out _ rfl rfl rfl rfl ?_ ?_ ?_; (· omega); (· exact HK.out.bz); intro v6 w6 o6 g6 hl6; have K6 := HK.out.app (by have := HGL.out.2; have := HBE.out; have := HZ1.out; omega) (by have := HZ1.out; omega) o6 g6 hl6; obtain ⟨l0, e3, f3, KS⟩ := STO.out w6 _ _ (M - y) K6; have KS := Lib.hid KS; clear o6 g6 hl6 K6)
            go_roundw
            case rel => exact ⟨j + 1, _, by omega, by go_num, by rw [HNX.out], rfl, by rw [HNX.out]; exact KS.out⟩
            case measure => simp [intOf]; omega
          · have NX := HNX.out
            rw [if_neg hp] at NX
            have HNX := Lib.hid NX
            clear NX
            go_wp2_with (fail)
            go_roundw
            case rel => exact ⟨j + 1, _, by omega, by go_num, by rw [HNX.out], rfl, by rw [HNX.out]; exact HK.out⟩
            case measure => simp [intOf]; omega
        · obtain rfl : j = O.length := by omega
          go_wp2_with (fail)
          go_ret
          refine ⟨ord, pv, rfl, HORD.out, ?_, ?_, hK.gr⟩
          · rw [← HOL.out]
            exact own_base hK.out (Nat.le_trans (by rw [HZ1.out]; omega) hz3)
          · rw [← HOL.out]
            exact hK.lots

/-! What is wrong with a pick; a pick; whether pieces hold a piece. -/
attribute [local go_sem ↓] Go.wp_at_zero Go.wp_at_succ

theorem pick_nilOrd (P : ByteArray) (d : Int) : OrdOk [] P d [] := ⟨List.Perm.refl _, List.Pairwise.nil⟩
set_option maxRecDepth 100000 in
set_option maxHeartbeats 1000000 in
theorem picked_nil (P : ByteArray) (m d : Int) (base : Nat) (w : World) :
    Calls Try.prog 81 #[.slice none 0 0, .string P, .int .i64 m, .int .i64 d] w (PickPost P m d [] (.slice none 0 0) 0 base w) := by
  have hB := heap_alloc_new w (.cells #[.slice none 0 0] 66)
  have hg1 := gr_alloc (gr_refl w none) (.cells #[.slice none 0 0] 66)
  obtain ⟨w1, hw1⟩ : ∃ w1, w1 = w.alloc (.cells #[.slice none 0 0] 66) := ⟨_, rfl⟩
  rw [← hw1] at hB hg1
  have SF := Lib.hid (sortC1_any 115 w.heap.size 0 (expCm []) (.slice none 0 0) 0 [] w1 (World.ownsRow_nil _ _ _ _) rfl (by decide) pickCmp_fn (expCm_ok []) (fun x y W hx => by cases hx))
  have HW := Lib.hid hw1
  have HG1 := Lib.hid hg1
  have l0 := blkC hB 0 rfl
  clear hw1 hg1 hB
  go_enter Try.func81, Try.ntmps81
  go_wp2_with (fail)
  rw [← HW.out]
  go_wp2_with (fail)
  go_loopw [9, 18] (fun o i wr => o = .slice none 0 0 ∧ i = .int .i64 0 ∧ w1 = wr) (fun _ _ _ => 0)
  case atStart => exact ⟨rfl, rfl, rfl⟩
  case round =>
    obtain ⟨rfl, rfl, rfl⟩ := hrel
    go_wp2_with (fail)
    refine SF.out.mono ?_
    rintro e w3 ⟨O, rfl, o3, hperm, -, -, g3⟩
    have g3 : w1.grownBy w3 none := g3
    have HG3 := Lib.hid g3
    clear o3 hperm g3
    go_wp2_with (fail)
    go_loopw [12, 43] (fun o i wr => o = .slice none 0 0 ∧ i = .int .i64 0 ∧ w3 = wr) (fun _ _ _ => 0)
    case atStart => exact ⟨rfl, rfl, rfl⟩
    case round =>
      obtain ⟨rfl, rfl, rfl⟩ := hrel
      go_wp2_with (fail)
      go_ret
      exact ⟨[], _, rfl, pick_nilOrd P d, World.ownsRow_nil _ _ _ _, World.ownsRow_nil _ _ _ _, gr_trans HG1.out HG3.out⟩
theorem picked_all (P : ByteArray) (m d : Int) (L : List Lot) (v : Value) (n base : Nat) (w : World) (hown : w.ownsRow base 69 4 v n (flat encLot L)) (hL : L.length = n) (hn : n < 20) (hm0 : 0 ≤ m) (hm1 : m ≤ 1000000000) (hb : ∀ i, i < L.length → 0 ≤ (lotN L i).many ∧ (lotN L i).many ≤ 100000) :
    Calls Try.prog 81 #[v, .string P, .int .i64 m, .int .i64 d] w (PickPost P m d L v n base w) := by
  rcases hown.2 with ⟨rfl, h0⟩ | ⟨g, cap, cur, rfl, r⟩
  · have hl : L = [] := List.eq_nil_of_length_eq_zero (by omega)
    have h0' : n = 0 := by omega
    subst hl h0'
    exact picked_nil P m d base w
  · exact picked_any P m d L g cap n base w hown hL hn hm0 hm1 hb
set_option maxRecDepth 100000 in
set_option maxHeartbeats 1000000 in
theorem pickFault_any (P : ByteArray) (m day left : Int) (xs : List Lot) (a : Option Addr) (c : Nat) (w : World) (h : CellsAt w a (flat encLot xs)) (hl : xs.length ≤ 500) (hb : ∀ i, i < xs.length → 0 ≤ (lotN xs i).many ∧ (lotN xs i).many ≤ 100000) (hk : keyB P = true) (hs : P.size ≤ 1000) (hm0 : 0 ≤ m) (hm1 : m ≤ 100000) (hd : 0 ≤ day ∧ day ≤ 4000) (hf : 0 ≤ left ∧ left ≤ 4000) :
    Calls Try.prog 80 #[.slice a xs.length c, .string P, .int .i64 m, .int .i64 day, .int .i64 left] w fun e w' => e = .returned (.int .i64 (if freshTo xs P (day + left) xs.length < m then 8 else 0)) ∧ w.grownBy w' none := by
  have KF := Lib.hid (fun W : World => key_any P W (by omega))
  have FF := Lib.hid (fresh_any P (day + left) xs a c w h hl hb)
  obtain ⟨F, hF⟩ : ∃ F, F = freshTo xs P (day + left) xs.length := ⟨_, rfl⟩
  rw [← hF] at FF
  rw [← hF]
  rw [hk] at KF
  clear h hb hk hF
  have d1 : (!(decide (day < 0) || decide (4000 < day))) = true := by simp; omega
  have d2 : (!(decide (left < 0) || decide (4000 < left))) = true := by simp; omega
  have d3 : (decide (m < 0) || decide (100000 < m)) = false := by simp; omega
  have hw : IntKind.i64.wrap (day + left) = day + left := IntWalk.i64_in _ (by omega)
  go_enter Try.func80, Try.ntmps80
  go_wp2_with (fail)
  refine (KF.out w).mono ?_
  rintro e w1 ⟨rfl, rfl⟩
  go_wp2_with (fail)
  refine (dayL_any day w).mono ?_
  rintro e w1 ⟨rfl, rfl⟩
  rw [d1]
  go_wp2_with (fail)
  refine (dayL_any left w).mono ?_
  rintro e w1 ⟨rfl, rfl⟩
  rw [d2]
  go_wp2_with (fail)
  refine (out_any m 0 100000 w).mono ?_
  rintro e w1 ⟨rfl, rfl⟩
  rw [d3]
  go_wp2_with (fail)
  refine FF.out.mono ?_
  rintro e w1 ⟨rfl, g1⟩
  by_cases hlt : F < m
  · go_wp2_with (fail)
    go_ret
    exact ⟨rfl, g1⟩
  · go_wp2_with (fail)
    go_ret
    exact ⟨rfl, g1⟩
theorem lotN_bd {xs : List Lot} (h : LotsOk xs) : ∀ i, i < xs.length → 0 ≤ (lotN xs i).many ∧ (lotN xs i).many ≤ 100000 := fun i hi => by
  rw [lotN_get hi]
  have := h.all _ (List.getElem_mem hi)
  exact ⟨this.m0, this.m1⟩
end Go.Proofs.Ytakabckmiodjaaa
