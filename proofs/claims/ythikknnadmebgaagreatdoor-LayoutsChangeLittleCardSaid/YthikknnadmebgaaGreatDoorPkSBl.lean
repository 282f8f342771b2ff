/- What is printed of a layout, and that it is cut out again. No program in sight. -/
import Derived.Test.YthikknnadmebgaaGreatDoorPkSBk
import Derived.Test.YthikknnadmebgaaGreatDoorPkSBi
import Derived.Test.YthikknnadmebgaaGreatDoorPkSAh
import Derived.Test.YthikknnadmebgaaGreatDoorPkSAk
import Derived.Test.YthikknnadmebgaaGreatDoorPkSAm
import Derived.Test.YthikknnadmebgaaGreatDoorPkSBh
namespace Go.Proofs.YthikknnadmebgaaGreatDoor

def tokB (k : ByteArray) : List UInt8 := if k = e0B then [46] else k.data.toList
def cellsT : List ByteArray → List UInt8
  | [] => []
  | k :: r => tokB k ++ r.flatMap fun x => 32 :: tokB x
def chunkL (C : Nat) (xs : List ByteArray) (j : Nat) : List ByteArray := (xs.drop (j * C)).take C
def layLines (C R : Nat) (xs : List ByteArray) : List (List UInt8) := (List.range R).map fun j => cellsT (chunkL C xs j)
def layText (C R : Nat) (xs : List ByteArray) : List UInt8 := lfs (layLines C R xs)
/-- What may stand in a slot. -/
def SlotOk (k : ByteArray) : Prop := k = e0B ∨ keyB k = true
theorem cellsT_app (l : List ByteArray) (x : ByteArray) : cellsT (l ++ [x]) = if l = [] then tokB x else cellsT l ++ 32 :: tokB x := by
  cases l with
  | nil => simp [cellsT]
  | cons k r => simp [cellsT]
theorem key_bytes {k : ByteArray} (h : keyB k = true) : (∀ b ∈ k.data.toList, 45 ≤ b.toNat ∧ b ≠ 46) ∧ 1 ≤ k.data.toList.length ∧ k.data.toList.length ≤ 40 := by
  unfold keyB at h
  cases hl : k.data.toList with
  | nil => rw [hl] at h; cases h
  | cons c r =>
    rw [hl] at h
    simp only [keyL, Bool.and_eq_true, decide_eq_true_eq] at h
    obtain ⟨⟨⟨h1, h2⟩, h3⟩, h4⟩ := h
    refine ⟨fun b hb => ?_, by simp, h1⟩
    have := List.all_eq_true.1 h4 b hb
    simp only [chB, Bool.or_eq_true, Bool.and_eq_true, decide_eq_true_eq, beq_iff_eq] at this
    refine ⟨by omega, fun e => ?_⟩
    rw [e] at this
    revert this
    decide
theorem tok_ok {k : ByteArray} (h : SlotOk k) : (∀ b ∈ tokB k, 45 ≤ b.toNat) ∧ 1 ≤ (tokB k).length ∧ (tokB k).length ≤ 40 := by
  unfold tokB
  rcases h with h | h
  · rw [if_pos h]
    refine ⟨fun b hb => ?_, by simp, by simp⟩
    have : b = 46 := by simpa using hb
    rw [this]
    decide
  · have hb := key_bytes h
    split
    · refine ⟨fun b hb => ?_, by simp, by simp⟩
      have : b = 46 := by simpa using hb
      rw [this]
      decide
    · exact ⟨fun b hx => (hb.1 b hx).1, hb.2.1, hb.2.2⟩
theorem tok_no {k : ByteArray} (h : SlotOk k) (c : UInt8) (hc : c.toNat < 45) : c ∉ tokB k := fun hm => by
  have := (tok_ok h).1 c hm
  omega
theorem rest_split (r : List ByteArray) (h : ∀ k ∈ r, SlotOk k) : ∀ (p : List UInt8), (32 : UInt8) ∉ p → splitL 32 (p ++ r.flatMap fun x => 32 :: tokB x) = p :: r.map tokB ∧ Lib.count (p ++ r.flatMap fun x => 32 :: tokB x) [32] = r.length := by
  induction r with
  | nil =>
    intro p hp
    simp only [List.flatMap_nil, List.append_nil, List.map_nil]
    exact ⟨splitL_miss 32 p hp, count_no 32 p hp⟩
  | cons k r ih =>
    intro p hp
    obtain ⟨h1, h2⟩ := ih (fun x hx => h x (List.mem_cons_of_mem _ hx)) (tokB k) (tok_no (h k (List.mem_cons_self ..)) 32 (by decide))
    have e : (p ++ (k :: r).flatMap fun x => 32 :: tokB x) = p ++ 32 :: (tokB k ++ r.flatMap fun x => 32 :: tokB x) := by simp
    rw [e]
    refine ⟨by rw [splitL_hit 32 p _ hp, h1]; rfl, ?_⟩
    rw [count_one 32 p _ hp, h2, List.length_cons]
    omega
theorem cells_split (l : List ByteArray) (hl : l ≠ []) (h : ∀ k ∈ l, SlotOk k) : splitL 32 (cellsT l) = l.map tokB ∧ Lib.count (cellsT l) [32] + 1 = l.length := by
  cases l with
  | nil => exact absurd rfl hl
  | cons k r =>
    obtain ⟨h1, h2⟩ := rest_split r (fun x hx => h x (List.mem_cons_of_mem _ hx)) (tokB k) (tok_no (h k (List.mem_cons_self ..)) 32 (by decide))
    exact ⟨h1, by show Lib.count (tokB k ++ _) [32] + 1 = _; rw [h2]; rfl⟩
theorem cells_no (l : List ByteArray) (h : ∀ k ∈ l, SlotOk k) : (10 : UInt8) ∉ cellsT l := by
  cases l with
  | nil => simp [cellsT]
  | cons k r =>
    show (10 : UInt8) ∉ tokB k ++ r.flatMap fun x => 32 :: tokB x
    simp only [List.mem_append, List.mem_flatMap, List.mem_cons, not_or, not_exists, not_and]
    exact ⟨tok_no (h k (List.mem_cons_self ..)) 10 (by decide), fun x hx => ⟨by decide, tok_no (h x (List.mem_cons_of_mem _ hx)) 10 (by decide)⟩⟩
theorem cells_len (l : List ByteArray) (h : ∀ k ∈ l, SlotOk k) : (cellsT l).length ≤ 41 * l.length := by
  cases l with
  | nil => simp [cellsT]
  | cons k r =>
    have h0 := (tok_ok (h k (List.mem_cons_self ..))).2.2
    have key : ∀ r : List ByteArray, (∀ k ∈ r, SlotOk k) → (r.flatMap fun x => 32 :: tokB x).length ≤ 41 * r.length := by
      intro r
      induction r with
      | nil => intro _; simp
      | cons x r ih =>
        intro hr
        have h1 := ih (fun y hy => hr y (List.mem_cons_of_mem _ hy))
        have h2 := (tok_ok (hr x (List.mem_cons_self ..))).2.2
        simp only [List.flatMap_cons, List.length_append, List.length_cons]
        omega
    have h1 := key r (fun x hx => h x (List.mem_cons_of_mem _ hx))
    show (tokB k ++ r.flatMap fun x => 32 :: tokB x).length ≤ _
    rw [List.length_append, List.length_cons]
    omega
theorem chunk_len {C R : Nat} {xs : List ByteArray} (hl : xs.length = R * C) {j : Nat} (hj : j < R) : (chunkL C xs j).length = C := by
  unfold chunkL
  rw [List.length_take, List.length_drop, hl]
  have h1 : (j + 1) * C ≤ R * C := Nat.mul_le_mul_right C hj
  rw [Nat.succ_mul] at h1
  omega
theorem chunk_mem {C : Nat} {xs : List ByteArray} {j : Nat} : ∀ k ∈ chunkL C xs j, k ∈ xs := fun _ hk => List.mem_of_mem_drop (List.mem_of_mem_take hk)
theorem chunk_at {C R : Nat} {xs : List ByteArray} (hl : xs.length = R * C) {j : Nat} (hj : j < R) (i : Nat) (hi : i < C) : ∃ (h : j * C + i < xs.length), (chunkL C xs j)[i]? = some xs[j * C + i] := by
  have h1 : (j + 1) * C ≤ R * C := Nat.mul_le_mul_right C hj
  rw [Nat.succ_mul] at h1
  refine ⟨by omega, ?_⟩
  unfold chunkL
  rw [List.getElem?_take, if_pos hi, List.getElem?_drop, List.getElem?_eq_getElem (by omega)]
theorem take_chunk {C : Nat} {xs : List ByteArray} (j : Nat) : xs.take ((j + 1) * C) = xs.take (j * C) ++ chunkL C xs j := by
  unfold chunkL
  rw [Nat.succ_mul, List.take_add]
theorem lay_succ (C k : Nat) (xs : List ByteArray) : layText C (k + 1) xs = layText C k xs ++ (cellsT (chunkL C xs k) ++ [10]) := by
  unfold layText layLines
  rw [List.range_succ, List.map_append, lfs_app]
  show _ ++ lfs [cellsT (chunkL C xs k)] = _
  rw [lfs_one]
theorem lay_len {C R : Nat} {xs : List ByteArray} (hl : xs.length = R * C) (h : ∀ k ∈ xs, SlotOk k) (hC : C ≤ 10) : ∀ k, k ≤ R → (layText C k xs).length ≤ 411 * k
  | 0, _ => by simp [layText, layLines, lfs]
  | k + 1, hk => by
    have h1 := lay_len hl h hC k (by omega)
    have h2 := cells_len (chunkL C xs k) (fun x hx => h x (chunk_mem x hx))
    rw [chunk_len hl (by omega)] at h2
    rw [lay_succ, List.length_append, List.length_append]
    simp only [List.length_cons, List.length_nil]
    omega
/-- The rows from one on. -/
def restL (C R : Nat) (xs : List ByteArray) (k : Nat) : List UInt8 := lfs ((layLines C R xs).drop k)
theorem rest_zero (C R : Nat) (xs : List ByteArray) : restL C R xs 0 = layText C R xs := rfl
theorem rest_end (C R : Nat) (xs : List ByteArray) : restL C R xs R = [] := by
  unfold restL
  rw [List.drop_eq_nil_of_le (by simp [layLines])]
  rfl
theorem rest_next (C R : Nat) (xs : List ByteArray) (k : Nat) (hk : k < R) : restL C R xs k = cellsT (chunkL C xs k) ++ 10 :: restL C R xs (k + 1) := by
  have hlen : (layLines C R xs).length = R := by simp [layLines]
  unfold restL
  rw [List.drop_eq_getElem_cons (by rw [hlen]; exact hk)]
  have e : (layLines C R xs)[k]'(by rw [hlen]; exact hk) = cellsT (chunkL C xs k) := by simp [layLines]
  rw [e]
  simp [lfs]
end Go.Proofs.YthikknnadmebgaaGreatDoor

/-! What LayoutsChangeLittle needs of its offers, and of layouts with the same counts. No program in sight. -/
namespace Go.Proofs.YthikknnadmebgaaGreatDoor

theorem offKey_apart : ∀ i j : Nat, i < 4 → j < 4 → Utf8.encode (97 + (i : Int)) = Utf8.encode (97 + (j : Int)) → i = j := by
  have h : ∀ i j : Fin 4, Utf8.encode (97 + ((i.1 : Nat) : Int)) = Utf8.encode (97 + ((j.1 : Nat) : Int)) → i = j := by decide
  exact fun i j hi hj e => congrArg Fin.val (h ⟨i, hi⟩ ⟨j, hj⟩ e)
theorem offKey_some : ∀ i : Nat, i < 4 → Utf8.encode (97 + (i : Int)) ≠ e0B := by
  have h : ∀ i : Fin 4, Utf8.encode (97 + ((i.1 : Nat) : Int)) ≠ e0B := by decide
  exact fun i hi => h ⟨i, hi⟩
theorem offKeys (l : List Int) (k most : Nat) : ∀ (i : Nat) (h : i < (keysOf (offersM l k most)).length), (keysOf (offersM l k most))[i] = Utf8.encode (97 + (i : Int)) := by
  intro i h
  have hlen : (offersM l k most).length = offersN l k most := offersTo_len _ _ _
  have hi : i < (offersM l k most).length := by unfold keysOf at h; simpa using h
  obtain ⟨m, hm⟩ := offersTo_get l (k + 1) (offersN l k most) i (by omega)
  have e : (offersM l k most)[i] = offerAt l m i := (List.getElem?_eq_some_iff.1 hm).2
  refine (keysOf_get _ i h).trans ((congrArg Offer.key e).trans ?_)
  unfold offerAt
  with_reducible rfl
theorem offKeys_nd (l : List Int) (k most : Nat) (hm : most ≤ 4) : (e0B :: keysOf (offersM l k most)).Nodup := by
  have hlen : (offersM l k most).length = offersN l k most := offersTo_len _ _ _
  have hn := (offersN_le l k most).1
  have hkl : (keysOf (offersM l k most)).length ≤ 4 := by unfold keysOf; rw [List.length_map]; omega
  refine List.nodup_cons.2 ⟨fun hm => ?_, ?_⟩
  · obtain ⟨i, hi, e⟩ := List.mem_iff_getElem.1 hm
    rw [offKeys l k most i hi] at e
    exact offKey_some i (by omega) e
  · unfold List.Nodup
    rw [List.pairwise_iff_getElem]
    intro i j hi hj hij e
    rw [offKeys l k most i hi, offKeys l k most j hj] at e
    have := offKey_apart i j (by omega) (by omega) e
    omega
theorem inV_slot {os : List Offer} (hok : OffersOk os) {y : ByteArray} (h : y ∈ e0B :: keysOf os) : SlotOk y ∧ oddB y = false ∧ y.size ≤ 100000 := by
  rcases List.mem_cons.1 h with rfl | h
  · exact ⟨.inl rfl, by unfold oddB; rw [ByteArray.toList_eq]; rfl, by decide⟩
  · obtain ⟨o, ho, rfl⟩ := List.mem_map.1 h
    obtain ⟨h1, _, h3, _⟩ := hok.key o ho
    exact ⟨.inr h1, by unfold oddB; rw [h1]; simp, by omega⟩
theorem inV_strange {os : List Offer} {y : ByteArray} (h : y ∈ e0B :: keysOf os) : strangeB os y = false := by
  rcases List.mem_cons.1 h with rfl | h
  · unfold strangeB
    rw [ByteArray.toList_eq]
    rfl
  · obtain ⟨o, ho, rfl⟩ := List.mem_map.1 h
    unfold strangeB
    have : ¬ offIx os o.key < 0 := by
      unfold offIx findA
      rw [if_pos (List.findIdx_lt_length.2 ⟨o, ho, by simp⟩)]
      omega
    rw [decide_eq_false this, Bool.and_false]
theorem inV_list {os : List Offer} {A : List ByteArray} (h : ∀ y ∈ A, y ∈ e0B :: keysOf os) (hl : A.length ≤ 60) : listF os A = 0 := by
  unfold listF
  rw [if_neg (by omega)]
  have e : A.any (strangeB os) = false := List.any_eq_false.2 (fun y hy => by rw [inV_strange (h y hy)]; simp)
  rw [e]
  rfl
theorem cntTo_cntB {os : List Offer} (hnd : (e0B :: keysOf os).Nodup) {A : List ByteArray} (h : ∀ y ∈ A, y ∈ e0B :: keysOf os) : ∀ k, k ≤ A.length → ∀ j (hj : j < (keysOf os).length), (cntTo os A k).getD j 0 = (cntB (keysOf os)[j] (A.take k) : Int)
  | 0, _, j, hj => by
    rw [List.take_zero, cntB_nil]
    show (List.replicate os.length (0 : Int)).getD j 0 = _
    rw [List.getD_eq_getElem?_getD, List.getElem?_replicate]
    split <;> rfl
  | k + 1, hk, j, hj => by
    have ih := cntTo_cntB hnd h k (by omega) j hj
    have hkA : k < A.length := hk
    have hkl : (keysOf os).length = os.length := by unfold keysOf; rw [List.length_map]
    obtain ⟨y, hy⟩ : ∃ y, y = A[k] := ⟨_, rfl⟩
    have hyV : y ∈ e0B :: keysOf os := by rw [hy]; exact h _ (List.getElem_mem hkA)
    have hgd : A.getD k ⟨#[]⟩ = y := by rw [hy]; exact getD_eq A k _ hkA
    rw [List.take_succ_eq_append_getElem hkA, ← hy, cntB_app]
    show (if (A.getD k ⟨#[]⟩).toList.isEmpty then cntTo os A k else (cntTo os A k).set (offIx os (A.getD k ⟨#[]⟩)).toNat ((cntTo os A k).getD (offIx os (A.getD k ⟨#[]⟩)).toNat 0 + 1)).getD j 0 = _
    rw [hgd]
    cases he : y.toList.isEmpty with
    | true =>
      rw [if_pos rfl, ih, if_neg]
      · rfl
      · intro e
        rw [empty_e0 he] at e
        exact key_ne hnd j hj e.symm
    | false =>
      rw [if_neg (by simp)]
      have hnot : ¬ offIx os y < 0 := by
        have h1 := inV_strange hyV
        unfold strangeB at h1
        rw [he] at h1
        intro hlt
        rw [decide_eq_true hlt] at h1
        cases h1
      obtain ⟨i, hi⟩ : ∃ i : Nat, offIx os y = (i : Int) := ⟨(offIx os y).toNat, by omega⟩
      obtain ⟨hio, e⟩ := offIx_key os y i hi
      have hik : i < (keysOf os).length := by omega
      have ek : (keysOf os)[i] = y := by rw [keysOf_get os i hik]; exact e
      rw [hi, Int.toNat_natCast]
      by_cases hij : i = j
      · subst hij
        rw [if_pos ek.symm, List.getD_eq_getElem?_getD, List.getElem?_set_self (by rw [cntTo_len]; exact hio), Option.getD_some, ih]
        rfl
      · rw [if_neg (fun e2 => hij (key_inj hnd hik hj (ek.trans e2))), List.getD_eq_getElem?_getD, List.getElem?_set_ne hij, ← List.getD_eq_getElem?_getD, ih]
        rfl
theorem cntTo_same {os : List Offer} (hnd : (e0B :: keysOf os).Nodup) {A : List ByteArray} {cs : List Int} (h : ∀ y ∈ A, y ∈ e0B :: keysOf os) (hl : cs.length = os.length) (hc : ∀ o (h : o < (keysOf os).length), (cntB (keysOf os)[o] A : Int) = cs.getD o 0) : cntTo os A A.length = cs := by
  refine List.ext_getElem (by rw [cntTo_len, hl]) (fun j h1 h2 => ?_)
  have hkl : (keysOf os).length = os.length := by unfold keysOf; rw [List.length_map]
  have hj : j < (keysOf os).length := by omega
  have h3 := cntTo_cntB hnd h A.length (Nat.le_refl _) j hj
  rw [List.take_length, hc j hj, getD_eq _ _ _ h1, getD_eq _ _ _ h2] at h3
  exact h3
theorem same_counts {os : List Offer} (hnd : (e0B :: keysOf os).Nodup) {A B : List ByteArray} {cs : List Int} (hA : ∀ y ∈ A, y ∈ e0B :: keysOf os) (hB : ∀ y ∈ B, y ∈ e0B :: keysOf os) (hl : A.length = B.length)
    (ha : ∀ o (h : o < (keysOf os).length), (cntB (keysOf os)[o] A : Int) = cs.getD o 0) (hb : ∀ o (h : o < (keysOf os).length), (cntB (keysOf os)[o] B : Int) = cs.getD o 0) : ∀ v ∈ e0B :: keysOf os, cntB v A = cntB v B := by
  have key : ∀ v ∈ keysOf os, cntB v A = cntB v B := by
    intro v hv
    obtain ⟨o, ho, rfl⟩ := List.mem_iff_getElem.1 hv
    have := ha o ho
    have := hb o ho
    omega
  have hs : ((keysOf os).map fun v => cntB v A) = (keysOf os).map fun v => cntB v B := List.map_congr_left key
  have h1 := cntB_all _ hnd A hA
  have h2 := cntB_all _ hnd B hB
  rw [List.map_cons, List.sum_cons] at h1 h2
  rw [hs] at h1
  intro v hv
  rcases List.mem_cons.1 hv with rfl | hv
  · omega
  · exact key v hv
theorem placed_more {os : List Offer} (hnd : (e0B :: keysOf os).Nodup) {x A B : List ByteArray} {cs : List Int} {R C : Nat} (hx : ∀ y ∈ x, y ∈ e0B :: keysOf os) (hA : ArrIs (keysOf os) x cs A) (hB : PlIs (keysOf os) x cs R C os B) : diffB x A ≤ diffB x B :=
  diff_min _ hnd x A B hA.len hB.len hx hA.keeps (same_counts hnd hA.inV hB.inV (by rw [hA.len, hB.len]) hA.cnt hB.cnt)
end Go.Proofs.YthikknnadmebgaaGreatDoor
