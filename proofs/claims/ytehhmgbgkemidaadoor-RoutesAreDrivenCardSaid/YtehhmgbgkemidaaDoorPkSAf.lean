/- Plain: sums of lists of ints, taken step by step. -/

namespace Go.Proofs.YtehhmgbgkemidaaDoor

theorem sum_next (L : List Int) (k : Nat) (h : k < L.length) : (L.take (k + 1)).sum = (L.take k).sum + L.getD k 0 := by
  rw [List.take_succ_eq_append_getElem h, List.sum_append, List.getD_eq_getElem?_getD, List.getElem?_eq_getElem h]
  simp
theorem sum_bound (L : List Int) (A B : Int) (hA : A ≤ 0) (hB : 0 ≤ B) (h : ∀ x ∈ L, A ≤ x ∧ x ≤ B) (k : Nat) : A * k ≤ (L.take k).sum ∧ (L.take k).sum ≤ B * k := by
  induction k with
  | zero => simp
  | succ k ih =>
    rcases Nat.lt_or_ge k L.length with hk | hk
    · rw [sum_next L k hk]
      have hm : L.getD k 0 ∈ L := by
        rw [List.getD_eq_getElem?_getD, List.getElem?_eq_getElem hk]
        exact List.getElem_mem hk
      have := h _ hm
      have e1 : A * ((k + 1 : Nat) : Int) = A * k + A := by rw [Int.natCast_add, Int.mul_add]; simp
      have e2 : B * ((k + 1 : Nat) : Int) = B * k + B := by rw [Int.natCast_add, Int.mul_add]; simp
      omega
    · have e : L.take (k + 1) = L.take k := by rw [List.take_of_length_le (by omega), List.take_of_length_le hk]
      have e1 : A * ((k + 1 : Nat) : Int) = A * k + A := by rw [Int.natCast_add, Int.mul_add]; simp
      have e2 : B * ((k + 1 : Nat) : Int) = B * k + B := by rw [Int.natCast_add, Int.mul_add]; simp
      rw [e]
      omega
theorem sum_bound_all (L : List Int) (A B : Int) (hA : A ≤ 0) (hB : 0 ≤ B) (h : ∀ x ∈ L, A ≤ x ∧ x ≤ B) : A * L.length ≤ L.sum ∧ L.sum ≤ B * L.length := by
  have := sum_bound L A B hA hB h L.length
  rwa [List.take_length] at this
end Go.Proofs.YtehhmgbgkemidaaDoor

/-! Days of jobs, and the loads of the days: the plain law. No program in sight. -/
namespace Go.Proofs.YtehhmgbgkemidaaDoor

/-- What the jobs of day d last, of the first n jobs. -/
def ld (J Q : List Int) (d : Int) : Nat → Int
  | 0 => 0
  | n + 1 => ld J Q d n + (if Q.getD n (-1) = d then J.getD n 0 else 0)
def ldL (J Q : List Int) (D n : Nat) : List Int := (List.range D).map fun d : Nat => ld J Q (d : Int) n
theorem ldL_len (J Q : List Int) (D n : Nat) : (ldL J Q D n).length = D := by simp [ldL]
theorem ldL_get (J Q : List Int) {D d : Nat} (n : Nat) (h : d < D) : (ldL J Q D n).getD d 0 = ld J Q d n := by
  simp [ldL, List.getD_eq_getElem?_getD, h]
theorem mem_ldL (J Q : List Int) (D n : Nat) (x : Int) : x ∈ ldL J Q D n ↔ ∃ d : Nat, d < D ∧ ld J Q d n = x := by
  simp [ldL]
theorem ldL_zero (J Q : List Int) (D : Nat) : ldL J Q D 0 = List.replicate D 0 := by
  apply List.ext_getElem
  · simp [ldL]
  · intro i h1 h2; simp [ldL, ld]
theorem ld_congr (J : List Int) {Q Q' : List Int} (d : Int) (n : Nat) (h : ∀ i, i < n → Q.getD i (-1) = Q'.getD i (-1)) : ld J Q d n = ld J Q' d n := by
  induction n with
  | zero => rfl
  | succ n ih =>
    simp only [ld]
    rw [ih (fun i hi => h i (by omega)), h n (by omega)]
theorem ldL_congr (J : List Int) {Q Q' : List Int} (D n : Nat) (h : ∀ i, i < n → Q.getD i (-1) = Q'.getD i (-1)) : ldL J Q D n = ldL J Q' D n := by
  unfold ldL
  exact List.map_congr_left (fun d _ => ld_congr J d n h)
theorem list_ext0 {L M : List Int} (h : L.length = M.length) (g : ∀ i, i < L.length → L.getD i 0 = M.getD i 0) : L = M := by
  apply List.ext_getElem h
  intro i h1 h2
  have := g i h1
  rw [List.getD_eq_getElem?_getD, List.getD_eq_getElem?_getD, List.getElem?_eq_getElem h1, List.getElem?_eq_getElem h2] at this
  exact this
theorem set_get (L : List Int) (e i : Nat) (y : Int) (he : e < L.length) : (L.set e y).getD i 0 = if i = e then y else L.getD i 0 := by
  rw [List.getD_eq_getElem?_getD, List.getElem?_set]
  by_cases h : e = i
  · subst h; simp [he]
  · rw [if_neg h, if_neg (fun e2 => h e2.symm), List.getD_eq_getElem?_getD]
theorem set_get' (L : List Int) (e i : Nat) (y z : Int) (he : e < L.length) : (L.set e y).getD i z = if i = e then y else L.getD i z := by
  rw [List.getD_eq_getElem?_getD, List.getElem?_set]
  by_cases h : e = i
  · subst h; simp [he]
  · rw [if_neg h, if_neg (fun e2 => h e2.symm), List.getD_eq_getElem?_getD]
theorem ldL_step (J Q : List Int) (D n e : Nat) (he : e < D) (hq : Q.getD n (-1) = (e : Int)) : ldL J Q D (n + 1) = (ldL J Q D n).set e ((ldL J Q D n).getD e 0 + J.getD n 0) := by
  apply list_ext0
  · simp [ldL_len]
  · intro i hi
    rw [ldL_len] at hi
    rw [ldL_get J Q _ hi, set_get _ _ _ _ (by rw [ldL_len]; exact he), ldL_get J Q _ he, ldL_get J Q _ hi]
    simp only [ld, hq]
    by_cases h : i = e
    · subst h; simp
    · rw [if_neg (by omega), if_neg h]; omega
/-- Jobs that a week may have. -/
def JobsOk (J : List Int) : Prop := ∀ x ∈ J, 0 ≤ x ∧ x ≤ 10000
theorem job_ok {J : List Int} (h : JobsOk J) (n : Nat) : 0 ≤ J.getD n 0 ∧ J.getD n 0 ≤ 10000 := by
  rw [List.getD_eq_getElem?_getD]
  by_cases hn : n < J.length
  · rw [List.getElem?_eq_getElem hn]; exact h _ (List.getElem_mem hn)
  · rw [List.getElem?_eq_none (by omega)]; decide
theorem ld_bound {J : List Int} (h : JobsOk J) (Q : List Int) (d : Int) (n : Nat) : 0 ≤ ld J Q d n ∧ ld J Q d n ≤ 10000 * n := by
  induction n with
  | zero => simp [ld]
  | succ n ih =>
    simp only [ld]
    have := job_ok h n
    split <;> omega
theorem ld_mono {J : List Int} (h : JobsOk J) (Q : List Int) (d : Int) (n m : Nat) (hm : n ≤ m) : ld J Q d n ≤ ld J Q d m := by
  induction m with
  | zero => obtain rfl : n = 0 := by omega
            exact Int.le_refl _
  | succ m ih =>
    by_cases e : n = m + 1
    · subst e; exact Int.le_refl _
    · have := ih (by omega)
      have := job_ok h m
      simp only [ld]
      split <;> omega
theorem ldL_bound {J : List Int} (h : JobsOk J) (Q : List Int) (D n : Nat) : ∀ x ∈ ldL J Q D n, 0 ≤ x ∧ x ≤ 10000 * n := by
  intro x hx
  obtain ⟨d, _, rfl⟩ := (mem_ldL _ _ _ _ _).1 hx
  exact ld_bound h Q d n
structure DaysOk (D n : Nat) (Q : List Int) : Prop where
  len : Q.length = n
  rng : ∀ x ∈ Q, 0 ≤ x ∧ x < D
theorem day_ok {D n : Nat} {Q : List Int} (h : DaysOk D n Q) (i : Nat) (hi : i < n) (z : Int) : ∃ e : Nat, e < D ∧ Q.getD i z = (e : Int) := by
  have hl := h.len
  rw [List.getD_eq_getElem?_getD, List.getElem?_eq_getElem (by omega)]
  have := h.rng _ (List.getElem_mem (l := Q) (n := i) (by omega))
  exact ⟨(Q[i]'(by omega)).toNat, by omega, by simp; omega⟩
def IsTop (L : List Int) (M : Int) : Prop := M ∈ L ∧ ∀ x ∈ L, x ≤ M
def TopZ (L : List Int) (M : Int) : Prop := 0 ≤ M ∧ (∀ x ∈ L, x ≤ M) ∧ (M = 0 ∨ M ∈ L)
theorem IsTop.uniq {L : List Int} {M N : Int} (h : IsTop L M) (g : IsTop L N) : M = N := Int.le_antisymm (g.2 _ h.1) (h.2 _ g.1)
theorem topZ_zero (D : Nat) : TopZ (List.replicate D 0) 0 := ⟨Int.le_refl _, fun x hx => by have := List.eq_of_mem_replicate hx; omega, .inl rfl⟩
theorem mem_set_get {L : List Int} {e : Nat} {y x : Int} (hx : x ∈ L.set e y) : x = y ∨ x ∈ L := by
  rcases List.mem_or_eq_of_mem_set hx with h | h
  · exact .inr h
  · exact .inl h
theorem get_mem (L : List Int) (i : Nat) (z : Int) (h : i < L.length) : L.getD i z ∈ L := by
  rw [List.getD_eq_getElem?_getD, List.getElem?_eq_getElem h]; exact List.getElem_mem h
theorem mem_get {L : List Int} {x : Int} (h : x ∈ L) (z : Int) : ∃ i, i < L.length ∧ L.getD i z = x := by
  obtain ⟨i, hi, rfl⟩ := List.getElem_of_mem h
  exact ⟨i, hi, by rw [List.getD_eq_getElem?_getD, List.getElem?_eq_getElem hi]; rfl⟩
theorem topZ_set {L : List Int} {M : Int} (h : TopZ L M) (e : Nat) (y : Int) (he : e < L.length) (hy : L.getD e 0 ≤ y) (h0 : 0 ≤ y) : TopZ (L.set e y) (if M < y then y else M) := by
  obtain ⟨h1, h2, h3⟩ := h
  have hmem : y ∈ L.set e y := by
    have := get_mem (L.set e y) e 0 (by simpa using he)
    rwa [set_get _ _ _ _ he, if_pos rfl] at this
  refine ⟨by split <;> omega, fun x hx => ?_, ?_⟩
  · rcases mem_set_get hx with rfl | hx
    · split <;> omega
    · have := h2 x hx; split <;> omega
  · by_cases hMy : M < y
    · rw [if_pos hMy]; exact .inr hmem
    · rw [if_neg hMy]
      rcases h3 with h3 | h3
      · exact .inl h3
      · refine .inr ?_
        obtain ⟨i, hi, hie⟩ := mem_get h3 0
        by_cases e2 : i = e
        · subst e2
          obtain rfl : M = y := by omega
          exact hmem
        · have := get_mem (L.set e y) i 0 (by simpa using hi)
          rwa [set_get _ _ _ _ he, if_neg e2, hie] at this
theorem topZ_top {L : List Int} {M : Int} (h : TopZ L M) (h0 : ∀ x ∈ L, 0 ≤ x) (hn : 0 < L.length) : IsTop L M := by
  obtain ⟨h1, h2, h3⟩ := h
  refine ⟨?_, h2⟩
  rcases h3 with rfl | h3
  · have hm := get_mem L 0 0 hn
    have := h0 _ hm
    have := h2 _ hm
    have e : L.getD 0 0 = 0 := by omega
    rwa [e] at hm
  · exact h3

/-! ### The least greatest load -/
def LvOk (J : List Int) (D n : Nat) (best : List Int) (load : Int) : Prop := load = -1 ∨ (0 ≤ load ∧ DaysOk D n best ∧ IsTop (ldL J best D n) load)
def LvPost (J : List Int) (D n : Nat) (P : List Int) (load : Int) (best' : List Int) (load' : Int) : Prop :=
  LvOk J D n best' load' ∧ (0 ≤ load → 0 ≤ load' ∧ load' ≤ load) ∧ ∀ Q M, DaysOk D n Q → Q.take P.length = P → IsTop (ldL J Q D n) M → 0 ≤ load' ∧ load' ≤ M
def LvLoop (J : List Int) (D n : Nat) (P : List Int) (t : Nat) (load : Int) (best' : List Int) (load' : Int) : Prop :=
  LvOk J D n best' load' ∧ (0 ≤ load → 0 ≤ load' ∧ load' ≤ load) ∧ ∀ Q M, DaysOk D n Q → Q.take P.length = P → Q.getD P.length (-1) < t → IsTop (ldL J Q D n) M → 0 ≤ load' ∧ load' ≤ M
theorem take_get {Q P : List Int} (h : Q.take P.length = P) (i : Nat) (hi : i < P.length) (z : Int) : Q.getD i z = P.getD i z := by
  have : (Q.take P.length).getD i z = Q.getD i z := by
    rw [List.getD_eq_getElem?_getD, List.getD_eq_getElem?_getD, List.getElem?_take_of_lt hi]
  rw [← this, h]
theorem lv_skip {J : List Int} (hJ : JobsOk J) {D n : Nat} {P best : List Int} {load most : Int} (hP : P.length ≤ n) (h0 : 0 ≤ load) (hm : load ≤ most) (ht : TopZ (ldL J P D P.length) most) (hok : LvOk J D n best load) : LvPost J D n P load best load := by
  refine ⟨hok, fun h => ⟨h, Int.le_refl _⟩, fun Q M hQ hQP hM => ⟨h0, ?_⟩⟩
  rcases ht.2.2 with h | h
  · obtain ⟨d, _, hd⟩ := (mem_ldL _ _ _ _ _).1 hM.1
    have := (ld_bound hJ Q d n).1
    omega
  · obtain ⟨d, hdD, hd⟩ := (mem_ldL _ _ _ _ _).1 h
    have h1 : ld J Q d n ≤ M := hM.2 _ ((mem_ldL _ _ _ _ _).2 ⟨d, hdD, rfl⟩)
    have h2 := ld_mono hJ Q d P.length n hP
    have h3 : ld J Q d P.length = ld J P d P.length := ld_congr J d _ (fun i hi => take_get hQP i hi (-1))
    omega
theorem lv_full {J : List Int} (hJ : JobsOk J) {D n : Nat} {P : List Int} {load most : Int} (hD : 0 < D) (hP : DaysOk D n P) (hl : load < 0 ∨ most < load) (ht : TopZ (ldL J P D n) most) : LvPost J D n P load P most := by
  have htop := topZ_top ht (fun x hx => (ldL_bound hJ P D n x hx).1) (by rw [ldL_len]; exact hD)
  refine ⟨.inr ⟨ht.1, hP, htop⟩, fun h => ⟨ht.1, by omega⟩, fun Q M hQ hQP hM => ⟨ht.1, ?_⟩⟩
  have : Q = P := by rw [← hQP, hP.len, ← hQ.len, List.take_length]
  subst this
  exact Int.le_of_eq (htop.uniq hM)
theorem lv_start {J : List Int} {D n : Nat} {P best : List Int} {load : Int} (hP : P.length < n) (hok : LvOk J D n best load) : LvLoop J D n P 0 load best load := by
  refine ⟨hok, fun h => ⟨h, Int.le_refl _⟩, fun Q M hQ hQP hlt hM => ?_⟩
  obtain ⟨e, _, he⟩ := day_ok hQ P.length hP (-1)
  rw [he] at hlt
  omega
theorem lv_step {J : List Int} {D n : Nat} {P b1 b2 : List Int} {load l1 l2 : Int} {t : Nat} (hP : P.length < n) (h : LvLoop J D n P t load b1 l1) (g : LvPost J D n (P ++ [(t : Int)]) l1 b2 l2) : LvLoop J D n P (t + 1) load b2 l2 := by
  refine ⟨g.1, fun h0 => ?_, fun Q M hQ hQP hlt hM => ?_⟩
  · have h1 := h.2.1 h0
    have h2 := g.2.1 h1.1
    omega
  · by_cases hlt2 : Q.getD P.length (-1) < t
    · have h1 := h.2.2 Q M hQ hQP hlt2 hM
      have h2 := g.2.1 h1.1
      omega
    · have he : Q.getD P.length (-1) = t := by omega
      refine g.2.2 Q M hQ ?_ hM
      have hl := hQ.len
      rw [List.length_append, List.length_singleton, List.take_succ_eq_append_getElem (by omega), hQP]
      congr 1
      rw [List.getD_eq_getElem?_getD, List.getElem?_eq_getElem (by omega)] at he
      simpa using he
theorem lv_end {J : List Int} {D n : Nat} {P b1 : List Int} {load l1 : Int} (hP : P.length < n) (h : LvLoop J D n P D load b1 l1) : LvPost J D n P load b1 l1 :=
  ⟨h.1, h.2.1, fun Q M hQ hQP hM => h.2.2 Q M hQ hQP (by
    obtain ⟨e, h1, he⟩ := day_ok hQ P.length hP (-1)
    rw [he]; omega) hM⟩
theorem top_exists (L : List Int) (h : 0 < L.length) : ∃ M, IsTop L M := by
  induction L with
  | nil => simp at h
  | cons x L ih =>
    by_cases hl : 0 < L.length
    · obtain ⟨M, h1, h2⟩ := ih hl
      by_cases hx : M ≤ x
      · exact ⟨x, by simp, fun y hy => by rcases List.mem_cons.1 hy with rfl | hy; omega; have := h2 y hy; omega⟩
      · exact ⟨M, by simp [h1], fun y hy => by rcases List.mem_cons.1 hy with rfl | hy; omega; exact h2 y hy⟩
    · have : L = [] := List.eq_nil_of_length_eq_zero (by omega)
      subst this
      exact ⟨x, by simp, fun y hy => by simp at hy; omega⟩
theorem lv_all {J : List Int} {D n : Nat} {b : List Int} {load : Int} (hD : 0 < D) (h : LvPost J D n [] (-1) b load) : 0 ≤ load ∧ DaysOk D n b ∧ IsTop (ldL J b D n) load ∧ ∀ Q M, DaysOk D n Q → IsTop (ldL J Q D n) M → load ≤ M := by
  have h3 := h.2.2
  have hall : ∀ Q M, DaysOk D n Q → IsTop (ldL J Q D n) M → 0 ≤ load ∧ load ≤ M := fun Q M hQ hM => h3 Q M hQ (by simp) hM
  have hz : DaysOk D n (List.replicate n 0) := ⟨by simp, fun x hx => by have := List.eq_of_mem_replicate hx; omega⟩
  obtain ⟨M, hM⟩ := top_exists (ldL J (List.replicate n 0) D n) (by rw [ldL_len]; exact hD)
  have h0 := (hall _ M hz hM).1
  rcases h.1 with h1 | ⟨_, h1, h2⟩
  · omega
  · exact ⟨h0, h1, h2, fun Q M hQ hM => (hall Q M hQ hM).2⟩

/-! ### Sums -/
theorem wkSum_set (L : List Int) (i : Nat) (y : Int) (h : i < L.length) : (L.set i y).sum = L.sum - L.getD i 0 + y := by
  induction L generalizing i with
  | nil => simp at h
  | cons x L ih =>
    cases i with
    | zero => simp; omega
    | succ i =>
      have := ih i (by simpa using h)
      simp only [List.set_cons_succ, List.sum_cons, List.getD_cons_succ]
      omega
def sq (L : List Int) : Int := (L.map fun x => x * x).sum
theorem sq_set (L : List Int) (i : Nat) (y : Int) (h : i < L.length) : sq (L.set i y) = sq L - L.getD i 0 * L.getD i 0 + y * y := by
  induction L generalizing i with
  | nil => simp at h
  | cons x L ih =>
    cases i with
    | zero => simp [sq]; omega
    | succ i =>
      have := ih i (by simpa using h)
      simp only [sq, List.set_cons_succ, List.map_cons, List.sum_cons, List.getD_cons_succ] at this ⊢
      omega
theorem min_sum (L : List Int) (m : Int) (h : ∀ x ∈ L, m ≤ x) : m * L.length ≤ L.sum := by
  induction L with
  | nil => simp
  | cons x L ih =>
    have h1 := ih (fun y hy => h y (by simp [hy]))
    have h2 := h x (by simp)
    simp only [List.length_cons, List.sum_cons]
    rw [Int.natCast_add, Int.mul_add]
    omega

/-! ### Moving one job -/
theorem ld_set (J Q : List Int) (j : Nat) (e d : Int) (hj : j < Q.length) (m : Nat) : ld J (Q.set j e) d m = ld J Q d m + (if j < m then (if e = d then J.getD j 0 else 0) - (if Q.getD j (-1) = d then J.getD j 0 else 0) else 0) := by
  induction m with
  | zero => simp [ld]
  | succ m ih =>
    simp only [ld]
    rw [ih, set_get' _ _ _ _ _ hj]
    by_cases h1 : m = j
    · subst h1
      rw [if_neg (Nat.lt_irrefl m), if_pos rfl, if_pos (Nat.lt_succ_self m)]
      omega
    · rw [if_neg h1]
      by_cases h2 : j < m
      · rw [if_pos h2, if_pos (show j < m + 1 by omega)]; omega
      · rw [if_neg h2, if_neg (show ¬ j < m + 1 by omega)]; omega
theorem ldL_move (J Q : List Int) (D n j o e : Nat) (hj : j < n) (hq : Q.length = n) (ho : Q.getD j (-1) = (o : Int)) (hoD : o < D) (he : e < D) (hne : e ≠ o) :
    ldL J (Q.set j (e : Int)) D n = ((ldL J Q D n).set o ((ldL J Q D n).getD o 0 - J.getD j 0)).set e ((ldL J Q D n).getD e 0 + J.getD j 0) := by
  apply list_ext0
  · simp [ldL_len]
  · intro i hi
    rw [ldL_len] at hi
    rw [ldL_get J _ _ hi, set_get _ _ _ _ (by simp [ldL_len]; exact he), set_get _ _ _ _ (by rw [ldL_len]; exact hoD), ldL_get J Q _ hi, ldL_get J Q _ hoD, ldL_get J Q _ he, ld_set J Q j _ _ (by omega), if_pos hj, ho]
    by_cases h1 : i = e
    · subst h1
      rw [if_pos rfl, if_pos rfl, if_neg (by omega)]
      omega
    · rw [if_neg (by omega), if_neg h1]
      by_cases h2 : i = o
      · subst h2; rw [if_pos rfl, if_pos rfl]; omega
      · rw [if_neg (by omega), if_neg h2]; omega
theorem sq_move (L : List Int) (o e : Nat) (x : Int) (ho : o < L.length) (he : e < L.length) (hne : e ≠ o) (hg : 0 < 2 * x * (L.getD o 0 - L.getD e 0 - x)) : sq ((L.set o (L.getD o 0 - x)).set e (L.getD e 0 + x)) ≤ sq L := by
  rw [sq_set _ _ _ (by simpa using he), sq_set _ _ _ ho, set_get _ _ _ _ ho, if_neg hne]
  generalize L.getD o 0 = a at *
  generalize L.getD e 0 = b at *
  have h1 : (a - x) * (a - x) = a * a - 2 * x * a + x * x := by grind
  have h2 : (b + x) * (b + x) = b * b + 2 * x * b + x * x := by grind
  have h3 : 2 * x * (a - b - x) = 2 * x * a - 2 * x * b - 2 * (x * x) := by grind
  omega
theorem days_set {D n : Nat} {Q : List Int} (h : DaysOk D n Q) (j e : Nat) (he : e < D) : DaysOk D n (Q.set j (e : Int)) := by
  refine ⟨by rw [List.length_set]; exact h.len, fun x hx => ?_⟩
  rcases List.mem_or_eq_of_mem_set hx with hx | rfl
  · exact h.rng x hx
  · omega

/-! ### The day with the least load so far -/
/-- The jobs of S; the others are nothing. -/
def msk (J S : List Int) : List Int := (List.range J.length).map fun i : Nat => if (i : Int) ∈ S then J.getD i 0 else 0
theorem msk_len (J S : List Int) : (msk J S).length = J.length := by simp [msk]
theorem msk_get (J S : List Int) (i : Nat) : (msk J S).getD i 0 = if (i : Int) ∈ S then J.getD i 0 else 0 := by
  by_cases h : i < J.length
  · simp [msk, List.getD_eq_getElem?_getD, h]
  · rw [List.getD_eq_getElem?_getD, List.getElem?_eq_none (by rw [msk_len]; omega), List.getD_eq_getElem?_getD, List.getElem?_eq_none (by omega)]
    simp
theorem msk_nil (J : List Int) : msk J [] = List.replicate J.length 0 := by
  apply list_ext0
  · simp [msk_len]
  · intro i hi; rw [msk_get]; simp [List.getD_eq_getElem?_getD, List.getElem?_replicate]
    split <;> rfl
theorem msk_ok {J : List Int} (h : JobsOk J) (S : List Int) : JobsOk (msk J S) := by
  intro x hx
  obtain ⟨i, _, rfl⟩ := mem_get hx 0
  rw [msk_get]
  have := job_ok h i
  split <;> omega
theorem msk_next (J S : List Int) (i : Nat) (hi : i < J.length) (hS : (i : Int) ∉ S) : msk J (S ++ [(i : Int)]) = (msk J S).set i (J.getD i 0) := by
  apply list_ext0
  · simp [msk_len]
  · intro j hj
    rw [msk_len] at hj
    rw [msk_get, set_get _ _ _ _ (by rw [msk_len]; exact hi), msk_get]
    by_cases h : j = i
    · subst h; simp
    · rw [if_neg h]
      have : ((j : Int) ∈ S ++ [(i : Int)]) ↔ (j : Int) ∈ S := by
        simp only [List.mem_append, List.mem_singleton]
        constructor
        · rintro (h1 | h1)
          · exact h1
          · omega
        · exact .inl
      simp only [this]
theorem ld_setJ (J Q : List Int) (j : Nat) (x d : Int) (hj : j < J.length) (m : Nat) : ld (J.set j x) Q d m = ld J Q d m + (if j < m ∧ Q.getD j (-1) = d then x - J.getD j 0 else 0) := by
  induction m with
  | zero => simp [ld]
  | succ m ih =>
    simp only [ld]
    rw [ih, set_get _ _ _ _ hj]
    by_cases h1 : m = j
    · subst h1
      generalize Q.getD m (-1) = q
      by_cases h3 : q = d
      · simp [h3]; omega
      · simp [h3]
    · rw [if_neg h1]
      generalize Q.getD j (-1) = q
      by_cases h3 : q = d
      · by_cases h2 : j < m
        · simp [h2, h3, show j < m + 1 by omega]; omega
        · simp [h2, h3, show ¬ j < m + 1 by omega]
      · simp [h3]
/-- One more job is given to day e. -/
theorem ldL_give (J Q S : List Int) (D n i e : Nat) (hi : i < n) (hJ : J.length = n) (hQ : Q.length = n) (hS : (i : Int) ∉ S) (he : e < D) :
    ldL (msk J (S ++ [(i : Int)])) (Q.set i (e : Int)) D n = (ldL (msk J S) Q D n).set e ((ldL (msk J S) Q D n).getD e 0 + J.getD i 0) := by
  have h0 : (msk J S).getD i 0 = 0 := by rw [msk_get, if_neg hS]
  apply list_ext0
  · simp [ldL_len]
  · intro d hd
    rw [ldL_len] at hd
    rw [ldL_get _ _ _ hd, set_get _ _ _ _ (by rw [ldL_len]; exact he), ldL_get _ _ _ he, ldL_get _ _ _ hd, msk_next J S i (by omega) hS, ld_setJ _ _ _ _ _ (by rw [msk_len]; omega), ld_set _ _ _ _ _ (by omega), if_pos hi, set_get' _ _ _ _ _ (by omega), if_pos rfl, h0]
    by_cases h1 : d = e
    · subst h1
      generalize Q.getD i (-1) = q
      by_cases h2 : q = (d : Int)
      · simp [h2, hi]
      · simp [h2, hi]
    · have h3 : ¬ (e : Int) = (d : Int) := by omega
      generalize Q.getD i (-1) = q
      by_cases h2 : q = (d : Int)
      · simp [h1, h2, h3]
      · simp [h1, h2, h3]
theorem msk_sum_next (J S : List Int) (i : Nat) (hi : i < J.length) (hS : (i : Int) ∉ S) : (msk J (S ++ [(i : Int)])).sum = (msk J S).sum + J.getD i 0 := by
  rw [msk_next J S i hi hS, wkSum_set _ _ _ (by rw [msk_len]; exact hi), msk_get, if_neg hS]; omega
theorem sum_le_of (L M : List Int) (h : L.length = M.length) (g : ∀ i, L.getD i 0 ≤ M.getD i 0) : L.sum ≤ M.sum := by
  induction L generalizing M with
  | nil => obtain rfl : M = [] := List.eq_nil_of_length_eq_zero (by simpa using h.symm)
           exact Int.le_refl _
  | cons x L ih =>
    cases M with
    | nil => simp at h
    | cons y M =>
      have h1 := ih M (by simpa using h) (fun i => by simpa using g (i + 1))
      have h2 := g 0
      simp at h2
      simp only [List.sum_cons]
      omega
theorem msk_sum_le {J : List Int} (h : JobsOk J) (S : List Int) : (msk J S).sum ≤ J.sum :=
  sum_le_of _ _ (msk_len J S) (fun i => by rw [msk_get]; have := job_ok h i; split <;> omega)
theorem msk_all (J S : List Int) (h : ∀ i : Nat, i < J.length → (i : Int) ∈ S) : msk J S = J :=
  list_ext0 (msk_len J S) (fun i hi => by rw [msk_get, if_pos (h i (by rwa [msk_len] at hi))])
/-- What is kept while jobs are given: the loads are those of the jobs of S, and none is far above the mean. -/
structure FairAt (J Q S : List Int) (D n : Nat) (longest : Int) : Prop where
  days : DaysOk D n Q
  sum : (ldL (msk J S) Q D n).sum = (msk J S).sum
  fair : ∀ d, d < D → ((ldL (msk J S) Q D n).getD d 0 - longest) * D ≤ J.sum
theorem fair_start {J : List Int} (hJ : JobsOk J) {D n : Nat} (hD : 0 < D) {longest : Int} (hl : 0 ≤ longest) : FairAt J (List.replicate n 0) [] D n longest ∧ ldL (msk J []) (List.replicate n 0) D n = List.replicate D 0 := by
  have hz : ∀ d m, ld (List.replicate J.length 0) (List.replicate n 0) d m = 0 := by
    intro d m
    induction m with
    | zero => rfl
    | succ m ih =>
      simp only [ld, ih]
      have : (List.replicate J.length (0 : Int)).getD m 0 = 0 := by
        rw [List.getD_eq_getElem?_getD, List.getElem?_replicate]; split <;> rfl
      rw [this]; simp
  have hL : ldL (msk J []) (List.replicate n 0) D n = List.replicate D 0 := by
    rw [msk_nil]
    apply list_ext0
    · simp [ldL_len]
    · intro i hi
      rw [ldL_len] at hi
      rw [ldL_get _ _ _ hi, hz, List.getD_eq_getElem?_getD, List.getElem?_replicate, if_pos hi]; rfl
  refine ⟨⟨⟨by simp, fun x hx => by have := List.eq_of_mem_replicate hx; omega⟩, ?_, ?_⟩, hL⟩
  · rw [hL, msk_nil]; simp
  · intro d hd
    rw [hL, List.getD_eq_getElem?_getD, List.getElem?_replicate, if_pos hd]
    have h1 := sum_le_of (List.replicate J.length 0) J (by simp) (fun i => by
      have h2 : (List.replicate J.length (0 : Int)).getD i 0 = 0 := by
        rw [List.getD_eq_getElem?_getD, List.getElem?_replicate]; split <;> rfl
      rw [h2]; exact (job_ok hJ i).1)
    have h2 : 0 ≤ longest * D := Int.mul_nonneg hl (by omega)
    simp at h1 ⊢
    have h3 : -longest * (D : Int) = -(longest * D) := by grind
    omega
theorem fair_step {J Q S : List Int} (hJ : JobsOk J) {D n : Nat} (hn : J.length = n) {longest m : Int} (h : FairAt J Q S D n longest) (i e : Nat) (hi : i < n) (he : e < D) (hS : (i : Int) ∉ S) (hl : J.getD i 0 ≤ longest)
    (hm : (ldL (msk J S) Q D n).getD e 0 = m) (hmin : ∀ x ∈ ldL (msk J S) Q D n, m ≤ x) : FairAt J (Q.set i (e : Int)) (S ++ [(i : Int)]) D n longest := by
  have hg := ldL_give J Q S D n i e hi hn h.days.len hS he
  refine ⟨days_set h.days i e he, ?_, fun d hd => ?_⟩
  · rw [hg, wkSum_set _ _ _ (by rw [ldL_len]; exact he), msk_sum_next J S i (by omega) hS, h.sum]; omega
  · rw [hg, set_get _ _ _ _ (by rw [ldL_len]; exact he)]
    by_cases h1 : d = e
    · rw [if_pos h1, hm]
      have h2 := min_sum _ m hmin
      rw [ldL_len, h.sum] at h2
      have h3 := msk_sum_le hJ S
      have h4 : (m + J.getD i 0 - longest) * D ≤ m * D := Int.mul_le_mul_of_nonneg_right (by omega) (by omega)
      omega
    · rw [if_neg h1]; exact h.fair d hd
end Go.Proofs.YtehhmgbgkemidaaDoor
