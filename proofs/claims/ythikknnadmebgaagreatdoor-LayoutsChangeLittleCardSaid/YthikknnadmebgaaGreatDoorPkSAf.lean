/- Right offers, as the stream makes them. -/
import Derived.Test.YthikknnadmebgaaGreatDoorPkSAd
import Derived.Test.YthikknnadmebgaaGreatDoorPkSAc
import Derived.Test.YthikknnadmebgaaGreatDoorPkSAe
import Derived.Deep.RegionLaw
import Derived.Deep.DeepFit
import Derived.IntWalk
import Derived.Laws.Cover4
import Derived.Test.YthikknnadmebgaaGreatDoorPkSAa
namespace Go.Proofs.YthikknnadmebgaaGreatDoor
open Go.RowKit
variable {lw : Nat}

structure Offer where
  key : ByteArray
  group : ByteArray
  profits : List Int
  has : List ByteArray
  hates : List ByteArray
def OffR (base : Nat) (w : World) (o : Offer) (c : List Value) : Prop :=
  ∃ v1 v2 v3, c = [.string o.key, .string o.group, v1, v2, v3] ∧ w.ownsRow base 3 1 v1 o.profits.length (ints o.profits) ∧ w.ownsRow base 9 1 v2 o.has.length (strs o.has) ∧ w.ownsRow base 9 1 v3 o.hates.length (strs o.hates)
theorem OffR.keep0 {base : Nat} {w w1 : World} (g : w.grownBy w1 none) (o : Offer) (c : List Value) (h : OffR base w o c) : OffR base w1 o c := by
  obtain ⟨v1, v2, v3, rfl, h1, h2, h3⟩ := h
  exact ⟨v1, v2, v3, rfl, own_keep0 h1 g, own_keep0 h2 g, own_keep0 h3 g⟩
theorem OffR.keepS {base p : Nat} {w w1 : World} (g : w.grownBy w1 (some p)) (hp : p < base) (o : Offer) (c : List Value) (h : OffR base w o c) : OffR base w1 o c := by
  obtain ⟨v1, v2, v3, rfl, h1, h2, h3⟩ := h
  exact ⟨v1, v2, v3, rfl, own_keepS h1 g hp, own_keepS h2 g hp, own_keepS h3 g hp⟩
/-- A row of offers is written: what they hold stays. -/
theorem OffR.keepU {base b2 e z n : Nat} {w w1 : World} {u : Value} {us : List Value} (hu : w.ownsRow b2 e z u n us) (h3 : 3 ≠ e) (hs : 9 ≠ e) (g : w.grownBy w1 u.ownBlock) (o : Offer) (c : List Value) (h : OffR base w o c) : OffR base w1 o c := by
  obtain ⟨v1, v2, v3, rfl, q1, q2, q3⟩ := h
  exact ⟨v1, v2, v3, rfl, own_keepU q1 hu h3 g, own_keepU q2 hu hs g, own_keepU q3 hu hs g⟩
theorem eOffer : ElemT Tryz.prog 55 119 (.agg #[.string ⟨#[]⟩, .string ⟨#[]⟩, .slice none 0 0, .slice none 0 0, .slice none 0 0]) 5 104 := ⟨by kernel_rfl, by kernel_rfl, by decide, by decide, by decide⟩
/-- Some of some strings. -/
def someM (l : List Int) (k : Nat) (n : Int) : List ByteArray → List ByteArray
  | [] => []
  | x :: xs => if flipM l k n then x :: someM l (k + 1) n xs else someM l (k + 1) n xs
theorem someM_snoc (l : List Int) (k : Nat) (n : Int) (xs : List ByteArray) (x : ByteArray) : someM l k n (xs ++ [x]) = someM l k n xs ++ (if flipM l (k + xs.length) n then [x] else []) := by
  induction xs generalizing k with
  | nil => simp [someM]
  | cons y ys ih =>
    simp only [List.cons_append, someM, List.length_cons]
    rw [ih (k + 1), show k + 1 + ys.length = k + (ys.length + 1) by omega]
    split <;> simp
theorem someM_len (l : List Int) (k : Nat) (n : Int) (xs : List ByteArray) : (someM l k n xs).length ≤ xs.length := by
  induction xs generalizing k with
  | nil => simp [someM]
  | cons y ys ih => have := ih (k + 1); simp only [someM]; split <;> simp <;> omega
theorem someM_sub (l : List Int) (k : Nat) (n : Int) (xs : List ByteArray) : List.Sublist (someM l k n xs) xs := by
  induction xs generalizing k with
  | nil => exact List.Sublist.refl _
  | cons y ys ih =>
    simp only [someM]
    split
    · exact (ih (k + 1)).cons_cons y
    · exact (ih (k + 1)).cons y
set_option maxRecDepth 100000 in
set_option maxHeartbeats 1000000 in
theorem some_any (l : List Int) (k : Nat) (n : Int) (xs : List ByteArray) (p : Nat) (W : World) (hs : StreamAt W p lw l k) (hk : k < 900000000) (hn : n ≤ 9223372036854775807) (h1 : xs.length ≤ 1000) :
    Calls Tryz.prog 59 #[.pointer (some ⟨p, 0, none⟩), .int .i64 n, .slice (some ⟨W.heap.size, 0, none⟩) xs.length xs.length] (W.alloc (.cells (strs xs).toArray 9))
      fun e w' => ∃ v, e = .returned v ∧ w'.ownsRow W.heap.size 9 1 v (someM l k n xs).length (strs (someM l k n xs)) ∧ StreamAt w' p lw l (k + xs.length) ∧ W.grownBy w' (some p) := by
  have hlt := hs.lt
  obtain ⟨W0, hW0⟩ : ∃ W0, W0 = W.alloc (.cells (strs xs).toArray 9) := ⟨_, rfl⟩
  have hs0 : StreamAt W0 p lw l k := by rw [hW0]; exact hs.keep0 (gr_alloc (gr_refl _ _) _)
  have hb0 : W0.heap[W.heap.size]? = some (.cells (strs xs).toArray 9 (0, 0)) := by rw [hW0]; exact heap_alloc_new _ _
  have hz0 : W0.heap.size = W.heap.size + 1 := by rw [hW0]; simp
  have hgW : W.grownBy W0 (some p) := by rw [hW0]; exact gr_alloc (gr_refl _ _) _
  rw [← hW0]
  clear hW0 hs
  obtain ⟨B, hB⟩ : ∃ B, B = W.heap.size := ⟨_, rfl⟩
  rw [← hB] at hb0 hz0 hlt ⊢
  have HB := Lib.hid hB
  have HB0 := Lib.hid hb0
  clear hB hb0
  go_enter Tryz.func59, Tryz.ntmps59
  go_wp2_with (fail)
  go_loopw [7, 12] (fun v c wr => ∃ i : Nat, i ≤ xs.length ∧ c = .int .i64 i ∧ wr.ownsRow (B + 1) 9 1 v (someM l k n (xs.take i)).length (strs (someM l k n (xs.take i))) ∧ StreamAt wr p lw l (k + i) ∧ W0.grownBy wr (some p)) (fun _ c _ => xs.length - (intOf c).toNat)
  case atStart => exact ⟨0, Nat.zero_le _, rfl, World.ownsRow_nil _ _ _ _, hs0, gr_refl _ _⟩
  case round =>
    obtain ⟨i, hi, rfl, hown, hsr, hgr⟩ := hrel
    obtain ⟨wo, rfl⟩ : ∃ wo : World, wo = wr := ⟨_, rfl⟩
    by_cases hin : i < xs.length
    · have hbo := (hgr.block B (lt_of_block HB0.out) (by simp; omega)).trans HB0.out
      obtain ⟨x, hx⟩ : ∃ x, x = xs[i] := ⟨_, rfl⟩
      have hcx : wo.cell? ⟨B, i, none⟩ = some (.string x) := blkC hbo i (by
        rw [hx]
        simp [strs, List.getElem?_eq_getElem hin])
      have htk : xs.take (i + 1) = xs.take i ++ [x] := by rw [hx]; exact take_next xs i hin
      have hsn := someM_snoc l k n (xs.take i) x
      rw [← htk, List.length_take, Nat.min_eq_left hi] at hsn
      obtain ⟨S, hS⟩ : ∃ S, S = someM l k n (xs.take i) := ⟨_, rfl⟩
      have hSl : S.length ≤ xs.length := by
        have := someM_len l k n (xs.take i)
        have h2 : (xs.take i).length ≤ xs.length := by simp; omega
        rw [hS]; omega
      rw [← hS] at hown hsn
      have HSN := Lib.hid hsn
      have HOWN := Lib.hid hown
      have hzo := hgr.size
      clear hS hx htk hsn hbo hown
      go_wp2_with (fail)
      refine (flip_any l (k + i) n p wo hsr (by omega) hn).mono ?_
      rintro e w2 ⟨rfl, hs2, hg2⟩
      have hown2 := own_keepS HOWN.out hg2 (by omega)
      have hgr2 := gr_trans hgr hg2
      have hz2 := hg2.size
      cases hf : flipM l (k + i) n with
      | true =>
        have HF := Lib.hid hf; clear hf
        go_wp2_with (at_builtin; refine wpList_app1F eStr rfl _ _ rfl (B + 1) _ _ _ rfl w2 #[.string x] rfl hown2 _ rfl rfl rfl rfl (by omega) (by omega) ?_; intro v3 w3 hown3 hg3 hlt3 hf3)
        go_roundw
        case rel =>
          refine ⟨i + 1, by omega, by go_num, ?_, hs2.keep hg3 (fun q hq => by have := hlt3 q hq; omega), gr_grown hgr2 hg3 (fun q hq => by have := hlt3 q hq; omega)⟩
          rw [HSN.out, HF.out]
          simpa [strs] using hown3
        case measure => simp [intOf]; omega
      | false =>
        have HF := Lib.hid hf; clear hf
        go_wp2_with (fail)
        go_roundw
        case rel =>
          refine ⟨i + 1, by omega, by go_num, ?_, hs2, hgr2⟩
          rw [HSN.out, HF.out]
          simpa [strs] using hown2
        case measure => simp [intOf]; omega
    · obtain rfl : i = xs.length := by omega
      rw [List.take_length] at hown
      obtain ⟨va, vc, rfl, _⟩ := own_shape hown
      have HOWN := Lib.hid hown
      clear hown
      go_wp2_with (fail)
      go_ret
      have e := HB.out
      exact ⟨_, rfl, own_base HOWN.out (by omega), hsr, gr_trans hgW hgr⟩

/-! The offers themselves. -/
def profTo (l : List Int) (k : Nat) (p : Int) : Nat → List Int × Int
  | 0 => ([], p)
  | n + 1 => ((profTo l k p n).1 ++ [(profTo l k p n).2], (profTo l k p n).2 - pickM l (k + n) [0, 1, 2, 4])
theorem profTo_len (l : List Int) (k : Nat) (p : Int) (n : Nat) : (profTo l k p n).1.length = n := by
  induction n with
  | zero => rfl
  | succ n ih => simp [profTo, ih]
theorem profTo_bd (l : List Int) (k : Nat) (p : Int) (n : Nat) : p - 4 * n ≤ (profTo l k p n).2 ∧ (profTo l k p n).2 ≤ p := by
  induction n with
  | zero => simp [profTo]
  | succ n ih =>
    have := pickM_mem l (k + n) [0, 1, 2, 4] (by decide)
    simp only [List.mem_cons, List.not_mem_nil, or_false] at this
    simp only [profTo]
    omega
theorem profTo_mem (l : List Int) (k : Nat) (p : Int) (n : Nat) : ∀ x ∈ (profTo l k p n).1, p - 4 * n ≤ x ∧ x ≤ p := by
  induction n with
  | zero => intro x hx; simp [profTo] at hx
  | succ n ih =>
    intro x hx
    simp only [profTo, List.mem_append, List.mem_cons, List.not_mem_nil, or_false] at hx
    have := profTo_bd l k p n
    rcases hx with hx | rfl
    · have := ih x hx; omega
    · omega
def offGroups : List ByteArray := [⟨#[115, 97, 108, 116]⟩, ⟨#[115, 119, 101, 101, 116]⟩, ⟨#[99, 111, 108, 100]⟩]
def offNuts : List ByteArray := [⟨#[109, 105, 108, 107]⟩, ⟨#[110, 117, 116]⟩]
def offN (l : List Int) (j : Nat) : Nat := (1 + nxt l (j + 2) (3 - 1 + 1)).toNat
theorem offN_le (l : List Int) (j : Nat) : 1 ≤ offN l j ∧ offN l j ≤ 3 ∧ ((offN l j : Nat) : Int) = 1 + nxt l (j + 2) (3 - 1 + 1) := by
  have := nxt_range l (j + 2) (3 - 1 + 1) (by decide)
  unfold offN
  omega
def offerAt (l : List Int) (j i : Nat) : Offer :=
  ⟨Utf8.encode (97 + (i : Int)), oneS l j offGroups, (profTo l (j + 3) (pickM l (j + 1) [3, 5, 9]) (offN l j)).1, someM l (j + 3 + offN l j) 4 offNuts, someM l (j + 5 + offN l j) 4 offNuts⟩
def offersTo (l : List Int) (k : Nat) : Nat → List Offer × Nat
  | 0 => ([], k)
  | i + 1 => ((offersTo l k i).1 ++ [offerAt l (offersTo l k i).2 i], (offersTo l k i).2 + 7 + offN l (offersTo l k i).2)
theorem offersTo_len (l : List Int) (k i : Nat) : (offersTo l k i).1.length = i := by
  induction i with
  | zero => rfl
  | succ i ih => simp [offersTo, ih]
theorem offersTo_k (l : List Int) (k i : Nat) : (offersTo l k i).2 ≤ k + 10 * i := by
  induction i with
  | zero => simp [offersTo]
  | succ i ih => have := offN_le l (offersTo l k i).2; simp only [offersTo]; omega
def offersN (l : List Int) (k most : Nat) : Nat := (nxt l k ((most : Int) + 1)).toNat
theorem offersN_le (l : List Int) (k most : Nat) : offersN l k most ≤ most ∧ ((offersN l k most : Nat) : Int) = nxt l k ((most : Int) + 1) := by
  have := nxt_range l k ((most : Int) + 1) (by omega)
  unfold offersN; omega
def offersM (l : List Int) (k most : Nat) : List Offer := (offersTo l (k + 1) (offersN l k most)).1
def offersK (l : List Int) (k most : Nat) : Nat := (offersTo l (k + 1) (offersN l k most)).2
def OffersPost (l : List Int) (k most p lw : Nat) (w : World) (e : Ending) (w' : World) : Prop :=
  ∃ v, e = .returned v ∧ OwnNest (OffR w.heap.size) w' w.heap.size 119 5 v (offersM l k most) ∧ StreamAt w' p lw l (offersK l k most) ∧ w.grownBy w' (some p)
theorem blk5 {w : World} {g t : Nat} {a b c d e : Value} (h : w.heap[g]? = some (.cells #[a, b, c, d, e] t (0, 0))) : w.cell? ⟨g, 0, none⟩ = some a ∧ w.cell? ⟨g, 1, none⟩ = some b ∧ w.cell? ⟨g, 2, none⟩ = some c ∧ w.cell? ⟨g, 3, none⟩ = some d ∧ w.cell? ⟨g, 4, none⟩ = some e :=
  ⟨blkC h 0 rfl, blkC h 1 rfl, blkC h 2 rfl, blkC h 3 rfl, blkC h 4 rfl⟩
set_option maxRecDepth 100000 in
set_option maxHeartbeats 4000000 in
theorem offers_any (l : List Int) (k most : Nat) (p : Nat) (w : World) (hs : StreamAt w p lw l k) (hk : k < 800000000) (hm : most ≤ 20) :
    Calls Tryz.prog 21 #[.pointer (some ⟨p, 0, none⟩), .int .i64 most] w (OffersPost l k most p lw w) := by
  have hlt := hs.lt
  go_enter Tryz.func21, Tryz.ntmps21
  go_wp2_with (fail)
  refine (next_any l k ((most : Int) + 1) p w hs (by omega) (by omega)).mono ?_
  rintro e w2 ⟨rfl, hs2, hg2⟩
  obtain ⟨hnl, hce⟩ := offersN_le l k most
  obtain ⟨n, hn⟩ : ∃ n, n = offersN l k most := ⟨_, rfl⟩
  rw [← hce, ← hn]
  rw [← hn] at hnl
  have HN := Lib.hid hn
  clear hn hce
  go_wp2_with (fail)
  go_loopw [5, 13] (fun v c wr => ∃ i : Nat, i ≤ n ∧ c = .int .i64 i ∧ OwnNest (OffR w.heap.size) wr w.heap.size 119 5 v (offersTo l (k + 1) i).1 ∧ StreamAt wr p lw l (offersTo l (k + 1) i).2 ∧ w.grownBy wr (some p)) (fun _ c _ => n - (intOf c).toNat)
  case atStart => exact ⟨0, Nat.zero_le _, rfl, OwnNest.nil _ _ _ _, hs2, hg2⟩
  case round =>
    obtain ⟨i, hi, rfl, hown, hsr, hgr⟩ := hrel
    obtain ⟨wo, rfl⟩ : ∃ wo : World, wo = wr := ⟨_, rfl⟩
    have hjb := offersTo_k l (k + 1) i
    by_cases hin : i < n
    · have hzo := hgr.size
      have holen := offersTo_len l (k + 1) i
      obtain ⟨j, hj⟩ : ∃ j, j = (offersTo l (k + 1) i).2 := ⟨_, rfl⟩
      rw [← hj] at hsr hjb
      have HJ := Lib.hid hj
      have HOWN := Lib.hid hown
      have HOL := Lib.hid holen
      clear hj hown holen
      obtain ⟨K, hK⟩ : ∃ K, K = Utf8.encode (97 + (i : Int)) := ⟨_, rfl⟩
      have q1 : ∀ w : World, (convert 3 21 (.int .i64 (97 + (i : Int)))).run Tryz.prog w = .ok (.int .i32 (97 + (i : Int))) w := by
        intro w
        have e : Tryz.prog.intKind 21 = .i32 := by kernel_rfl
        have e2 : IntKind.i32.wrap (97 + (i : Int)) = 97 + (i : Int) := by
          unfold IntKind.wrap
          simp [IntKind.bits, IntKind.signed]
          omega
        have := run_convert_int (P := Tryz.prog) (w := w) 3 21 .i64 (97 + (i : Int)) (by kernel_rfl) (by kernel_rfl)
        rw [e, e2] at this
        exact this
      have q2 : ∀ w : World, (convert 21 9 (.int .i32 (97 + (i : Int)))).run Tryz.prog w = .ok (.string K) w := by
        intro w
        rw [hK]
        exact run_convert_int_string w 21 9 .i32 (97 + (i : Int)) (by kernel_rfl) (by kernel_rfl)
      have HK := Lib.hid hK
      clear hK
      go_wp2_with (fail)
      refine (one_any l j offGroups p wo hsr (by omega) (by decide) (by decide)).mono ?_
      rintro e w3 ⟨rfl, hs3, hg3⟩
      have hz3 := hg3.size
      obtain ⟨G, hG⟩ : ∃ G, G = oneS l j offGroups := ⟨_, rfl⟩
      rw [← hG]
      have HG := Lib.hid hG
      clear hG q1 q2 hsr
      go_wp2_with (fail)
      have hO4 := heap_alloc_new w3 (.cells #[.string K, .string G, .slice none 0 0, .slice none 0 0, .slice none 0 0] 119)
      have hg4 := gr_alloc (gr_refl w3 none) (.cells #[.string K, .string G, .slice none 0 0, .slice none 0 0, .slice none 0 0] 119)
      obtain ⟨w4, hw4⟩ : ∃ w4, w4 = w3.alloc (.cells #[.string K, .string G, .slice none 0 0, .slice none 0 0, .slice none 0 0] 119) := ⟨_, rfl⟩
      rw [← hw4] at hO4 hg4
      rw [← hw4]
      have hz4 : w4.heap.size = w3.heap.size + 1 := by rw [hw4]; simp
      obtain ⟨O, hO⟩ : ∃ O, O = w3.heap.size := ⟨_, rfl⟩
      rw [← hO] at hO4 hz4 hz3
      rw [← hO, ← hz4]
      have HO4 := Lib.hid hO4
      have hs4 := hs3.keep0 hg4
      have hgo4 := gr_trans hg3 (gr_weak hg4 _)
      clear hw4 hO hO4 hs3 hg3 hg4
      go_fit (pick_any l (j + 1) [3, 5, 9] p w4 hs4 (by omega) (by decide) (by decide))
      rintro e w5 ⟨rfl, hs5, hg5⟩
      have hpb := pickM_mem l (j + 1) [3, 5, 9] (by decide)
      simp only [List.mem_cons, List.not_mem_nil, or_false] at hpb
      obtain ⟨P0, hP0⟩ : ∃ P0, P0 = pickM l (j + 1) [3, 5, 9] := ⟨_, rfl⟩
      rw [← hP0] at hpb ⊢
      have hpb0 : 3 ≤ P0 := by omega
      have hpb1 : P0 ≤ 9 := by omega
      have HP0 := Lib.hid hP0
      clear hpb hP0
      go_wp2_with (fail)
      refine (range_any l (j + 1 + 1) 1 3 p w5 hs5 (by omega) (by decide) (by decide) (by decide)).mono ?_
      rintro e w6 ⟨rfl, hs6, hg6⟩
      obtain ⟨hm1, hm3, hme⟩ := offN_le l j
      obtain ⟨m, hmm⟩ : ∃ m, m = offN l j := ⟨_, rfl⟩
      rw [show (1 : Int) + nxt l (j + 1 + 1) (3 - 1 + 1) = (m : Int) by rw [hmm, hme]]
      rw [← hmm] at hm1 hm3
      have HM := Lib.hid hmm
      have hgo6 := gr_trans (gr_trans hgo4 hg5) hg6
      have hO6 := (hg6.block O (by have := hg5.size; omega) (by simp; omega)).trans ((hg5.block O (by omega) (by simp; omega)).trans HO4.out)
      clear hme hmm hs4 hs5 hg5 hg6 HO4 hgo4
      go_wp2_with (fail)
      go_loopw [8, 29] (fun q c wr => ∃ t : Nat, t ≤ m ∧ c = .int .i64 t ∧ q = .int .i64 (profTo l (j + 3) P0 t).2 ∧ (∃ pv, wr.heap[O]? = some (.cells #[.string K, .string G, pv, .slice none 0 0, .slice none 0 0] 119 (0, 0)) ∧ wr.ownsRow wo.heap.size 3 1 pv t (ints (profTo l (j + 3) P0 t).1)) ∧ StreamAt wr p lw l (j + 3 + t) ∧ wo.grownBy wr (some p)) (fun _ c _ => m - (intOf c).toNat)
      case atStart => exact ⟨0, Nat.zero_le _, rfl, rfl, ⟨_, hO6, World.ownsRow_nil _ _ _ _⟩, hs6, hgo6⟩
      case round =>
        clear hO6 hs6 hgo6
        obtain ⟨t, ht, rfl, rfl, ⟨pv, hOr, hpv⟩, hsr, hgor⟩ := hrel
        obtain ⟨wi, rfl⟩ : ∃ wi : World, wi = wr := ⟨_, rfl⟩
        obtain ⟨pa, pc, rfl, _, _, _, _⟩ := own_shape hpv
        have hzi := hgor.size
        have hOl := lt_of_block hOr
        have hplen := profTo_len l (j + 3) P0 t
        obtain ⟨d0, d1, d2, d3, d4⟩ := blk5 hOr
        by_cases htm : t < m
        · have hq := profTo_bd l (j + 3) P0 t
          obtain ⟨q, hqe⟩ : ∃ q, q = (profTo l (j + 3) P0 t).2 := ⟨_, rfl⟩
          obtain ⟨L, hLe⟩ : ∃ L, L = (profTo l (j + 3) P0 t).1 := ⟨_, rfl⟩
          rw [← hqe] at hq ⊢
          rw [← hLe] at hpv hplen
          have HQ := Lib.hid hqe
          have HL := Lib.hid hLe
          have HPV := Lib.hid hpv
          have HOR := Lib.hid hOr
          clear hqe hLe hpv hOr d0 d1 d3 d4 hplen
          go_wp2_with (at_builtin; refine wpList_app1F eInt rfl _ _ rfl wo.heap.size _ t (ints L) rfl wi #[.int .i64 q] rfl HPV.out _ rfl rfl rfl rfl (by omega) (by omega) ?_; intro v7 w7 hown7 hg7 hlt7 hf7; have hO7 := (hg7.block O hOl (fun e => own_ne HPV.out HOR.out (by decide) e.symm)).trans HOR.out; obtain ⟨e2, z2⟩ : w7.cell? ⟨O, 2, none⟩ = some (.slice pa t pc) ∧ w7.frozen? ⟨O, 2, none⟩ = false := ⟨blkC hO7 2 rfl, blkF hO7 2⟩; have HO7 := Lib.hid hO7; clear hO7; obtain ⟨g7, cg7, rfl, _, _, _, _⟩ := own_some hown7 (by omega))
          have hs7 := hsr.keep hg7 (fun q hq => by have := hlt7 q hq; omega)
          have hst := heap_setCell_same w7 O 2 _ _ (.slice (some ⟨g7, 0, none⟩) (t + 1) cg7) HO7.out
          have hgs : w7.grownBy _ (some O) := gr_set (q := ⟨O, 2, none⟩) (gr_refl w7 (some O)) rfl (.slice (some ⟨g7, 0, none⟩) (t + 1) cg7)
          have hown8 := own_keep hown7 hgs (.inr (own_ne hown7 HO7.out (by decide)))
          have hs8 := hs7.keep hgs (fun q hq => by cases hq; omega)
          have hgo8 := gr_grown (gr_grown hgor hg7 (fun q hq => hlt7 q hq)) hgs (fun q hq => by cases hq; omega)
          obtain ⟨w8, hw8⟩ : ∃ w8, w8 = w7.setCell ⟨O, 2, none⟩ (.slice (some ⟨g7, 0, none⟩) (t + 1) cg7) := ⟨_, rfl⟩
          have hz8 : w8.heap.size = w7.heap.size := by rw [hw8]; simp
          rw [← hw8] at hst hown8 hs8 hgo8
          rw [← hw8, ← hz8]
          have HST := Lib.hid hst
          have HOWN8 := Lib.hid hown8
          have hO8l := lt_of_block hst
          clear hw8 hst hgs hown8 hown7 hs7 hsr hg7 HO7 e2 z2
          go_fit (pick_any l (j + 3 + t) [0, 1, 2, 4] p w8 hs8 (by omega) (by decide) (by decide))
          rintro e w9 ⟨rfl, hs9, hg9⟩
          have hdb := pickM_mem l (j + 3 + t) [0, 1, 2, 4] (by decide)
          simp only [List.mem_cons, List.not_mem_nil, or_false] at hdb
          obtain ⟨D, hD⟩ : ∃ D, D = pickM l (j + 3 + t) [0, 1, 2, 4] := ⟨_, rfl⟩
          rw [← hD] at hdb ⊢
          have hd0 : 0 ≤ D := by omega
          have hd4 : D ≤ 4 := by omega
          have HD := Lib.hid hD
          clear hdb hD
          go_wp2_with (fail)
          go_roundw
          case rel =>
            refine ⟨t + 1, by omega, by go_num, ?_, ⟨_, (hg9.block O hO8l (by simp; omega)).trans HST.out, ?_⟩, hs9, gr_trans hgo8 hg9⟩
            · simp only [profTo]
              rw [← HQ.out, ← HD.out]
            · have := own_keepS HOWN8.out hg9 (by omega)
              simp only [profTo]
              rw [← HQ.out, ← HL.out]
              simpa [ints] using this
          case measure => simp [intOf]; omega
        · obtain rfl : t = m := by omega
          have HPV := Lib.hid hpv
          have HOR := Lib.hid hOr
          clear hpv hOr hplen d0 d1 d2 d3 d4
          go_wp2_with (fail)
          go_fit (some_any l (j + 3 + t) 4 offNuts p wi hsr (by omega) (by decide) (by decide))
          rintro e w7 ⟨v2, rfl, ho2, hs7, hg7⟩
          have hs7 : StreamAt w7 p lw l (j + 5 + t) := by
            have e : j + 3 + t + offNuts.length = j + 5 + t := by show j + 3 + t + 2 = _; omega
            rw [← e]; exact hs7
          have hz7 := hg7.size
          obtain ⟨a2, c2, rfl, _, _, _, _⟩ := own_shape ho2
          have HO2 := Lib.hid ho2
          clear ho2 hsr
          go_wp2_with (fail)
          go_fit (some_any l (j + 5 + t) 4 offNuts p w7 hs7 (by omega) (by decide) (by decide))
          rintro e w8 ⟨v3, rfl, ho3, hs8, hg8⟩
          have hs8 : StreamAt w8 p lw l (j + 7 + t) := by
            have e : j + 5 + t + offNuts.length = j + 7 + t := by show j + 5 + t + 2 = _; omega
            rw [← e]; exact hs8
          have hz8 := hg8.size
          obtain ⟨a3, c3, rfl, _, _, _, _⟩ := own_shape ho3
          have hO8 := (hg8.block O (by omega) (by simp; omega)).trans ((hg7.block O hOl (by simp; omega)).trans HOR.out)
          have hpv8 := own_keepS (own_keepS HPV.out hg7 (by omega)) hg8 (by omega)
          have ho28 := own_keepS HO2.out hg8 (by omega)
          have hgo8 := gr_trans (gr_trans hgor hg7) hg8
          obtain ⟨M2, hM2⟩ : ∃ M2, M2 = someM l (j + 3 + t) 4 offNuts := ⟨_, rfl⟩
          obtain ⟨M3, hM3⟩ : ∃ M3, M3 = someM l (j + 5 + t) 4 offNuts := ⟨_, rfl⟩
          obtain ⟨L, hL⟩ : ∃ L, L = (profTo l (j + 3) P0 t).1 := ⟨_, rfl⟩
          have hLl : L.length = t := by rw [hL]; exact profTo_len _ _ _ _
          rw [← hM2] at ho28
          rw [← hM3] at ho3
          rw [← hL] at hpv8
          rw [← hM2, ← hM3]
          have st1 := heap_setCell_same w8 O 3 _ _ (.slice a2 M2.length c2) hO8
          have st2 := heap_setCell_same _ O 4 _ _ (.slice a3 M3.length c3) st1
          have gs : w8.grownBy ((w8.setCell ⟨O, 3, none⟩ (.slice a2 M2.length c2)).setCell ⟨O, 4, none⟩ (.slice a3 M3.length c3)) (some O) := gr_set (q := ⟨O, 4, none⟩) (gr_set (q := ⟨O, 3, none⟩) (gr_refl w8 (some O)) rfl _) rfl _
          have hgo9 := gr_grown hgo8 gs (fun q hq => by cases hq; omega)
          have hown9 := HOWN.out.keepS hgo9 hlt (fun y d h => OffR.keepS hgo9 hlt y d h)
          obtain ⟨cs, hrow, hpush⟩ := hown9.push
          have hx9 : OffR w.heap.size ((w8.setCell ⟨O, 3, none⟩ (.slice a2 M2.length c2)).setCell ⟨O, 4, none⟩ (.slice a3 M3.length c3)) ⟨K, G, L, M2, M3⟩ [.string K, .string G, .slice pa t pc, .slice a2 M2.length c2, .slice a3 M3.length c3] := by
            refine ⟨_, _, _, rfl, ?_, ?_, ?_⟩
            · show World.ownsRow _ _ _ _ _ L.length _
              rw [hLl]
              exact own_base (own_keep hpv8 gs (.inr (own_ne hpv8 hO8 (by decide)))) hzo
            · exact own_base (own_keep ho28 gs (.inr (own_ne ho28 hO8 (by decide)))) (by omega)
            · exact own_base (own_keep ho3 gs (.inr (own_ne ho3 hO8 (by decide)))) (by omega)
          have hs9 := hs8.keep gs (fun q hq => by cases hq; omega)
          have HX : Hid (offerAt l j i = ⟨K, G, L, M2, M3⟩) := by
            show _ = _
            unfold offerAt
            rw [← HP0.out, ← HM.out, ← HG.out, ← HK.out, ← hM2, ← hM3, ← hL]
          have hgr9 := gr_trans hgr hgo9
          have HROW := Lib.hid hrow; have HPUSH := Lib.hid hpush; have HX9 := Lib.hid hx9
          have HO8 := Lib.hid hO8
          have holb : (offersTo l (k + 1) i).1.length + 1 ≤ 137438953472 := by have := HOL.out; omega
          obtain ⟨d0, d1, d2, d3, d4⟩ := blk5 hO8
          have z3 := blkF hO8 3
          have z4 := blkF hO8 4
          have hwl : w.heap.size ≤ w8.heap.size := by omega
          clear hM2 hM3 hL hLl st1 st2 hown9 hrow hpush hx9 hO8 hpv8 ho28 ho3 hgo8 hgr hgor hgo9 hs8 hs7 hg7 hg8 gs
          go_wp2_with (at_builtin; refine wpList_app1F eOffer rfl _ _ rfl w.heap.size _ (offersTo l (k + 1) i).1.length (flat id cs) rfl ((w8.setCell ⟨O, 3, none⟩ (.slice a2 M2.length c2)).setCell ⟨O, 4, none⟩ (.slice a3 M3.length c3)) #[.string K, .string G, .slice pa t pc, .slice a2 M2.length c2, .slice a3 M3.length c3] rfl HROW.out _ rfl (by simp) rfl rfl holb (by simp; omega) ?_; intro v10 w10 hown10 hg10 hlt10 hf10)
          go_roundw
          case rel =>
            have hx10 := OffR.keepU HROW.out (by decide) (by decide) hg10 _ _ HX9.out
            have hp10 := HPUSH.out w10 v10 _ _ hown10 rfl (fun y d h => OffR.keepU HROW.out (by decide) (by decide) hg10 y d h) hx10
            refine ⟨i + 1, by omega, by go_num, ?_, ?_, gr_grown hgr9 hg10 (fun q hq => hlt10 q hq)⟩
            · show OwnNest _ _ _ _ _ _ ((offersTo l (k + 1) i).1 ++ [offerAt l (offersTo l (k + 1) i).2 i])
              rw [← HJ.out, HX.out]
              exact hp10
            · have := hs9.keep hg10 (fun q hq => by have := hlt10 q hq; omega)
              show StreamAt _ _ _ _ ((offersTo l (k + 1) i).2 + 7 + offN l (offersTo l (k + 1) i).2)
              rw [← HJ.out, ← HM.out]
              exact this
          case measure => simp [intOf]; omega
    · obtain rfl : i = n := by omega
      obtain ⟨va, vc, rfl, _, _, _, _⟩ := hown.shape
      have HOWN := Lib.hid hown
      clear hown
      go_wp2_with (fail)
      go_ret
      refine ⟨_, rfl, ?_, ?_, hgr⟩
      · unfold offersM
        rw [← HN.out]
        exact HOWN.out
      · unfold offersK
        rw [← HN.out]
        exact hsr
end Go.Proofs.YthikknnadmebgaaGreatDoor

/-! Layouts, as the stream makes them. -/
namespace Go.Proofs.YthikknnadmebgaaGreatDoor
open Go.RowKit
variable {lw : Nat}

theorem offKey {B : Nat} {w : World} {a : Option Addr} {os : List Offer} (h : NestAt (OffR B) w 5 a os) (i : Nat) (hi : i < os.length) : ∃ b off, a = some ⟨b, off, none⟩ ∧ w.cell? ⟨b, off + i * 5, none⟩ = some (.string os[i].key) := by
  obtain ⟨b, off, c, rfl, _, ⟨v1, v2, v3, rfl, _⟩, hc⟩ := h.at i hi
  exact ⟨b, off, rfl, hc 0 _ rfl⟩
def layE (l : List Int) (k : Nat) (ks : List ByteArray) : ByteArray × Nat :=
  if ks.length = 0 then (⟨#[]⟩, k) else if flipM l k 4 then (⟨#[]⟩, k + 1) else (ks.getD (nxt l (k + 1) ks.length).toNat ⟨#[]⟩, k + 2)
def layTo (l : List Int) (k : Nat) (ks : List ByteArray) : Nat → List ByteArray × Nat
  | 0 => ([], k)
  | i + 1 => ((layTo l k ks i).1 ++ [(layE l (layTo l k ks i).2 ks).1], (layE l (layTo l k ks i).2 ks).2)
theorem layE_k (l : List Int) (k : Nat) (ks : List ByteArray) : (layE l k ks).2 ≤ k + 2 := by
  unfold layE
  split
  · omega
  · split <;> simp
theorem layTo_k (l : List Int) (k : Nat) (ks : List ByteArray) (i : Nat) : (layTo l k ks i).2 ≤ k + 2 * i := by
  induction i with
  | zero => simp [layTo]
  | succ i ih => have := layE_k l (layTo l k ks i).2 ks; simp only [layTo]; omega
theorem layTo_len (l : List Int) (k : Nat) (ks : List ByteArray) (i : Nat) : (layTo l k ks i).1.length = i := by
  induction i with
  | zero => rfl
  | succ i ih => simp [layTo, ih]
def layOne : List ByteArray := [⟨#[]⟩, ⟨#[97]⟩, ⟨#[122, 122]⟩, ⟨#[90]⟩]
def laySet : List ByteArray := [⟨#[122, 122]⟩, ⟨#[90]⟩, ⟨#[97]⟩]
def layA (l : List Int) (x : List ByteArray × Nat) : List ByteArray × Nat := if flipM l x.2 15 then (x.1 ++ [oneS l (x.2 + 1) layOne], x.2 + 2) else (x.1, x.2 + 1)
def layB (l : List Int) (x : List ByteArray × Nat) : List ByteArray × Nat :=
  if flipM l x.2 15 then (if x.1.length = 0 then (x.1, x.2 + 1) else (x.1.set (nxt l (x.2 + 1) x.1.length).toNat (oneS l (x.2 + 2) laySet), x.2 + 3)) else (x.1, x.2 + 1)
def layM (l : List Int) (k n : Nat) (ks : List ByteArray) : List ByteArray := (layB l (layA l (layTo l k ks n))).1
def layK (l : List Int) (k n : Nat) (ks : List ByteArray) : Nat := (layB l (layA l (layTo l k ks n))).2
theorem layA_k (l : List Int) (x : List ByteArray × Nat) : (layA l x).2 ≤ x.2 + 2 ∧ (layA l x).1.length ≤ x.1.length + 1 := by
  unfold layA
  split <;> simp
theorem layB_k (l : List Int) (x : List ByteArray × Nat) : (layB l x).2 ≤ x.2 + 3 ∧ (layB l x).1.length = x.1.length := by
  unfold layB
  split
  · split <;> simp
  · simp
theorem layM_len (l : List Int) (k n : Nat) (ks : List ByteArray) : (layM l k n ks).length ≤ n + 1 := by
  have h1 := layB_k l (layA l (layTo l k ks n))
  have h2 := layA_k l (layTo l k ks n)
  have h3 := layTo_len l k ks n
  unfold layM
  omega
theorem layK_le (l : List Int) (k n : Nat) (ks : List ByteArray) : layK l k n ks ≤ k + 2 * n + 5 := by
  have h1 := layB_k l (layA l (layTo l k ks n))
  have h2 := layA_k l (layTo l k ks n)
  have h3 := layTo_k l k ks n
  unfold layK
  omega
def keysOf (os : List Offer) : List ByteArray := os.map Offer.key
def LayoutPost (l : List Int) (k n p lw : Nat) (ks : List ByteArray) (w : World) (e : Ending) (w' : World) : Prop :=
  ∃ v, e = .returned v ∧ w'.ownsRow w.heap.size 9 1 v (layM l k n ks).length (strs (layM l k n ks)) ∧ StreamAt w' p lw l (layK l k n ks) ∧ w.grownBy w' (some p)
set_option maxRecDepth 100000 in
set_option maxHeartbeats 4000000 in
theorem layout_any (l : List Int) (k n : Nat) (os : List Offer) (la : Option Addr) (lc B p : Nat) (w : World) (hs : StreamAt w p lw l k) (hk : k < 800000000) (hn : n ≤ 60) (ho : OwnNest (OffR B) w B 119 5 (.slice la os.length lc) os) (hp : p < B) (hol : os.length ≤ 1000) :
    Calls Tryz.prog 22 #[.pointer (some ⟨p, 0, none⟩), .int .i64 n, .slice la os.length lc] w (LayoutPost l k n p lw (keysOf os) w) := by
  have hlt := hs.lt
  have hm1 : ¬ (70 : Int) < (n : Int) := by omega
  have HO := Lib.hid ho
  clear ho
  obtain ⟨ks, hks⟩ : ∃ ks, ks = keysOf os := ⟨_, rfl⟩
  have hkl : ks.length = os.length := by rw [hks]; simp [keysOf]
  have HKS := Lib.hid hks
  have HKL := Lib.hid hkl
  rw [← hks]
  clear hks hkl
  go_enter Tryz.func22, Tryz.ntmps22
  go_wp2_with (fail)
  go_loopw [7, 8, 12] (fun v _ c wr => ∃ i : Nat, i ≤ n ∧ c = .int .i64 i ∧ wr.ownsRow w.heap.size 9 1 v i (strs (layTo l k ks i).1) ∧ StreamAt wr p lw l (layTo l k ks i).2 ∧ w.grownBy wr (some p)) (fun _ _ c _ => n - (intOf c).toNat)
  case atStart => exact ⟨0, Nat.zero_le _, rfl, World.ownsRow_nil _ _ _ _, hs, gr_refl _ _⟩
  case round =>
    obtain ⟨i, hi, rfl, hown, hsr, hgr⟩ := hrel
    obtain ⟨wo, rfl⟩ : ∃ wo : World, wo = wr := ⟨_, rfl⟩
    have hjb := layTo_k l k ks i
    have hll := layTo_len l k ks i
    obtain ⟨j, hj⟩ : ∃ j, j = (layTo l k ks i).2 := ⟨_, rfl⟩
    obtain ⟨L, hL⟩ : ∃ L, L = (layTo l k ks i).1 := ⟨_, rfl⟩
    have hgsz := hgr.size
    by_cases hin : i < n
    · have htl : Hid (∀ (s : ByteArray) (j' : Nat) (v3 : Value) (w3 : World), layE l j ks = (s, j') → w3.ownsRow w.heap.size 9 1 v3 (i + 1) (strs L ++ [.string s]) → w3.ownsRow w.heap.size 9 1 v3 (i + 1) (strs (layTo l k ks (i + 1)).1) ∧ j' = (layTo l k ks (i + 1)).2) := by
        show ∀ (s : ByteArray) (j' : Nat) (v3 : Value) (w3 : World), _ → _ → _
        intro s j' v3 w3 he ho
        simp only [layTo]
        rw [← hj, ← hL, he]
        exact ⟨by simpa [strs] using ho, rfl⟩
      rw [← hj] at hsr hjb
      rw [← hL] at hown hll
      have HOWN := Lib.hid hown
      have hkl := HKL.out
      have HE : Hid (layE l j ks = if ks.length = 0 then (⟨#[]⟩, j) else if flipM l j 4 then (⟨#[]⟩, j + 1) else (ks.getD (nxt l (j + 1) ks.length).toNat ⟨#[]⟩, j + 2)) := rfl
      clear hj hL hown hll
      by_cases h0 : os.length = 0
      · have HE2 : Hid (layE l j ks = (⟨#[]⟩, j)) := by show _ = _; rw [HE.out, if_pos (by omega)]
        clear hkl
        go_wp2_with (at_builtin; refine wpList_app1F eStr rfl _ _ rfl w.heap.size _ i (strs L) rfl wo #[.string ⟨#[]⟩] rfl HOWN.out _ rfl rfl rfl rfl (by omega) (by omega) ?_; intro v3 w3 hown3 hg3 hlt3 hf3)
        go_roundw
        case rel =>
          obtain ⟨q1, q2⟩ := htl.out _ _ v3 w3 HE2.out hown3
          first
            | exact ⟨i + 1, by omega, by go_num, q1, by rw [← q2]; exact hsr.keep hg3 (fun q hq => by have := hlt3 q hq; omega), gr_grown hgr hg3 (fun q hq => hlt3 q hq)⟩
            | exact ⟨_, _, _, ⟨i + 1, by omega, by go_num, q1, by rw [← q2]; exact hsr.keep hg3 (fun q hq => by have := hlt3 q hq; omega), gr_grown hgr hg3 (fun q hq => hlt3 q hq)⟩, rfl, rfl, rfl⟩
        case measure => simp [intOf]; omega
      · have h0' : 0 < os.length := by omega
        go_wp2_with (fail)
        refine (flip_any l j 4 p wo hsr (by omega) (by decide)).mono ?_
        rintro e w2 ⟨rfl, hs2, hg2⟩
        have hown2 := own_keepS HOWN.out hg2 (by omega)
        have hgr2 := gr_trans hgr hg2
        have hz2 := hg2.size
        cases hf : flipM l j 4 with
        | true =>
          have HE2 : Hid (layE l j ks = (⟨#[]⟩, j + 1)) := by show _ = _; rw [HE.out, if_neg (by omega), if_pos hf]
          clear hf hkl
          go_wp2_with (at_builtin; refine wpList_app1F eStr rfl _ _ rfl w.heap.size _ i (strs L) rfl w2 #[.string ⟨#[]⟩] rfl hown2 _ rfl rfl rfl rfl (by omega) (by omega) ?_; intro v3 w3 hown3 hg3 hlt3 hf3)
          go_roundw
          case rel =>
            obtain ⟨q1, q2⟩ := htl.out _ _ v3 w3 HE2.out hown3
            first
              | exact ⟨i + 1, by omega, by go_num, q1, by rw [← q2]; exact hs2.keep hg3 (fun q hq => by have := hlt3 q hq; omega), gr_grown hgr2 hg3 (fun q hq => hlt3 q hq)⟩
              | exact ⟨_, _, _, ⟨i + 1, by omega, by go_num, q1, by rw [← q2]; exact hs2.keep hg3 (fun q hq => by have := hlt3 q hq; omega), gr_grown hgr2 hg3 (fun q hq => hlt3 q hq)⟩, rfl, rfl, rfl⟩
          case measure => simp [intOf]; omega
        | false =>
          have HE2 : Hid (layE l j ks = (ks.getD (nxt l (j + 1) ks.length).toNat ⟨#[]⟩, j + 2)) := by show _ = _; rw [HE.out, if_neg (by omega), if_neg (by rw [hf]; decide)]
          clear hf
          rw [hkl] at HE2
          clear hkl
          go_wp2_with (fail)
          refine (next_any l (j + 1) (os.length : Int) p w2 hs2 (by omega) (by omega)).mono ?_
          rintro e w3 ⟨rfl, hs3, hg3⟩
          have hnr := nxt_range l (j + 1) (os.length : Int) (by omega)
          obtain ⟨m, hm⟩ : ∃ m : Nat, nxt l (j + 1) (os.length : Int) = m := ⟨(nxt l (j + 1) (os.length : Int)).toNat, by omega⟩
          rw [hm] at HE2
          rw [hm]
          have hml : m < os.length := by omega
          have hgr3 := gr_trans hgr2 hg3
          have hown3 := own_keepS hown2 hg3 (by omega)
          have hN := HO.out.keepS hgr3 hp (fun y d h => OffR.keepS hgr3 hp y d h)
          obtain ⟨a', c', he', _, _, hna, _⟩ := hN.shape
          cases he'
          obtain ⟨b, off, rfl, hcell⟩ := offKey hna m hml
          obtain ⟨K, hK⟩ : ∃ K, K = os[m].key := ⟨_, rfl⟩
          rw [← hK] at hcell
          have hKe : ks.getD m ⟨#[]⟩ = K := by
            rw [hK, HKS.out]
            simp [keysOf, List.getD_eq_getElem?_getD, List.getElem?_eq_getElem hml]
          have HE3 : Hid (layE l j ks = (K, j + 2)) := by show _ = _; rw [HE2.out]; simp only [Int.toNat_natCast]; rw [hKe]
          have hz3 := hg3.size
          clear hnr hm hN hna hK hKe
          go_wp2_with (at_builtin; refine wpList_app1F eStr rfl _ _ rfl w.heap.size _ i (strs L) rfl w3 #[.string K] rfl hown3 _ rfl rfl rfl rfl (by omega) (by omega) ?_; intro v4 w4 hown4 hg4 hlt4 hf4)
          go_roundw
          case rel =>
            obtain ⟨q1, q2⟩ := htl.out _ _ v4 w4 HE3.out hown4
            first
              | exact ⟨i + 1, by omega, by go_num, q1, by rw [← q2]; exact hs3.keep hg4 (fun q hq => by have := hlt4 q hq; omega), gr_grown hgr3 hg4 (fun q hq => hlt4 q hq)⟩
              | exact ⟨_, _, _, ⟨i + 1, by omega, by go_num, q1, by rw [← q2]; exact hs3.keep hg4 (fun q hq => by have := hlt4 q hq; omega), gr_grown hgr3 hg4 (fun q hq => hlt4 q hq)⟩, rfl, rfl, rfl⟩
          case measure => simp [intOf]; omega
    · obtain rfl : i = n := by omega
      obtain ⟨va, vc, rfl, _, _, _, _⟩ := own_shape hown
      have hM : Hid (layM l k i ks = (layB l (layA l (layTo l k ks i))).1 ∧ layK l k i ks = (layB l (layA l (layTo l k ks i))).2) := ⟨rfl, rfl⟩
      have hP : layTo l k ks i = (L, j) := by rw [hL, hj]
      rw [hP] at hM
      rw [← hj] at hsr hjb
      rw [← hL] at hown hll
      have HOWN := Lib.hid hown
      clear hj hL hown hP
      have HLL := Lib.hid hll
      clear hll
      go_wp2_with (fail)
      refine (flip_any l j 15 p wo hsr (by omega) (by decide)).mono ?_
      rintro e w2 ⟨rfl, hs2, hg2⟩
      have hown2 := own_keepS HOWN.out hg2 (by omega)
      have hgr2 := gr_trans hgr hg2
      have hz2 := hg2.size
      cases hf : flipM l j 15 with
      | false =>
        have HM1 : Hid (layM l k i ks = (layB l (L, j + 1)).1 ∧ layK l k i ks = (layB l (L, j + 1)).2) := by
          show _ ∧ _
          rw [hM.out.1, hM.out.2]
          unfold layA
          rw [if_neg (by show ¬ flipM l j 15 = true; rw [hf]; decide)]
          exact ⟨rfl, rfl⟩
        clear hf hM
        go_wp2_with (fail)
        go_fit (flip_any l (j + 1) 15 p w2 hs2 (by omega) (by decide))
        rintro e wf ⟨rfl, hsf, hgf⟩
        have hownf := own_keepS hown2 hgf (by omega)
        have hgrf := gr_trans hgr2 hgf
        have hzf := hgf.size
        cases hb : flipM l (j + 1) 15 with
        | false =>
          have HM2 : Hid (layM l k i ks = L ∧ layK l k i ks = j + 1 + 1) := by
            show _ ∧ _
            rw [HM1.out.1, HM1.out.2]
            unfold layB
            rw [if_neg (by show ¬ flipM l (j + 1) 15 = true; rw [hb]; decide)]
            exact ⟨rfl, rfl⟩
          clear hb
          go_wp2_with (fail)
          go_ret
          exact ⟨.slice va i vc, rfl, by rw [HM2.out.1, HLL.out]; exact hownf, by rw [HM2.out.2]; exact hsf, hgrf⟩
        | true =>
          by_cases hz0 : i = 0
          · have HM2 : Hid (layM l k i ks = L ∧ layK l k i ks = j + 1 + 1) := by
              show _ ∧ _
              rw [HM1.out.1, HM1.out.2]
              unfold layB
              rw [if_pos (by exact hb), if_pos (by show List.length (L) = 0; rw [HLL.out]; exact hz0)]
              exact ⟨rfl, rfl⟩
            have hlf : ¬ 0 < i := by omega
            have HZ := Lib.hid hz0
            clear hb hz0
            go_wp2_with (fail)
            go_ret
            exact ⟨.slice va i vc, rfl, by rw [HM2.out.1, HLL.out]; exact hownf, by rw [HM2.out.2]; exact hsf, hgrf⟩
          · have hlf : 0 < i := by omega
            have HM2 : Hid (layM l k i ks = List.set (L) (nxt l (j + 1 + 1) ((i : Nat) : Int)).toNat (oneS l (j + 1 + 2) laySet) ∧ layK l k i ks = j + 1 + 3) := by
              show _ ∧ _
              rw [HM1.out.1, HM1.out.2]
              unfold layB
              rw [if_pos (by exact hb), if_neg (by show ¬ List.length (L) = 0; rw [HLL.out]; exact hz0)]
              simp only [HLL.out]
              exact ⟨trivial, trivial⟩
            clear hb
            obtain ⟨gq, gc, hq, _, _, _, _⟩ := own_some hownf hlf
            cases hq
            go_wp2_with (fail)
            go_fit (next_any l (j + 1 + 1) ((i : Nat) : Int) p wf hsf (by omega) (by omega))
            rintro e wg ⟨rfl, hsg, hgg⟩
            have hnr := nxt_range l (j + 1 + 1) ((i : Nat) : Int) (by omega)
            obtain ⟨m, hm⟩ : ∃ m : Nat, nxt l (j + 1 + 1) ((i : Nat) : Int) = m := ⟨(nxt l (j + 1 + 1) ((i : Nat) : Int)).toNat, by omega⟩
            rw [hm] at HM2
            rw [hm]
            have hml : m < i := by omega
            have howng := own_keepS hownf hgg (by omega)
            have hgrg := gr_trans hgrf hgg
            have hzg := hgg.size
            clear hnr hm
            go_wp2_with (fail)
            go_fit (one_any l (j + 1 + 1 + 1) laySet p wg hsg (by omega) (by decide) (by decide))
            rintro e wh ⟨rfl, hsh, hgh⟩
            have hownh := own_keepS howng hgh (by omega)
            have hgrh := gr_trans hgrg hgh
            obtain ⟨S, hS⟩ : ∃ S, S = oneS l (j + 1 + 1 + 1) laySet := ⟨_, rfl⟩
            rw [← hS]
            have c0 : ∃ u, wh.cell? ⟨gq, m, none⟩ = some u := by
              have := hownh.cellAt m (by omega)
              rw [this]
              exact ⟨_, List.getElem?_eq_getElem (by rw [strs_length, HLL.out]; exact hml)⟩
            obtain ⟨u0, c0⟩ := c0
            have f0 := hownh.frozenAt m
            obtain ⟨hst, hgst⟩ := hownh.stored m (.string S)
            have hqp : p < gq := by omega
            have hqw : w.heap.size ≤ gq := by omega
            have HS := Lib.hid hS
            clear hS
            go_wp2_with (fail)
            go_ret
            refine ⟨_, rfl, ?_, ?_, ?_⟩
            · rw [HM2.out.1, List.length_set, HLL.out]
              have e : strs (List.set (L) m S) = List.set (strs (L)) m (.string S) := by simp [strs, List.map_set]
              rw [show oneS l (j + 1 + 2) laySet = S from HS.out.symm, Int.toNat_natCast, e]
              exact hst
            · rw [HM2.out.2]
              exact hsh.keep hgst (fun q hq => by cases hq; omega)
            · exact gr_grown hgrh hgst (fun q hq => by cases hq; omega)

      | true =>
        have HM1 : Hid (layM l k i ks = (layB l (L ++ [oneS l (j + 1) layOne], j + 2)).1 ∧ layK l k i ks = (layB l (L ++ [oneS l (j + 1) layOne], j + 2)).2) := by
          show _ ∧ _
          rw [hM.out.1, hM.out.2]
          unfold layA
          rw [if_pos (by show flipM l j 15 = true; exact hf)]
          exact ⟨rfl, rfl⟩
        clear hf hM
        go_wp2_with (fail)
        go_fit (one_any l (j + 1) layOne p w2 hs2 (by omega) (by decide) (by decide))
        rintro e w3 ⟨rfl, hs3, hg3⟩
        have hown3 := own_keepS hown2 hg3 (by omega)
        have hgr3 := gr_trans hgr2 hg3
        have hz3 := hg3.size
        obtain ⟨T, hT⟩ : ∃ T, T = oneS l (j + 1) layOne := ⟨_, rfl⟩
        rw [← hT] at HM1
        rw [← hT]
        clear hT
        go_wp2_with (at_builtin; refine wpList_app1F eStr rfl _ _ rfl w.heap.size _ i (strs L) rfl w3 #[.string T] rfl hown3 _ rfl rfl rfl rfl (by omega) (by omega) ?_; intro v4 w4 hown4 hg4 hlt4 hf4; have hown4 : w4.ownsRow w.heap.size 9 1 v4 (i + 1) (strs (L ++ [T])) := (by simpa [strs] using hown4); obtain ⟨g4, c4, rfl, _, _, _, _⟩ := own_some hown4 (by omega))
        have hs4 := hs3.keep hg4 (fun q hq => by have := hlt4 q hq; omega)
        have hgr4 := gr_grown hgr3 hg4 (fun q hq => hlt4 q hq)
        have hz4 := hg4.size
        have HLL2 : Hid ((L ++ [T]).length = i + 1) := by show _ = _; rw [List.length_append, HLL.out]; rfl
        go_fit (flip_any l (j + 2) 15 p w4 hs4 (by omega) (by decide))
        rintro e wf ⟨rfl, hsf, hgf⟩
        have hownf := own_keepS hown4 hgf (by omega)
        have hgrf := gr_trans hgr4 hgf
        have hzf := hgf.size
        cases hb : flipM l (j + 2) 15 with
        | false =>
          have HM2 : Hid (layM l k i ks = L ++ [T] ∧ layK l k i ks = j + 2 + 1) := by
            show _ ∧ _
            rw [HM1.out.1, HM1.out.2]
            unfold layB
            rw [if_neg (by show ¬ flipM l (j + 2) 15 = true; rw [hb]; decide)]
            exact ⟨rfl, rfl⟩
          clear hb
          go_wp2_with (fail)
          go_ret
          exact ⟨.slice (some ⟨g4, 0, none⟩) (i + 1) c4, rfl, by rw [HM2.out.1, HLL2.out]; exact hownf, by rw [HM2.out.2]; exact hsf, hgrf⟩
        | true =>
          by_cases hz0 : i + 1 = 0
          · exact absurd hz0 (by omega)
          · have hlf : 0 < i + 1 := by omega
            have HM2 : Hid (layM l k i ks = List.set (L ++ [T]) (nxt l (j + 2 + 1) ((i + 1 : Nat) : Int)).toNat (oneS l (j + 2 + 2) laySet) ∧ layK l k i ks = j + 2 + 3) := by
              show _ ∧ _
              rw [HM1.out.1, HM1.out.2]
              unfold layB
              rw [if_pos (by exact hb), if_neg (by show ¬ List.length (L ++ [T]) = 0; rw [HLL2.out]; exact hz0)]
              simp only [HLL2.out]
              exact ⟨trivial, trivial⟩
            clear hb
            go_wp2_with (fail)
            go_fit (next_any l (j + 2 + 1) ((i + 1 : Nat) : Int) p wf hsf (by omega) (by omega))
            rintro e wg ⟨rfl, hsg, hgg⟩
            have hnr := nxt_range l (j + 2 + 1) ((i + 1 : Nat) : Int) (by omega)
            obtain ⟨m, hm⟩ : ∃ m : Nat, nxt l (j + 2 + 1) ((i + 1 : Nat) : Int) = m := ⟨(nxt l (j + 2 + 1) ((i + 1 : Nat) : Int)).toNat, by omega⟩
            rw [hm] at HM2
            rw [hm]
            have hml : m < i + 1 := by omega
            have howng := own_keepS hownf hgg (by omega)
            have hgrg := gr_trans hgrf hgg
            have hzg := hgg.size
            clear hnr hm
            go_wp2_with (fail)
            go_fit (one_any l (j + 2 + 1 + 1) laySet p wg hsg (by omega) (by decide) (by decide))
            rintro e wh ⟨rfl, hsh, hgh⟩
            have hownh := own_keepS howng hgh (by omega)
            have hgrh := gr_trans hgrg hgh
            obtain ⟨S, hS⟩ : ∃ S, S = oneS l (j + 2 + 1 + 1) laySet := ⟨_, rfl⟩
            rw [← hS]
            have c0 : ∃ u, wh.cell? ⟨g4, m, none⟩ = some u := by
              have := hownh.cellAt m (by omega)
              rw [this]
              exact ⟨_, List.getElem?_eq_getElem (by rw [strs_length, HLL2.out]; exact hml)⟩
            obtain ⟨u0, c0⟩ := c0
            have f0 := hownh.frozenAt m
            obtain ⟨hst, hgst⟩ := hownh.stored m (.string S)
            have hqp : p < g4 := by omega
            have hqw : w.heap.size ≤ g4 := by omega
            have HS := Lib.hid hS
            clear hS
            go_wp2_with (fail)
            go_ret
            refine ⟨_, rfl, ?_, ?_, ?_⟩
            · rw [HM2.out.1, List.length_set, HLL2.out]
              have e : strs (List.set (L ++ [T]) m S) = List.set (strs (L ++ [T])) m (.string S) := by simp [strs, List.map_set]
              rw [show oneS l (j + 2 + 2) laySet = S from HS.out.symm, Int.toNat_natCast, e]
              exact hst
            · rw [HM2.out.2]
              exact hsh.keep hgst (fun q hq => by cases hq; omega)
            · exact gr_grown hgrh hgst (fun q hq => by cases hq; omega)

end Go.Proofs.YthikknnadmebgaaGreatDoor

/-! Offers for reading: the cells of each, and what it holds. -/
namespace Go.Proofs.YthikknnadmebgaaGreatDoor
open Go.RowKit

structure OV where
  key : ByteArray
  group : ByteArray
  pa : Option Addr
  pn : Nat
  pc : Nat
  ha : Option Addr
  hn : Nat
  hc : Nat
  ta : Option Addr
  tn : Nat
  tc : Nat
def encOV (o : OV) : List Value := [.string o.key, .string o.group, .slice o.pa o.pn o.pc, .slice o.ha o.hn o.hc, .slice o.ta o.tn o.tc]
theorem encOV_len (o : OV) : (encOV o).length = 5 := rfl
structure OvR (w : World) (v : OV) (o : Offer) : Prop where
  key : v.key = o.key
  group : v.group = o.group
  pn : v.pn = o.profits.length
  hn : v.hn = o.has.length
  tn : v.tn = o.hates.length
  pr : CellsAt w v.pa (ints o.profits)
  has : CellsAt w v.ha (strs o.has)
  hat : CellsAt w v.ta (strs o.hates)
  cap : v.pn ≤ v.pc ∧ v.pc ≤ maxLen
theorem OvR.keep0 {w w1 : World} {v : OV} {o : Offer} (h : OvR w v o) (g : w.grownBy w1 none) : OvR w1 v o := ⟨h.key, h.group, h.pn, h.hn, h.tn, h.pr.keep0 g, h.has.keep0 g, h.hat.keep0 g, h.cap⟩
structure OffsAt (w : World) (a : Option Addr) (vs : List OV) (os : List Offer) : Prop where
  len : vs.length = os.length
  cells : CellsAt w a (flat encOV vs)
  rel : ∀ (i : Nat) (v : OV) (o : Offer), vs[i]? = some v → os[i]? = some o → OvR w v o
theorem OffsAt.keep0 {w w1 : World} {a : Option Addr} {vs : List OV} {os : List Offer} (h : OffsAt w a vs os) (g : w.grownBy w1 none) : OffsAt w1 a vs os :=
  ⟨h.len, h.cells.keep0 g, fun i v o h1 h2 => (h.rel i v o h1 h2).keep0 g⟩
theorem OffR.ov {B : Nat} {w : World} {o : Offer} {c : List Value} (h : OffR B w o c) : ∃ v : OV, c = encOV v ∧ OvR w v o := by
  obtain ⟨v1, v2, v3, rfl, h1, h2, h3⟩ := h
  obtain ⟨a1, c1, rfl, hn, hm, e1, _⟩ := own_shape h1
  obtain ⟨a2, c2, rfl, _, _, e2, _⟩ := own_shape h2
  obtain ⟨a3, c3, rfl, _, _, e3, _⟩ := own_shape h3
  exact ⟨⟨o.key, o.group, a1, o.profits.length, c1, a2, o.has.length, c2, a3, o.hates.length, c3⟩, rfl, rfl, rfl, rfl, rfl, rfl, e1, e2, e3, hn, hm⟩
theorem ovs_of {B : Nat} {w : World} : ∀ (cs : List (List Value)) (os : List Offer), cs.length = os.length → (∀ (i : Nat) (x : Offer) (c : List Value), os[i]? = some x → cs[i]? = some c → OffR B w x c) →
    ∃ vs : List OV, vs.length = os.length ∧ flat encOV vs = flat id cs ∧ ∀ (i : Nat) (v : OV) (o : Offer), vs[i]? = some v → os[i]? = some o → OvR w v o
  | [], [], _, _ => ⟨[], rfl, rfl, fun i v o h => by simp at h⟩
  | [], _ :: _, h, _ => by simp at h
  | _ :: _, [], h, _ => by simp at h
  | c :: cs, o :: os, h, hr => by
    obtain ⟨v, hv, hrv⟩ := (hr 0 o c rfl rfl).ov
    obtain ⟨vs, h1, h2, h3⟩ := ovs_of cs os (by simpa using h) (fun i x c' hx hc => hr (i + 1) x c' (by simpa using hx) (by simpa using hc))
    refine ⟨v :: vs, by simp [h1], ?_, ?_⟩
    · show encOV v ++ flat encOV vs = c ++ flat id cs
      rw [h2, hv]
    · intro i v' o' hv' ho'
      cases i with
      | zero =>
        simp only [List.getElem?_cons_zero, Option.some.injEq] at hv' ho'
        rw [← hv', ← ho']; exact hrv
      | succ i => exact h3 i v' o' (by simpa using hv') (by simpa using ho')
theorem OffsAt.of {B e : Nat} {w : World} {v : Value} {os : List Offer} (h : OwnNest (OffR B) w B e 5 v os) : ∃ a cap vs, v = .slice a os.length cap ∧ OffsAt w a vs os ∧ os.length ≤ cap ∧ cap ≤ maxLen := by
  obtain ⟨cs, h1, h2, h3, h4⟩ := h.ex
  obtain ⟨vs, hl, hf, hr⟩ := ovs_of cs os h1 h4
  obtain ⟨a, cap, rfl, hn, hm, hc, _⟩ := own_shape h3
  exact ⟨a, cap, vs, rfl, ⟨hl, hf ▸ hc, hr⟩, hn, hm⟩
theorem OffsAt.at {w : World} {a : Option Addr} {vs : List OV} {os : List Offer} (h : OffsAt w a vs os) (i : Nat) (hi : i < os.length) :
    ∃ (b off : Nat) (v : OV), a = some ⟨b, off, none⟩ ∧ OvR w v os[i] ∧ w.cell? ⟨b, off + i * 5, none⟩ = some (.string v.key) ∧ w.cell? ⟨b, off + i * 5 + 1, none⟩ = some (.string v.group) ∧ w.cell? ⟨b, off + i * 5 + 2, none⟩ = some (.slice v.pa v.pn v.pc) ∧ w.cell? ⟨b, off + i * 5 + 3, none⟩ = some (.slice v.ha v.hn v.hc) ∧ w.cell? ⟨b, off + i * 5 + 4, none⟩ = some (.slice v.ta v.tn v.tc) := by
  have hl := h.len
  obtain ⟨b, off, rfl, hcs⟩ := flat_cells (enc := encOV) (m := 5) encOV_len (by decide) h.cells (by omega)
  have hi' : i < vs.length := by omega
  exact ⟨b, off, vs[i], rfl, h.rel i _ _ (List.getElem?_eq_getElem hi') (List.getElem?_eq_getElem hi), hcs i hi' 0 _ rfl, hcs i hi' 1 _ rfl, hcs i hi' 2 _ rfl, hcs i hi' 3 _ rfl, hcs i hi' 4 _ rfl⟩
/-- Where an offer of a key is, or -1. -/
def offIx (os : List Offer) (key : ByteArray) : Int := findA (fun o : Offer => o.key.toList == key.toList) os
theorem OffsAt.ix {w : World} {a : Option Addr} {vs : List OV} {os : List Offer} (h : OffsAt w a vs os) (key : ByteArray) : findA (fun o : OV => o.key.toList == key.toList) vs = offIx os key := by
  have e : ∀ (vs : List OV) (os : List Offer), vs.length = os.length → (∀ (i : Nat) (v : OV) (o : Offer), vs[i]? = some v → os[i]? = some o → v.key = o.key) → vs.findIdx (fun o : OV => o.key.toList == key.toList) = os.findIdx (fun o : Offer => o.key.toList == key.toList) := by
    intro vs
    induction vs with
    | nil => intro os hl _; cases os with
      | nil => rfl
      | cons _ _ => simp at hl
    | cons v vs ih =>
      intro os hl hr
      cases os with
      | nil => simp at hl
      | cons o os =>
        have h1 := hr 0 v o rfl rfl
        have h2 := ih os (by simpa using hl) (fun i v' o' hv ho => hr (i + 1) v' o' (by simpa using hv) (by simpa using ho))
        simp only [List.findIdx_cons, h1, h2]
  unfold offIx findA
  rw [e vs os h.len (fun i v o h1 h2 => (h.rel i v o h1 h2).key), h.len]
end Go.Proofs.YthikknnadmebgaaGreatDoor

/-! Package slices at elements coilrack/api.Offer: with a function value. Written by mkfind.py. -/
namespace Go.Proofs.YthikknnadmebgaaGreatDoor
open Go.RowKit

set_option maxRecDepth 100000 in
set_option maxHeartbeats 1000000 in
theorem indexFunc_Offer (F : FuncId) (ad : Addr) (P : OV → Bool) (xs : List (OV)) (a : Option Addr) (c : Nat) (w : World) (hc : CellsAt w a (flat encOV xs)) (hl : xs.length ≤ 137438953472)
    (hE : ∀ (args : Array Value) (w : World), (callFunc F args).run Tryz.prog w = .ok (.enter F args) w)
    (hF : ∀ x ∈ xs, ∀ w1, w.grownBy w1 none → Calls Tryz.prog F #[.agg #[.string x.key, .string x.group, .slice x.pa x.pn x.pc, .slice x.ha x.hn x.hc, .slice x.ta x.tn x.tc], .pointer (some ad)] w1 fun e w2 => e = .returned (.bool (P x)) ∧ w1.grownBy w2 none) :
    Calls Tryz.prog 109 #[.slice a xs.length c, Value.func (.func F) #[] #[.pointer (some ad)]] w fun e w' => e = .returned (.int .i64 (findA P xs)) ∧ w.grownBy w' none := by
  have HF := Lib.hid hF; clear hF
  go_enter Tryz.func109, Tryz.ntmps109
  go_wp2_with (fail)
  go_loopw [8] (fun i wr => ∃ k : Nat, k ≤ xs.length ∧ i = .int .i64 k ∧ (∀ j (hj : j < xs.length), j < k → P xs[j] = false) ∧ w.grownBy wr none) (fun i _ => xs.length - (intOf i).toNat)
  case atStart => exact ⟨0, Nat.zero_le _, rfl, fun j _ hj => absurd hj (Nat.not_lt_zero _), gr_refl _ _⟩
  case round =>
    obtain ⟨k, hk, rfl, hno, hgr⟩ := hrel
    obtain ⟨wo, rfl⟩ : ∃ wo : World, wo = wr := ⟨_, rfl⟩
    have HNO := Lib.hid hno; clear hno
    by_cases hlt : k < xs.length
    · obtain ⟨b, off, rfl, hcs⟩ := flat_cells (enc := encOV) (m := 5) (fun _ => rfl) (by decide) (hc.keep0 hgr) (by omega)
      have hmem : xs[k] ∈ xs := List.getElem_mem hlt
      obtain ⟨x, hx⟩ : ∃ x, x = xs[k] := ⟨_, rfl⟩
      have HX := Lib.hid hx
      have d0 : wo.cell? ⟨b, off + k * 5, none⟩ = some (.string x.key) := by have := hcs k hlt 0 _ rfl; simpa [← HX.out] using this
      have d1 : wo.cell? ⟨b, off + k * 5 + 1, none⟩ = some (.string x.group) := by have := hcs k hlt 1 _ rfl; simpa [← HX.out] using this
      have d2 : wo.cell? ⟨b, off + k * 5 + 2, none⟩ = some (.slice x.pa x.pn x.pc) := by have := hcs k hlt 2 _ rfl; simpa [← HX.out] using this
      have d3 : wo.cell? ⟨b, off + k * 5 + 3, none⟩ = some (.slice x.ha x.hn x.hc) := by have := hcs k hlt 3 _ rfl; simpa [← HX.out] using this
      have d4 : wo.cell? ⟨b, off + k * 5 + 4, none⟩ = some (.slice x.ta x.tn x.tc) := by have := hcs k hlt 4 _ rfl; simpa [← HX.out] using this
      rw [← hx] at hmem
      clear hx
      have HM := Lib.hid hmem; clear hmem hcs
      go_wp2_with (fail)
      refine (HF.out x HM.out wo hgr).mono ?_
      rintro e w1 ⟨rfl, hg1⟩
      cases hp : P x with
      | true =>
        have HP := Lib.hid hp; clear hp
        go_wp2_with (fail)
        go_ret
        refine ⟨ret_int (findA_at hlt (by rw [← HX.out]; exact HP.out) (fun j hj => HNO.out j (by omega) hj)).symm, gr_trans hgr hg1⟩
      | false =>
        have HP := Lib.hid hp; clear hp
        go_wp2_with (fail)
        go_roundw
        case rel =>
          refine ⟨k + 1, by omega, by go_num, fun j hjl hj => ?_, gr_trans hgr hg1⟩
          by_cases hjk : j = k
          · subst hjk; rw [← HX.out]; exact HP.out
          · exact HNO.out j hjl (by omega)
        case measure => simp [intOf]; omega
    · have hkl : k = xs.length := by omega
      have HK := Lib.hid hkl; clear hkl
      go_wp2_with (fail)
      go_ret
      exact ⟨ret_int (findA_none (fun j hj => HNO.out j hj (by rw [HK.out]; exact hj))).symm, hgr⟩

end Go.Proofs.YthikknnadmebgaaGreatDoor

/-! Counts, as the stream makes them. -/
namespace Go.Proofs.YthikknnadmebgaaGreatDoor
open Go.RowKit
variable {lw : Nat}

structure CtW (wr w : World) (p lw : Nat) (l : List Int) (q : Nat) (v : Value) (N : List Int) : Prop where
  own : wr.ownsRow w.heap.size 3 1 v N.length (ints N)
  str : StreamAt wr p lw l q
  all : ∀ x ∈ N, -1 ≤ x ∧ x ≤ 11
  gr : w.grownBy wr (some p)
  pB : p < w.heap.size
section
variable {wr w1 w : World} {p lw : Nat} {l : List Int} {q q2 : Nat} {v v1 : Value} {N : List Int} {x : Int}
theorem CtW.draw (h : CtW wr w p lw l q v N) (gg : wr.grownBy w1 (some p)) (hs : StreamAt w1 p lw l q2) : CtW w1 w p lw l q2 v N :=
  ⟨own_keepS h.own gg h.pB, hs, h.all, gr_trans h.gr gg, h.pB⟩
theorem CtW.app (h : CtW wr w p lw l q v N) (hx : -1 ≤ x ∧ x ≤ 11) (o : w1.ownsRow w.heap.size 3 1 v1 (N.length + 1) (ints N ++ [.int .i64 x])) (gg : wr.grownBy w1 v.ownBlock) (hl : ∀ b, v.ownBlock = some b → w.heap.size ≤ b) : CtW w1 w p lw l q v1 (N ++ [x]) := by
  refine ⟨?_, h.str.keep gg (fun b e => by have := hl b e; have := h.pB; omega), fun y hy => ?_, gr_grown h.gr gg (fun b e => by have := hl b e; omega), h.pB⟩
  · rw [List.length_append, show ints (N ++ [x]) = ints N ++ [.int .i64 x] by simp [ints]]; exact o
  · rcases List.mem_append.1 hy with hy | hy
    · exact h.all y hy
    · have : y = x := by simpa using hy
      rw [this]; exact hx
theorem CtW.set {b c : Nat} (h : CtW wr w p lw l q (.slice (some ⟨b, 0, none⟩) N.length c) N) (hx : -1 ≤ x ∧ x ≤ 11) (m : Nat) : CtW (wr.setCell ⟨b, m, none⟩ (.int .i64 x)) w p lw l q (.slice (some ⟨b, 0, none⟩) N.length c) (N.set m x) := by
  obtain ⟨h1, g1⟩ := h.own.stored m (.int .i64 x)
  have hb : w.heap.size ≤ b := (h.own.lt b rfl).1
  have hp := h.pB
  refine ⟨?_, h.str.keep g1 (fun q hq => by cases hq; omega), fun y hy => ?_, gr_grown h.gr g1 (fun q hq => by cases hq; omega), h.pB⟩
  · rw [List.length_set, show ints (N.set m x) = (ints N).set m (.int .i64 x) by simp [ints, List.map_set]]; exact h1
  · rcases List.mem_or_eq_of_mem_set hy with hy | hy
    · exact h.all y hy
    · rw [hy]; exact hx
end
def CntsPost (l : List Int) (lw k m p : Nat) (w : World) (e : Ending) (w' : World) : Prop :=
  ∃ v N, e = .returned v ∧ w'.ownsRow w.heap.size 3 1 v N.length (ints N) ∧ N.length ≤ m + 1 ∧ (∀ x ∈ N, -1 ≤ x ∧ x ≤ 11) ∧ (∃ q, q ≤ k + m + 4 ∧ StreamAt w' p lw l q) ∧ w.grownBy w' (some p)
set_option maxRecDepth 100000 in
set_option maxHeartbeats 4000000 in
theorem cnts_any (l : List Int) (k : Nat) (os : List Offer) (la : Option Addr) (lc B p : Nat) (w : World) (hs : StreamAt w p lw l k) (hk : k < 800000000) (ho : OwnNest (OffR B) w B 119 5 (.slice la os.length lc) os) (hp : p < B) (hol : os.length ≤ 1000) (hpr : ∀ o ∈ os, o.profits.length ≤ 10) :
    Calls Tryz.prog 23 #[.pointer (some ⟨p, 0, none⟩), .slice la os.length lc] w (CntsPost l lw k os.length p w) := by
  have hlt := hs.lt
  have K0 : Hid (CtW w w p lw l k (.slice none 0 0) []) := ⟨World.ownsRow_nil _ _ _ _, hs, (fun x hx => by cases hx), gr_refl _ _, hlt⟩
  have HO := Lib.hid ho
  have HPR := Lib.hid hpr
  clear ho hs hpr
  go_enter Tryz.func23, Tryz.ntmps23
  go_wp2_with (fail)
  go_loopw [5, 10] (fun v c wr => ∃ (i q : Nat) (N : List Int), i ≤ os.length ∧ c = .int .i64 i ∧ N.length = i ∧ q = k + i ∧ CtW wr w p lw l q v N) (fun _ c _ => os.length - (intOf c).toNat)
  case atStart => exact ⟨0, k, [], by omega, rfl, rfl, rfl, K0.out⟩
  case round =>
    clear K0
    obtain ⟨i, q, N, hi, rfl, hN, hq, hW⟩ := hrel
    obtain ⟨wo, rfl⟩ : ∃ wo : World, wo = wr := ⟨_, rfl⟩
    by_cases hin : i < os.length
    · have hN2 := HO.out.keepS hW.gr hp (fun y d h => OffR.keepS hW.gr hp y d h)
      obtain ⟨a', c', vs, he, hof, _, _⟩ := OffsAt.of hN2
      cases he
      obtain ⟨b, off, V, rfl, hr, d0, d1, d2, d3, d4⟩ := hof.at i hin
      have hpn := hr.pn
      have hp10 := HPR.out _ (List.getElem_mem hin)
      have HW := Lib.hid hW
      clear hr hof hW hN2
      obtain ⟨vk, vg, pa, pn, pc, ha, hn', hc, ta, tn, tc⟩ := V
      simp only at hpn d0 d1 d2 d3 d4
      obtain ⟨np, hnp⟩ : ∃ np, np = os[i].profits.length := ⟨_, rfl⟩
      rw [← hnp] at hpn hp10
      subst hpn
      have e1 : IntKind.i64.wrap ((pn : Int) + 1) = (pn : Int) + 1 := IntWalk.i64_in _ (by omega)
      clear hnp
      have hO := heap_alloc_new wo (.cells #[.string vk, .string vg, .slice pa pn pc, .slice ha hn' hc, .slice ta tn tc] 119)
      have hg1 := gr_alloc (gr_refl wo none) (.cells #[.string vk, .string vg, .slice pa pn pc, .slice ha hn' hc, .slice ta tn tc] 119)
      obtain ⟨w1, hw1⟩ : ∃ w1, w1 = wo.alloc (.cells #[.string vk, .string vg, .slice pa pn pc, .slice ha hn' hc, .slice ta tn tc] 119) := ⟨_, rfl⟩
      rw [← hw1] at hO hg1
      have HW1 := Lib.hid (HW.out.draw (gr_weak hg1 _) (HW.out.str.keep0 hg1))
      have HW1e := Lib.hid hw1
      clear hw1 hg1
      go_wp2_with (fail)
      rw [← HW1e.out]
      have c2 := blkC hO 2 rfl
      go_wp2_with (fail)
      refine (next_any l q ((pn : Int) + 1) p w1 HW1.out.str (by omega) (by omega)).mono ?_
      rintro e w2 ⟨rfl, hs2, hg2⟩
      have hnr := nxt_range l q ((pn : Int) + 1) (by omega)
      obtain ⟨x, hx⟩ : ∃ x, x = nxt l q ((pn : Int) + 1) := ⟨_, rfl⟩
      rw [← hx] at hnr
      rw [← hx]
      have HW2 := Lib.hid (HW1.out.draw hg2 hs2)
      have hx2 : -1 ≤ x ∧ x ≤ 11 := by omega
      clear hx hs2 hg2 HW1 hO c2 d0 d1 d2 d3 d4 HW
      have hz2 : w.heap.size ≤ w2.heap.size := HW2.out.gr.size
      go_wp2_with (at_builtin; refine wpList_app1F eInt rfl _ _ rfl w.heap.size _ N.length (ints N) rfl w2 #[.int .i64 x] rfl HW2.out.own _ rfl rfl rfl rfl (by omega) (by omega) ?_; intro v7 w7 o7 g7 hl7 _; have HW7 := Lib.hid (HW2.out.app hx2 o7 g7 hl7); clear o7 g7 hl7)
      go_roundw
      case rel => exact ⟨i + 1, q + 1, N ++ [x], by omega, by go_num, by rw [List.length_append, hN]; rfl, by omega, HW7.out⟩
      case measure => simp [intOf]; omega
    · have HW := Lib.hid hW
      clear hW
      have hNle : N.length ≤ os.length := by omega
      clear hN
      obtain rfl : i = os.length := by omega
      go_wp2_with (fail)
      go_fit (flip_any l q 15 p wo HW.out.str (by omega) (by decide))
      rintro e w2 ⟨rfl, hs2, hg2⟩
      have HW2 := Lib.hid (HW.out.draw hg2 hs2)
      clear hs2 hg2 HW
      obtain ⟨b, hb⟩ : ∃ b, b = flipM l q 15 := ⟨_, rfl⟩
      rw [← hb]
      clear hb
      cases b with
      | false =>
        have HW := HW2
        clear HW2
        go_wp2_with (fail)
        go_fit (flip_any l (q + 1) 15 p w2 HW.out.str (by omega) (by decide))
        rintro e wf ⟨rfl, hsf, hgf⟩
        have HWf := Lib.hid (HW.out.draw hgf hsf)
        clear hsf hgf HW
        obtain ⟨b, hb⟩ : ∃ b, b = flipM l (q + 1) 15 := ⟨_, rfl⟩
        rw [← hb]
        clear hb
        obtain ⟨va, vc, rfl, -, -, -, -⟩ := own_shape HWf.out.own
        cases b with
        | false =>
          go_wp2_with (fail)
          go_ret
          exact ⟨_, N, rfl, HWf.out.own, by omega, HWf.out.all, ⟨_, by omega, HWf.out.str⟩, HWf.out.gr⟩
        | true =>
          by_cases hlf : 0 < (N).length
          · obtain ⟨gq, gc, hq', _, _, _, _⟩ := own_some HWf.out.own hlf
            cases hq'
            go_wp2_with (fail)
            go_fit (next_any l (q + 1 + 1) (((N).length : Nat) : Int) p wf HWf.out.str (by omega) (by omega))
            rintro e wg ⟨rfl, hsg, hgg⟩
            have hnr := nxt_range l (q + 1 + 1) (((N).length : Nat) : Int) (by omega)
            obtain ⟨m, hm⟩ : ∃ m : Nat, nxt l (q + 1 + 1) (((N).length : Nat) : Int) = m := ⟨(nxt l (q + 1 + 1) (((N).length : Nat) : Int)).toNat, by omega⟩
            rw [hm]
            have hml : m < (N).length := by omega
            have HWg := Lib.hid (HWf.out.draw hgg hsg)
            clear hsg hgg HWf hnr hm
            go_wp2_with (fail)
            refine (pick_any l (q + 1 + 1 + 1) [-1, 11] p wg HWg.out.str (by omega) (by decide) (by decide)).mono ?_
            rintro e wh ⟨rfl, hsh, hgh⟩
            have h1 := pickM_mem l (q + 1 + 1 + 1) [-1, 11] (by decide)
            simp only [List.mem_cons, List.not_mem_nil, or_false] at h1
            have HWh := Lib.hid (HWg.out.draw hgh hsh)
            obtain ⟨x, hx⟩ : ∃ x, x = pickM l (q + 1 + 1 + 1) [-1, 11] := ⟨_, rfl⟩
            rw [← hx] at h1
            rw [← hx]
            have hx2 : -1 ≤ x ∧ x ≤ 11 := by omega
            have c0 : ∃ u, wh.cell? ⟨gq, m, none⟩ = some u := by
              have := HWh.out.own.cellAt m (by omega)
              rw [this]
              exact ⟨_, List.getElem?_eq_getElem (by simp only [ints, List.length_map]; exact hml)⟩
            obtain ⟨u0, c0⟩ := c0
            have f0 := HWh.out.own.frozenAt m
            have HWs := Lib.hid (HWh.out.set hx2 m)
            clear hx hsh hgh HWg h1
            go_wp2_with (fail)
            go_ret
            refine ⟨_, List.set (N) m x, rfl, ?_, by rw [List.length_set]; omega, HWs.out.all, ⟨_, by omega, HWs.out.str⟩, HWs.out.gr⟩
            have := HWs.out.own
            rw [List.length_set] at this ⊢
            exact this
          · have hlf' : ¬ 0 < (N).length := hlf
            go_wp2_with (fail)
            go_ret
            exact ⟨_, N, rfl, HWf.out.own, by omega, HWf.out.all, ⟨_, by omega, HWf.out.str⟩, HWf.out.gr⟩
      | true =>
        have hz2 : w.heap.size ≤ w2.heap.size := HW2.out.gr.size
        have h0x : -1 ≤ (0 : Int) ∧ (0 : Int) ≤ 11 := by omega
        go_wp2_with (at_builtin; refine wpList_app1F eInt rfl _ _ rfl w.heap.size _ N.length (ints N) rfl w2 #[.int .i64 0] rfl HW2.out.own _ rfl rfl rfl rfl (by omega) (by omega) ?_; intro v7 w7 o7 g7 hl7 _; have HW := Lib.hid (HW2.out.app h0x o7 g7 hl7); clear o7 g7 hl7 HW2)
        have hN1 : (N ++ [0]).length = N.length + 1 := by rw [List.length_append]; rfl
        obtain ⟨N1, hN2⟩ : ∃ N1, N1 = N ++ [(0 : Int)] := ⟨_, rfl⟩
        rw [← hN2] at hN1 HW
        have hNle1 : N1.length ≤ os.length + 1 := by omega
        clear hN2 hN1
        go_fit (flip_any l (q + 1) 15 p w7 HW.out.str (by omega) (by decide))
        rintro e wf ⟨rfl, hsf, hgf⟩
        have HWf := Lib.hid (HW.out.draw hgf hsf)
        clear hsf hgf HW
        obtain ⟨b, hb⟩ : ∃ b, b = flipM l (q + 1) 15 := ⟨_, rfl⟩
        rw [← hb]
        clear hb
        obtain ⟨va, vc, rfl, -, -, -, -⟩ := own_shape HWf.out.own
        cases b with
        | false =>
          go_wp2_with (fail)
          go_ret
          exact ⟨_, N1, rfl, HWf.out.own, by omega, HWf.out.all, ⟨_, by omega, HWf.out.str⟩, HWf.out.gr⟩
        | true =>
          by_cases hlf : 0 < (N1).length
          · obtain ⟨gq, gc, hq', _, _, _, _⟩ := own_some HWf.out.own hlf
            cases hq'
            go_wp2_with (fail)
            go_fit (next_any l (q + 1 + 1) (((N1).length : Nat) : Int) p wf HWf.out.str (by omega) (by omega))
            rintro e wg ⟨rfl, hsg, hgg⟩
            have hnr := nxt_range l (q + 1 + 1) (((N1).length : Nat) : Int) (by omega)
            obtain ⟨m, hm⟩ : ∃ m : Nat, nxt l (q + 1 + 1) (((N1).length : Nat) : Int) = m := ⟨(nxt l (q + 1 + 1) (((N1).length : Nat) : Int)).toNat, by omega⟩
            rw [hm]
            have hml : m < (N1).length := by omega
            have HWg := Lib.hid (HWf.out.draw hgg hsg)
            clear hsg hgg HWf hnr hm
            go_wp2_with (fail)
            refine (pick_any l (q + 1 + 1 + 1) [-1, 11] p wg HWg.out.str (by omega) (by decide) (by decide)).mono ?_
            rintro e wh ⟨rfl, hsh, hgh⟩
            have h1 := pickM_mem l (q + 1 + 1 + 1) [-1, 11] (by decide)
            simp only [List.mem_cons, List.not_mem_nil, or_false] at h1
            have HWh := Lib.hid (HWg.out.draw hgh hsh)
            obtain ⟨x, hx⟩ : ∃ x, x = pickM l (q + 1 + 1 + 1) [-1, 11] := ⟨_, rfl⟩
            rw [← hx] at h1
            rw [← hx]
            have hx2 : -1 ≤ x ∧ x ≤ 11 := by omega
            have c0 : ∃ u, wh.cell? ⟨gq, m, none⟩ = some u := by
              have := HWh.out.own.cellAt m (by omega)
              rw [this]
              exact ⟨_, List.getElem?_eq_getElem (by simp only [ints, List.length_map]; exact hml)⟩
            obtain ⟨u0, c0⟩ := c0
            have f0 := HWh.out.own.frozenAt m
            have HWs := Lib.hid (HWh.out.set hx2 m)
            clear hx hsh hgh HWg h1
            go_wp2_with (fail)
            go_ret
            refine ⟨_, List.set (N1) m x, rfl, ?_, by rw [List.length_set]; omega, HWs.out.all, ⟨_, by omega, HWs.out.str⟩, HWs.out.gr⟩
            have := HWs.out.own
            rw [List.length_set] at this ⊢
            exact this
          · have hlf' : ¬ 0 < (N1).length := hlf
            go_wp2_with (fail)
            go_ret
            exact ⟨_, N1, rfl, HWf.out.own, by omega, HWf.out.all, ⟨_, by omega, HWf.out.str⟩, HWf.out.gr⟩
end Go.Proofs.YthikknnadmebgaaGreatDoor
