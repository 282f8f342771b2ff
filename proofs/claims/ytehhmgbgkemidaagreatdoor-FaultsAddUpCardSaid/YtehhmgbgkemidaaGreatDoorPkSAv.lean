/- Right offers, as the stream makes them. -/
import Derived.Test.YtehhmgbgkemidaaGreatDoorPkSAf
import Derived.Test.YtehhmgbgkemidaaGreatDoorPkSAc
import Derived.Test.YtehhmgbgkemidaaGreatDoorPkSAg
import Derived.Deep.RegionLaw
import Derived.Deep.DeepFit
import Derived.IntWalk
import Derived.Laws.Cover4
namespace Go.Proofs.YtehhmgbgkemidaaGreatDoor
open Go.RowKit
variable {lw : Nat}

structure Offer where
  key : ByteArray
  group : ByteArray
  profits : List Int
  has : List ByteArray
  hates : List ByteArray
def OffR (base : Nat) (w : World) (o : Offer) (c : List Value) : Prop :=
  ∃ v1 v2 v3, c = [.string o.key, .string o.group, v1, v2, v3] ∧ w.ownsRow base 3 1 v1 o.profits.length (ints o.profits) ∧ w.ownsRow base 9 1 v2 o.has.length (strs o.has) ∧ w.ownsRow base 9 1 v3 o.hates.length (strs o.hates)
theorem OffR.keep0 {base : Nat} {w w1 : World} (g : w.grownBy w1 none) (o : Offer) (c : List Value) (h : OffR base w o c) : OffR base w1 o c := by
  obtain ⟨v1, v2, v3, rfl, h1, h2, h3⟩ := h
  exact ⟨v1, v2, v3, rfl, own_keep0 h1 g, own_keep0 h2 g, own_keep0 h3 g⟩
theorem OffR.keepS {base p : Nat} {w w1 : World} (g : w.grownBy w1 (some p)) (hp : p < base) (o : Offer) (c : List Value) (h : OffR base w o c) : OffR base w1 o c := by
  obtain ⟨v1, v2, v3, rfl, h1, h2, h3⟩ := h
  exact ⟨v1, v2, v3, rfl, own_keepS h1 g hp, own_keepS h2 g hp, own_keepS h3 g hp⟩
/-- A row of offers is written: what they hold stays. -/
theorem OffR.keepU {base b2 e z n : Nat} {w w1 : World} {u : Value} {us : List Value} (hu : w.ownsRow b2 e z u n us) (h3 : 3 ≠ e) (hs : 9 ≠ e) (g : w.grownBy w1 u.ownBlock) (o : Offer) (c : List Value) (h : OffR base w o c) : OffR base w1 o c := by
  obtain ⟨v1, v2, v3, rfl, q1, q2, q3⟩ := h
  exact ⟨v1, v2, v3, rfl, own_keepU q1 hu h3 g, own_keepU q2 hu hs g, own_keepU q3 hu hs g⟩
theorem eOffer : ElemT Tryz.prog 72 150 (.agg #[.string ⟨#[]⟩, .string ⟨#[]⟩, .slice none 0 0, .slice none 0 0, .slice none 0 0]) 5 104 := ⟨by kernel_rfl, by kernel_rfl, by decide, by decide, by decide⟩
/-- Some of some strings. -/
def someM (l : List Int) (k : Nat) (n : Int) : List ByteArray → List ByteArray
  | [] => []
  | x :: xs => if flipM l k n then x :: someM l (k + 1) n xs else someM l (k + 1) n xs
theorem someM_snoc (l : List Int) (k : Nat) (n : Int) (xs : List ByteArray) (x : ByteArray) : someM l k n (xs ++ [x]) = someM l k n xs ++ (if flipM l (k + xs.length) n then [x] else []) := by
  induction xs generalizing k with
  | nil => simp [someM]
  | cons y ys ih =>
    simp only [List.cons_append, someM, List.length_cons]
    rw [ih (k + 1), show k + 1 + ys.length = k + (ys.length + 1) by omega]
    split <;> simp
theorem someM_len (l : List Int) (k : Nat) (n : Int) (xs : List ByteArray) : (someM l k n xs).length ≤ xs.length := by
  induction xs generalizing k with
  | nil => simp [someM]
  | cons y ys ih => have := ih (k + 1); simp only [someM]; split <;> simp <;> omega
theorem someM_sub (l : List Int) (k : Nat) (n : Int) (xs : List ByteArray) : List.Sublist (someM l k n xs) xs := by
  induction xs generalizing k with
  | nil => exact List.Sublist.refl _
  | cons y ys ih =>
    simp only [someM]
    split
    · exact (ih (k + 1)).cons_cons y
    · exact (ih (k + 1)).cons y
set_option maxRecDepth 100000 in
set_option maxHeartbeats 1000000 in
theorem some_any (l : List Int) (k : Nat) (n : Int) (xs : List ByteArray) (p : Nat) (W : World) (hs : StreamAt W p lw l k) (hk : k < 900000000) (hn : n ≤ 9223372036854775807) (h1 : xs.length ≤ 1000) :
    Calls Tryz.prog 48 #[.pointer (some ⟨p, 0, none⟩), .int .i64 n, .slice (some ⟨W.heap.size, 0, none⟩) xs.length xs.length] (W.alloc (.cells (strs xs).toArray 9))
      fun e w' => ∃ v, e = .returned v ∧ w'.ownsRow W.heap.size 9 1 v (someM l k n xs).length (strs (someM l k n xs)) ∧ StreamAt w' p lw l (k + xs.length) ∧ W.grownBy w' (some p) := by
  have hlt := hs.lt
  obtain ⟨W0, hW0⟩ : ∃ W0, W0 = W.alloc (.cells (strs xs).toArray 9) := ⟨_, rfl⟩
  have hs0 : StreamAt W0 p lw l k := by rw [hW0]; exact hs.keep0 (gr_alloc (gr_refl _ _) _)
  have hb0 : W0.heap[W.heap.size]? = some (.cells (strs xs).toArray 9 (0, 0)) := by rw [hW0]; exact heap_alloc_new _ _
  have hz0 : W0.heap.size = W.heap.size + 1 := by rw [hW0]; simp
  have hgW : W.grownBy W0 (some p) := by rw [hW0]; exact gr_alloc (gr_refl _ _) _
  rw [← hW0]
  clear hW0 hs
  obtain ⟨B, hB⟩ : ∃ B, B = W.heap.size := ⟨_, rfl⟩
  rw [← hB] at hb0 hz0 hlt ⊢
  have HB := Lib.hid hB
  have HB0 := Lib.hid hb0
  clear hB hb0
  go_enter Tryz.func48, Tryz.ntmps48
  go_wp2_with (fail)
  go_loopw [7, 12] (fun v c wr => ∃ i : Nat, i ≤ xs.length ∧ c = .int .i64 i ∧ wr.ownsRow (B + 1) 9 1 v (someM l k n (xs.take i)).length (strs (someM l k n (xs.take i))) ∧ StreamAt wr p lw l (k + i) ∧ W0.grownBy wr (some p)) (fun _ c _ => xs.length - (intOf c).toNat)
  case atStart => exact ⟨0, Nat.zero_le _, rfl, World.ownsRow_nil _ _ _ _, hs0, gr_refl _ _⟩
  case round =>
    obtain ⟨i, hi, rfl, hown, hsr, hgr⟩ := hrel
    obtain ⟨wo, rfl⟩ : ∃ wo : World, wo = wr := ⟨_, rfl⟩
    by_cases hin : i < xs.length
    · have hbo := (hgr.block B (lt_of_block HB0.out) (by simp; omega)).trans HB0.out
      obtain ⟨x, hx⟩ : ∃ x, x = xs[i] := ⟨_, rfl⟩
      have hcx : wo.cell? ⟨B, i, none⟩ = some (.string x) := blkC hbo i (by
        rw [hx]
        simp [strs, List.getElem?_eq_getElem hin])
      have htk : xs.take (i + 1) = xs.take i ++ [x] := by rw [hx]; exact take_next xs i hin
      have hsn := someM_snoc l k n (xs.take i) x
      rw [← htk, List.length_take, Nat.min_eq_left hi] at hsn
      obtain ⟨S, hS⟩ : ∃ S, S = someM l k n (xs.take i) := ⟨_, rfl⟩
      have hSl : S.length ≤ xs.length := by
        have := someM_len l k n (xs.take i)
        have h2 : (xs.take i).length ≤ xs.length := by simp; omega
        rw [hS]; omega
      rw [← hS] at hown hsn
      have HSN := Lib.hid hsn
      have HOWN := Lib.hid hown
      have hzo := hgr.size
      clear hS hx htk hsn hbo hown
      go_wp2_with (fail)
      refine (flip_any l (k + i) n p wo hsr (by omega) hn).mono ?_
      rintro e w2 ⟨rfl, hs2, hg2⟩
      have hown2 := own_keepS HOWN.out hg2 (by omega)
      have hgr2 := gr_trans hgr hg2
      have hz2 := hg2.size
      cases hf : flipM l (k + i) n with
      | true =>
        have HF := Lib.hid hf; clear hf
        go_wp2_with (at_builtin; refine wpList_app1F eStr rfl _ _ rfl (B + 1) _ _ _ rfl w2 #[.string x] rfl hown2 _ rfl rfl rfl rfl (by omega) (by omega) ?_; intro v3 w3 hown3 hg3 hlt3 hf3)
        go_roundw
        case rel =>
          refine ⟨i + 1, by omega, by go_num, ?_, hs2.keep hg3 (fun q hq => by have := hlt3 q hq; omega), gr_grown hgr2 hg3 (fun q hq => by have := hlt3 q hq; omega)⟩
          rw [HSN.out, HF.out]
          simpa [strs] using hown3
        case measure => simp [intOf]; omega
      | false =>
        have HF := Lib.hid hf; clear hf
        go_wp2_with (fail)
        go_roundw
        case rel =>
          refine ⟨i + 1, by omega, by go_num, ?_, hs2, hgr2⟩
          rw [HSN.out, HF.out]
          simpa [strs] using hown2
        case measure => simp [intOf]; omega
    · obtain rfl : i = xs.length := by omega
      rw [List.take_length] at hown
      obtain ⟨va, vc, rfl, _⟩ := own_shape hown
      have HOWN := Lib.hid hown
      clear hown
      go_wp2_with (fail)
      go_ret
      have e := HB.out
      exact ⟨_, rfl, own_base HOWN.out (by omega), hsr, gr_trans hgW hgr⟩

/-! The offers themselves. -/
def profTo (l : List Int) (k : Nat) (p : Int) : Nat → List Int × Int
  | 0 => ([], p)
  | n + 1 => ((profTo l k p n).1 ++ [(profTo l k p n).2], (profTo l k p n).2 - pickM l (k + n) [0, 1, 2, 4])
theorem profTo_len (l : List Int) (k : Nat) (p : Int) (n : Nat) : (profTo l k p n).1.length = n := by
  induction n with
  | zero => rfl
  | succ n ih => simp [profTo, ih]
theorem profTo_bd (l : List Int) (k : Nat) (p : Int) (n : Nat) : p - 4 * n ≤ (profTo l k p n).2 ∧ (profTo l k p n).2 ≤ p := by
  induction n with
  | zero => simp [profTo]
  | succ n ih =>
    have := pickM_mem l (k + n) [0, 1, 2, 4] (by decide)
    simp only [List.mem_cons, List.not_mem_nil, or_false] at this
    simp only [profTo]
    omega
theorem profTo_mem (l : List Int) (k : Nat) (p : Int) (n : Nat) : ∀ x ∈ (profTo l k p n).1, p - 4 * n ≤ x ∧ x ≤ p := by
  induction n with
  | zero => intro x hx; simp [profTo] at hx
  | succ n ih =>
    intro x hx
    simp only [profTo, List.mem_append, List.mem_cons, List.not_mem_nil, or_false] at hx
    have := profTo_bd l k p n
    rcases hx with hx | rfl
    · have := ih x hx; omega
    · omega
def offGroups : List ByteArray := [⟨#[115, 97, 108, 116]⟩, ⟨#[115, 119, 101, 101, 116]⟩, ⟨#[99, 111, 108, 100]⟩]
def offNuts : List ByteArray := [⟨#[109, 105, 108, 107]⟩, ⟨#[110, 117, 116]⟩]
def offN (l : List Int) (j : Nat) : Nat := (1 + nxt l (j + 2) (3 - 1 + 1)).toNat
theorem offN_le (l : List Int) (j : Nat) : 1 ≤ offN l j ∧ offN l j ≤ 3 ∧ ((offN l j : Nat) : Int) = 1 + nxt l (j + 2) (3 - 1 + 1) := by
  have := nxt_range l (j + 2) (3 - 1 + 1) (by decide)
  unfold offN
  omega
def offerAt (l : List Int) (j i : Nat) : Offer :=
  ⟨Utf8.encode (97 + (i : Int)), oneS l j offGroups, (profTo l (j + 3) (pickM l (j + 1) [3, 5, 9]) (offN l j)).1, someM l (j + 3 + offN l j) 4 offNuts, someM l (j + 5 + offN l j) 4 offNuts⟩
def offersTo (l : List Int) (k : Nat) : Nat → List Offer × Nat
  | 0 => ([], k)
  | i + 1 => ((offersTo l k i).1 ++ [offerAt l (offersTo l k i).2 i], (offersTo l k i).2 + 7 + offN l (offersTo l k i).2)
theorem offersTo_len (l : List Int) (k i : Nat) : (offersTo l k i).1.length = i := by
  induction i with
  | zero => rfl
  | succ i ih => simp [offersTo, ih]
theorem offersTo_k (l : List Int) (k i : Nat) : (offersTo l k i).2 ≤ k + 10 * i := by
  induction i with
  | zero => simp [offersTo]
  | succ i ih => have := offN_le l (offersTo l k i).2; simp only [offersTo]; omega
def offersN (l : List Int) (k most : Nat) : Nat := (nxt l k ((most : Int) + 1)).toNat
theorem offersN_le (l : List Int) (k most : Nat) : offersN l k most ≤ most ∧ ((offersN l k most : Nat) : Int) = nxt l k ((most : Int) + 1) := by
  have := nxt_range l k ((most : Int) + 1) (by omega)
  unfold offersN; omega
def offersM (l : List Int) (k most : Nat) : List Offer := (offersTo l (k + 1) (offersN l k most)).1
def offersK (l : List Int) (k most : Nat) : Nat := (offersTo l (k + 1) (offersN l k most)).2
def OffersPost (l : List Int) (k most p lw : Nat) (w : World) (e : Ending) (w' : World) : Prop :=
  ∃ v, e = .returned v ∧ OwnNest (OffR w.heap.size) w' w.heap.size 150 5 v (offersM l k most) ∧ StreamAt w' p lw l (offersK l k most) ∧ w.grownBy w' (some p)
theorem blk5 {w : World} {g t : Nat} {a b c d e : Value} (h : w.heap[g]? = some (.cells #[a, b, c, d, e] t (0, 0))) : w.cell? ⟨g, 0, none⟩ = some a ∧ w.cell? ⟨g, 1, none⟩ = some b ∧ w.cell? ⟨g, 2, none⟩ = some c ∧ w.cell? ⟨g, 3, none⟩ = some d ∧ w.cell? ⟨g, 4, none⟩ = some e :=
  ⟨blkC h 0 rfl, blkC h 1 rfl, blkC h 2 rfl, blkC h 3 rfl, blkC h 4 rfl⟩
set_option maxRecDepth 100000 in
set_option maxHeartbeats 4000000 in
theorem offers_any (l : List Int) (k most : Nat) (p : Nat) (w : World) (hs : StreamAt w p lw l k) (hk : k < 800000000) (hm : most ≤ 20) :
    Calls Tryz.prog 29 #[.pointer (some ⟨p, 0, none⟩), .int .i64 most] w (OffersPost l k most p lw w) := by
  have hlt := hs.lt
  go_enter Tryz.func29, Tryz.ntmps29
  go_wp2_with (fail)
  refine (next_any l k ((most : Int) + 1) p w hs (by omega) (by omega)).mono ?_
  rintro e w2 ⟨rfl, hs2, hg2⟩
  obtain ⟨hnl, hce⟩ := offersN_le l k most
  obtain ⟨n, hn⟩ : ∃ n, n = offersN l k most := ⟨_, rfl⟩
  rw [← hce, ← hn]
  rw [← hn] at hnl
  have HN := Lib.hid hn
  clear hn hce
  go_wp2_with (fail)
  go_loopw [5, 13] (fun v c wr => ∃ i : Nat, i ≤ n ∧ c = .int .i64 i ∧ OwnNest (OffR w.heap.size) wr w.heap.size 150 5 v (offersTo l (k + 1) i).1 ∧ StreamAt wr p lw l (offersTo l (k + 1) i).2 ∧ w.grownBy wr (some p)) (fun _ c _ => n - (intOf c).toNat)
  case atStart => exact ⟨0, Nat.zero_le _, rfl, OwnNest.nil _ _ _ _, hs2, hg2⟩
  case round =>
    obtain ⟨i, hi, rfl, hown, hsr, hgr⟩ := hrel
    obtain ⟨wo, rfl⟩ : ∃ wo : World, wo = wr := ⟨_, rfl⟩
    have hjb := offersTo_k l (k + 1) i
    by_cases hin : i < n
    · have hzo := hgr.size
      have holen := offersTo_len l (k + 1) i
      obtain ⟨j, hj⟩ : ∃ j, j = (offersTo l (k + 1) i).2 := ⟨_, rfl⟩
      rw [← hj] at hsr hjb
      have HJ := Lib.hid hj
      have HOWN := Lib.hid hown
      have HOL := Lib.hid holen
      clear hj hown holen
      obtain ⟨K, hK⟩ : ∃ K, K = Utf8.encode (97 + (i : Int)) := ⟨_, rfl⟩
      have q1 : ∀ w : World, (convert 3 21 (.int .i64 (97 + (i : Int)))).run Tryz.prog w = .ok (.int .i32 (97 + (i : Int))) w := by
        intro w
        have e : Tryz.prog.intKind 21 = .i32 := by kernel_rfl
        have e2 : IntKind.i32.wrap (97 + (i : Int)) = 97 + (i : Int) := by
          unfold IntKind.wrap
          simp [IntKind.bits, IntKind.signed]
          omega
        have := run_convert_int (P := Tryz.prog) (w := w) 3 21 .i64 (97 + (i : Int)) (by kernel_rfl) (by kernel_rfl)
        rw [e, e2] at this
        exact this
      have q2 : ∀ w : World, (convert 21 9 (.int .i32 (97 + (i : Int)))).run Tryz.prog w = .ok (.string K) w := by
        intro w
        rw [hK]
        exact run_convert_int_string w 21 9 .i32 (97 + (i : Int)) (by kernel_rfl) (by kernel_rfl)
      have HK := Lib.hid hK
      clear hK
      go_wp2_with (fail)
      refine (one_any l j offGroups p wo hsr (by omega) (by decide) (by decide)).mono ?_
      rintro e w3 ⟨rfl, hs3, hg3⟩
      have hz3 := hg3.size
      obtain ⟨G, hG⟩ : ∃ G, G = oneS l j offGroups := ⟨_, rfl⟩
      rw [← hG]
      have HG := Lib.hid hG
      clear hG q1 q2 hsr
      go_wp2_with (fail)
      have hO4 := heap_alloc_new w3 (.cells #[.string K, .string G, .slice none 0 0, .slice none 0 0, .slice none 0 0] 150)
      have hg4 := gr_alloc (gr_refl w3 none) (.cells #[.string K, .string G, .slice none 0 0, .slice none 0 0, .slice none 0 0] 150)
      obtain ⟨w4, hw4⟩ : ∃ w4, w4 = w3.alloc (.cells #[.string K, .string G, .slice none 0 0, .slice none 0 0, .slice none 0 0] 150) := ⟨_, rfl⟩
      rw [← hw4] at hO4 hg4
      rw [← hw4]
      have hz4 : w4.heap.size = w3.heap.size + 1 := by rw [hw4]; simp
      obtain ⟨O, hO⟩ : ∃ O, O = w3.heap.size := ⟨_, rfl⟩
      rw [← hO] at hO4 hz4 hz3
      rw [← hO, ← hz4]
      have HO4 := Lib.hid hO4
      have hs4 := hs3.keep0 hg4
      have hgo4 := gr_trans hg3 (gr_weak hg4 _)
      clear hw4 hO hO4 hs3 hg3 hg4
      go_fit (pick_any l (j + 1) [3, 5, 9] p w4 hs4 (by omega) (by decide) (by decide))
      rintro e w5 ⟨rfl, hs5, hg5⟩
      have hpb := pickM_mem l (j + 1) [3, 5, 9] (by decide)
      simp only [List.mem_cons, List.not_mem_nil, or_false] at hpb
      obtain ⟨P0, hP0⟩ : ∃ P0, P0 = pickM l (j + 1) [3, 5, 9] := ⟨_, rfl⟩
      rw [← hP0] at hpb ⊢
      have hpb0 : 3 ≤ P0 := by omega
      have hpb1 : P0 ≤ 9 := by omega
      have HP0 := Lib.hid hP0
      clear hpb hP0
      go_wp2_with (fail)
      refine (range_any l (j + 1 + 1) 1 3 p w5 hs5 (by omega) (by decide) (by decide) (by decide)).mono ?_
      rintro e w6 ⟨rfl, hs6, hg6⟩
      obtain ⟨hm1, hm3, hme⟩ := offN_le l j
      obtain ⟨m, hmm⟩ : ∃ m, m = offN l j := ⟨_, rfl⟩
      rw [show (1 : Int) + nxt l (j + 1 + 1) (3 - 1 + 1) = (m : Int) by rw [hmm, hme]]
      rw [← hmm] at hm1 hm3
      have HM := Lib.hid hmm
      have hgo6 := gr_trans (gr_trans hgo4 hg5) hg6
      have hO6 := (hg6.block O (by have := hg5.size; omega) (by simp; omega)).trans ((hg5.block O (by omega) (by simp; omega)).trans HO4.out)
      clear hme hmm hs4 hs5 hg5 hg6 HO4 hgo4
      go_wp2_with (fail)
      go_loopw [8, 29] (fun q c wr => ∃ t : Nat, t ≤ m ∧ c = .int .i64 t ∧ q = .int .i64 (profTo l (j + 3) P0 t).2 ∧ (∃ pv, wr.heap[O]? = some (.cells #[.string K, .string G, pv, .slice none 0 0, .slice none 0 0] 150 (0, 0)) ∧ wr.ownsRow wo.heap.size 3 1 pv t (ints (profTo l (j + 3) P0 t).1)) ∧ StreamAt wr p lw l (j + 3 + t) ∧ wo.grownBy wr (some p)) (fun _ c _ => m - (intOf c).toNat)
      case atStart => exact ⟨0, Nat.zero_le _, rfl, rfl, ⟨_, hO6, World.ownsRow_nil _ _ _ _⟩, hs6, hgo6⟩
      case round =>
        clear hO6 hs6 hgo6
        obtain ⟨t, ht, rfl, rfl, ⟨pv, hOr, hpv⟩, hsr, hgor⟩ := hrel
        obtain ⟨wi, rfl⟩ : ∃ wi : World, wi = wr := ⟨_, rfl⟩
        obtain ⟨pa, pc, rfl, _, _, _, _⟩ := own_shape hpv
        have hzi := hgor.size
        have hOl := lt_of_block hOr
        have hplen := profTo_len l (j + 3) P0 t
        obtain ⟨d0, d1, d2, d3, d4⟩ := blk5 hOr
        by_cases htm : t < m
        · have hq := profTo_bd l (j + 3) P0 t
          obtain ⟨q, hqe⟩ : ∃ q, q = (profTo l (j + 3) P0 t).2 := ⟨_, rfl⟩
          obtain ⟨L, hLe⟩ : ∃ L, L = (profTo l (j + 3) P0 t).1 := ⟨_, rfl⟩
          rw [← hqe] at hq ⊢
          rw [← hLe] at hpv hplen
          have HQ := Lib.hid hqe
          have HL := Lib.hid hLe
          have HPV := Lib.hid hpv
          have HOR := Lib.hid hOr
          clear hqe hLe hpv hOr d0 d1 d3 d4 hplen
          go_wp2_with (at_builtin; refine wpList_app1F eInt rfl _ _ rfl wo.heap.size _ t (ints L) rfl wi #[.int .i64 q] rfl HPV.out _ rfl rfl rfl rfl (by omega) (by omega) ?_; intro v7 w7 hown7 hg7 hlt7 hf7; have hO7 := (hg7.block O hOl (fun e => own_ne HPV.out HOR.out (by decide) e.symm)).trans HOR.out; obtain ⟨e2, z2⟩ : w7.cell? ⟨O, 2, none⟩ = some (.slice pa t pc) ∧ w7.frozen? ⟨O, 2, none⟩ = false := ⟨blkC hO7 2 rfl, blkF hO7 2⟩; have HO7 := Lib.hid hO7; clear hO7; obtain ⟨g7, cg7, rfl, _, _, _, _⟩ := own_some hown7 (by omega))
          have hs7 := hsr.keep hg7 (fun q hq => by have := hlt7 q hq; omega)
          have hst := heap_setCell_same w7 O 2 _ _ (.slice (some ⟨g7, 0, none⟩) (t + 1) cg7) HO7.out
          have hgs : w7.grownBy _ (some O) := gr_set (q := ⟨O, 2, none⟩) (gr_refl w7 (some O)) rfl (.slice (some ⟨g7, 0, none⟩) (t + 1) cg7)
          have hown8 := own_keep hown7 hgs (.inr (own_ne hown7 HO7.out (by decide)))
          have hs8 := hs7.keep hgs (fun q hq => by cases hq; omega)
          have hgo8 := gr_grown (gr_grown hgor hg7 (fun q hq => hlt7 q hq)) hgs (fun q hq => by cases hq; omega)
          obtain ⟨w8, hw8⟩ : ∃ w8, w8 = w7.setCell ⟨O, 2, none⟩ (.slice (some ⟨g7, 0, none⟩) (t + 1) cg7) := ⟨_, rfl⟩
          have hz8 : w8.heap.size = w7.heap.size := by rw [hw8]; simp
          rw [← hw8] at hst hown8 hs8 hgo8
          rw [← hw8, ← hz8]
          have HST := Lib.hid hst
          have HOWN8 := Lib.hid hown8
          have hO8l := lt_of_block hst
          clear hw8 hst hgs hown8 hown7 hs7 hsr hg7 HO7 e2 z2
          go_fit (pick_any l (j + 3 + t) [0, 1, 2, 4] p w8 hs8 (by omega) (by decide) (by decide))
          rintro e w9 ⟨rfl, hs9, hg9⟩
          have hdb := pickM_mem l (j + 3 + t) [0, 1, 2, 4] (by decide)
          simp only [List.mem_cons, List.not_mem_nil, or_false] at hdb
          obtain ⟨D, hD⟩ : ∃ D, D = pickM l (j + 3 + t) [0, 1, 2, 4] := ⟨_, rfl⟩
          rw [← hD] at hdb ⊢
          have hd0 : 0 ≤ D := by omega
          have hd4 : D ≤ 4 := by omega
          have HD := Lib.hid hD
          clear hdb hD
          go_wp2_with (fail)
          go_roundw
          case rel =>
            refine ⟨t + 1, by omega, by go_num, ?_, ⟨_, (hg9.block O hO8l (by simp; omega)).trans HST.out, ?_⟩, hs9, gr_trans hgo8 hg9⟩
            · simp only [profTo]
              rw [← HQ.out, ← HD.out]
            · have := own_keepS HOWN8.out hg9 (by omega)
              simp only [profTo]
              rw [← HQ.out, ← HL.out]
              simpa [ints] using this
          case measure => simp [intOf]; omega
        · obtain rfl : t = m := by omega
          have HPV := Lib.hid hpv
          have HOR := Lib.hid hOr
          clear hpv hOr hplen d0 d1 d2 d3 d4
          go_wp2_with (fail)
          go_fit (some_any l (j + 3 + t) 4 offNuts p wi hsr (by omega) (by decide) (by decide))
          rintro e w7 ⟨v2, rfl, ho2, hs7, hg7⟩
          have hs7 : StreamAt w7 p lw l (j + 5 + t) := by
            have e : j + 3 + t + offNuts.length = j + 5 + t := by show j + 3 + t + 2 = _; omega
            rw [← e]; exact hs7
          have hz7 := hg7.size
          obtain ⟨a2, c2, rfl, _, _, _, _⟩ := own_shape ho2
          have HO2 := Lib.hid ho2
          clear ho2 hsr
          go_wp2_with (fail)
          go_fit (some_any l (j + 5 + t) 4 offNuts p w7 hs7 (by omega) (by decide) (by decide))
          rintro e w8 ⟨v3, rfl, ho3, hs8, hg8⟩
          have hs8 : StreamAt w8 p lw l (j + 7 + t) := by
            have e : j + 5 + t + offNuts.length = j + 7 + t := by show j + 5 + t + 2 = _; omega
            rw [← e]; exact hs8
          have hz8 := hg8.size
          obtain ⟨a3, c3, rfl, _, _, _, _⟩ := own_shape ho3
          have hO8 := (hg8.block O (by omega) (by simp; omega)).trans ((hg7.block O hOl (by simp; omega)).trans HOR.out)
          have hpv8 := own_keepS (own_keepS HPV.out hg7 (by omega)) hg8 (by omega)
          have ho28 := own_keepS HO2.out hg8 (by omega)
          have hgo8 := gr_trans (gr_trans hgor hg7) hg8
          obtain ⟨M2, hM2⟩ : ∃ M2, M2 = someM l (j + 3 + t) 4 offNuts := ⟨_, rfl⟩
          obtain ⟨M3, hM3⟩ : ∃ M3, M3 = someM l (j + 5 + t) 4 offNuts := ⟨_, rfl⟩
          obtain ⟨L, hL⟩ : ∃ L, L = (profTo l (j + 3) P0 t).1 := ⟨_, rfl⟩
          have hLl : L.length = t := by rw [hL]; exact profTo_len _ _ _ _
          rw [← hM2] at ho28
          rw [← hM3] at ho3
          rw [← hL] at hpv8
          rw [← hM2, ← hM3]
          have st1 := heap_setCell_same w8 O 3 _ _ (.slice a2 M2.length c2) hO8
          have st2 := heap_setCell_same _ O 4 _ _ (.slice a3 M3.length c3) st1
          have gs : w8.grownBy ((w8.setCell ⟨O, 3, none⟩ (.slice a2 M2.length c2)).setCell ⟨O, 4, none⟩ (.slice a3 M3.length c3)) (some O) := gr_set (q := ⟨O, 4, none⟩) (gr_set (q := ⟨O, 3, none⟩) (gr_refl w8 (some O)) rfl _) rfl _
          have hgo9 := gr_grown hgo8 gs (fun q hq => by cases hq; omega)
          have hown9 := HOWN.out.keepS hgo9 hlt (fun y d h => OffR.keepS hgo9 hlt y d h)
          obtain ⟨cs, hrow, hpush⟩ := hown9.push
          have hx9 : OffR w.heap.size ((w8.setCell ⟨O, 3, none⟩ (.slice a2 M2.length c2)).setCell ⟨O, 4, none⟩ (.slice a3 M3.length c3)) ⟨K, G, L, M2, M3⟩ [.string K, .string G, .slice pa t pc, .slice a2 M2.length c2, .slice a3 M3.length c3] := by
            refine ⟨_, _, _, rfl, ?_, ?_, ?_⟩
            · show World.ownsRow _ _ _ _ _ L.length _
              rw [hLl]
              exact own_base (own_keep hpv8 gs (.inr (own_ne hpv8 hO8 (by decide)))) hzo
            · exact own_base (own_keep ho28 gs (.inr (own_ne ho28 hO8 (by decide)))) (by omega)
            · exact own_base (own_keep ho3 gs (.inr (own_ne ho3 hO8 (by decide)))) (by omega)
          have hs9 := hs8.keep gs (fun q hq => by cases hq; omega)
          have HX : Hid (offerAt l j i = ⟨K, G, L, M2, M3⟩) := by
            show _ = _
            unfold offerAt
            rw [← HP0.out, ← HM.out, ← HG.out, ← HK.out, ← hM2, ← hM3, ← hL]
          have hgr9 := gr_trans hgr hgo9
          have HROW := Lib.hid hrow; have HPUSH := Lib.hid hpush; have HX9 := Lib.hid hx9
          have HO8 := Lib.hid hO8
          have holb : (offersTo l (k + 1) i).1.length + 1 ≤ 137438953472 := by have := HOL.out; omega
          obtain ⟨d0, d1, d2, d3, d4⟩ := blk5 hO8
          have z3 := blkF hO8 3
          have z4 := blkF hO8 4
          have hwl : w.heap.size ≤ w8.heap.size := by omega
          clear hM2 hM3 hL hLl st1 st2 hown9 hrow hpush hx9 hO8 hpv8 ho28 ho3 hgo8 hgr hgor hgo9 hs8 hs7 hg7 hg8 gs
          go_wp2_with (at_builtin; refine wpList_app1F eOffer rfl _ _ rfl w.heap.size _ (offersTo l (k + 1) i).1.length (flat id cs) rfl ((w8.setCell ⟨O, 3, none⟩ (.slice a2 M2.length c2)).setCell ⟨O, 4, none⟩ (.slice a3 M3.length c3)) #[.string K, .string G, .slice pa t pc, .slice a2 M2.length c2, .slice a3 M3.length c3] rfl HROW.out _ rfl (by simp) rfl rfl holb (by simp; omega) ?_; intro v10 w10 hown10 hg10 hlt10 hf10)
          go_roundw
          case rel =>
            have hx10 := OffR.keepU HROW.out (by decide) (by decide) hg10 _ _ HX9.out
            have hp10 := HPUSH.out w10 v10 _ _ hown10 rfl (fun y d h => OffR.keepU HROW.out (by decide) (by decide) hg10 y d h) hx10
            refine ⟨i + 1, by omega, by go_num, ?_, ?_, gr_grown hgr9 hg10 (fun q hq => hlt10 q hq)⟩
            · show OwnNest _ _ _ _ _ _ ((offersTo l (k + 1) i).1 ++ [offerAt l (offersTo l (k + 1) i).2 i])
              rw [← HJ.out, HX.out]
              exact hp10
            · have := hs9.keep hg10 (fun q hq => by have := hlt10 q hq; omega)
              show StreamAt _ _ _ _ ((offersTo l (k + 1) i).2 + 7 + offN l (offersTo l (k + 1) i).2)
              rw [← HJ.out, ← HM.out]
              exact this
          case measure => simp [intOf]; omega
    · obtain rfl : i = n := by omega
      obtain ⟨va, vc, rfl, _, _, _, _⟩ := hown.shape
      have HOWN := Lib.hid hown
      clear hown
      go_wp2_with (fail)
      go_ret
      refine ⟨_, rfl, ?_, ?_, hgr⟩
      · unfold offersM
        rw [← HN.out]
        exact HOWN.out
      · unfold offersK
        rw [← HN.out]
        exact hsr
end Go.Proofs.YtehhmgbgkemidaaGreatDoor
