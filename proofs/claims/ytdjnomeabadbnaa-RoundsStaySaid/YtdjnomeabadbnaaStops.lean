/- Stops, as the stream makes them. -/
import Derived.Test.YtdjnomeabadbnaaRdSpot
import Derived.Test.YtdjnomeabadbnaaRdRoute
import Derived.Test.YtdjnomeabadbnaaFlat
import Derived.Test.YtdjnomeabadbnaaStepApp
import Derived.Test.YtdjnomeabadbnaaMake
import Derived.Deep.RegionLaw
import Derived.IntWalk
import Derived.Laws.Cover4
namespace Go.Proofs.Ytdjnomeabadbnaa
open Go.RowKit
variable {lw : Nat}

structure Stop where
  key : ByteArray
  x : Int
  y : Int
  fr : Int
  tt : Int
  lo : Int
def encStop (s : Stop) : List Value := [.string s.key, .int .i64 s.x, .int .i64 s.y, .int .i64 s.fr, .int .i64 s.tt, .int .i64 s.lo]
theorem encStop_len (s : Stop) : (encStop s).length = 6 := rfl
theorem encStop_one (s : Stop) : (encStop s).all (fun u => u.oneCell') = true := rfl
theorem eStop : ElemT Try.prog 26 44 (.agg #[.string ⟨#[]⟩, .int .i64 0, .int .i64 0, .int .i64 0, .int .i64 0, .int .i64 0]) 6 56 := ⟨by kernel_rfl, by kernel_rfl, by decide, by decide, by decide⟩
def stopKey (i : Nat) : ByteArray := ⟨#[115]⟩ ++ Utf8.encode (97 + i)
def stopAt (l : List Int) (k i : Nat) : Stop := ⟨stopKey i, spotX l k, spotY l k, pickM l (spotK l k) [0, 0, 10, 40], pickM l (spotK l k) [0, 0, 10, 40] + pickM l (spotK l k + 2) [0, 10, 30, 60, 200], pickM l (spotK l k + 1) [0, 3, 10]⟩
def stopsTo (l : List Int) (k : Nat) : Nat → List Stop × Nat
  | 0 => ([], k)
  | i + 1 => ((stopsTo l k i).1 ++ [stopAt l (stopsTo l k i).2 i], spotK l (stopsTo l k i).2 + 3)
theorem stopsTo_len (l : List Int) (k i : Nat) : (stopsTo l k i).1.length = i := by
  induction i with
  | zero => rfl
  | succ i ih => simp [stopsTo, ih]
theorem stopsTo_k (l : List Int) (k i : Nat) : (stopsTo l k i).2 ≤ k + 7 * i := by
  induction i with
  | zero => simp [stopsTo]
  | succ i ih => have := spotK_le l (stopsTo l k i).2; simp only [stopsTo]; omega
def stopsN (l : List Int) (k most : Nat) : Nat := (nxt l k ((most : Int) + 1)).toNat
theorem stopsN_le (l : List Int) (k most : Nat) : stopsN l k most ≤ most := by
  have := nxt_range l k ((most : Int) + 1) (by omega)
  unfold stopsN; omega
def stopsH (l : List Int) (k most : Nat) : List Stop := (stopsTo l (k + 1) (stopsN l k most)).1
def stopsJ (l : List Int) (k most : Nat) : Nat := (stopsTo l (k + 1) (stopsN l k most)).2
def stopLast (l : List Int) (j : Nat) : Stop := ⟨oneS l (j + 1) [⟨#[]⟩, ⟨#[115, 97]⟩, ⟨#[122, 122]⟩], 0, 0, pickM l (j + 2) [-1, 0, 9], pickM l (j + 3) [8, 1440, 1441], pickM l (j + 4) [0, -1, 1441]⟩
def stopsM (l : List Int) (k most : Nat) : List Stop := if flipM l (stopsJ l k most) 20 then stopsH l k most ++ [stopLast l (stopsJ l k most)] else stopsH l k most
def stopsK (l : List Int) (k most : Nat) : Nat := if flipM l (stopsJ l k most) 20 then stopsJ l k most + 5 else stopsJ l k most + 1
theorem stopsJ_le (l : List Int) (k most : Nat) : stopsJ l k most ≤ k + 1 + 7 * most := by
  have := stopsN_le l k most
  have := stopsTo_k l (k + 1) (stopsN l k most)
  unfold stopsJ; omega
theorem stopsK_le (l : List Int) (k most : Nat) : stopsK l k most ≤ k + 6 + 7 * most := by
  have := stopsJ_le l k most
  unfold stopsK; split <;> omega
theorem stopsM_len (l : List Int) (k most : Nat) : (stopsM l k most).length ≤ most + 1 := by
  have := stopsN_le l k most
  have := stopsTo_len l (k + 1) (stopsN l k most)
  unfold stopsM stopsH; split <;> simp <;> omega
def StopsPost (l : List Int) (k most p lw : Nat) (w : World) (e : Ending) (w' : World) : Prop :=
  ∃ v, e = .returned v ∧ w'.ownsRow w.heap.size 44 6 v (stopsM l k most).length (flat encStop (stopsM l k most)) ∧ StreamAt w' p lw l (stopsK l k most) ∧ w.grownBy w' (some p)
/-- The cells of a block that is known whole. -/
theorem blkC {w : World} {g t : Nat} {cs : Array Value} (h : w.heap[g]? = some (.cells cs t (0, 0))) (j : Nat) {v : Value} (hv : cs[j]? = some v) : w.cell? ⟨g, j, none⟩ = some v := by
  simp [World.cell?, h, hv]
theorem blkF {w : World} {g t : Nat} {cs : Array Value} (h : w.heap[g]? = some (.cells cs t (0, 0))) (j : Nat) : w.frozen? ⟨g, j, none⟩ = false := by
  simp [World.frozen?, h]

/-- An owned row does not lie in a block that was made later. -/
theorem own_fresh {w : World} {base e size n q : Nat} {v : Value} {xs : List Value} (h : w.ownsRow base e size v n xs) (hq : q = w.heap.size) : v.ownBlock ≠ some q := by
  intro e
  have := (h.lt q e).2
  omega

set_option maxRecDepth 100000 in
set_option maxHeartbeats 2000000 in
theorem stops_any (l : List Int) (k most : Nat) (p : Nat) (w : World) (hs : StreamAt w p lw l k) (hk : k < 900000000) (hm : most ≤ 10) :
    Calls Try.prog 5 #[.pointer (some ⟨p, 0, none⟩), .int .i64 most] w (StopsPost l k most p lw w) := by
  have hlt := hs.lt
  go_enter Try.func5, Try.ntmps5
  go_wp2_with (fail)
  refine (next_any l k ((most : Int) + 1) p w hs (by omega) (by omega)).mono ?_
  rintro e w2 ⟨rfl, hs2, hg2⟩
  have hnl := stopsN_le l k most
  have hrg := nxt_range l k ((most : Int) + 1) (by omega)
  obtain ⟨n, hn⟩ : ∃ n, n = stopsN l k most := ⟨_, rfl⟩
  have hce : nxt l k ((most : Int) + 1) = (n : Int) := by rw [hn]; unfold stopsN; omega
  rw [hce]
  rw [← hn] at hnl
  have HN := Lib.hid hn
  clear hn hce hrg
  go_wp2_with (fail)
  go_loopw [5, 12] (fun v c wr => ∃ i : Nat, i ≤ n ∧ c = .int .i64 i ∧ wr.ownsRow w.heap.size 44 6 v i (flat encStop (stopsTo l (k + 1) i).1) ∧ StreamAt wr p lw l (stopsTo l (k + 1) i).2 ∧ w.grownBy wr (some p)) (fun _ c _ => n - (intOf c).toNat)
  case atStart => exact ⟨0, Nat.zero_le _, rfl, World.ownsRow_nil _ _ _ _, hs2, hg2⟩
  case round =>
    obtain ⟨i, hi, rfl, hown, hsr, hgr⟩ := hrel
    obtain ⟨wo, rfl⟩ : ∃ wo : World, wo = wr := ⟨_, rfl⟩
    have hjb := stopsTo_k l (k + 1) i
    by_cases hin : i < n
    · obtain ⟨j, hj⟩ : ∃ j, j = (stopsTo l (k + 1) i).2 := ⟨_, rfl⟩
      rw [← hj] at hsr hjb
      have HJ := Lib.hid hj
      clear hj
      obtain ⟨K, hK⟩ : ∃ K, K = Utf8.encode (97 + (i : Int)) := ⟨_, rfl⟩
      obtain ⟨S, hS⟩ : ∃ S, S = (⟨#[115]⟩ : ByteArray) ++ K := ⟨_, rfl⟩
      have q1 : ∀ w : World, (convert 3 21 (.int .i64 (97 + (i : Int)))).run Try.prog w = .ok (.int .i32 (97 + (i : Int))) w := by
        intro w
        have e : Try.prog.intKind 21 = .i32 := by kernel_rfl
        have e2 : IntKind.i32.wrap (97 + (i : Int)) = 97 + (i : Int) := by
          unfold IntKind.wrap
          simp [IntKind.bits, IntKind.signed]
          omega
        have := run_convert_int (P := Try.prog) (w := w) 3 21 .i64 (97 + (i : Int)) (by kernel_rfl) (by kernel_rfl)
        rw [e, e2] at this
        exact this
      have q2 : ∀ w : World, (convert 21 9 (.int .i32 (97 + (i : Int)))).run Try.prog w = .ok (.string K) w := by
        intro w
        rw [hK]
        exact run_convert_int_string w 21 9 .i32 (97 + (i : Int)) (by kernel_rfl) (by kernel_rfl)
      have hKs : K.size ≤ 4 := by rw [hK]; exact encode_size_le _
      have q3 : ∀ w : World, (Op.stringOp .add (⟨#[115]⟩ : ByteArray) K).run Try.prog w = .ok (.string S) w := by
        intro w
        rw [hS]
        have h1 : (⟨#[115]⟩ : ByteArray).size = 1 := rfl
        exact run_string_add_sum w (⟨#[115]⟩ : ByteArray) K (by omega)
      have HK := Lib.hid hK
      have HS := Lib.hid hS
      clear hK hS
      go_wp2_with (fail)
      refine (spot_any l j p wo hsr (by omega)).mono ?_
      rintro e w3 ⟨rfl, hs3, hg3⟩
      have hsk := spotK_le l j
      obtain ⟨x, hx⟩ : ∃ x, x = spotX l j := ⟨_, rfl⟩
      obtain ⟨y, hy⟩ : ∃ y, y = spotY l j := ⟨_, rfl⟩
      obtain ⟨k3, hk3⟩ : ∃ k3, k3 = spotK l j := ⟨_, rfl⟩
      rw [← hx, ← hy]
      rw [← hk3] at hsk hs3
      have HX := Lib.hid hx
      have HY := Lib.hid hy
      have HK3 := Lib.hid hk3
      clear hx hy hk3 hsr
      go_wp2_with (fail)
      refine (pick_any l k3 [0, 0, 10, 40] p w3 hs3 (by omega) (by decide) (by decide)).mono ?_
      rintro e w4 ⟨rfl, hs4, hg4⟩
      go_wp2_with (fail)
      refine (pick_any l (k3 + 1) [0, 3, 10] p w4 hs4 (by omega) (by decide) (by decide)).mono ?_
      rintro e w5 ⟨rfl, hs5, hg5⟩
      have hfb := pickM_mem l k3 [0, 0, 10, 40] (by decide)
      simp only [List.mem_cons, List.not_mem_nil, or_false] at hfb
      obtain ⟨f, hf⟩ : ∃ f, f = pickM l k3 [0, 0, 10, 40] := ⟨_, rfl⟩
      obtain ⟨g, hg⟩ : ∃ g, g = pickM l (k3 + 1) [0, 3, 10] := ⟨_, rfl⟩
      rw [← hf, ← hg]
      rw [← hf] at hfb
      have hf0 : 0 ≤ f := by omega
      have hf1 : f ≤ 40 := by omega
      have HF := Lib.hid hf
      have HG := Lib.hid hg
      clear hf hg hfb
      have hgr5 := gr_trans (gr_trans (gr_trans hgr hg3) hg4) hg5
      have hown5 := own_keepS (own_keepS (own_keepS hown hg3 hlt) hg4 hlt) hg5 hlt
      clear hg3 hg4 hg5 hs3 hs4 hown
      go_wp2_with (fail)
      have hq6 := heap_alloc_new w5 (.cells #[.string S, .int .i64 x, .int .i64 y, .int .i64 f, .int .i64 0, .int .i64 g] 44)
      have hg6 := gr_alloc (gr_refl w5 none) (.cells #[.string S, .int .i64 x, .int .i64 y, .int .i64 f, .int .i64 0, .int .i64 g] 44)
      obtain ⟨w6, hw6⟩ : ∃ w6, w6 = w5.alloc (.cells #[.string S, .int .i64 x, .int .i64 y, .int .i64 f, .int .i64 0, .int .i64 g] 44) := ⟨_, rfl⟩
      rw [← hw6] at hq6 hg6
      rw [← hw6]
      obtain ⟨q, hq⟩ : ∃ q, q = w5.heap.size := ⟨_, rfl⟩
      rw [← hq] at hq6
      rw [← hq]
      have hqlt := lt_of_block hq6
      have hwq : w.heap.size ≤ q := by have := hgr5.size; omega
      have hs6 := hs5.keep0 hg6
      have hown6 := own_keep0 hown5 hg6
      have hgr6 := gr_trans hgr5 (gr_weak hg6 _)
      have HNE := Lib.hid (own_fresh hown5 hq)
      have e0 : w6.cell? ⟨q, 3, none⟩ = some (.int .i64 f) := blkC hq6 3 rfl
      have HQ6 := Lib.hid hq6
      have HOWN6 := Lib.hid hown6
      clear hw6 hq hq6 hg6 hs5 hown5 hgr5 hown6
      obtain ⟨t, ht⟩ : ∃ t, t = pickM l (k3 + 1 + 1) [0, 10, 30, 60, 200] := ⟨_, rfl⟩
      have htb := pickM_mem l (k3 + 1 + 1) [0, 10, 30, 60, 200] (by decide)
      simp only [List.mem_cons, List.not_mem_nil, or_false] at htb
      rw [← ht] at htb
      have ht0 : 0 ≤ t := by omega
      have ht1 : t ≤ 200 := by omega
      have PK : Hid (Calls Try.prog 29 #[.pointer (some ⟨p, 0, none⟩), .slice (some ⟨w6.heap.size, 0, none⟩) 5 5] (w6.alloc (.cells #[.int .i64 0, .int .i64 10, .int .i64 30, .int .i64 60, .int .i64 200] 3)).drew fun e w' => e = .returned (.int .i64 t) ∧ StreamAt w' p lw l (k3 + 1 + 1 + 1) ∧ w6.grownBy w' (some p)) := by
        have hgd := gr_drew (gr_refl w6 none)
        rw [ht]; exact (pick_any l (k3 + 1 + 1) [0, 10, 30, 60, 200] p w6.drew (hs6.keep0 hgd) (by omega) (by decide) (by decide)).mono fun e w' h => ⟨h.1, h.2.1, gr_trans (gr_weak hgd _) h.2.2⟩
      have HT := Lib.hid ht
      have hwr : IntKind.i64.wrap (f + t) = f + t := IntWalk.i64_in _ (by omega)
      clear ht htb
      go_region_law (first | (go_simp; go_at_call 29; (with_reducible refine PK.out.mono ?_); rintro e w7 ⟨rfl, hs7, hg7⟩; have hq7 := (hg7.block q hqlt (by simp; omega)).trans HQ6.out; have c3 : w7.cell? ⟨q, 3, none⟩ = some (.int .i64 f) := blkC hq7 3 rfl; have c4 : w7.cell? ⟨q, 4, none⟩ = some (.int .i64 0) := blkC hq7 4 rfl; have z4 := blkF hq7 4; have hown7 := own_keepS HOWN6.out hg7 hlt; have hs7s := hg7.size)
                           | fail)
      all_goals (try go_simp)
      all_goals
        clear hwr
        obtain ⟨w8, hw8⟩ : ∃ w8, w8 = w7.setCell ⟨q, 4, none⟩ (.int .i64 (f + t)) := ⟨_, rfl⟩
        have hg8 : w7.grownBy w8 (some q) := by rw [hw8]; exact gr_set (q := ⟨q, 4, none⟩) (gr_refl w7 (some q)) rfl _
        have hq8 : w8.heap[q]? = some (.cells #[.string S, .int .i64 x, .int .i64 y, .int .i64 f, .int .i64 (f + t), .int .i64 g] 44 (0, 0)) := by rw [hw8]; exact heap_setCell_same w7 q 4 _ _ _ hq7
        have hs8 := hs7.keep hg8 (fun r e => by cases e; omega)
        have hown8 := own_keep hown7 hg8 (.inr HNE.out)
        have hgr8 := gr_grown (gr_trans hgr6 hg7) hg8 (fun r e => by cases e; omega)
        have hsz8 := hgr8.size
        have d0 : w8.cell? ⟨q, 0, none⟩ = some (.string S) := blkC hq8 0 rfl
        have d1 : w8.cell? ⟨q, 1, none⟩ = some (.int .i64 x) := blkC hq8 1 rfl
        have d2 : w8.cell? ⟨q, 2, none⟩ = some (.int .i64 y) := blkC hq8 2 rfl
        have d3 : w8.cell? ⟨q, 3, none⟩ = some (.int .i64 f) := blkC hq8 3 rfl
        have d4 : w8.cell? ⟨q, 4, none⟩ = some (.int .i64 (f + t)) := blkC hq8 4 rfl
        have d5 : w8.cell? ⟨q, 5, none⟩ = some (.int .i64 g) := blkC hq8 5 rfl
        rw [← hw8]
        have HQ8 := Lib.hid hq8
        have HNX : Hid ((stopsTo l (k + 1) i).1 ++ [⟨S, x, y, f, f + t, g⟩] = (stopsTo l (k + 1) (i + 1)).1) := by
          show _ = _
          simp only [stopsTo]
          rw [← HJ.out]
          unfold stopAt
          rw [← HK3.out, ← HX.out, ← HY.out, ← HF.out, ← HG.out, HS.out, HK.out, HT.out]
          rfl
        have HNJ : Hid (k3 + 1 + 1 + 1 = (stopsTo l (k + 1) (i + 1)).2) := by
          show _ = _
          simp only [stopsTo]
          rw [← HJ.out, ← HK3.out]
        clear hw8 hq8 hq7 hg7 hg8 hown7 hs7 c3 c4 z4 e0
        go_wp2_with (at_builtin; refine wpList_app1 eStop rfl _ _ rfl w.heap.size _ i _ rfl w8 #[.string S, .int .i64 x, .int .i64 y, .int .i64 f, .int .i64 (f + t), .int .i64 g] rfl hown8 _ rfl rfl rfl rfl ?_ ?_ ?_; (· omega); (· omega); intro v9 w9 hown9 hg9 hlt9)
        go_roundw
        case rel =>
          refine ⟨i + 1, by omega, by go_num, ?_, ?_, gr_grown hgr8 hg9 hlt9⟩
          · rw [← HNX.out, flat_append]
            simpa [flat, encStop] using hown9
          · rw [← HNJ.out]
            exact hs8.keep hg9 (fun r e => by have := hlt9 r e; omega)
        case measure => simp [intOf]; omega
    · obtain rfl : n = i := by omega
      obtain ⟨j, hj⟩ : ∃ j, j = stopsJ l k most := ⟨_, rfl⟩
      have hjj : (stopsTo l (k + 1) n).2 = j := by rw [hj]; unfold stopsJ; rw [HN.out]
      rw [hjj] at hsr hjb
      have hhh : (stopsTo l (k + 1) n).1 = stopsH l k most := by unfold stopsH; rw [HN.out]
      rw [hhh] at hown
      have hll : (stopsH l k most).length = n := by rw [← hhh, stopsTo_len]
      have HJ := Lib.hid hj
      have HLL := Lib.hid hll
      clear hj hjj hhh hll
      go_wp2_with (fail)
      refine (flip_any l j 20 p wo hsr (by omega) (by omega)).mono ?_
      rintro e w3 ⟨rfl, hs3, hg3⟩
      have hown3 := own_keepS hown hg3 hlt
      have hgr3 := gr_trans hgr hg3
      have hsz3 := hgr3.size
      clear hown hgr hg3 hsr
      cases hf : flipM l j 20 with
      | false =>
        have HF := Lib.hid hf
        clear hf
        go_wp2_with (fail)
        go_ret
        have e1 : stopsM l k most = stopsH l k most := by unfold stopsM; rw [← HJ.out, HF.out]; rfl
        have e2 : stopsK l k most = j + 1 := by unfold stopsK; rw [← HJ.out, HF.out]; rfl
        exact ⟨_, rfl, by rw [e1, HLL.out]; exact hown3, by rw [e2]; exact hs3, hgr3⟩
      | true =>
        have HF := Lib.hid hf
        clear hf
        go_wp2_with (fail)
        refine (one_any l (j + 1) [⟨#[]⟩, ⟨#[115, 97]⟩, ⟨#[122, 122]⟩] p w3 hs3 (by omega) (by decide) (by decide)).mono ?_
        rintro e w4 ⟨rfl, hs4, hg4⟩
        go_wp2_with (fail)
        refine (pick_any l (j + 2) [-1, 0, 9] p w4 hs4 (by omega) (by decide) (by decide)).mono ?_
        rintro e w5 ⟨rfl, hs5, hg5⟩
        go_wp2_with (fail)
        refine (pick_any l (j + 3) [8, 1440, 1441] p w5 hs5 (by omega) (by decide) (by decide)).mono ?_
        rintro e w6 ⟨rfl, hs6, hg6⟩
        go_wp2_with (fail)
        refine (pick_any l (j + 4) [0, -1, 1441] p w6 hs6 (by omega) (by decide) (by decide)).mono ?_
        rintro e w7 ⟨rfl, hs7, hg7⟩
        have hgr7 := gr_trans (gr_trans (gr_trans (gr_trans hgr3 hg4) hg5) hg6) hg7
        have hown7 := own_keepS (own_keepS (own_keepS (own_keepS hown3 hg4 hlt) hg5 hlt) hg6 hlt) hg7 hlt
        have hsz7 := hgr7.size
        obtain ⟨S, hS⟩ : ∃ S, S = oneS l (j + 1) [⟨#[]⟩, ⟨#[115, 97]⟩, ⟨#[122, 122]⟩] := ⟨_, rfl⟩
        obtain ⟨f, hf⟩ : ∃ f, f = pickM l (j + 2) [-1, 0, 9] := ⟨_, rfl⟩
        obtain ⟨t, ht⟩ : ∃ t, t = pickM l (j + 3) [8, 1440, 1441] := ⟨_, rfl⟩
        obtain ⟨g, hg⟩ : ∃ g, g = pickM l (j + 4) [0, -1, 1441] := ⟨_, rfl⟩
        rw [← hS, ← hf, ← ht, ← hg]
        have e1 : stopsM l k most = stopsH l k most ++ [⟨S, 0, 0, f, t, g⟩] := by unfold stopsM stopLast; rw [← HJ.out, HF.out, hS, hf, ht, hg]; rfl
        have e2 : stopsK l k most = j + 5 := by unfold stopsK; rw [← HJ.out, HF.out]; rfl
        have E1 := Lib.hid e1
        have E2 := Lib.hid e2
        clear hS hf ht hg e1 e2 hg4 hg5 hg6 hg7 hown3 hgr3
        go_wp2_with (at_builtin; refine wpList_app1 eStop rfl _ _ rfl w.heap.size _ n _ rfl w7 #[.string S, .int .i64 0, .int .i64 0, .int .i64 f, .int .i64 t, .int .i64 g] rfl hown7 _ rfl rfl rfl rfl ?_ ?_ ?_; (· omega); (· omega); intro v9 w9 hown9 hg9 hlt9)
        go_ret
        refine ⟨_, rfl, ?_, ?_, gr_grown hgr7 hg9 hlt9⟩
        · rw [E1.out, flat_append, List.length_append, HLL.out]
          simpa [flat, encStop] using hown9
        · rw [E2.out]
          exact hs7.keep hg9 (fun r e => by have := hlt9 r e; omega)
end Go.Proofs.Ytdjnomeabadbnaa
