/- Stops, as the stream makes them. -/
import Derived.Test.YtehhmgbgkemidaaDoorPkSAe
import Derived.Test.YtehhmgbgkemidaaDoorPkSAi
import Derived.Test.YtehhmgbgkemidaaDoorPkSAa
import Derived.Test.YtehhmgbgkemidaaDoorPkSAd
import Derived.Test.YtehhmgbgkemidaaDoorPkSAb
import Derived.Deep.RegionLaw
import Derived.IntWalk
import Derived.Laws.Cover4
namespace Go.Proofs.YtehhmgbgkemidaaDoor
open Go.RowKit
variable {lw : Nat}

structure Stop where
  key : ByteArray
  x : Int
  y : Int
  fr : Int
  tt : Int
  lo : Int
def encStop (s : Stop) : List Value := [.string s.key, .int .i64 s.x, .int .i64 s.y, .int .i64 s.fr, .int .i64 s.tt, .int .i64 s.lo]
theorem encStop_len (s : Stop) : (encStop s).length = 6 := rfl
theorem encStop_one (s : Stop) : (encStop s).all (fun u => u.oneCell') = true := rfl
theorem eStop : ElemT Tryd.prog 26 52 (.agg #[.string ⟨#[]⟩, .int .i64 0, .int .i64 0, .int .i64 0, .int .i64 0, .int .i64 0]) 6 56 := ⟨by kernel_rfl, by kernel_rfl, by decide, by decide, by decide⟩
def stopKey (i : Nat) : ByteArray := ⟨#[115]⟩ ++ Utf8.encode (97 + i)
def stopAt (l : List Int) (k i : Nat) : Stop := ⟨stopKey i, spotX l k, spotY l k, pickM l (spotK l k) [0, 0, 10, 40], pickM l (spotK l k) [0, 0, 10, 40] + pickM l (spotK l k + 2) [0, 10, 30, 60, 200], pickM l (spotK l k + 1) [0, 3, 10]⟩
def stopsTo (l : List Int) (k : Nat) : Nat → List Stop × Nat
  | 0 => ([], k)
  | i + 1 => ((stopsTo l k i).1 ++ [stopAt l (stopsTo l k i).2 i], spotK l (stopsTo l k i).2 + 3)
theorem stopsTo_len (l : List Int) (k i : Nat) : (stopsTo l k i).1.length = i := by
  induction i with
  | zero => rfl
  | succ i ih => simp [stopsTo, ih]
theorem stopsTo_k (l : List Int) (k i : Nat) : (stopsTo l k i).2 ≤ k + 7 * i := by
  induction i with
  | zero => simp [stopsTo]
  | succ i ih => have := spotK_le l (stopsTo l k i).2; simp only [stopsTo]; omega
def stopsN (l : List Int) (k most : Nat) : Nat := (nxt l k ((most : Int) + 1)).toNat
theorem stopsN_le (l : List Int) (k most : Nat) : stopsN l k most ≤ most := by
  have := nxt_range l k ((most : Int) + 1) (by omega)
  unfold stopsN; omega
def stopsH (l : List Int) (k most : Nat) : List Stop := (stopsTo l (k + 1) (stopsN l k most)).1
def stopsJ (l : List Int) (k most : Nat) : Nat := (stopsTo l (k + 1) (stopsN l k most)).2
def stopLast (l : List Int) (j : Nat) : Stop := ⟨oneS l (j + 1) [⟨#[]⟩, ⟨#[115, 97]⟩, ⟨#[122, 122]⟩], 0, 0, pickM l (j + 2) [-1, 0, 9], pickM l (j + 3) [8, 1440, 1441], pickM l (j + 4) [0, -1, 1441]⟩
def stopsM (l : List Int) (k most : Nat) : List Stop := if flipM l (stopsJ l k most) 20 then stopsH l k most ++ [stopLast l (stopsJ l k most)] else stopsH l k most
def stopsK (l : List Int) (k most : Nat) : Nat := if flipM l (stopsJ l k most) 20 then stopsJ l k most + 5 else stopsJ l k most + 1
theorem stopsJ_le (l : List Int) (k most : Nat) : stopsJ l k most ≤ k + 1 + 7 * most := by
  have := stopsN_le l k most
  have := stopsTo_k l (k + 1) (stopsN l k most)
  unfold stopsJ; omega
theorem stopsK_le (l : List Int) (k most : Nat) : stopsK l k most ≤ k + 6 + 7 * most := by
  have := stopsJ_le l k most
  unfold stopsK; split <;> omega
theorem stopsM_len (l : List Int) (k most : Nat) : (stopsM l k most).length ≤ most + 1 := by
  have := stopsN_le l k most
  have := stopsTo_len l (k + 1) (stopsN l k most)
  unfold stopsM stopsH; split <;> simp <;> omega
def StopsPost (l : List Int) (k most p lw : Nat) (w : World) (e : Ending) (w' : World) : Prop :=
  ∃ v, e = .returned v ∧ w'.ownsRow w.heap.size 52 6 v (stopsM l k most).length (flat encStop (stopsM l k most)) ∧ StreamAt w' p lw l (stopsK l k most) ∧ w.grownBy w' (some p)
set_option maxRecDepth 100000 in
set_option maxHeartbeats 2000000 in
theorem stops_any (l : List Int) (k most : Nat) (p : Nat) (w : World) (hs : StreamAt w p lw l k) (hk : k < 900000000) (hm : most ≤ 10) :
    Calls Tryd.prog 4 #[.pointer (some ⟨p, 0, none⟩), .int .i64 most] w (StopsPost l k most p lw w) := by
  have hlt := hs.lt
  go_enter Tryd.func4, Tryd.ntmps4
  go_wp2_with (fail)
  refine (next_any l k ((most : Int) + 1) p w hs (by omega) (by omega)).mono ?_
  rintro e w2 ⟨rfl, hs2, hg2⟩
  have hnl := stopsN_le l k most
  have hrg := nxt_range l k ((most : Int) + 1) (by omega)
  obtain ⟨n, hn⟩ : ∃ n, n = stopsN l k most := ⟨_, rfl⟩
  have hce : nxt l k ((most : Int) + 1) = (n : Int) := by rw [hn]; unfold stopsN; omega
  rw [hce]
  rw [← hn] at hnl
  have HN := Lib.hid hn
  clear hn hce hrg
  go_wp2_with (fail)
  go_loopw [5, 12] (fun v c wr => ∃ i : Nat, i ≤ n ∧ c = .int .i64 i ∧ wr.ownsRow w.heap.size 52 6 v i (flat encStop (stopsTo l (k + 1) i).1) ∧ StreamAt wr p lw l (stopsTo l (k + 1) i).2 ∧ w.grownBy wr (some p)) (fun _ c _ => n - (intOf c).toNat)
  case atStart => exact ⟨0, Nat.zero_le _, rfl, World.ownsRow_nil _ _ _ _, hs2, hg2⟩
  case round =>
    obtain ⟨i, hi, rfl, hown, hsr, hgr⟩ := hrel
    obtain ⟨wo, rfl⟩ : ∃ wo : World, wo = wr := ⟨_, rfl⟩
    have hjb := stopsTo_k l (k + 1) i
    by_cases hin : i < n
    · obtain ⟨j, hj⟩ : ∃ j, j = (stopsTo l (k + 1) i).2 := ⟨_, rfl⟩
      rw [← hj] at hsr hjb
      have HJ := Lib.hid hj
      clear hj
      obtain ⟨K, hK⟩ : ∃ K, K = Utf8.encode (97 + (i : Int)) := ⟨_, rfl⟩
      obtain ⟨S, hS⟩ : ∃ S, S = (⟨#[115]⟩ : ByteArray) ++ K := ⟨_, rfl⟩
      have q1 : ∀ w : World, (convert 3 21 (.int .i64 (97 + (i : Int)))).run Tryd.prog w = .ok (.int .i32 (97 + (i : Int))) w := by
        intro w
        have e : Tryd.prog.intKind 21 = .i32 := by kernel_rfl
        have e2 : IntKind.i32.wrap (97 + (i : Int)) = 97 + (i : Int) := by
          unfold IntKind.wrap
          simp [IntKind.bits, IntKind.signed]
          omega
        have := run_convert_int (P := Tryd.prog) (w := w) 3 21 .i64 (97 + (i : Int)) (by kernel_rfl) (by kernel_rfl)
        rw [e, e2] at this
        exact this
      have q2 : ∀ w : World, (convert 21 9 (.int .i32 (97 + (i : Int)))).run Tryd.prog w = .ok (.string K) w := by
        intro w
        rw [hK]
        exact run_convert_int_string w 21 9 .i32 (97 + (i : Int)) (by kernel_rfl) (by kernel_rfl)
      have hKs : K.size ≤ 4 := by rw [hK]; exact encode_size_le _
      have q3 : ∀ w : World, (Op.stringOp .add (⟨#[115]⟩ : ByteArray) K).run Tryd.prog w = .ok (.string S) w := by
        intro w
        rw [hS]
        have h1 : (⟨#[115]⟩ : ByteArray).size = 1 := rfl
        exact run_string_add_sum w (⟨#[115]⟩ : ByteArray) K (by omega)
      have HK := Lib.hid hK
      have HS := Lib.hid hS
      clear hK hS
      go_wp2_with (fail)
      refine (spot_any l j p wo hsr (by omega)).mono ?_
      rintro e w3 ⟨rfl, hs3, hg3⟩
      have hsk := spotK_le l j
      obtain ⟨x, hx⟩ : ∃ x, x = spotX l j := ⟨_, rfl⟩
      obtain ⟨y, hy⟩ : ∃ y, y = spotY l j := ⟨_, rfl⟩
      obtain ⟨k3, hk3⟩ : ∃ k3, k3 = spotK l j := ⟨_, rfl⟩
      rw [← hx, ← hy]
      rw [← hk3] at hsk hs3
      have HX := Lib.hid hx
      have HY := Lib.hid hy
      have HK3 := Lib.hid hk3
      clear hx hy hk3 hsr
      go_wp2_with (fail)
      refine (pick_any l k3 [0, 0, 10, 40] p w3 hs3 (by omega) (by decide) (by decide)).mono ?_
      rintro e w4 ⟨rfl, hs4, hg4⟩
      go_wp2_with (fail)
      refine (pick_any l (k3 + 1) [0, 3, 10] p w4 hs4 (by omega) (by decide) (by decide)).mono ?_
      rintro e w5 ⟨rfl, hs5, hg5⟩
      have hfb := pickM_mem l k3 [0, 0, 10, 40] (by decide)
      simp only [List.mem_cons, List.not_mem_nil, or_false] at hfb
      obtain ⟨f, hf⟩ : ∃ f, f = pickM l k3 [0, 0, 10, 40] := ⟨_, rfl⟩
      obtain ⟨g, hg⟩ : ∃ g, g = pickM l (k3 + 1) [0, 3, 10] := ⟨_, rfl⟩
      rw [← hf, ← hg]
      rw [← hf] at hfb
      have hf0 : 0 ≤ f := by omega
      have hf1 : f ≤ 40 := by omega
      have HF := Lib.hid hf
      have HG := Lib.hid hg
      clear hf hg hfb
      have hgr5 := gr_trans (gr_trans (gr_trans hgr hg3) hg4) hg5
      have hown5 := own_keepS (own_keepS (own_keepS hown hg3 hlt) hg4 hlt) hg5 hlt
      clear hg3 hg4 hg5 hs3 hs4 hown
      go_wp2_with (fail)
      have hq6 := heap_alloc_new w5 (.cells #[.string S, .int .i64 x, .int .i64 y, .int .i64 f, .int .i64 0, .int .i64 g] 52)
      have hg6 := gr_alloc (gr_refl w5 none) (.cells #[.string S, .int .i64 x, .int .i64 y, .int .i64 f, .int .i64 0, .int .i64 g] 52)
      obtain ⟨w6, hw6⟩ : ∃ w6, w6 = w5.alloc (.cells #[.string S, .int .i64 x, .int .i64 y, .int .i64 f, .int .i64 0, .int .i64 g] 52) := ⟨_, rfl⟩
      rw [← hw6] at hq6 hg6
      rw [← hw6]
      obtain ⟨q, hq⟩ : ∃ q, q = w5.heap.size := ⟨_, rfl⟩
      rw [← hq] at hq6
      rw [← hq]
      have hqlt := lt_of_block hq6
      have hwq : w.heap.size ≤ q := by have := hgr5.size; omega
      have hs6 := hs5.keep0 hg6
      have hown6 := own_keep0 hown5 hg6
      have hgr6 := gr_trans hgr5 (gr_weak hg6 _)
      have HNE := Lib.hid (own_fresh hown5 hq)
      have e0 : w6.cell? ⟨q, 3, none⟩ = some (.int .i64 f) := blkC hq6 3 rfl
      have HQ6 := Lib.hid hq6
      have HOWN6 := Lib.hid hown6
      clear hw6 hq hq6 hg6 hs5 hown5 hgr5 hown6
      obtain ⟨t, ht⟩ : ∃ t, t = pickM l (k3 + 1 + 1) [0, 10, 30, 60, 200] := ⟨_, rfl⟩
      have htb := pickM_mem l (k3 + 1 + 1) [0, 10, 30, 60, 200] (by decide)
      simp only [List.mem_cons, List.not_mem_nil, or_false] at htb
      rw [← ht] at htb
      have ht0 : 0 ≤ t := by omega
      have ht1 : t ≤ 200 := by omega
      have PK : Hid (Calls Tryd.prog 6 #[.pointer (some ⟨p, 0, none⟩), .slice (some ⟨w6.heap.size, 0, none⟩) 5 5] (w6.alloc (.cells #[.int .i64 0, .int .i64 10, .int .i64 30, .int .i64 60, .int .i64 200] 3)).drew fun e w' => e = .returned (.int .i64 t) ∧ StreamAt w' p lw l (k3 + 1 + 1 + 1) ∧ w6.grownBy w' (some p)) := by
        have hgd := gr_drew (gr_refl w6 none)
        rw [ht]; exact (pick_any l (k3 + 1 + 1) [0, 10, 30, 60, 200] p w6.drew (hs6.keep0 hgd) (by omega) (by decide) (by decide)).mono fun e w' h => ⟨h.1, h.2.1, gr_trans (gr_weak hgd _) h.2.2⟩
      have HT := Lib.hid ht
      have hwr : IntKind.i64.wrap (f + t) = f + t := IntWalk.i64_in _ (by omega)
      clear ht htb
      go_region_law (first | (go_simp; go_at_call 6; (with_reducible refine PK.out.mono ?_); rintro e w7 ⟨rfl, hs7, hg7⟩; have hq7 := (hg7.block q hqlt (by simp; omega)).trans HQ6.out; have c3 : w7.cell? ⟨q, 3, none⟩ = some (.int .i64 f) := blkC hq7 3 rfl; have c4 : w7.cell? ⟨q, 4, none⟩ = some (.int .i64 0) := blkC hq7 4 rfl; have z4 := blkF hq7 4; have hown7 := own_keepS HOWN6.out hg7 hlt; have hs7s := hg7.size)
                           | fail)
      all_goals (try go_simp)
      all_goals
        clear hwr
        obtain ⟨w8, hw8⟩ : ∃ w8, w8 = w7.setCell ⟨q, 4, none⟩ (.int .i64 (f + t)) := ⟨_, rfl⟩
        have hg8 : w7.grownBy w8 (some q) := by rw [hw8]; exact gr_set (q := ⟨q, 4, none⟩) (gr_refl w7 (some q)) rfl _
        have hq8 : w8.heap[q]? = some (.cells #[.string S, .int .i64 x, .int .i64 y, .int .i64 f, .int .i64 (f + t), .int .i64 g] 52 (0, 0)) := by rw [hw8]; exact heap_setCell_same w7 q 4 _ _ _ hq7
        have hs8 := hs7.keep hg8 (fun r e => by cases e; omega)
        have hown8 := own_keep hown7 hg8 (.inr HNE.out)
        have hgr8 := gr_grown (gr_trans hgr6 hg7) hg8 (fun r e => by cases e; omega)
        have hsz8 := hgr8.size
        have d0 : w8.cell? ⟨q, 0, none⟩ = some (.string S) := blkC hq8 0 rfl
        have d1 : w8.cell? ⟨q, 1, none⟩ = some (.int .i64 x) := blkC hq8 1 rfl
        have d2 : w8.cell? ⟨q, 2, none⟩ = some (.int .i64 y) := blkC hq8 2 rfl
        have d3 : w8.cell? ⟨q, 3, none⟩ = some (.int .i64 f) := blkC hq8 3 rfl
        have d4 : w8.cell? ⟨q, 4, none⟩ = some (.int .i64 (f + t)) := blkC hq8 4 rfl
        have d5 : w8.cell? ⟨q, 5, none⟩ = some (.int .i64 g) := blkC hq8 5 rfl
        rw [← hw8]
        have HQ8 := Lib.hid hq8
        have HNX : Hid ((stopsTo l (k + 1) i).1 ++ [⟨S, x, y, f, f + t, g⟩] = (stopsTo l (k + 1) (i + 1)).1) := by
          show _ = _
          simp only [stopsTo]
          rw [← HJ.out]
          unfold stopAt
          rw [← HK3.out, ← HX.out, ← HY.out, ← HF.out, ← HG.out, HS.out, HK.out, HT.out]
          rfl
        have HNJ : Hid (k3 + 1 + 1 + 1 = (stopsTo l (k + 1) (i + 1)).2) := by
          show _ = _
          simp only [stopsTo]
          rw [← HJ.out, ← HK3.out]
        clear hw8 hq8 hq7 hg7 hg8 hown7 hs7 c3 c4 z4 e0
        go_wp2_with (at_builtin; refine wpList_app1 eStop rfl _ _ rfl w.heap.size _ i _ rfl w8 #[.string S, .int .i64 x, .int .i64 y, .int .i64 f, .int .i64 (f + t), .int .i64 g] rfl hown8 _ rfl rfl rfl rfl ?_ ?_ ?_; (· omega); (· omega); intro v9 w9 hown9 hg9 hlt9)
        go_roundw
        case rel =>
          refine ⟨i + 1, by omega, by go_num, ?_, ?_, gr_grown hgr8 hg9 hlt9⟩
          · rw [← HNX.out, flat_append]
            simpa [flat, encStop] using hown9
          · rw [← HNJ.out]
            exact hs8.keep hg9 (fun r e => by have := hlt9 r e; omega)
        case measure => simp [intOf]; omega
    · obtain rfl : n = i := by omega
      obtain ⟨j, hj⟩ : ∃ j, j = stopsJ l k most := ⟨_, rfl⟩
      have hjj : (stopsTo l (k + 1) n).2 = j := by rw [hj]; unfold stopsJ; rw [HN.out]
      rw [hjj] at hsr hjb
      have hhh : (stopsTo l (k + 1) n).1 = stopsH l k most := by unfold stopsH; rw [HN.out]
      rw [hhh] at hown
      have hll : (stopsH l k most).length = n := by rw [← hhh, stopsTo_len]
      have HJ := Lib.hid hj
      have HLL := Lib.hid hll
      clear hj hjj hhh hll
      go_wp2_with (fail)
      refine (flip_any l j 20 p wo hsr (by omega) (by omega)).mono ?_
      rintro e w3 ⟨rfl, hs3, hg3⟩
      have hown3 := own_keepS hown hg3 hlt
      have hgr3 := gr_trans hgr hg3
      have hsz3 := hgr3.size
      clear hown hgr hg3 hsr
      cases hf : flipM l j 20 with
      | false =>
        have HF := Lib.hid hf
        clear hf
        go_wp2_with (fail)
        go_ret
        have e1 : stopsM l k most = stopsH l k most := by unfold stopsM; rw [← HJ.out, HF.out]; rfl
        have e2 : stopsK l k most = j + 1 := by unfold stopsK; rw [← HJ.out, HF.out]; rfl
        exact ⟨_, rfl, by rw [e1, HLL.out]; exact hown3, by rw [e2]; exact hs3, hgr3⟩
      | true =>
        have HF := Lib.hid hf
        clear hf
        go_wp2_with (fail)
        refine (one_any l (j + 1) [⟨#[]⟩, ⟨#[115, 97]⟩, ⟨#[122, 122]⟩] p w3 hs3 (by omega) (by decide) (by decide)).mono ?_
        rintro e w4 ⟨rfl, hs4, hg4⟩
        go_wp2_with (fail)
        refine (pick_any l (j + 2) [-1, 0, 9] p w4 hs4 (by omega) (by decide) (by decide)).mono ?_
        rintro e w5 ⟨rfl, hs5, hg5⟩
        go_wp2_with (fail)
        refine (pick_any l (j + 3) [8, 1440, 1441] p w5 hs5 (by omega) (by decide) (by decide)).mono ?_
        rintro e w6 ⟨rfl, hs6, hg6⟩
        go_wp2_with (fail)
        refine (pick_any l (j + 4) [0, -1, 1441] p w6 hs6 (by omega) (by decide) (by decide)).mono ?_
        rintro e w7 ⟨rfl, hs7, hg7⟩
        have hgr7 := gr_trans (gr_trans (gr_trans (gr_trans hgr3 hg4) hg5) hg6) hg7
        have hown7 := own_keepS (own_keepS (own_keepS (own_keepS hown3 hg4 hlt) hg5 hlt) hg6 hlt) hg7 hlt
        have hsz7 := hgr7.size
        obtain ⟨S, hS⟩ : ∃ S, S = oneS l (j + 1) [⟨#[]⟩, ⟨#[115, 97]⟩, ⟨#[122, 122]⟩] := ⟨_, rfl⟩
        obtain ⟨f, hf⟩ : ∃ f, f = pickM l (j + 2) [-1, 0, 9] := ⟨_, rfl⟩
        obtain ⟨t, ht⟩ : ∃ t, t = pickM l (j + 3) [8, 1440, 1441] := ⟨_, rfl⟩
        obtain ⟨g, hg⟩ : ∃ g, g = pickM l (j + 4) [0, -1, 1441] := ⟨_, rfl⟩
        rw [← hS, ← hf, ← ht, ← hg]
        have e1 : stopsM l k most = stopsH l k most ++ [⟨S, 0, 0, f, t, g⟩] := by unfold stopsM stopLast; rw [← HJ.out, HF.out, hS, hf, ht, hg]; rfl
        have e2 : stopsK l k most = j + 5 := by unfold stopsK; rw [← HJ.out, HF.out]; rfl
        have E1 := Lib.hid e1
        have E2 := Lib.hid e2
        clear hS hf ht hg e1 e2 hg4 hg5 hg6 hg7 hown3 hgr3
        go_wp2_with (at_builtin; refine wpList_app1 eStop rfl _ _ rfl w.heap.size _ n _ rfl w7 #[.string S, .int .i64 0, .int .i64 0, .int .i64 f, .int .i64 t, .int .i64 g] rfl hown7 _ rfl rfl rfl rfl ?_ ?_ ?_; (· omega); (· omega); intro v9 w9 hown9 hg9 hlt9)
        go_ret
        refine ⟨_, rfl, ?_, ?_, gr_grown hgr7 hg9 hlt9⟩
        · rw [E1.out, flat_append, List.length_append, HLL.out]
          simpa [flat, encStop] using hown9
        · rw [E2.out]
          exact hs7.keep hg9 (fun r e => by have := hlt9 r e; omega)
end Go.Proofs.YtehhmgbgkemidaaDoor

/-! Routes that are driven: no program in sight. -/
namespace Go.Proofs.YtehhmgbgkemidaaDoor

def farI (x1 y1 x2 y2 : Int) : Int := max (x1 - x2) (x2 - x1) + max (y1 - y2) (y2 - y1)
structure Pos where
  x : Int
  y : Int
  now : Int
  way : Int
def stop0 : Stop := ⟨⟨#[]⟩, 0, 0, 0, 0, 0⟩
def stepP (s : Stop) (p : Pos) : Option Pos :=
  if s.tt < max (p.now + farI p.x p.y s.x s.y) s.fr then none else some ⟨s.x, s.y, max (p.now + farI p.x p.y s.x s.y) s.fr + s.lo, p.way + farI p.x p.y s.x s.y⟩
def stopN (xs : List Stop) (i : Int) : Stop := xs.getD i.toNat stop0
def runP (xs : List Stop) : List Int → Pos → Option Pos
  | [], p => some p
  | i :: is, p => (stepP (stopN xs i) p).bind (runP xs is)
def endW (hx hy : Int) (p : Pos) : Int := p.way + farI p.x p.y hx hy
def drvM (hx hy st : Int) (xs : List Stop) (O : List Int) : Option Int := (runP xs O ⟨hx, hy, st, 0⟩).map (endW hx hy)
theorem runP_app (xs : List Stop) : ∀ (A B : List Int) (p : Pos), runP xs (A ++ B) p = (runP xs A p).bind (runP xs B)
  | [], B, p => rfl
  | i :: A, B, p => by
    simp only [List.cons_append, runP]
    cases stepP (stopN xs i) p with
    | none => rfl
    | some q => exact runP_app xs A B q
theorem runP_snoc (xs : List Stop) (A : List Int) (i : Int) (p : Pos) : runP xs (A ++ [i]) p = (runP xs A p).bind (stepP (stopN xs i)) := by
  rw [runP_app]
  congr 1
  funext q
  simp only [runP]
  cases stepP (stopN xs i) q <;> rfl
/-- No way home is shorter than the one right now. -/
theorem run_end (xs : List Stop) (hx hy : Int) : ∀ (O : List Int) (p q : Pos), runP xs O p = some q → endW hx hy p ≤ endW hx hy q
  | [], p, q, h => by cases h; exact Int.le_refl _
  | i :: O, p, q, h => by
    simp only [runP] at h
    cases hs : stepP (stopN xs i) p with
    | none => rw [hs] at h; cases h
    | some r =>
      rw [hs] at h
      have h1 := run_end xs hx hy O r q h
      have h2 : endW hx hy p ≤ endW hx hy r := by
        unfold stepP at hs
        split at hs
        · cases hs
        · cases hs
          unfold endW farI
          simp only
          omega
      omega
structure StopOk (s : Stop) : Prop where
  x0 : -10000 ≤ s.x
  x1 : s.x ≤ 10000
  y0 : -10000 ≤ s.y
  y1 : s.y ≤ 10000
  f0 : 0 ≤ s.fr
  f1 : s.fr ≤ s.tt
  t1 : s.tt ≤ 1440
  l0 : 0 ≤ s.lo
  l1 : s.lo ≤ 1440
structure TripOk (hx hy st : Int) (xs : List Stop) : Prop where
  hx0 : -10000 ≤ hx
  hx1 : hx ≤ 10000
  hy0 : -10000 ≤ hy
  hy1 : hy ≤ 10000
  s0 : 0 ≤ st
  s1 : st ≤ 1440
  all : ∀ s ∈ xs, StopOk s
structure OrdOk (O : List Int) (n : Nat) : Prop where
  rng : ∀ i ∈ O, 0 ≤ i ∧ i < n
  nd : O.Nodup
structure PosOk (p : Pos) (k : Nat) : Prop where
  x0 : -10000 ≤ p.x
  x1 : p.x ≤ 10000
  y0 : -10000 ≤ p.y
  y1 : p.y ≤ 10000
  n0 : 0 ≤ p.now
  n1 : p.now ≤ 2880
  w0 : 0 ≤ p.way
  w1 : p.way ≤ 40000 * k
theorem TripOk.start {hx hy st : Int} {xs : List Stop} (h : TripOk hx hy st xs) : PosOk ⟨hx, hy, st, 0⟩ 0 := ⟨h.hx0, h.hx1, h.hy0, h.hy1, h.s0, by have := h.s1; simp only; omega, Int.le_refl _, by simp⟩
theorem farI_bd {x1 y1 x2 y2 : Int} (h1 : -10000 ≤ x1) (h2 : x1 ≤ 10000) (h3 : -10000 ≤ y1) (h4 : y1 ≤ 10000) (g1 : -10000 ≤ x2) (g2 : x2 ≤ 10000) (g3 : -10000 ≤ y2) (g4 : y2 ≤ 10000) : 0 ≤ farI x1 y1 x2 y2 ∧ farI x1 y1 x2 y2 ≤ 40000 := by unfold farI; omega
theorem PosOk.step {p q : Pos} {k : Nat} {s : Stop} (h : PosOk p k) (hs : StopOk s) (e : stepP s p = some q) : PosOk q (k + 1) := by
  obtain ⟨a1, a2, a3, a4, a5, a6, a7, a8⟩ := h
  obtain ⟨b1, b2, b3, b4, b5, b6, b7, b8, b9⟩ := hs
  have hf := farI_bd a1 a2 a3 a4 b1 b2 b3 b4
  unfold stepP at e
  split at e
  · cases e
  · cases e
    exact ⟨b1, b2, b3, b4, by simp only; omega, by simp only; omega, by simp only; omega, by simp only; omega⟩
theorem stopN_mem {xs : List Stop} {i : Int} {n : Nat} (h : 0 ≤ i ∧ i < n) (hn : n = xs.length) : stopN xs i ∈ xs := by
  unfold stopN
  have hl : i.toNat < xs.length := by omega
  rw [List.getD_eq_getElem?_getD, List.getElem?_eq_getElem hl]
  exact List.getElem_mem hl
theorem PosOk.run {xs : List Stop} (hxs : ∀ s ∈ xs, StopOk s) : ∀ (O : List Int) (p q : Pos) (k : Nat), PosOk p k → (∀ i ∈ O, 0 ≤ i ∧ i < xs.length) → runP xs O p = some q → PosOk q (k + O.length)
  | [], p, q, k, h, _, e => by cases e; exact h
  | i :: O, p, q, k, h, hO, e => by
    simp only [runP] at e
    cases hs : stepP (stopN xs i) p with
    | none => rw [hs] at e; cases e
    | some r =>
      rw [hs] at e
      have h1 := h.step (hxs _ (stopN_mem (hO i (List.mem_cons_self ..)) rfl)) hs
      have h2 := PosOk.run hxs O r q (k + 1) h1 (fun j hj => hO j (List.mem_cons_of_mem _ hj)) e
      rw [List.length_cons, show k + (O.length + 1) = k + 1 + O.length by omega]
      exact h2
/-- A list without doubles below n has at most n elements; of all n it has each. -/
theorem nodup_full : ∀ (n : Nat) (O : List Int), OrdOk O n → O.length ≤ n
  | 0, [], _ => Nat.le_refl _
  | 0, i :: O, h => by have := h.rng i (List.mem_cons_self ..); omega
  | n + 1, O, h => by
    have h1 : OrdOk (O.erase (n : Int)) n := ⟨fun i hi => by
      have h2 := h.rng i (List.mem_of_mem_erase hi)
      have h3 : i ≠ (n : Int) := fun e => by
        rw [e] at hi
        exact absurd hi (h.nd.not_mem_erase)
      omega, h.nd.erase _⟩
    have h4 := nodup_full n _ h1
    by_cases hm : (n : Int) ∈ O
    · rw [List.length_erase_of_mem hm] at h4; omega
    · rw [List.erase_of_not_mem hm] at h4; omega
/-! The best route. -/
/-- What the search knows: the least way of the complete routes that it has seen. -/
structure BestAt (hx hy st : Int) (xs : List Stop) (B : List Int) (w : Int) : Prop where
  is : 0 ≤ w → OrdOk B xs.length ∧ B.length = xs.length ∧ drvM hx hy st xs B = some w
def Comp (xs : List Stop) (R : List Int) : Prop := OrdOk R xs.length ∧ R.length = xs.length
/-- The way w is at most that of all complete routes which begin so. -/
def Beats (hx hy st : Int) (xs : List Stop) (P : List Int) (w : Int) : Prop := ∀ R v, Comp xs (P ++ R) → drvM hx hy st xs (P ++ R) = some v → 0 ≤ w ∧ w ≤ v
def Less (w w' : Int) : Prop := 0 ≤ w → 0 ≤ w' ∧ w' ≤ w
theorem Less.refl (w : Int) : Less w w := fun h => ⟨h, Int.le_refl _⟩
theorem Less.trans {a b c : Int} (h : Less a b) (g : Less b c) : Less a c := fun e => by have h1 := h e; have h2 := g h1.1; omega
theorem Beats.less {hx hy st : Int} {xs : List Stop} {P : List Int} {w w' : Int} (h : Beats hx hy st xs P w) (g : Less w w') : Beats hx hy st xs P w' := fun R v h1 h2 => by
  have h3 := h R v h1 h2
  have h4 := g h3.1
  omega
theorem drv_pre {hx hy st : Int} {xs : List Stop} {P R : List Int} {v : Int} (h : drvM hx hy st xs (P ++ R) = some v) : ∃ p, runP xs P ⟨hx, hy, st, 0⟩ = some p ∧ endW hx hy p ≤ v ∧ ∃ q, runP xs R p = some q ∧ endW hx hy q = v := by
  unfold drvM at h
  rw [runP_app] at h
  cases hp : runP xs P ⟨hx, hy, st, 0⟩ with
  | none => rw [hp] at h; cases h
  | some p =>
    rw [hp] at h
    simp only [Option.bind_some] at h
    cases hq : runP xs R p with
    | none => rw [hq] at h; cases h
    | some q =>
      rw [hq] at h
      simp only [Option.map_some, Option.some.injEq] at h
      exact ⟨p, rfl, by have := run_end xs hx hy R p q hq; omega, q, hq, h⟩
/-- What cannot become better is left. -/
theorem beats_cut {hx hy st : Int} {xs : List Stop} {P : List Int} {p : Pos} {w : Int} (hp : runP xs P ⟨hx, hy, st, 0⟩ = some p) (h0 : 0 ≤ w) (h : w ≤ endW hx hy p) : Beats hx hy st xs P w := fun R v _ h2 => by
  obtain ⟨p', e, h3, _⟩ := drv_pre h2
  rw [hp] at e
  cases e
  omega
/-- All is in it. -/
theorem beats_full {hx hy st : Int} {xs : List Stop} {P : List Int} {p : Pos} (hp : runP xs P ⟨hx, hy, st, 0⟩ = some p) (h0 : 0 ≤ endW hx hy p) : Beats hx hy st xs P (endW hx hy p) := fun R v _ h2 => by
  obtain ⟨p', e, h3, _⟩ := drv_pre h2
  rw [hp] at e
  cases e
  exact ⟨h0, h3⟩
/-- All next stops are tried. -/
theorem beats_all {hx hy st : Int} {xs : List Stop} {P : List Int} {w : Int} (hl : P.length < xs.length) (h : ∀ i : Nat, i < xs.length → Beats hx hy st xs (P ++ [(i : Int)]) w) : Beats hx hy st xs P w := fun R v h1 h2 => by
  match R, h1, h2 with
  | [], h1, _ => have := h1.2; rw [List.append_nil] at this; omega
  | i :: R, h1, h2 =>
    have h3 := h1.1.rng i (by simp)
    have e : P ++ i :: R = (P ++ [((i.toNat : Nat) : Int)]) ++ R := by
      rw [show ((i.toNat : Nat) : Int) = i by omega]
      simp
    rw [e] at h1 h2
    exact h i.toNat (by omega) R v h1 h2
/-- A stop that is in the route already, or is reached too late, gives nothing. -/
theorem beats_in {hx hy st : Int} {xs : List Stop} {P : List Int} {i : Int} {w : Int} (h : i ∈ P) : Beats hx hy st xs (P ++ [i]) w := fun R v h1 _ => by
  have h2 := h1.1.nd
  rw [List.append_assoc] at h2
  exact absurd rfl (((List.nodup_append.1 h2).2.2) i h i (by simp))
theorem beats_late {hx hy st : Int} {xs : List Stop} {P : List Int} {p : Pos} {i : Int} {w : Int} (hp : runP xs P ⟨hx, hy, st, 0⟩ = some p) (h : stepP (stopN xs i) p = none) : Beats hx hy st xs (P ++ [i]) w := fun R v _ h2 => by
  obtain ⟨p', e, _⟩ := drv_pre h2
  rw [runP_snoc, hp, Option.bind_some, h] at e
  cases e
end Go.Proofs.YtehhmgbgkemidaaDoor

/-! Package slices at elements coilrack/api.Stop: with a function value. Written by mkfind.py. -/
namespace Go.Proofs.YtehhmgbgkemidaaDoor
open Go.RowKit

set_option maxRecDepth 100000 in
set_option maxHeartbeats 1000000 in
theorem indexFunc_stop (F : FuncId) (p : Nat) (P : Stop → Bool) (xs : List (Stop)) (a : Option Addr) (c : Nat) (w : World) (hc : CellsAt w a (flat encStop xs)) (hl : xs.length ≤ 137438953472)
    (hE : ∀ (args : Array Value) (w : World), (callFunc F args).run Tryd.prog w = .ok (.enter F args) w)
    (hF : ∀ x ∈ xs, ∀ w1, w.grownBy w1 none → Calls Tryd.prog F #[.agg #[.string x.key, .int .i64 x.x, .int .i64 x.y, .int .i64 x.fr, .int .i64 x.tt, .int .i64 x.lo], .pointer (some ⟨p, 0, none⟩)] w1 fun e w2 => e = .returned (.bool (P x)) ∧ w1.grownBy w2 none) :
    Calls Tryd.prog 55 #[.slice a xs.length c, Value.func (.func F) #[] #[.pointer (some ⟨p, 0, none⟩)]] w fun e w' => e = .returned (.int .i64 (findA P xs)) ∧ w.grownBy w' none := by
  have HF := Lib.hid hF; clear hF
  go_enter Tryd.func55, Tryd.ntmps55
  go_wp2_with (fail)
  go_loopw [8] (fun i wr => ∃ k : Nat, k ≤ xs.length ∧ i = .int .i64 k ∧ (∀ j (hj : j < xs.length), j < k → P xs[j] = false) ∧ w.grownBy wr none) (fun i _ => xs.length - (intOf i).toNat)
  case atStart => exact ⟨0, Nat.zero_le _, rfl, fun j _ hj => absurd hj (Nat.not_lt_zero _), gr_refl _ _⟩
  case round =>
    obtain ⟨k, hk, rfl, hno, hgr⟩ := hrel
    obtain ⟨wo, rfl⟩ : ∃ wo : World, wo = wr := ⟨_, rfl⟩
    have HNO := Lib.hid hno; clear hno
    by_cases hlt : k < xs.length
    · obtain ⟨b, off, rfl, hcs⟩ := flat_cells (enc := encStop) (m := 6) (fun _ => rfl) (by decide) (hc.keep0 hgr) (by omega)
      have hmem : xs[k] ∈ xs := List.getElem_mem hlt
      obtain ⟨x, hx⟩ : ∃ x, x = xs[k] := ⟨_, rfl⟩
      have HX := Lib.hid hx
      have d0 : wo.cell? ⟨b, off + k * 6, none⟩ = some (.string x.key) := by have := hcs k hlt 0 _ rfl; simpa [← HX.out] using this
      have d1 : wo.cell? ⟨b, off + k * 6 + 1, none⟩ = some (.int .i64 x.x) := by have := hcs k hlt 1 _ rfl; simpa [← HX.out] using this
      have d2 : wo.cell? ⟨b, off + k * 6 + 2, none⟩ = some (.int .i64 x.y) := by have := hcs k hlt 2 _ rfl; simpa [← HX.out] using this
      have d3 : wo.cell? ⟨b, off + k * 6 + 3, none⟩ = some (.int .i64 x.fr) := by have := hcs k hlt 3 _ rfl; simpa [← HX.out] using this
      have d4 : wo.cell? ⟨b, off + k * 6 + 4, none⟩ = some (.int .i64 x.tt) := by have := hcs k hlt 4 _ rfl; simpa [← HX.out] using this
      have d5 : wo.cell? ⟨b, off + k * 6 + 5, none⟩ = some (.int .i64 x.lo) := by have := hcs k hlt 5 _ rfl; simpa [← HX.out] using this
      rw [← hx] at hmem
      clear hx
      have HM := Lib.hid hmem; clear hmem hcs
      go_wp2_with (fail)
      refine (HF.out x HM.out wo hgr).mono ?_
      rintro e w1 ⟨rfl, hg1⟩
      cases hp : P x with
      | true =>
        have HP := Lib.hid hp; clear hp
        go_wp2_with (fail)
        go_ret
        refine ⟨ret_int (findA_at hlt (by rw [← HX.out]; exact HP.out) (fun j hj => HNO.out j (by omega) hj)).symm, gr_trans hgr hg1⟩
      | false =>
        have HP := Lib.hid hp; clear hp
        go_wp2_with (fail)
        go_roundw
        case rel =>
          refine ⟨k + 1, by omega, by go_num, fun j hjl hj => ?_, gr_trans hgr hg1⟩
          by_cases hjk : j = k
          · subst hjk; rw [← HX.out]; exact HP.out
          · exact HNO.out j hjl (by omega)
        case measure => simp [intOf]; omega
    · have hkl : k = xs.length := by omega
      have HK := Lib.hid hkl; clear hkl
      go_wp2_with (fail)
      go_ret
      exact ⟨ret_int (findA_none (fun j hj => HNO.out j hj (by rw [HK.out]; exact hj))).symm, hgr⟩

theorem containsFunc_stop (F : FuncId) (p : Nat) (P : Stop → Bool) (xs : List (Stop)) (a : Option Addr) (c : Nat) (w : World) (hc : CellsAt w a (flat encStop xs)) (hl : xs.length ≤ 137438953472)
    (hE : ∀ (args : Array Value) (w : World), (callFunc F args).run Tryd.prog w = .ok (.enter F args) w)
    (hF : ∀ x ∈ xs, ∀ w1, w.grownBy w1 none → Calls Tryd.prog F #[.agg #[.string x.key, .int .i64 x.x, .int .i64 x.y, .int .i64 x.fr, .int .i64 x.tt, .int .i64 x.lo], .pointer (some ⟨p, 0, none⟩)] w1 fun e w2 => e = .returned (.bool (P x)) ∧ w1.grownBy w2 none) :
    Calls Tryd.prog 37 #[.slice a xs.length c, Value.func (.func F) #[] #[.pointer (some ⟨p, 0, none⟩)]] w fun e w' => e = .returned (.bool (xs.any P)) ∧ w.grownBy w' none := by
  have HA := Lib.hid (any_findA P xs)
  go_enter Tryd.func37, Tryd.ntmps37
  go_wp2_with (fail)
  refine (indexFunc_stop F p P xs a c _ hc hl hE hF).mono ?_
  rintro e w1 ⟨rfl, hg1⟩
  go_wp2_with (fail)
  go_ret
  exact ⟨ret_bool (by rw [HA.out]), hg1⟩
end Go.Proofs.YtehhmgbgkemidaaDoor
