/- depot.Session at one line that is no command. -/
import Derived.Test.YtdminjijhpemkaaGreatDoorPkSBo
import Derived.Test.YtdminjijhpemkaaGreatDoorPkSBt
import Derived.Test.YtdminjijhpemkaaGreatDoorPkSBv
import Derived.Test.YtdminjijhpemkaaGreatDoorPkSBw
namespace Go.Proofs.YtdminjijhpemkaaGreatDoor
open Go.RowKit Go.Shelf
attribute [local go_sem] Oper.semAt_some

def errB : ByteArray := ⟨#[101, 114, 114, 111, 114, 32, 57, 10]⟩
def errT : List Unit → List UInt8
  | [] => []
  | _ => [101, 114, 114, 111, 114, 32, 57, 10]
theorem itoa_9 : itoaB 9 = ⟨#[57]⟩ := by kernel_rfl
theorem trim_hello (w : World) : Calls Tryz.prog 37 #[.string ⟨#[104, 101, 108, 108, 111, 10]⟩, .string ⟨#[10]⟩] w fun e w' => e = .returned (.string bHello) ∧ w' = w := by
  refine (Any.strings_TrimSuffix lays102 ⟨#[104, 101, 108, 108, 111, 10]⟩ ⟨#[10]⟩ w (by decide)).mono ?_
  rintro e w' ⟨rfl, rfl⟩
  exact ⟨rfl, rfl⟩
set_option maxRecDepth 100000 in
set_option maxHeartbeats 4000000 in
theorem sess_in (n : Nat) (hn : 4 ≤ n) (w : World) (E : EnvP w) :
    CallsIn Fence.wide n Tryz.prog 35 #[.string ⟨#[104, 101, 108, 108, 111, 10]⟩] w fun e w' => e = .returned (.string ⟨#[101, 114, 114, 111, 114, 32, 57, 10]⟩) ∧ w.grownBy w' none := by
  have h1 : 1 ≤ n := by omega
  have HE := Lib.hid E
  clear E
  refine callsIn_of_wp_marks Tryz.func35 rfl trivial ?_ rfl
  simp only [Tryz.ntmps35, List.size_toArray, List.length_cons, List.length_nil, Nat.reduceAdd, Nat.reduceSub, Array.replicate_succ, Array.replicate_zero, List.push_toArray, List.append_toArray, List.nil_append, List.cons_append]
  have hK := heap_alloc_new w (.cells #[.map none, .pointer none] 184)
  have gK := gr_alloc (gr_refl w none) (.cells #[.map none, .pointer none] 184)
  obtain ⟨w1, hw1⟩ : ∃ w1, w1 = w.alloc (.cells #[.map none, .pointer none] 184) := ⟨_, rfl⟩
  rw [← hw1] at hK gK
  have hz1 : w1.heap.size = w.heap.size + 1 := by rw [hw1]; simp
  have hC := heap_alloc_new w1 (.cells #[.pointer (some ⟨w.heap.size, 0, none⟩)] 181)
  have gC := gr_alloc (gr_refl w1 none) (.cells #[.pointer (some ⟨w.heap.size, 0, none⟩)] 181)
  obtain ⟨w2, hw2⟩ : ∃ w2, w2 = w1.alloc (.cells #[.pointer (some ⟨w.heap.size, 0, none⟩)] 181) := ⟨_, rfl⟩
  rw [← hw2] at hC gC
  have hz2 : w2.heap.size = w1.heap.size + 1 := by rw [hw2]; simp
  have BM := Bld.made w2
  have gB := gr_alloc (gr_refl w2 none) (.cells #[.pointer none, .slice none 0 0] 173)
  obtain ⟨w3, hw3⟩ : ∃ w3, w3 = w2.alloc (.cells #[.pointer none, .slice none 0 0] 173) := ⟨_, rfl⟩
  rw [← hw3] at BM gB
  have hz3 : w3.heap.size = w2.heap.size + 1 := by rw [hw3]; simp
  have hC3 := (gB.block _ (lt_of_block hC) (by simp)).trans hC
  obtain ⟨K, hKe⟩ : ∃ K, K = w.heap.size := ⟨_, rfl⟩
  obtain ⟨Cb, hCe⟩ : ∃ Cb, Cb = w1.heap.size := ⟨_, rfl⟩
  obtain ⟨b, hbe⟩ : ∃ b, b = w2.heap.size := ⟨_, rfl⟩
  have hCK : Cb = K + 1 := by omega
  have hbC : b = K + 1 + 1 := by omega
  rw [← hKe] at hw2 hC3
  rw [← hCe] at hC3
  rw [← hbe] at BM
  have HW1 := Lib.hid hw1
  have HW2 := Lib.hid hw2
  have HW3 := Lib.hid hw3
  have HKE := Lib.hid hKe
  have HBM := Lib.hid BM
  have HC3 := Lib.hid hC3
  rw [← hKe] at hC
  rw [← hCe] at hC
  have HC2 := Lib.hid hC
  have HG2 := Lib.hid (gr_trans gK gC)
  have HG3 := Lib.hid (gr_trans (gr_trans gK gC) gB)
  have hwz : w.heap.size ≤ w2.heap.size := by omega
  subst hCK hbC
  have hCb : K + 1 ≠ K + 1 + 1 := by omega
  have hz23 : w2.heap.size ≤ w3.heap.size := by omega
  have hCz : K + 1 < w2.heap.size := by omega
  have hK3 : K + 1 + 1 < w3.heap.size := by omega
  clear hK gK hC gC BM gB hC3 hw1 hw2 hw3 hKe hCe hbe hz1 hz2 hz3
  gi_wp2_with (fail)
  rw [← HKE.out, ← HW1.out, ← HW2.out, ← HW3.out]
  refine ⟨trivial, (callsIn_wide.2 (trim_hello w3)).mono ?_⟩
  rintro e w4 ⟨rfl, rfl⟩
  gi_wp2_with (fail)
  refine ⟨trivial, (callsIn_wide.2 (splitSeq_any bHello ⟨#[10]⟩ w4)).mono ?_⟩
  rintro e w5 ⟨rfl, hw5⟩
  obtain ⟨q1, q2, q3⟩ := heap_3 w4 (.cells #[.string bHello] 9) (.cells #[.string ⟨#[10]⟩] 9) (.cells #[.int .i64 0] 3)
  have g5 := gr_alloc (gr_alloc (gr_alloc (gr_refl w4 none) (.cells #[.string bHello] 9)) (.cells #[.string ⟨#[10]⟩] 9)) (.cells #[.int .i64 0] 3)
  rw [← hw5] at q1 q2 q3 g5
  have hz5 : w5.heap.size = w4.heap.size + 3 := by rw [hw5]; simp
  obtain ⟨Bs, hBs⟩ : ∃ Bs, Bs = w4.heap.size := ⟨_, rfl⟩
  rw [← hBs] at q1 q2
  rw [← hBs]
  have hn1 : 1 ≤ n - 1 := by omega
  have BS := Lib.hid (split1_stops (n - 1) hn1 (Bs + 1) Bs (Bs + 1 + 1) bHello (by decide) w5 q2 q1)
  have B5 := Lib.hid (HBM.out.keep0 g5)
  have hC5 := Lib.hid ((g5.block (K + 1) (lt_of_block HC3.out) (by simp)).trans HC3.out)
  have hz25 : w2.heap.size ≤ w5.heap.size := by omega
  clear hz5 hw5 q1 q2 q3 g5 hBs
  gi_wp2_with (fail)
  refine wpIn_rangeFunc_ownH rfl h1 (gf := 164) (lb := #[.pointer (some ⟨Bs + 1, 0, none⟩), .pointer (some ⟨Bs, 0, none⟩), .pointer (some ⟨Bs + 1 + 1, 0, none⟩)]) rfl trivial (enters_of Tryz.func164 (by kernel_rfl) rfl)
    BS.out (fun _ _ => trivial) (fun _ _ _ _ _ _ _ _ => trivial) (Below.refl _ _) (fun _ => rfl)
    (fun pre W => Bld w2 (K + 1 + 1) (errT pre) W)
    (fun _ _ _ => False)
    (bld_own w2 (K + 1 + 1) _ _ hz25)
    (fun _ _ _ _ _ hs => hs.elim)
    B5.out
    (fun _ a' _ => a' = { tmps := #[.string ⟨#[104, 101, 108, 108, 111, 10]⟩, undef, .string ⟨#[]⟩, .pointer (some ⟨K + 1, 0, none⟩), .pointer (some ⟨K + 1 + 1, 0, none⟩), .string bHello, undef, undef, .string ⟨#[104, 101, 108, 108, 111, 10]⟩, .int .i64 6, .bool false, undef, undef, undef, .string ⟨#[104, 101, 108, 108, 111, 10]⟩, .bool false, .agg #[.map none, .pointer none], .pointer (some ⟨K, 0, none⟩), .string ⟨#[104, 101, 108, 108, 111, 10]⟩, .string bHello, .func (.func 164) #[] #[.pointer (some ⟨Bs + 1, 0, none⟩), .pointer (some ⟨Bs, 0, none⟩), .pointer (some ⟨Bs + 1 + 1, 0, none⟩)], .string bHello, undef, undef, undef, undef, undef, undef, undef, undef, undef, undef, undef, undef, undef, undef, undef, undef, undef], defers := [] })
    (fun _ _ _ _ _ _ hs _ _ => hs)
    ?assign ?body ?done ?stop
  case assign =>
    rintro l pre x W K hp hK
    gi_wp2
    exact hK _ _ (KeepsFrom.refl _ _) trivial hp rfl
  case body =>
    rintro l pre x a' W hlw ⟨rec, hrec⟩ hp rfl hlt
    clear hlw hrec
    have hn2 : 1 ≤ n - 1 - 1 := by omega
    obtain rfl : pre = [] := List.eq_nil_of_length_eq_zero (by omega)
    have HP : Hid (Bld w2 (K + 1 + 1) [] W) := hp
    have hCW := (hp.gr.block (K + 1) hCz (by simp)).trans HC2.out
    have c0 : W.cell? ⟨K + 1, 0, none⟩ = some (.pointer (some ⟨K, 0, none⟩)) := blkC hCW 0 rfl
    have EW := Lib.hid (HE.out.keep (gr_trans HG2.out hp.gr))
    have hne : bHello.toList.isEmpty = false := by rw [ByteArray.toList_eq]; rfl
    clear hp hCW hlt
    gi_wp2
    refine ⟨trivial, (CallsIn.inRound l (callsIn_wide.2 (run_hello K W EW.out.shp))).mono ?_⟩
    rintro e W2 ⟨rfl, g2⟩
    have IT := itoa_any 9 (by omega) (by omega) W2 (EW.out.keep g2)
    rw [itoa_9] at IT
    have HP2 := Lib.hid (HP.out.keep0 g2)
    have HG := Lib.hid g2
    clear g2 c0
    gi_wp2
    refine ⟨trivial, (CallsIn.inRound l (callsIn_wide.2 IT)).mono ?_⟩
    rintro e W3 ⟨rfl, g3⟩
    have HP3 := Lib.hid (HP2.out.keep0 g3)
    have HG3 := Lib.hid (gr_trans HG.out g3)
    clear g3 IT
    have happ : (⟨#[101, 114, 114, 111, 114, 32]⟩ : ByteArray) ++ ⟨#[57]⟩ ++ ⟨#[10]⟩ = errB := by rw [ByteArray.mk_append_mk, ByteArray.mk_append_mk]; rfl
    gi_wp2
    refine ⟨trivial, (CallsIn.inRound l (callsIn_wide.2 (bldWriteK_any HP3.out errB (by decide)))).mono ?_⟩
    rintro e W4 ⟨rfl, h4, -, hk4⟩
    have H4 := Lib.hid h4
    have HK4 := Lib.hid (((KeepsOthers.of_grownBy HG3.out (fun j o e => by cases e))).trans hk4)
    clear h4 hk4
    gi_wp2
    exact ⟨HK4.out.from _, trivial, H4.out⟩
  case done =>
    rintro Dd ys W hDd rfl hp hK
    have HB : Hid (Bld w2 (K + 1 + 1) [101, 114, 114, 111, 114, 32, 57, 10] W) := hp
    have HK := Lib.hid hK
    clear hp hK
    gi_wp2
    refine ⟨trivial, (callsIn_wide.2 (bldStringK_any HB.out)).mono ?_⟩
    rintro e W2 ⟨rfl, g6, hk6⟩
    have hK' := hk6.same Dd _ HK.out rfl
    have HG6 := Lib.hid (gr_trans HG2.out g6)
    have hzz := hz25
    clear hk6 g6
    gi_wp2
    refine ⟨by simp, .inl ⟨_, _, rfl, run_takeDeferred hK', ?_⟩⟩
    refine ⟨_, by simp [results, Tryz.f35, go_sem]; rfl, ?_⟩
    refine ⟨rfl, ?_⟩
    exact gr_grown HG6.out (grownBy_putObj' W2 Dd (.deferred none)) (fun q e => by cases e; omega)
  case stop =>
    rintro Dd q pre W hDd hh hf hK
    exact hf.elim
theorem sess_any (w : World) (E : EnvP w) :
    Calls Tryz.prog 35 #[.string ⟨#[104, 101, 108, 108, 111, 10]⟩] w fun e w' => e = .returned (.string ⟨#[101, 114, 114, 111, 114, 32, 57, 10]⟩) ∧ w.grownBy w' none := callsIn_wide.1 (sess_in 4 (Nat.le_refl _) w E)
end Go.Proofs.YtdminjijhpemkaaGreatDoor
