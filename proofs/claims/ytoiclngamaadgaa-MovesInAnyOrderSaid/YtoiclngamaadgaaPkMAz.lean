/- Package slices at ints: SortFunc of few, by a comparison with a capture. -/
import Derived.Test.YtoiclngamaadgaaPkMAo
namespace Go.Proofs.Ytoiclngamaadgaa
open Go.RowKit
attribute [local go_sem ↓] Go.wp_at_zero Go.wp_at_succ

set_option maxRecDepth 100000 in
theorem len64_few (n : Nat) (hn : n ≤ 12) (w : World) : Calls Try.prog 142 #[.int .u64 n] w fun e w' => ∃ r : Int, e = .returned (.int .i64 r) ∧ w = w' := by
  have d1 : decide ((4294967296 : Int) ≤ (n : Int)) = false := decide_eq_false (by omega)
  have d2 : decide ((65536 : Int) ≤ (n : Int)) = false := decide_eq_false (by omega)
  have d3 : decide ((256 : Int) ≤ (n : Int)) = false := decide_eq_false (by omega)
  go_enter Try.func142, Try.ntmps142
  go_wp2_with (fail)
  go_ret
  exact ⟨_, rfl, rfl⟩
set_option maxRecDepth 100000 in
theorem len_few (n : Nat) (hn : n ≤ 12) (w : World) : Calls Try.prog 103 #[.int .u64 n] w fun e w' => ∃ r : Int, e = .returned (.int .i64 r) ∧ w = w' := by
  have L := Lib.hid (len64_few n hn)
  go_enter Try.func103, Try.ntmps103
  go_wp2_with (fail)
  refine (L.out _).mono ?_
  rintro e w1 ⟨r, rfl, rfl⟩
  go_wp2_with (fail)
  go_ret
  exact ⟨_, rfl, rfl⟩
set_option maxRecDepth 100000 in
theorem pdqC1_few (F : FuncId) (q0 n : Nat) (cm : Int → Int → Int) (v : Value) (base : Nat) (L : List Int) (w : World) (hown : w.ownsRow base 3 1 v n (ints L)) (hL : L.length = n) (hn : n ≤ 12) (lim : Int)
    (hE : ∀ (args : Array Value) (w : World), (callFunc F args).run Try.prog w = .ok (.enter F args) w) (hc : CmpOk cm) (hF : CmpC1 F q0 cm L v.ownBlock w) :
    Calls Try.prog 102 #[v, .int .i64 0, .int .i64 n, .int .i64 lim, .func (.func F) #[] #[.pointer (some ⟨q0, 0, none⟩)]] w (SortC1Post cm L v n base w) := by
  have IS := Lib.hid (insertionC1_any F q0 n cm v base L w hown hL (by omega) hE hc hF)
  obtain ⟨va, vc, rfl, _, _, _, _⟩ := own_shape hown
  clear hF hE hown hL hc
  have d12 : decide ((n : Int) ≤ 12) = true := decide_eq_true (by omega)
  go_enter Try.func102, Try.ntmps102
  go_wp2_with (fail)
  go_loopw [1, 2, 3, 10, 11] (fun b c d g h wr => b = .int .i64 0 ∧ c = .int .i64 n ∧ d = .int .i64 lim ∧ g = .bool true ∧ h = .bool true ∧ wr = w) (fun _ _ _ _ _ _ => 0)
  case atStart => exact ⟨rfl, rfl, rfl, rfl, rfl, rfl⟩
  case round =>
    obtain ⟨rfl, rfl, rfl, rfl, rfl, rfl⟩ := hrel
    go_wp2_with (fail)
    refine IS.out.mono ?_
    rintro e w2 ⟨O2, rfl, h1, h2, h3, h5, h4⟩
    have H1 := Lib.hid h1
    have H2 := Lib.hid h2
    have H3 := Lib.hid h3
    have H5 := Lib.hid h5
    clear h1 h2 h3 h5
    go_wp2_with (fail)
    go_end0
    exact ⟨O2, rfl, H1.out, H2.out, H3.out, H5.out, h4⟩
theorem sortFC1_few (F : FuncId) (q0 n : Nat) (cm : Int → Int → Int) (v : Value) (base : Nat) (L : List Int) (w : World) (hown : w.ownsRow base 3 1 v n (ints L)) (hL : L.length = n) (hn : n ≤ 12)
    (hE : ∀ (args : Array Value) (w : World), (callFunc F args).run Try.prog w = .ok (.enter F args) w) (hc : CmpOk cm) (hF : CmpC1 F q0 cm L v.ownBlock w) :
    Calls Try.prog 53 #[v, .func (.func F) #[] #[.pointer (some ⟨q0, 0, none⟩)]] w (SortC1Post cm L v n base w) := by
  have IS := Lib.hid (fun lim => pdqC1_few F q0 n cm v base L w hown hL hn lim hE hc hF)
  have LN := Lib.hid (len_few n hn)
  obtain ⟨va, vc, rfl, _, _, _, _⟩ := own_shape hown
  clear hF hE hown hL hc
  go_enter Try.func53, Try.ntmps53
  go_wp2_with (fail)
  refine (LN.out _).mono ?_
  rintro e w1 ⟨r, rfl, rfl⟩
  go_wp2_with (fail)
  refine (IS.out r).mono ?_
  rintro e w2 ⟨O2, rfl, h1, h2, h3, h5, h4⟩
  have H1 := Lib.hid h1
  have H2 := Lib.hid h2
  have H3 := Lib.hid h3
  have H5 := Lib.hid h5
  clear h1 h2 h3 h5
  go_wp2_with (fail)
  go_end0
  exact ⟨O2, rfl, H1.out, H2.out, H3.out, H5.out, h4⟩
end Go.Proofs.Ytoiclngamaadgaa
