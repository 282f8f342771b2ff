/- The two functions that till.Shares hands on: equal keys, and the order of keys. -/
import Derived.Test.YtoiclngamaadgaaSharesPure
import Derived.Test.YtoiclngamaadgaaPartners
namespace Go.Proofs.Ytoiclngamaadgaa
open Go.RowKit
attribute [local go_sem ↓] Go.wp_at_zero Go.wp_at_succ

theorem nm_cells {w : World} {a : Option Addr} {p : List Nm} (h : CellsAt w a (flat encNm p)) (k : Nat) (hk : k < p.length) : ∃ b off, a = some ⟨b, off, none⟩ ∧ w.cell? ⟨b, off + k * 2, none⟩ = some (.string p[k].key) ∧ w.cell? ⟨b, off + k * 2 + 1, none⟩ = some (.int .i64 p[k].many) := by
  obtain ⟨b, off, rfl, hcs⟩ := flat_cells (enc := encNm) (m := 2) (fun _ => rfl) (by decide) h (by omega)
  exact ⟨b, off, rfl, by have := hcs k hk 0 _ rfl; simpa using this, by have := hcs k hk 1 _ rfl; simpa using this⟩
theorem sharesEq_fn : ∀ (args : Array Value) (w : World), (callFunc 52 args).run Try.prog w = .ok (.enter 52 args) w := fun _ _ => by kernel_rfl
theorem sharesEq_any (x : Nm) (k : ByteArray) (q0 : Nat) (w : World) (h : w.cell? ⟨q0, 0, none⟩ = some (.string k)) :
    Calls Try.prog 52 #[.agg #[.string x.key, .int .i64 x.many], .pointer (some ⟨q0, 0, none⟩)] w fun e w' => e = .returned (.bool (x.key.toList == k.toList)) ∧ w.grownBy w' none := by
  have hg := gr_alloc (gr_refl w none) (.cells #[.string x.key, .int .i64 x.many] 34)
  have h2 := (gr_cell hg (lt_of_cell h)).trans h
  obtain ⟨s, hs⟩ : ∃ s, s = x.key := ⟨_, rfl⟩
  obtain ⟨m, hm⟩ : ∃ m, m = x.many := ⟨_, rfl⟩
  rw [← hs, ← hm] at hg h2
  rw [← hs, ← hm]
  clear hs hm
  go_enter Try.func52, Try.ntmps52
  go_wp2_with (fail)
  go_ret
  exact ⟨rfl, hg⟩
theorem sharesCmp_fn : ∀ (args : Array Value) (w : World), (callFunc 54 args).run Try.prog w = .ok (.enter 54 args) w := fun _ _ => by kernel_rfl
set_option maxRecDepth 100000 in
set_option maxHeartbeats 1000000 in
theorem sharesCmp_any (p : List Nm) (i j : Nat) (hi : i < p.length) (hj : j < p.length) (a : Option Addr) (c q : Nat) (w : World) (hq : w.cell? ⟨q, 0, none⟩ = some (.slice a p.length c)) (h : CellsAt w a (flat encNm p)) :
    Calls Try.prog 54 #[.int .i64 i, .int .i64 j, .pointer (some ⟨q, 0, none⟩)] w fun e w' => e = .returned (.int .i64 (nmCm p i j)) ∧ w.grownBy w' none := by
  obtain ⟨b, off, rfl, d2, -⟩ := nm_cells h i hi
  obtain ⟨_, _, e, e2, -⟩ := nm_cells h j hj
  cases e
  have hE : nmCm p i j = cmpB p[i].key p[j].key := by unfold nmCm; rw [Int.toNat_natCast, Int.toNat_natCast, nmN_get hi, nmN_get hj]
  rw [hE]
  obtain ⟨u, hu⟩ : ∃ u, u = p[i].key := ⟨_, rfl⟩
  obtain ⟨v, hv⟩ : ∃ v, v = p[j].key := ⟨_, rfl⟩
  rw [← hu] at d2
  rw [← hv] at e2
  rw [← hu, ← hv]
  clear hu hv hE h
  go_enter Try.func54, Try.ntmps54
  have gq := grew_cell hq
  have gd := grew_cell d2
  have ge := grew_cell e2
  have h1 : (i : Int) < (p.length : Int) := by omega
  have h2 : (j : Int) < (p.length : Int) := by omega
  have h3 : (0 : Int) ≤ (i : Int) := by omega
  have h4 : (0 : Int) ≤ (j : Int) := by omega
  clear hq d2 e2
  go_wp2_with (fail)
  refine wp_region_grew (by kernel_rfl) (by kernel_rfl) ?_
  repeat (go_big_quiet_step (first
    | (go_at_call 55; exact Calls.grew_of (fun W g => (compare_any _ _ W).mono fun _ _ h => ⟨h.1, by rw [← h.2]; exact gr_refl _ _⟩))))
  refine wpQuiet_nil ?_
  rintro wq ⟨nn, rfl⟩
  have g := nn.gr
  go_wp2_with (fail)
  go_ret
  exact ⟨rfl, g⟩
end Go.Proofs.Ytoiclngamaadgaa
