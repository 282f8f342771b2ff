/- Small functions of package depot: more, done; the places of sites. -/
import Derived.Test.YtbgfflbddflokaaCheckWallet
import Derived.Test.YtbgfflbddflokaaResults
namespace Go.Proofs.Ytbgfflbddflokaa
open Go.RowKit

theorem more_any (g o : Nat) (n cents : Int) (w : World) (hc : w.cell? ⟨g, o, none⟩ = some (.int .i64 n)) (hf : w.frozen? ⟨g, o, none⟩ = false) (h0 : 0 ≤ n) (h1 : 0 ≤ cents) (h2 : n + cents ≤ 1000000000) :
    Calls Try.prog 70 #[.pointer (some ⟨g, o, none⟩), .int .i64 cents] w fun e w' => e = .returned (.int .i64 0) ∧ w' = w.setCell ⟨g, o, none⟩ (.int .i64 (n + cents)) := by
  go_enter Try.func70, Try.ntmps70
  go_wp2_with (fail)
  go_ret
  exact ⟨rfl, rfl⟩
theorem done_ok (a1 a2 a3 : Option Addr) (n1 n2 n3 c1 c2 c3 : Nat) (w : World) : Calls Try.prog 69 #[.agg #[.slice a1 n1 c1, .slice a2 n2 c2, .slice a3 n3 c3], .int .i64 0] w fun e w' => e = .returned (.tuple #[.agg #[.slice a1 n1 c1, .slice a2 n2 c2, .slice a3 n3 c3], .int .i64 0]) ∧ w.grownBy w' none := by
  obtain ⟨dt, hd1⟩ := und_parts (P := Try.prog) (t := 50) (by kernel_rfl)
  go_enter Try.func69, Try.ntmps69
  go_wp2_with (fail)
  refine bodyPost_ret (results_cell_slot (p := 4) (q := 5) (by kernel_rfl) _ _ (w.heap.size + 1) 50 #[.slice a1 n1 c1, .slice a2 n2 c2, .slice a3 n3 c3] (0, 0) (.struct dt) _ rfl rfl (by simpa using heap_alloc_new (w.alloc (.cells #[.slice a1 n1 c1, .slice a2 n2 c2, .slice a3 n3 c3] 50)) (.cells #[.slice a1 n1 c1, .slice a2 n2 c2, .slice a3 n3 c3] 50)) hd1 rfl (by kernel_rfl)) rfl ⟨rfl, ?_⟩
  exact gr_alloc (gr_alloc (gr_refl w none) _) _
theorem index_site (b o c i : Nat) (w : World) (hs : ∀ i, i < 3 → w.cell? ⟨b, o + i, none⟩ = some (siteV i)) (hi : i < 3) :
    Calls Try.prog 115 #[.slice (some ⟨b, o, none⟩) 3 c, siteV i] w fun e w' => e = .returned (.int .i64 i) ∧ w = w' := by
  have h0 : w.cell? ⟨b, o, none⟩ = some (.string { data := #[97] }) := hs 0 (by omega)
  have h1 : w.cell? ⟨b, o + 1, none⟩ = some (.string { data := #[98] }) := hs 1 (by omega)
  have h2 : w.cell? ⟨b, o + 2, none⟩ = some (.string { data := #[99] }) := hs 2 (by omega)
  clear hs
  obtain rfl | rfl | rfl : i = 0 ∨ i = 1 ∨ i = 2 := by omega
  · show Calls _ _ #[_, .string { data := #[97] }] _ _
    go_enter Try.func115, Try.ntmps115
    go_wp2_with (fail)
    go_loop [8] (fun i => i = .int .i64 0) (fun i => 3 - (intOf i).toNat)
    case atStart => rfl
    case round =>
      subst hrel
      go_wp2_with (fail)
      go_ret
      exact ⟨rfl, rfl⟩
  · show Calls _ _ #[_, .string { data := #[98] }] _ _
    go_enter Try.func115, Try.ntmps115
    go_wp2_with (fail)
    go_loop [8] (fun i => i = .int .i64 0 ∨ i = .int .i64 1) (fun i => 3 - (intOf i).toNat)
    case atStart => exact .inl rfl
    case round =>
      rcases hrel with rfl | rfl
      · go_wp2_with (fail)
        go_round
        case rel => exact .inr (by go_num)
        case measure => simp [intOf]
      · go_wp2_with (fail)
        go_ret
        exact ⟨rfl, rfl⟩
  · show Calls _ _ #[_, .string { data := #[99] }] _ _
    go_enter Try.func115, Try.ntmps115
    go_wp2_with (fail)
    go_loop [8] (fun i => i = .int .i64 0 ∨ i = .int .i64 1 ∨ i = .int .i64 2) (fun i => 3 - (intOf i).toNat)
    case atStart => exact .inl rfl
    case round =>
      rcases hrel with rfl | rfl | rfl
      · go_wp2_with (fail)
        go_round
        case rel => exact .inr (.inl (by go_num))
        case measure => simp [intOf]
      · go_wp2_with (fail)
        go_round
        case rel => exact .inr (.inr (by go_num))
        case measure => simp [intOf]
      · go_wp2_with (fail)
        go_ret
        exact ⟨rfl, rfl⟩
end Go.Proofs.Ytbgfflbddflokaa
