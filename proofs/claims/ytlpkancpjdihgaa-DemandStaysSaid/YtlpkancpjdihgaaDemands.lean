/- coilkeep.demands: the package finds a rate. -/
import Derived.Test.YtlpkancpjdihgaaRates
import Derived.Test.YtlpkancpjdihgaaKitB
namespace Go.Proofs.Ytlpkancpjdihgaa
open Go.RowKit

def twoDays : List Sale := [⟨1, 3, false⟩, ⟨2, 4, false⟩]
theorem twoDays_ok : OkDays twoDays := by
  refine ⟨by decide, fun i hi => ?_⟩
  rcases (show i = 0 ∨ i = 1 by simp [twoDays] at hi; omega) with h | h <;> subst h <;> constructor <;> simp [twoDays, sAt]

set_option maxRecDepth 100000 in
theorem demands_any (w : World) : Calls Try.prog 18 #[] w fun e w' => e = .returned (.bool true) ∧ w.grownBy w' none := by
  go_enter Try.func18, Try.ntmps18
  go_wp2_with (fail)
  refine (rate_some twoDays _ _ _ (CellsAt.new w (sales twoDays).toArray 40) twoDays_ok (by decide)).mono ?_
  rintro e w1 ⟨x, y, rfl, hf, hg1⟩
  have h1 := hf.b1
  have h2 := hf.bP
  have h3 : x * 2 = 7 * y := hf.eq
  have h4 : y ≤ 2 := h2
  obtain ⟨rfl, rfl⟩ : x = 7 ∧ y = 2 := by omega
  clear hf h1 h2 h3 h4
  go_wp2_with (fail)
  go_ret
  exact ⟨rfl, gr_alloc (gr_trans (gr_alloc (gr_refl _ _) _) hg1) _⟩
end Go.Proofs.Ytlpkancpjdihgaa
