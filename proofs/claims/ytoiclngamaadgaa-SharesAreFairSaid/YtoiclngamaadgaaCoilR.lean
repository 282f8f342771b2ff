/- What is wrong with a coil: the reference. -/
import Derived.Test.YtoiclngamaadgaaCoilF
namespace Go.Proofs.Ytoiclngamaadgaa
open Go.RowKit
attribute [local go_sem ↓] Go.wp_at_zero Go.wp_at_succ

end Go.Proofs.Ytoiclngamaadgaa
