/- slices.Grow of nil and slices.Concat of two slices of ints. -/
import Derived.Test.YtjhfglhoiplfmaaDoorPkDAy
import Derived.Test.YtjhfglhoiplfmaaDoorPkDAc
import Derived.Lib.AppendZeros
namespace Go.Proofs.YtjhfglhoiplfmaaDoor
open Go.RowKit

end Go.Proofs.YtjhfglhoiplfmaaDoor

/-! slices.Concat of rows of ints. -/
namespace Go.Proofs.YtjhfglhoiplfmaaDoor
open Go.RowKit

theorem flat_take_next (T : List (List Int)) (k : Nat) (h : k < T.length) : (T.take (k + 1)).flatten = (T.take k).flatten ++ T.getD k [] := by
  rw [List.getD_eq_getElem?_getD, List.getElem?_eq_getElem h, List.take_succ_eq_append_getElem h, List.flatten_append]
  simp only [List.flatten_cons, List.flatten_nil, List.append_nil, Option.getD_some]
theorem flat_take_le (T : List (List Int)) (k : Nat) : (T.take k).flatten.length ≤ T.flatten.length := by
  have h : T.flatten = (T.take k).flatten ++ (T.drop k).flatten := by rw [← List.flatten_append, List.take_append_drop]
  rw [h, List.length_append]; omega

end Go.Proofs.YtjhfglhoiplfmaaDoor
