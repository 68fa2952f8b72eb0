/- The law StepValues, as a plain law: a function's value at each place, and the least one, are those that the document says. -/
import Derived.Test.YtgeajlnkbfeidaaPRef3
import Derived.Test.YtgeajlnkbfeidaaPLive2
import Derived.Test.YtgeajlnkbfeidaaOpens
namespace Go.Abs
open Go

theorem pure_StepValues (l0 : (List api_Jump)) (m0 : ∀ a ∈ l0, ok_api_Jump a) (y0 : List.length l0 * 16 ≤ 140737488351232) (a1 : Int) (w1 : in64 a1) : s_law09_StepValues l0 a1 = some true := by
  unfold s_law09_StepValues s_law09_few
  rw [live_eq, at_eq, refAt_eq, least_eq, refLeast_eq]
  cases h : decide (((List.length l0 : Nat) : Int) ≤ 60) <;> simp [gcall, h]

end Go.Abs
