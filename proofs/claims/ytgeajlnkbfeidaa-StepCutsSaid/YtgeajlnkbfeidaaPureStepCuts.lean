/- The law StepCuts, as a plain law: what is ahead of a place, and what is from it on, is as the document says. -/
import Derived.Test.YtgeajlnkbfeidaaPTwo
import Derived.Test.YtgeajlnkbfeidaaOpens
namespace Go.Abs
open Go

theorem pure_StepCuts (l0 : (List api_Jump)) (m0 : ∀ a ∈ l0, ok_api_Jump a) (y0 : List.length l0 * 16 ≤ 140737488351232) (a1 : Int) (w1 : in64 a1) : s_law09_StepCuts l0 a1 = some true := by
  have s1 : s_ref09_Same (ahead l0 a1).1 (ahead l0 a1).1 = some true := same_self (by have := ahead_len l0 a1; omega)
  have s2 : s_ref09_Same (rest l0 a1).1 (rest l0 a1).1 = some true := same_self (by have := rest_len l0 a1; omega)
  unfold s_law09_StepCuts s_law09_few
  rw [live_eq, ahead_eq, refAhead_eq, rest_eq, refRest_eq l0 a1 w1]
  cases h1 : decide (((List.length l0 : Nat) : Int) ≤ 60) <;> simp [gcall, s1, s2]

end Go.Abs
