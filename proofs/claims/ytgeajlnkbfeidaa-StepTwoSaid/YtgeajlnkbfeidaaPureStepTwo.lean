/- The law StepTwo, as a plain law: sums, products, and one function where the other one is 0, are those that the document says. -/
import Derived.Test.YtgeajlnkbfeidaaPTwo
import Derived.Test.YtgeajlnkbfeidaaOpens
namespace Go.Abs
open Go

theorem pure_StepTwo (l0 : (List api_Jump)) (m0 : ∀ a ∈ l0, ok_api_Jump a) (y0 : List.length l0 * 16 ≤ 140737488351232) (l1 : (List api_Jump)) (m1 : ∀ a ∈ l1, ok_api_Jump a) (y1 : List.length l1 * 16 ≤ 140737488351232) : s_law09_StepTwo l0 l1 = some true := by
  have hs : ∀ (OP : Int → Int → Int) (f g : List api_Jump), s_ref09_Same (two OP f g).1 (two OP f g).1 = some true := fun OP f g => same_self (by have := two_len OP f g; omega)
  unfold s_law09_StepTwo s_law09_few
  rw [live_eq, add_eq, refTwo_add, mul_eq, refTwo_mul, where_eq, refTwo_where, neg_eq, refNeg_eq, ← neg_is]
  cases h1 : decide (((List.length l0 : Nat) : Int) ≤ 60) <;> cases h2 : decide (((List.length l1 : Nat) : Int) ≤ 60) <;> simp [gcall, hs]

end Go.Abs
