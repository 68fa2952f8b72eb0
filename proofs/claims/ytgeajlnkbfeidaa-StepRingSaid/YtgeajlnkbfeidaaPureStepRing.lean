/- The law StepRing, as a plain law: neither sums nor products hang on the order, and a product of a sum is the sum of the products. -/
import Derived.Test.YtgeajlnkbfeidaaPTwo
import Derived.Test.YtgeajlnkbfeidaaOpens
namespace Go.Abs
open Go

theorem pure_StepRing (l0 : (List api_Jump)) (m0 : ∀ a ∈ l0, ok_api_Jump a) (y0 : List.length l0 * 16 ≤ 140737488351232) (l1 : (List api_Jump)) (m1 : ∀ a ∈ l1, ok_api_Jump a) (y1 : List.length l1 * 16 ≤ 140737488351232) (l2 : (List api_Jump)) (m2 : ∀ a ∈ l2, ok_api_Jump a) (y2 : List.length l2 * 16 ≤ 140737488351232) : s_law09_StepRing l0 l1 l2 = some true := by
  have hs : ∀ (OP : Int → Int → Int) (f g : List api_Jump), s_ref09_Same (two OP f g).1 (two OP f g).1 = some true := fun OP f g => same_self (by have := two_len OP f g; omega)
  have ca : two (· + ·) l1 l0 = two (· + ·) l0 l1 := two_comm rfl (fun a b => Int.add_comm a b) _ _
  have cm : two (· * ·) l1 l0 = two (· * ·) l0 l1 := two_comm rfl (fun a b => Int.mul_comm a b) _ _
  unfold s_law09_StepRing
  simp only [add_eq, mul_eq, ca, cm, Option.bind_some, decide_true, Bool.not_true, Bool.not_false, gcall, cond_true, hs, Bool.or_self, cond_false, live_eq, Bool.true_and, Bool.and_true]
  have third : cond (((!decide ((two (· * ·) l0 l1).2 = (0 : Int))) || (!decide ((two (· + ·) l1 l2).2 = (0 : Int)))) || (!decide ((two (· * ·) l0 l2).2 = (0 : Int)))) (some true)
      ((cond (decide ((two (· * ·) l0 (two (· + ·) l1 l2).1).2 = (two (· + ·) (two (· * ·) l0 l1).1 (two (· * ·) l0 l2).1).2)) (s_ref09_Same (two (· * ·) l0 (two (· + ·) l1 l2).1).1 (two (· + ·) (two (· * ·) l0 l1).1 (two (· * ·) l0 l2).1).1) (some default)).bind fun x46 =>
        some ((decide ((two (· * ·) l0 (two (· + ·) l1 l2).1).2 = (two (· + ·) (two (· * ·) l0 l1).1 (two (· * ·) l0 l2).1).2)) && x46)) = some true := by
    by_cases e1 : (two (· * ·) l0 l1).2 = 0
    · by_cases e2 : (two (· + ·) l1 l2).2 = 0
      · by_cases e3 : (two (· * ·) l0 l2).2 = 0
        · rw [mul_add_may e1 e2 e3]
          simp [e1, e2, e3, hs]
        · simp [e3]
      · simp [e2]
    · simp [e1]
  by_cases e1 : (two (· + ·) l0 l1).2 = 0
  · by_cases e2 : (two (· + ·) l1 l2).2 = 0
    · have ea := add_assoc_may (two_ok e1).1 (two_ok e2).2.1 e1 e2
      rw [ea]
      simpa [e1, e2, hs] using third
    · simp [e1, e2, hs]
  · simpa [e1, hs] using third

end Go.Abs
