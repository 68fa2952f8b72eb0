/- Plain laws of the step functions: sums, products, and what else is made of two. -/
import Derived.Test.YtgeajlnkbfeidaaPStep2
namespace Go.Abs
open Go

/-- What is made of two functions, ahead of the question whether there is room. -/
def comb (OP : Int → Int → Int) (f g : List api_Jump) : List api_Jump := toldL 0 ((merge f g 0 0).map fun x => (x.1, OP x.2.1 x.2.2))

def told (f : List api_Jump) : List api_Jump × Int := if mayB f then (f, 0) else ([], 7)

theorem told_eq' (f : List api_Jump) : s_step_told f = some (told f) := told_eq f

theorem both_eq {op : Int → Int → Option Int} {OP : Int → Int → Int} (hop : ∀ a b, a ≤ 1073741824 → -1073741824 ≤ a → b ≤ 1073741824 → -1073741824 ≤ b → op a b = some (OP a b) ∧ -2305843009213693952 ≤ OP a b ∧ OP a b ≤ 2305843009213693952) (f g : List api_Jump) :
    s_step_both f g op = some (if mayB f && mayB g then told (comb OP f g) else ([], 2)) := by
  unfold s_step_both
  rw [may_eq, may_eq]
  simp only [Option.bind_some]
  cases hf : mayB f
  · simp [gcall]
  · cases hg : mayB g
    · simp [gcall]
    · obtain ⟨f1, f2⟩ := may_iff.1 hf
      obtain ⟨g1, g2⟩ := may_iff.1 hg
      simp only [gcall, Bool.not_true, Bool.not_false, cond_true, Option.bind_some, Bool.or_self, cond_false, Bool.and_self, if_true]
      unfold step_both_h2
      rw [both_lp hop (f.length + g.length) f g [] 0 0 0 (-2) (-2) (Nat.le_refl _) f2 g2 (by omega) (by omega) (by omega) (by omega) (by omega) (by simp only [List.length_nil]; omega)]
      simp [step_both_j1, told_eq', comb]

theorem add_op (a b : Int) (h1 : a ≤ 1073741824) (h2 : -1073741824 ≤ a) (h3 : b ≤ 1073741824) (h4 : -1073741824 ≤ b) : s_step_Add_1 a b = some (a + b) ∧ -2305843009213693952 ≤ a + b ∧ a + b ≤ 2305843009213693952 := by
  refine ⟨?_, by omega, by omega⟩
  unfold s_step_Add_1
  rw [wrap_in (by omega) (by omega)]

theorem mul_bound {a b : Int} (h1 : a ≤ 1073741824) (h2 : -1073741824 ≤ a) (h3 : b ≤ 1073741824) (h4 : -1073741824 ≤ b) : -1152921504606846976 ≤ a * b ∧ a * b ≤ 1152921504606846976 := by
  have ha : a.natAbs ≤ 1073741824 := by omega
  have hb : b.natAbs ≤ 1073741824 := by omega
  have := Nat.mul_le_mul ha hb
  rw [← Int.natAbs_mul] at this
  omega

theorem mul_op (a b : Int) (h1 : a ≤ 1073741824) (h2 : -1073741824 ≤ a) (h3 : b ≤ 1073741824) (h4 : -1073741824 ≤ b) : s_step_Mul_1 a b = some (a * b) ∧ -2305843009213693952 ≤ a * b ∧ a * b ≤ 2305843009213693952 := by
  obtain ⟨l, u⟩ := mul_bound h1 h2 h3 h4
  refine ⟨?_, by omega, by omega⟩
  unfold s_step_Mul_1
  rw [wrap_in (by omega) (by omega)]

def whereOp (a b : Int) : Int := if b = 0 then a else 0

theorem where_op (a b : Int) (h1 : a ≤ 1073741824) (h2 : -1073741824 ≤ a) (h3 : b ≤ 1073741824) (h4 : -1073741824 ≤ b) : s_step_Where_1 a b = some (whereOp a b) ∧ -2305843009213693952 ≤ whereOp a b ∧ whereOp a b ≤ 2305843009213693952 := by
  unfold s_step_Where_1 whereOp
  by_cases h : b = 0 <;> simp [h] <;> omega

theorem neg_op (a b : Int) (h1 : a ≤ 1073741824) (h2 : -1073741824 ≤ a) (h3 : b ≤ 1073741824) (h4 : -1073741824 ≤ b) : s_step_Neg_1 a b = some (-a) ∧ -2305843009213693952 ≤ -a ∧ -a ≤ 2305843009213693952 := by
  refine ⟨?_, by omega, by omega⟩
  unfold s_step_Neg_1
  rw [show (0 : Int) - a = -a by omega, wrap_in (by omega) (by omega)]

def two (OP : Int → Int → Int) (f g : List api_Jump) : List api_Jump × Int := if mayB f && mayB g then told (comb OP f g) else ([], 2)

theorem add_eq (f g : List api_Jump) : s_step_Add f g = some (two (· + ·) f g) := by
  unfold s_step_Add
  rw [both_eq (OP := (· + ·)) add_op]
  rfl
theorem mul_eq (f g : List api_Jump) : s_step_Mul f g = some (two (· * ·) f g) := by
  unfold s_step_Mul
  rw [both_eq (OP := (· * ·)) mul_op]
  rfl
theorem where_eq (f g : List api_Jump) : s_step_Where f g = some (two whereOp f g) := by
  unfold s_step_Where
  rw [both_eq (OP := whereOp) where_op]
  rfl
theorem neg_eq (f : List api_Jump) : s_step_Neg f = some (two (fun a _ => -a) f []) := by
  unfold s_step_Neg
  rw [both_eq (OP := fun a _ => -a) neg_op]
  rfl

end Go.Abs
