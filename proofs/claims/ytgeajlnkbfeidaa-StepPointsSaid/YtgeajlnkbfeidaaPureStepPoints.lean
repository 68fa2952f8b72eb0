/- The law StepPoints, as a plain law: at each place the sum has the sum of both values, and the product their product. -/
import Derived.Test.YtgeajlnkbfeidaaPStep4
import Derived.Test.YtgeajlnkbfeidaaPLive2
import Derived.Test.YtgeajlnkbfeidaaOpens
namespace Go.Abs
open Go

theorem pure_StepPoints (l0 : (List api_Jump)) (m0 : ∀ a ∈ l0, ok_api_Jump a) (y0 : List.length l0 * 16 ≤ 140737488351232) (l1 : (List api_Jump)) (m1 : ∀ a ∈ l1, ok_api_Jump a) (y1 : List.length l1 * 16 ≤ 140737488351232) (a2 : Int) (w2 : in64 a2) : s_law09_StepPoints l0 l1 a2 = some true := by
  unfold s_law09_StepPoints
  rw [may_eq, may_eq]
  simp only [Option.bind_some]
  cases hf : mayB l0
  · simp [gcall, live_eq]
  · cases hg : mayB l1
    · simp [gcall, live_eq]
    · have b0 := may_val_bound hf a2
      have b1 := may_val_bound hg a2
      have hm := mul_bound b0.1 b0.2 b1.1 b1.2
      have wa : IntKind.i64.wrap (val l0 a2 + val l1 a2) = val l0 a2 + val l1 a2 := wrap_in (by omega) (by omega)
      have wm : IntKind.i64.wrap (val l0 a2 * val l1 a2) = val l0 a2 * val l1 a2 := wrap_in (by omega) (by omega)
      simp only [gcall, Bool.not_true, Bool.not_false, cond_true, Option.bind_some, Bool.or_self, cond_false, add_eq, mul_eq, at_eq, hf, hg, if_true, live_eq, wa, wm, two, Bool.and_self, told]
      have va := comb_val (OP := (· + ·)) rfl hf hg a2
      have vm := comb_val (OP := (· * ·)) rfl hf hg a2
      cases ha : mayB (comb (· + ·) l0 l1) <;> cases hb : mayB (comb (· * ·) l0 l1) <;> simp [ha, hb, va, vm]

end Go.Abs
