/- The law StepNorms, as a plain law: jumps of any order, put together, are the function that the document says. -/
import Derived.Test.YtgeajlnkbfeidaaPNorm
import Derived.Test.YtgeajlnkbfeidaaOpens
namespace Go.Abs
open Go

theorem told_may {f : List api_Jump} (h : (told f).2 = 0) : mayB (told f).1 = true := by
  unfold told at h ⊢
  cases hf : mayB f
  · simp [hf] at h
  · simp [hf]

theorem normF_len (l : List api_Jump) : (normF l).1.length ≤ 1024 := by
  unfold normF
  split
  · simp
  · split
    · simp
    · exact told_len _

theorem normF_may {l : List api_Jump} (h : (normF l).2 = 0) : mayB (normF l).1 = true := by
  unfold normF at h ⊢
  split
  · rename_i c; simp [c] at h
  · rename_i c
    simp only [c, if_false] at h
    split
    · rename_i c'; simp [c'] at h
    · rename_i c'
      simp only [c', if_false] at h
      exact told_may h

theorem pure_StepNorms (l0 : (List api_Jump)) (m0 : ∀ a ∈ l0, ok_api_Jump a) (y0 : List.length l0 * 16 ≤ 140737488351232) : s_law09_StepNorms l0 = some true := by
  unfold s_law09_StepNorms s_law09_few
  simp only [Option.bind_some]
  by_cases c : ((List.length l0 : Nat) : Int) ≤ 60
  · have hs : s_ref09_Same (normF l0).1 (normF l0).1 = some true := same_self (by have := normF_len l0; omega)
    simp only [decide_eq_true c, Bool.not_true, cond_false]
    rw [norm_eq (by omega), refNorm_eq (by omega), live_eq]
    simp only [Option.bind_some, may_eq, refMay_eq]
    by_cases e : (normF l0).2 = 0
    · simp [gcall, hs, e, normF_may e]
    · simp [gcall, hs, e]
  · simp [c, live_eq]

end Go.Abs
