/- Plain laws of layer 9: lists that are made are short, and the same as themselves. -/
import Derived.Test.YtgeajlnkbfeidaaPRef3
import Derived.Test.YtgeajlnkbfeidaaPLive2
namespace Go.Abs
open Go

theorem same_self {f : List api_Jump} (h : f.length ≤ 1099511627776) : s_ref09_Same f f = some true := by rw [same_eq f f (by omega)]; simp

theorem told_len (f : List api_Jump) : (told f).1.length ≤ 1024 := by
  unfold told
  cases h : mayB f
  · simp
  · simpa using (may_iff.1 h).1

theorem two_len (OP : Int → Int → Int) (f g : List api_Jump) : (two OP f g).1.length ≤ 1024 := by
  unfold two
  split
  · exact told_len _
  · simp

theorem ahead_len (f : List api_Jump) (t : Int) : (ahead f t).1.length ≤ 1024 := by
  unfold ahead
  split
  · split
    · exact (may_iff.1 (by assumption)).1
    · exact told_len _
  · simp

theorem rest_len (f : List api_Jump) (t : Int) : (rest f t).1.length ≤ 1024 := by
  unfold rest
  split
  · split
    · simp
    · split
      · exact (may_iff.1 (by assumption)).1
      · exact told_len _
  · simp

theorem two_ok {OP : Int → Int → Int} {f g : List api_Jump} (h : (two OP f g).2 = 0) : mayB f = true ∧ mayB g = true ∧ mayB (comb OP f g) = true ∧ two OP f g = (comb OP f g, 0) := by
  unfold two at h ⊢
  cases hf : mayB f <;> cases hg : mayB g <;> simp [hf, hg, told] at h ⊢
  cases hc : mayB (comb OP f g) <;> simp [hc] at h ⊢

theorem two_may {OP : Int → Int → Int} {f g : List api_Jump} (hf : mayB f = true) (hg : mayB g = true) : two OP f g = told (comb OP f g) := by simp [two, hf, hg]

theorem two_comm {OP : Int → Int → Int} (h0 : OP 0 0 = 0) (hc : ∀ a b, OP a b = OP b a) (f g : List api_Jump) : two OP f g = two OP g f := by
  unfold two
  cases hf : mayB f <;> cases hg : mayB g <;> simp
  rw [comb_is h0 hf hg (comb_up hg hf) (fun t _ _ => by rw [comb_val h0 hg hf, hc])]

theorem add_assoc_may {f g h : List api_Jump} (hf : mayB f = true) (hh : mayB h = true) (h1 : (two (· + ·) f g).2 = 0) (h2 : (two (· + ·) g h).2 = 0) :
    two (· + ·) (two (· + ·) f g).1 h = two (· + ·) f (two (· + ·) g h).1 := by
  obtain ⟨_, hg, c1, e1⟩ := two_ok h1
  obtain ⟨_, _, c2, e2⟩ := two_ok h2
  rw [e1, e2]
  simp only
  rw [two_may c1 hh, two_may hf c2]
  congr 1
  refine comb_is rfl c1 hh (comb_up hf c2) fun t _ _ => ?_
  have a1 := comb_val (OP := (· + ·)) rfl hf c2 t
  have a2 := comb_val (OP := (· + ·)) rfl hg hh t
  have a3 := comb_val (OP := (· + ·)) rfl hf hg t
  simp only at a1 a2 a3
  rw [a1, a2, a3]; omega

theorem mul_add_may {f g h : List api_Jump} (h1 : (two (· * ·) f g).2 = 0) (h2 : (two (· + ·) g h).2 = 0) (h3 : (two (· * ·) f h).2 = 0) :
    two (· * ·) f (two (· + ·) g h).1 = two (· + ·) (two (· * ·) f g).1 (two (· * ·) f h).1 := by
  obtain ⟨hf, hg, c1, e1⟩ := two_ok h1
  obtain ⟨_, hh, c2, e2⟩ := two_ok h2
  obtain ⟨_, _, c3, e3⟩ := two_ok h3
  rw [e1, e2, e3]
  simp only
  rw [two_may hf c2, two_may c1 c3]
  congr 1
  refine comb_is rfl hf c2 (comb_up c1 c3) fun t _ _ => ?_
  have a1 := comb_val (OP := (· + ·)) rfl c1 c3 t
  have a2 := comb_val (OP := (· + ·)) rfl hg hh t
  have a3 := comb_val (OP := (· * ·)) rfl hf hg t
  have a4 := comb_val (OP := (· * ·)) rfl hf hh t
  simp only at a1 a2 a3 a4
  rw [a1, a2, a3, a4, Int.mul_add]

end Go.Abs
