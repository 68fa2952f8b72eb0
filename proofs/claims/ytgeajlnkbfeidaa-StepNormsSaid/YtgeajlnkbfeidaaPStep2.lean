/- Plain laws of the step functions: two gone through at once. -/
import Derived.Test.YtgeajlnkbfeidaaPStep1
namespace Go.Abs
open Go

section both
variable {op : Int → Int → Option Int} {f g r : List api_Jump} {out : List api_Jump} {a b was t : Int} {j : api_Jump}

theorem both_j5_nil : step_both_j5 op f [] out a b was t = step_both_j6 op f [] out a b was t := by
  unfold step_both_j5
  rw [asrt_pos (fun h => by rw [len_nil] at h; cases h), len_nil, Bool.false_and, cond_false]

theorem both_j5_hit (h : j.At = t) : step_both_j5 op f (j :: r) out a b was t = step_both_j6 op f r out a (IntKind.i64.wrap (b + j.Net)) was t := by
  unfold step_both_j5
  rw [asrt_pos (fun _ => at_0), len_pos, getD_0, drop_1, asrt_pos at_0, asrt_pos at_1, Bool.true_and, decide_eq_true h, cond_true]

theorem both_j5_miss (h : j.At ≠ t) : step_both_j5 op f (j :: r) out a b was t = step_both_j6 op f (j :: r) out a b was t := by
  unfold step_both_j5
  rw [asrt_pos (fun _ => at_0), len_pos, getD_0, Bool.true_and, decide_eq_false h, cond_false]

theorem both_j4_nil : step_both_j4 op [] g out a b was t = step_both_j5 op [] g out a b was t := by
  unfold step_both_j4
  rw [asrt_pos (fun h => by rw [len_nil] at h; cases h), len_nil, Bool.false_and, cond_false]

theorem both_j4_hit (h : j.At = t) : step_both_j4 op (j :: r) g out a b was t = step_both_j5 op r g out (IntKind.i64.wrap (a + j.Net)) b was t := by
  unfold step_both_j4
  rw [asrt_pos (fun _ => at_0), len_pos, getD_0, drop_1, asrt_pos at_0, asrt_pos at_1, Bool.true_and, decide_eq_true h, cond_true]

theorem both_j4_miss (h : j.At ≠ t) : step_both_j4 op (j :: r) g out a b was t = step_both_j5 op (j :: r) g out a b was t := by
  unfold step_both_j4
  rw [asrt_pos (fun _ => at_0), len_pos, getD_0, Bool.true_and, decide_eq_false h, cond_false]

theorem both_j3_nil : step_both_j3 op f [] out a b was t = step_both_j4 op f [] out a b was t := by
  unfold step_both_j3
  rw [len_nil, cond_false]

theorem both_j3_cons : step_both_j3 op f (j :: r) out a b was t = step_both_j4 op f (j :: r) out a b was (if j.At < t then j.At else t) := by
  unfold step_both_j3
  rw [len_pos, cond_true, asrt_pos at_0, getD_0]

theorem both_l2_f : step_both_l2 op (j :: r) g out a b was = step_both_j3 op (j :: r) g out a b was j.At := by
  unfold step_both_l2
  rw [len_pos, Bool.true_or, cond_true, cond_true, asrt_pos at_0, getD_0]

theorem both_l2_g : step_both_l2 op [] (j :: r) out a b was = step_both_j3 op [] (j :: r) out a b was 1125899906842624 := by
  unfold step_both_l2
  rw [len_pos, len_nil, Bool.or_true, cond_true, cond_false]

theorem both_l2_end : step_both_l2 op [] [] out a b was = some (.inr out) := by
  unfold step_both_l2
  rw [len_nil, Bool.or_false, cond_false]

end both

/-! ### The same, as one would say it -/

/-- A change at a place, if there is one. -/
def emit (p v was : Int) : List api_Jump := if v = was then [] else [⟨p, v - was⟩]

/-- Places where values are told, and what changes there. -/
def toldL (was : Int) : List (Int × Int) → List api_Jump
  | [] => []
  | x :: r => emit x.1 x.2 was ++ toldL x.2 r

theorem both_j6_eq {op : Int → Int → Option Int} {f g out : List api_Jump} {a b was t v : Int} (hv : op a b = some v) (hb : -2305843009213693952 ≤ v ∧ v ≤ 2305843009213693952) (hw : -2305843009213693952 ≤ was ∧ was ≤ 2305843009213693952) (ho : out.length ≤ 1048576) :
    step_both_j6 op f g out a b was t = some (.inl (f, g, out ++ emit t v was, a, b, v)) := by
  unfold step_both_j6
  rw [hv]
  simp only [Option.bind_some]
  have hwr : IntKind.i64.wrap (v - was) = v - was := wrap_in (by omega) (by omega)
  unfold emit
  by_cases h : v = was
  · rw [decide_eq_true h, Bool.not_true, cond_false, if_pos h, List.append_nil, h]
  · rw [decide_eq_false h, Bool.not_false, cond_true, if_neg h, hwr]
    rw [asrt_pos (by simp only [List.length_cons, List.length_nil]; omega)]

/-- Two lists gone through, place by place. -/
def merge (f g : List api_Jump) (a b : Int) : List (Int × Int × Int) :=
  match f, g with
  | [], [] => []
  | j :: f, [] => (j.At, a + j.Net, b) :: merge f [] (a + j.Net) b
  | [], k :: g => (k.At, a, b + k.Net) :: merge [] g a (b + k.Net)
  | j :: f, k :: g =>
    if j.At < k.At then (j.At, a + j.Net, b) :: merge f (k :: g) (a + j.Net) b
    else if k.At < j.At then (k.At, a, b + k.Net) :: merge (j :: f) g a (b + k.Net)
    else (j.At, a + j.Net, b + k.Net) :: merge f g (a + j.Net) (b + k.Net)
termination_by f.length + g.length

theorem merge_nil {a b : Int} : merge [] [] a b = [] := by rw [merge]
theorem merge_f {j : api_Jump} {f : List api_Jump} {a b : Int} : merge (j :: f) [] a b = (j.At, a + j.Net, b) :: merge f [] (a + j.Net) b := by rw [merge]
theorem merge_g {k : api_Jump} {g : List api_Jump} {a b : Int} : merge [] (k :: g) a b = (k.At, a, b + k.Net) :: merge [] g a (b + k.Net) := by rw [merge]
theorem merge_lt {j k : api_Jump} {f g : List api_Jump} {a b : Int} (h : j.At < k.At) : merge (j :: f) (k :: g) a b = (j.At, a + j.Net, b) :: merge f (k :: g) (a + j.Net) b := by rw [merge, if_pos h]
theorem merge_gt {j k : api_Jump} {f g : List api_Jump} {a b : Int} (h : k.At < j.At) : merge (j :: f) (k :: g) a b = (k.At, a, b + k.Net) :: merge (j :: f) g a (b + k.Net) := by rw [merge, if_neg (by omega), if_pos h]
theorem merge_eq {j k : api_Jump} {f g : List api_Jump} {a b : Int} (h : j.At = k.At) : merge (j :: f) (k :: g) a b = (j.At, a + j.Net, b + k.Net) :: merge f g (a + j.Net) (b + k.Net) := by rw [merge, if_neg (by omega), if_neg (by omega)]

theorem both_lp {op : Int → Int → Option Int} {OP : Int → Int → Int} (hop : ∀ a b, a ≤ 1073741824 → -1073741824 ≤ a → b ≤ 1073741824 → -1073741824 ≤ b → op a b = some (OP a b) ∧ -2305843009213693952 ≤ OP a b ∧ OP a b ≤ 2305843009213693952) :
    ∀ (n : Nat) (f g out : List api_Jump) (a b was lf lg : Int), f.length + g.length ≤ n → Rise lf f → Rise lg g → a ≤ 1048576 * (1024 - f.length) → -(1048576 * (1024 - f.length)) ≤ a → b ≤ 1048576 * (1024 - g.length) → -(1048576 * (1024 - g.length)) ≤ b →
      -2305843009213693952 ≤ was ∧ was ≤ 2305843009213693952 → out.length + n ≤ 1048576 →
      lp (fun s : List api_Jump × List api_Jump × List api_Jump × Int × Int × Int => step_both_l2 op s.1 s.2.1 s.2.2.1 s.2.2.2.1 s.2.2.2.2.1 s.2.2.2.2.2) (f, g, out, a, b, was) = some (out ++ toldL was ((merge f g a b).map fun x => (x.1, OP x.2.1 x.2.2))) := by
  have fin : ∀ (out : List api_Jump) (a b was : Int), lp (fun s : List api_Jump × List api_Jump × List api_Jump × Int × Int × Int => step_both_l2 op s.1 s.2.1 s.2.2.1 s.2.2.2.1 s.2.2.2.2.1 s.2.2.2.2.2) ([], [], out, a, b, was) = some (out ++ toldL was ((merge [] [] a b).map fun x => (x.1, OP x.2.1 x.2.2))) := by
    intro out a b was
    rw [merge_nil]
    simp only [List.map_nil, toldL, List.append_nil]
    exact lp_last both_l2_end
  intro n
  induction n with
  | zero =>
    intro f g out a b was lf lg hn _ _ _ _ _ _ _ _
    have h1 : f = [] := List.length_eq_zero_iff.1 (by omega)
    have h2 : g = [] := List.length_eq_zero_iff.1 (by omega)
    subst h1; subst h2
    exact fin out a b was
  | succ n ih =>
    intro f g out a b was lf lg hn hf hg a1 a2 b1 b2 hw ho
    have emitL : ∀ p v was, (emit p v was).length ≤ 1 := by intro p v was; unfold emit; split <;> simp
    have go : ∀ (f' g' : List api_Jump) (a' b' p lf' lg' : Int), f'.length + g'.length ≤ n → Rise lf' f' → Rise lg' g' → a' ≤ 1048576 * (1024 - f'.length) → -(1048576 * (1024 - f'.length)) ≤ a' → b' ≤ 1048576 * (1024 - g'.length) → -(1048576 * (1024 - g'.length)) ≤ b' →
        step_both_l2 op f g out a b was = step_both_j6 op f' g' out a' b' was p → merge f g a b = (p, a', b') :: merge f' g' a' b' →
        lp (fun s : List api_Jump × List api_Jump × List api_Jump × Int × Int × Int => step_both_l2 op s.1 s.2.1 s.2.2.1 s.2.2.2.1 s.2.2.2.2.1 s.2.2.2.2.2) (f, g, out, a, b, was) = some (out ++ toldL was ((merge f g a b).map fun x => (x.1, OP x.2.1 x.2.2))) := by
      intro f' g' a' b' p lf' lg' hlen hf' hg' a1' a2' b1' b2' hstep hm
      obtain ⟨hv, v1, v2⟩ := hop a' b' (by omega) (by omega) (by omega) (by omega)
      have hb : (fun s : List api_Jump × List api_Jump × List api_Jump × Int × Int × Int => step_both_l2 op s.1 s.2.1 s.2.2.1 s.2.2.2.1 s.2.2.2.2.1 s.2.2.2.2.2) (f, g, out, a, b, was) = some (.inl (f', g', out ++ emit p (OP a' b') was, a', b', OP a' b')) := by
        show step_both_l2 op f g out a b was = _
        rw [hstep, both_j6_eq hv ⟨v1, v2⟩ hw (by omega)]
      rw [lp_next hb, ih f' g' _ a' b' _ lf' lg' hlen hf' hg' a1' a2' b1' b2' ⟨v1, v2⟩ (by have := emitL p (OP a' b') was; simp only [List.length_append]; omega), hm]
      simp only [List.map_cons, toldL, List.append_assoc]
    rcases f with _ | ⟨j, f⟩ <;> rcases g with _ | ⟨k, g⟩
    · exact fin out a b was
    rotate_left
    · -- only the first
      simp only [List.length_cons, List.length_nil] at hn a1 a2 b1 b2
      have hw : IntKind.i64.wrap (a + j.Net) = a + j.Net := wrap_in (by have := hf.1; omega) (by have := hf.1; omega)
      have := hf.1
      exact go f [] (a + j.Net) b j.At j.At lg (by simp only [List.length_nil]; omega) hf.2 trivial (by omega) (by omega) (by simp only [List.length_nil]; omega) (by simp only [List.length_nil]; omega)
        (by rw [both_l2_f, both_j3_nil, both_j4_hit rfl, both_j5_nil, hw]) merge_f
    rotate_left
    · -- only the second
      simp only [List.length_cons, List.length_nil] at hn a1 a2 b1 b2
      have := hg.1
      have hw : IntKind.i64.wrap (b + k.Net) = b + k.Net := wrap_in (by omega) (by omega)
      exact go [] g a (b + k.Net) k.At lf k.At (by simp only [List.length_nil]; omega) trivial hg.2 (by simp only [List.length_nil]; omega) (by simp only [List.length_nil]; omega) (by omega) (by omega)
        (by rw [both_l2_g, both_j3_cons, if_pos (by omega), both_j4_nil, both_j5_hit rfl, hw]) merge_g
    · -- both
      simp only [List.length_cons] at hn a1 a2 b1 b2
      have h1 := hf.1
      have h2 := hg.1
      have hwa : IntKind.i64.wrap (a + j.Net) = a + j.Net := wrap_in (by omega) (by omega)
      have hwb : IntKind.i64.wrap (b + k.Net) = b + k.Net := wrap_in (by omega) (by omega)
      by_cases h : j.At < k.At
      · exact go f (k :: g) (a + j.Net) b j.At j.At lg (by simp only [List.length_cons]; omega) hf.2 hg (by omega) (by omega) (by simp only [List.length_cons]; omega) (by simp only [List.length_cons]; omega)
          (by rw [both_l2_f, both_j3_cons, if_neg (by omega), both_j4_hit rfl, both_j5_miss (by omega), hwa]) (merge_lt h)
      · by_cases h' : k.At < j.At
        · exact go (j :: f) g a (b + k.Net) k.At lf k.At (by simp only [List.length_cons]; omega) hf hg.2 (by simp only [List.length_cons]; omega) (by simp only [List.length_cons]; omega) (by omega) (by omega)
            (by rw [both_l2_f, both_j3_cons, if_pos h', both_j4_miss (by omega), both_j5_hit rfl, hwb]) (merge_gt h')
        · have he : j.At = k.At := by omega
          exact go f g (a + j.Net) (b + k.Net) j.At j.At k.At (by omega) hf.2 hg.2 (by omega) (by omega) (by omega) (by omega)
            (by rw [both_l2_f, both_j3_cons, if_neg h', both_j4_hit rfl, both_j5_hit he.symm, hwa, hwb]) (merge_eq he)

end Go.Abs
