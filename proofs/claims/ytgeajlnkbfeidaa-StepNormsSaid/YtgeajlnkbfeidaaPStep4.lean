/- Plain laws of the step functions: the values of what is made of two. -/
import Derived.Test.YtgeajlnkbfeidaaPStep3
namespace Go.Abs
open Go

theorem val_emit (p v was t : Int) : val (emit p v was) t = if p ≤ t then v - was else 0 := by
  unfold emit
  by_cases h : v = was
  · rw [if_pos h, val_nil, h]; split <;> omega
  · rw [if_neg h, val_cons, val_nil]; simp

theorem Rise.val0 {l t : Int} {f : List api_Jump} (h : Rise l f) (ht : t ≤ l) : val f t = 0 := val_above fun j hj => by have := (h.above j hj).1; omega

theorem val_comb (OP : Int → Int → Int) (t : Int) : ∀ (n : Nat) (f g : List api_Jump) (a b lf lg : Int), f.length + g.length ≤ n → Rise lf f → Rise lg g →
    val (toldL (OP a b) ((merge f g a b).map fun x => (x.1, OP x.2.1 x.2.2))) t = OP (a + val f t) (b + val g t) - OP a b := by
  intro n
  induction n with
  | zero =>
    intro f g a b lf lg hn _ _
    have h1 : f = [] := List.length_eq_zero_iff.1 (by omega)
    have h2 : g = [] := List.length_eq_zero_iff.1 (by omega)
    subst h1; subst h2
    rw [merge_nil]
    simp [toldL, val]
  | succ n ih =>
    intro f g a b lf lg hn hf hg
    have go : ∀ (f' g' : List api_Jump) (a' b' p lf' lg' : Int), f'.length + g'.length ≤ n → Rise lf' f' → Rise lg' g' → merge f g a b = (p, a', b') :: merge f' g' a' b' →
        (p ≤ t → a + val f t = a' + val f' t ∧ b + val g t = b' + val g' t) → (t < p → val f t = 0 ∧ val g t = 0 ∧ val f' t = 0 ∧ val g' t = 0) →
        val (toldL (OP a b) ((merge f g a b).map fun x => (x.1, OP x.2.1 x.2.2))) t = OP (a + val f t) (b + val g t) - OP a b := by
      intro f' g' a' b' p lf' lg' hlen hf' hg' hm h1 h2
      rw [hm]
      simp only [List.map_cons, toldL]
      rw [val_append, val_emit, ih f' g' a' b' lf' lg' hlen hf' hg']
      by_cases hp : p ≤ t
      · obtain ⟨e1, e2⟩ := h1 hp
        rw [if_pos hp, e1, e2]; omega
      · obtain ⟨e1, e2, e3, e4⟩ := h2 (by omega)
        rw [if_neg hp, e1, e2, e3, e4]
        simp
    rcases f with _ | ⟨j, f⟩ <;> rcases g with _ | ⟨k, g⟩
    · rw [merge_nil]; simp [toldL, val]
    · simp only [List.length_cons, List.length_nil] at hn
      refine go [] g a (b + k.Net) k.At lf k.At (by simp only [List.length_nil]; omega) trivial hg.2 merge_g (fun hp => ⟨rfl, ?_⟩) (fun hp => ⟨rfl, ?_, rfl, ?_⟩)
      · rw [val_cons, if_pos hp]; omega
      · rw [val_cons, if_neg (by omega), hg.2.val0 (by omega)]; rfl
      · exact hg.2.val0 (by omega)
    · simp only [List.length_cons, List.length_nil] at hn
      refine go f [] (a + j.Net) b j.At j.At lg (by simp only [List.length_nil]; omega) hf.2 trivial merge_f (fun hp => ⟨?_, rfl⟩) (fun hp => ⟨?_, rfl, ?_, rfl⟩)
      · rw [val_cons, if_pos hp]; omega
      · rw [val_cons, if_neg (by omega), hf.2.val0 (by omega)]; rfl
      · exact hf.2.val0 (by omega)
    · simp only [List.length_cons] at hn
      by_cases h : j.At < k.At
      · refine go f (k :: g) (a + j.Net) b j.At j.At lg (by simp only [List.length_cons]; omega) hf.2 hg (merge_lt h) (fun hp => ⟨?_, rfl⟩) (fun hp => ⟨?_, ?_, ?_, ?_⟩)
        · rw [val_cons, if_pos hp]; omega
        · rw [val_cons, if_neg (by omega), hf.2.val0 (by omega)]; rfl
        · rw [val_cons, if_neg (by omega), hg.2.val0 (by omega)]; rfl
        · exact hf.2.val0 (by omega)
        · rw [val_cons, if_neg (by omega), hg.2.val0 (by omega)]; rfl
      · by_cases h' : k.At < j.At
        · refine go (j :: f) g a (b + k.Net) k.At lf k.At (by simp only [List.length_cons]; omega) hf hg.2 (merge_gt h') (fun hp => ⟨rfl, ?_⟩) (fun hp => ⟨?_, ?_, ?_, ?_⟩)
          · rw [val_cons, if_pos hp]; omega
          · rw [val_cons, if_neg (by omega), hf.2.val0 (by omega)]; rfl
          · rw [val_cons, if_neg (by omega), hg.2.val0 (by omega)]; rfl
          · rw [val_cons, if_neg (by omega), hf.2.val0 (by omega)]; rfl
          · exact hg.2.val0 (by omega)
        · have he : j.At = k.At := by omega
          refine go f g (a + j.Net) (b + k.Net) j.At j.At k.At (by omega) hf.2 hg.2 (merge_eq he) (fun hp => ⟨?_, ?_⟩) (fun hp => ⟨?_, ?_, ?_, ?_⟩)
          · rw [val_cons, if_pos hp]; omega
          · rw [val_cons, if_pos (by omega)]; omega
          · rw [val_cons, if_neg (by omega), hf.2.val0 (by omega)]; rfl
          · rw [val_cons, if_neg (by omega), hg.2.val0 (by omega)]; rfl
          · exact hf.2.val0 (by omega)
          · exact hg.2.val0 (by omega)

theorem comb_val {OP : Int → Int → Int} (h0 : OP 0 0 = 0) {f g : List api_Jump} (hf : mayB f = true) (hg : mayB g = true) (t : Int) : val (comb OP f g) t = OP (val f t) (val g t) := by
  have := val_comb OP t _ f g 0 0 (-2) (-2) (Nat.le_refl _) (may_iff.1 hf).2 (may_iff.1 hg).2
  rw [h0] at this
  simpa [comb] using this

theorem may_val_bound {f : List api_Jump} (hf : mayB f = true) (t : Int) : val f t ≤ 1073741824 ∧ -1073741824 ≤ val f t := by
  obtain ⟨h1, h2⟩ := may_iff.1 hf
  have := val_bound t (b := 1048576) (by omega) (fun j hj => by have := h2.above j hj; omega) (f := f)
  omega

end Go.Abs
