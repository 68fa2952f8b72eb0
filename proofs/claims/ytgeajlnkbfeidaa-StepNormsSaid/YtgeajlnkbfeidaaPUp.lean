/- A function is told by its values: two lists of jumps in form that have the same values are one. -/
import Derived.Test.YtgeajlnkbfeidaaPStep6
namespace Go.Abs
open Go

/-- Jumps in form, above a place, whatever their heights. -/
def Up (last : Int) : List api_Jump → Prop
  | [] => True
  | j :: r => (last < j.At ∧ j.At < 1125899906842624 ∧ j.Net ≠ 0) ∧ Up j.At r

theorem Up.above : ∀ {f : List api_Jump} {last : Int}, Up last f → ∀ j ∈ f, last < j.At ∧ j.At < 1125899906842624 ∧ j.Net ≠ 0
  | [], _, _, j, hj => by simp at hj
  | a :: r, last, h, j, hj => by
    rcases List.mem_cons.1 hj with rfl | hj
    · exact h.1
    · have := h.2.above j hj
      have h1 := h.1.1
      exact ⟨by omega, this.2⟩

theorem Up.val0 {l t : Int} {f : List api_Jump} (h : Up l f) (ht : t ≤ l) : val f t = 0 := val_above fun j hj => by have := (h.above j hj).1; omega

theorem Up.weaken {a b : Int} {f : List api_Jump} (h : Up b f) (hab : a ≤ b) : Up a f := by
  cases f with
  | nil => trivial
  | cons j r => exact ⟨⟨by have := h.1.1; omega, h.1.2⟩, h.2⟩

theorem Rise.up : ∀ {f : List api_Jump} {last : Int}, Rise last f → Up last f
  | [], _, _ => trivial
  | _ :: _, _, h => ⟨⟨h.1.1, h.1.2.1, h.1.2.2.1⟩, h.2.up⟩

theorem Up.ext : ∀ {f g : List api_Jump} {last : Int}, Up last f → Up last g → (∀ t, last < t → t < 1125899906842624 → val f t = val g t) → f = g
  | [], [], _, _, _, _ => rfl
  | j :: r, [], last, hf, _, h => by
    have := h j.At hf.1.1 hf.1.2.1
    rw [val_cons, if_pos (Int.le_refl _), hf.2.val0 (Int.le_refl _), val_nil] at this
    exact absurd (by omega) hf.1.2.2
  | [], k :: s, last, _, hg, h => by
    have := h k.At hg.1.1 hg.1.2.1
    rw [val_cons, if_pos (Int.le_refl _), hg.2.val0 (Int.le_refl _), val_nil] at this
    exact absurd (by omega) hg.1.2.2
  | j :: r, k :: s, last, hf, hg, h => by
    have h1 := h j.At hf.1.1 hf.1.2.1
    have h2 := h k.At hg.1.1 hg.1.2.1
    rw [val_cons, if_pos (Int.le_refl _), hf.2.val0 (Int.le_refl _), val_cons] at h1
    rw [val_cons, val_cons k, if_pos (Int.le_refl _), hg.2.val0 (Int.le_refl _)] at h2
    have n1 := hf.1.2.2
    have n2 := hg.1.2.2
    have he : j.At = k.At := by
      rcases Int.lt_trichotomy j.At k.At with h3 | h3 | h3
      · rw [if_neg (by omega), hg.2.val0 (by omega)] at h1; omega
      · exact h3
      · rw [if_neg (by omega), hf.2.val0 (by omega)] at h2; omega
    rw [if_pos (by omega), hg.2.val0 (by omega)] at h1
    have hj : j = k := by
      obtain ⟨a, b⟩ := j; obtain ⟨c, d⟩ := k
      simp only at he h1
      simp only [Int.add_zero] at h1
      rw [he, h1]
    subst hj
    rw [hf.2.ext hg.2 (fun t ht ht' => by
      have := h t (by have := hf.1.1; omega) ht'
      rw [val_cons, val_cons] at this; omega)]

/-- Places that rise. -/
def Inc (last : Int) : List Int → Prop
  | [] => True
  | p :: r => (last < p ∧ p < 1125899906842624) ∧ Inc p r

theorem Inc.above : ∀ {ps : List Int} {last : Int}, Inc last ps → ∀ p ∈ ps, last < p ∧ p < 1125899906842624
  | [], _, _, j, hj => by simp at hj
  | a :: r, last, h, j, hj => by
    rcases List.mem_cons.1 hj with rfl | hj
    · exact h.1
    · have := h.2.above j hj
      have h1 := h.1.1
      exact ⟨by omega, this.2⟩

theorem toldL_up : ∀ {l : List (Int × Int)} {last was : Int}, Inc last (l.map Prod.fst) → Up last (toldL was l)
  | [], _, _, _ => trivial
  | x :: r, last, was, h => by
    simp only [toldL]
    have ih : Up x.1 (toldL x.2 r) := toldL_up h.2
    have h1 : last < x.1 ∧ x.1 < 1125899906842624 := h.1
    unfold emit
    split
    · exact ih.weaken (by omega)
    · exact ⟨⟨h1.1, h1.2, by simp only; omega⟩, ih⟩

theorem toldL_val {F : Int → Int} : ∀ {ps : List Int} {last : Int}, Inc last ps → (∀ s t, last ≤ s → s ≤ t → t < 1125899906842624 → (∀ p ∈ ps, ¬ (s < p ∧ p ≤ t)) → F s = F t) →
    ∀ t, last ≤ t → t < 1125899906842624 → val (toldL (F last) (ps.map fun p => (p, F p))) t = F t - F last
  | [], last, _, hF, t, h1, h2 => by
    have := hF last t (Int.le_refl _) h1 h2 (by simp)
    simp [toldL, val, this]
  | p :: r, last, hi, hF, t, h1, h2 => by
    simp only [List.map_cons, toldL]
    rw [val_append, val_emit]
    by_cases hp : p ≤ t
    · rw [if_pos hp, toldL_val (F := F) hi.2 (fun s t' hs hst ht' hn => hF s t' (by have := hi.1.1; omega) hst ht' (fun q hq => by
        rcases List.mem_cons.1 hq with rfl | hq
        · omega
        · exact hn q hq)) t hp h2]
      omega
    · have := hF last t (Int.le_refl _) h1 h2 (fun q hq => by
        rcases List.mem_cons.1 hq with rfl | hq
        · omega
        · have := (hi.2.above q hq).1; omega)
      rw [if_neg hp, Up.val0 (toldL_up (last := p) (by rw [List.map_map]; simpa [Function.comp_def] using hi.2)) (by omega)]
      omega

theorem Rise.restrict {l m : Int} {k : api_Jump} {g : List api_Jump} (h : Rise l (k :: g)) (hm : m < k.At) : Rise m (k :: g) := ⟨⟨hm, h.1.2⟩, h.2⟩

theorem merge_inc : ∀ (n : Nat) (f g : List api_Jump) (a b last : Int), f.length + g.length ≤ n → Rise last f → Rise last g → Inc last ((merge f g a b).map Prod.fst) := by
  intro n
  induction n with
  | zero =>
    intro f g a b last hn _ _
    have h1 : f = [] := List.length_eq_zero_iff.1 (by omega)
    have h2 : g = [] := List.length_eq_zero_iff.1 (by omega)
    subst h1; subst h2
    rw [merge_nil]; trivial
  | succ n ih =>
    intro f g a b last hn hf hg
    rcases f with _ | ⟨j, f⟩ <;> rcases g with _ | ⟨k, g⟩
    · rw [merge_nil]; trivial
    · rw [merge_g]
      simp only [List.length_cons, List.length_nil] at hn
      exact ⟨⟨hg.1.1, hg.1.2.1⟩, ih _ _ _ _ _ (by simp only [List.length_nil]; omega) trivial hg.2⟩
    · rw [merge_f]
      simp only [List.length_cons, List.length_nil] at hn
      exact ⟨⟨hf.1.1, hf.1.2.1⟩, ih _ _ _ _ _ (by simp only [List.length_nil]; omega) hf.2 trivial⟩
    · simp only [List.length_cons] at hn
      by_cases h : j.At < k.At
      · rw [merge_lt h]
        exact ⟨⟨hf.1.1, hf.1.2.1⟩, ih _ _ _ _ _ (by simp only [List.length_cons]; omega) hf.2 (hg.restrict h)⟩
      · by_cases h' : k.At < j.At
        · rw [merge_gt h']
          exact ⟨⟨hg.1.1, hg.1.2.1⟩, ih _ _ _ _ _ (by simp only [List.length_cons]; omega) (hf.restrict h') hg.2⟩
        · have he : j.At = k.At := by omega
          rw [merge_eq he]
          exact ⟨⟨hf.1.1, hf.1.2.1⟩, ih _ _ _ _ _ (by omega) hf.2 (by rw [he]; exact hg.2)⟩

theorem comb_up {OP : Int → Int → Int} {f g : List api_Jump} (hf : mayB f = true) (hg : mayB g = true) : Up (-2) (comb OP f g) := by
  refine toldL_up ?_
  rw [List.map_map]
  exact merge_inc _ f g 0 0 (-2) (Nat.le_refl _) (may_iff.1 hf).2 (may_iff.1 hg).2

theorem comb_is {OP : Int → Int → Int} (h0 : OP 0 0 = 0) {f g h : List api_Jump} (hf : mayB f = true) (hg : mayB g = true) (hh : Up (-2) h) (hv : ∀ t, -2 < t → t < 1125899906842624 → val h t = OP (val f t) (val g t)) : comb OP f g = h :=
  (comb_up hf hg).ext hh fun t h1 h2 => by rw [comb_val h0 hf hg, hv t h1 h2]

theorem may_up {f : List api_Jump} (h : mayB f = true) : Up (-2) f := (may_iff.1 h).2.up

/-- The places and the values: the list that is told has these values. -/
theorem toldL_is {F : Int → Int} (h2 : F (-2) = 0) {ps : List Int} (hi : Inc (-2) ps) (hF : ∀ s t, -2 ≤ s → s ≤ t → t < 1125899906842624 → (∀ p ∈ ps, ¬ (s < p ∧ p ≤ t)) → F s = F t) {h : List api_Jump} (hh : Up (-2) h) (hv : ∀ t, -2 < t → t < 1125899906842624 → val h t = F t) :
    toldL 0 (ps.map fun p => (p, F p)) = h := by
  refine (toldL_up (by rw [List.map_map]; simpa [Function.comp_def] using hi)).ext hh fun t h3 h4 => ?_
  have := toldL_val hi hF t (by omega) h4
  rw [h2] at this
  rw [this, hv t h3 h4]; omega

end Go.Abs
