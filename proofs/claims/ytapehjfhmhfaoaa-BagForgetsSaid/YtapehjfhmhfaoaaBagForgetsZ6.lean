/- What the law BagForgets stands on: the framework, the given functions as plain functions, their walks, and the plain laws; part 6. -/
import Derived.Test.YtapehjfhmhfaoaaBagForgetsZ5
set_option linter.unusedSimpArgs false
set_option linter.unusedVariables false
namespace Go.Abs
open Go
theorem aCv {a i m : Nat} {d : List Int} (hi : 1 ≤ i) (ha : a < d.length) (hm : m < d.length) (hl : d.length < 2305843009213693951) : ∀ j, j ≤ m → gK (a : Nat) (i : Nat) d (j : Nat) = if i ≤ j ∧ ¬ gN d j < gN d a then some (.inl (d, ((j - 1 : Nat) : Int))) else some (.inr (d, (j : Int))) := by
  intro j hj
  unfold gK
  refine (RH (i := i) (j := j) (d := d) (α := (List Int × Int) ⊕ (List Int × Int)) (u := j) (v := a) (x := some (.inl (d, IntKind.i64.wrap ((j : Int) - 1)))) (y := some (.inr (d, (j : Int)))) (by omega) (by omega)).trans ?_
  by_cases h : i ≤ j ∧ ¬ gN d j < gN d a
  · rw [if_pos h, if_pos h, wrN (x := (j : Int) - 1) (n := j - 1) (by omega) (by omega)]
  · rw [if_neg h, if_neg h]

theorem aEN {a j : Nat} {d : List Int} (ha : a < d.length) (hj : j < d.length) (hl : d.length < 2305843009213693951) : ∀ i, i ≤ j + 1 → eE (a : Nat) (j : Nat) d (i : Nat) = if i ≤ j ∧ ¬ gN d a < gN d i then some (.inl (d, ((i + 1 : Nat) : Int))) else some (.inr (d, (i : Int))) := by
  intro i hi
  unfold eE
  rw [wrN (x := (i : Int) + 1) (n := i + 1) (by omega) (by omega)]
  exact RH (u := a) (v := i) (by omega) (by omega)

theorem aCx {a i m : Nat} {d : List Int} (hi : 1 ≤ i) (ha : a < d.length) (hm : m < d.length) (hl : d.length < 2305843009213693951) : ∀ j, j ≤ m → eC (a : Nat) (i : Nat) d (j : Nat) = if i ≤ j ∧ gN d a < gN d j then some (.inl (d, ((j - 1 : Nat) : Int))) else some (.inr (d, (j : Int))) := by
  intro j hj
  unfold eC
  refine (QW (i := i) (j := j) (d := d) (α := (List Int × Int) ⊕ (List Int × Int)) (u := a) (v := j) (x := some (.inl (d, IntKind.i64.wrap ((j : Int) - 1)))) (y := some (.inr (d, (j : Int)))) (by omega) (by omega)).trans ?_
  by_cases h : i ≤ j ∧ gN d a < gN d j
  · rw [if_pos h, if_pos h, wrN (x := (j : Int) - 1) (n := j - 1) (by omega) (by omega)]
  · rw [if_neg h, if_neg h]

structure FB (a b i j : Nat) (d : List Int) : Prop where
  hi : a < i
  hij : i ≤ j + 1
  hj : j < b
  lo : ∀ k, a < k → k < i → gN d k < gN d a
  up : ∀ k, j < k → k < b → gN d a ≤ gN d k

theorem FB.swap {a b i j : Nat} {d : List Int} (h : FB a b i j d) (hb : b ≤ d.length) (hij : i < j) (h1 : gN d a ≤ gN d i) (h2 : gN d j < gN d a) : FB a b (i + 1) (j - 1) (swp d i j) := by
  have := h.hi; have := h.hj
  have g := wD (d := d) (i := i) (j := j) (by omega) (by omega)
  have ga : gN (swp d i j) a = gN d a := by rw [g, if_neg (by omega), if_neg (by omega)]
  refine ⟨by omega, by omega, by omega, fun k k1 k2 => ?_, fun k k1 k2 => ?_⟩
  · rw [ga, g, if_neg (by omega)]
    by_cases hk : k = i
    · rw [if_pos hk]; exact h2
    · rw [if_neg hk]; exact h.lo k k1 (by omega)
  · rw [ga, g]
    by_cases hk : k = j
    · rw [if_pos hk]; exact h1
    · rw [if_neg hk, if_neg (by omega)]; exact h.up k (by omega) k2

theorem SH {a b i j : Nat} {d : List Int} (h : FB a b i j d) (hb : b ≤ d.length) (hl : d.length < 2305843009213693951) : ∃ i' j' : Nat, FB a b i' j' d ∧ i ≤ i' ∧ j' ≤ j ∧ (j' < i' → j' + 1 = i') ∧ (i' ≤ j' → i' < j' ∧ gN d a ≤ gN d i' ∧ gN d j' < gN d a) ∧
    dU (a : Nat) d (i : Nat) (j : Nat) = jM d (a : Nat) (i' : Nat) (j' : Nat) ∧ iY d (a : Nat) (i : Nat) (j : Nat) = jQ d (a : Nat) (i' : Nat) (j' : Nat) := by
  have h1 := h.hi; have h2 := h.hij; have h3 := h.hj
  obtain ⟨i', e1, a1, a2, a3, a4⟩ := VH (body := fun s => gC (a : Nat) (j : Nat) s.1 s.2) (d := d) (p := fun k => gN d k < gN d a) (j := j) (aEJ (a := a) (j := j) (d := d) (by omega) (by omega) hl) (j + 1 - i) i rfl h2
  obtain ⟨i2, e1', b1, b2, b3, b4⟩ := VH (body := fun s => fP (a : Nat) (j : Nat) s.1 s.2) (d := d) (p := fun k => gN d k < gN d a) (j := j) (aGt (a := a) (j := j) (d := d) (by omega) (by omega) hl) (j + 1 - i) i rfl h2
  have hii : i2 = i' := by
    rcases Nat.lt_trichotomy i2 i' with hh | hh | hh
    · exact absurd (a3 i2 b1 hh) (b4 (by omega))
    · exact hh
    · exact absurd (b3 i' a1 hh) (a4 (by omega))
  subst hii
  obtain ⟨j', f1, c1, c2, c3, c4⟩ := NY (body := fun s => gK (a : Nat) (i2 : Nat) s.1 s.2) (d := d) (p := fun k => ¬ gN d k < gN d a) (i := i2) (m := j) (by omega) (aCv (a := a) (i := i2) (m := j) (d := d) (by omega) (by omega) (by omega) hl) j (Nat.le_refl _) a2
  obtain ⟨j2, f1', g1, g2, g3, g4⟩ := NY (body := fun s => fY (a : Nat) (i2 : Nat) s.1 s.2) (d := d) (p := fun k => ¬ gN d k < gN d a) (i := i2) (m := j) (by omega) (aCR (a := a) (i := i2) (m := j) (d := d) (by omega) (by omega) (by omega) hl) j (Nat.le_refl _) a2
  have hjj : j2 = j' := by
    rcases Nat.lt_trichotomy j2 j' with hh | hh | hh
    · exact absurd (g3 j' hh c2) (c4 (by omega))
    · exact hh
    · exact absurd (c3 j2 hh g2) (g4 (by omega))
  subst hjj
  have hend : i2 ≤ j2 → i2 < j2 ∧ gN d a ≤ gN d i2 ∧ gN d j2 < gN d a := fun hh => by
    have k1 : ¬ gN d i2 < gN d a := a4 (by omega)
    have k2 : gN d j2 < gN d a := Classical.byContradiction fun hn => c4 hh hn
    refine ⟨?_, by omega, k2⟩
    rcases Nat.lt_or_ge i2 j2 with h | h
    · exact h
    · have : i2 = j2 := by omega
      rw [this] at k1; exact absurd k2 k1
  refine ⟨i2, j2, ⟨by omega, by omega, by omega, fun k k1 k2 => ?_, fun k k1 k2 => ?_⟩, a1, c2, fun hh => by omega, hend, ?_, ?_⟩
  · by_cases hk : k < i
    · exact h.lo k k1 hk
    · exact a3 k (by omega) k2
  · by_cases hk : j < k
    · exact h.up k hk k2
    · have := c3 k k1 (by omega); omega
  · unfold dU nW
    rw [show lp (fun s : List Int × Int => gC (a : Nat) (j : Nat) s.1 s.2) (d, (i : Int)) = some (d, (i2 : Int)) from e1]
    simp only [Option.bind_some]
    unfold nT nX
    rw [show lp (fun s : List Int × Int => gK (a : Nat) (i2 : Nat) s.1 s.2) (d, (j : Int)) = some (d, (j2 : Int)) from f1]
    rfl
  · unfold iY
    rw [show lp (fun s : List Int × Int => fP (a : Nat) (j : Nat) s.1 s.2) (d, (i : Int)) = some (d, (i2 : Int)) from e1']
    simp only [Option.bind_some]
    unfold nY nR
    rw [show lp (fun s : List Int × Int => fY (a : Nat) (i2 : Nat) s.1 s.2) (d, (j : Int)) = some (d, (j2 : Int)) from f1']
    rfl

theorem FB.rel {a b i j : Nat} {d : List Int} (h : FB a b i j d) (hb : b ≤ d.length) (hij : i ≤ j) : Rel (a + 1) b d (swp d i j) := by
  have := h.hi; have := h.hj
  exact Rel.swp (i := i) (j := j) (by omega) (by omega) (by omega) (by omega)

theorem aGo {a b : Nat} : ∀ (n i j : Nat) (d : List Int), j + 1 - i = n → b ≤ d.length → d.length < 2305843009213693951 → FB a b i j d →
    ∃ (d' : List Int) (j' : Nat), lp (fun s : List Int × Int × Int => dU (a : Nat) s.1 s.2.1 s.2.2) (d, (i : Int), (j : Int)) = some (d', (j' : Int)) ∧ Rel (a + 1) b d d' ∧ FB a b (j' + 1) j' d' := by
  intro n
  induction n using Nat.strongRecOn with
  | ind n ih =>
    intro i j d h1 h2 h3 h
    obtain ⟨i', j', p1, p2, p3, p4, p5, p6, _⟩ := SH h h2 h3
    have q1 := p1.hi; have q2 := p1.hj; have q3 := p1.hij
    by_cases hlt : j' < i'
    · have hs : dU (a : Nat) d (i : Nat) (j : Nat) = some (.inr (d, (j' : Int))) := by
        rw [p6]
        unfold jM
        have : decide ((j' : Int) < (i' : Int)) = true := by simp; omega
        rw [this, cond_true]
      have := p4 hlt
      exact ⟨d, j', dI hs, Rel.refl .., by rw [this]; exact p1⟩
    · obtain ⟨k1, k2, k3⟩ := p5 (by omega)
      have hs : dU (a : Nat) d (i : Nat) (j : Nat) = some (.inl (swp d i' j', ((i' + 1 : Nat) : Int), ((j' - 1 : Nat) : Int))) := by
        rw [p6]
        unfold jM
        have : decide ((j' : Int) < (i' : Int)) = false := by simp; omega
        rw [this, cond_false]
        simp only [Int.toNat_natCast]
        rw [aQ (asN (by omega)), aQ (asN (by omega)), aQ (asN (by omega)), aQ (asN (by omega)), wrN (x := (i' : Int) + 1) (n := i' + 1) (by omega) (by omega), wrN (x := (j' : Int) - 1) (n := j' - 1) (by omega) (by omega)]
        rfl
      obtain ⟨d', j2, e, r, p⟩ := ih (j' - 1 + 1 - (i' + 1)) (by omega) (i' + 1) (j' - 1) (swp d i' j') rfl (by rw [kY]; exact h2) (by rw [kY]; exact h3) (p1.swap h2 k1 k2 k3)
      exact ⟨d', j2, (kL hs).trans e, (p1.rel h2 (by omega)).trans r, p⟩

theorem aAu {a b j : Nat} {d : List Int} (h : FB a b (j + 1) j d) (hb : b ≤ d.length) : Rel a b d (swp d j a) ∧ (∀ k, a ≤ k → k < j → gN (swp d j a) k ≤ gN (swp d j a) j) ∧ (∀ k, j < k → k < b → gN (swp d j a) j ≤ gN (swp d j a) k) := by
  have h1 := h.hi; have h3 := h.hj
  have g := wD (d := d) (i := j) (j := a) (by omega) (by omega)
  have gj : gN (swp d j a) j = gN d a := by
    rw [g]
    by_cases hh : j = a
    · rw [if_pos hh, hh]
    · rw [if_neg hh, if_pos rfl]
  refine ⟨Rel.swp (i := j) (j := a) (by omega) (by omega) (by omega) (by omega), fun k k1 k2 => ?_, fun k k1 k2 => ?_⟩
  · rw [gj, g]
    by_cases hk : k = a
    · rw [if_pos hk]
      have := h.lo j (by omega) (by omega); omega
    · rw [if_neg hk, if_neg (by omega)]
      have := h.lo k (by omega) (by omega); omega
  · rw [gj, g, if_neg (by omega), if_neg (by omega)]
    exact h.up k k1 k2

theorem ZI {lo hi p : Nat} {d : List Int} (h0 : lo < hi) (hb : hi ≤ d.length) (hl : d.length < 2305843009213693951) (hp : lo ≤ p ∧ p < hi) :
    ∃ (m : Nat) (fl : Bool) (d' : List Int), kM d (lo : Int) (hi : Int) (p : Int) = some (((m : Int), fl), d') ∧ lo ≤ m ∧ m < hi ∧ Rel lo hi d d' ∧ (∀ k, lo ≤ k → k < m → gN d' k ≤ gN d' m) ∧ (∀ k, m < k → k < hi → gN d' m ≤ gN d' k) := by
  unfold kM
  rw [aQ (asN (by omega)), aQ (asN (by omega)), aQ (asN (by omega)), aQ (asN (by omega)), wrN (x := (lo : Int) + 1) (n := lo + 1) (by omega) (by omega), wrN (x := (hi : Int) - 1) (n := hi - 1) (by omega) (by omega)]
  simp only [Int.toNat_natCast]
  have r0 : Rel lo hi d (swp d lo p) := Rel.swp (i := lo) (j := p) (by omega) (by omega) (by omega) (by omega)
  have l0 : (swp d lo p).length = d.length := kY ..
  have inv : FB lo hi (lo + 1) (hi - 1) (swp d lo p) := ⟨by omega, by omega, by omega, fun k k1 k2 => by omega, fun k k1 k2 => by omega⟩
  obtain ⟨i', j', p1, p2, p3, p4, p5, _, p6⟩ := SH inv (by rw [l0]; exact hb) (by rw [l0]; exact hl)
  have e0 : iY (List.set (List.set d lo (List.getD d p default)) p (List.getD d lo default)) (lo : Int) ((lo + 1 : Nat) : Int) ((hi - 1 : Nat) : Int) = jQ (swp d lo p) (lo : Nat) (i' : Nat) (j' : Nat) := p6
  rw [e0]
  have q1 := p1.hi; have q2 := p1.hj; have q3 := p1.hij
  generalize hg : swp d lo p = d1 at *
  unfold jQ
  by_cases hlt : j' < i'
  · have : decide ((j' : Int) < (i' : Int)) = true := by simp; omega
    rw [this, cond_true]
    simp only [Int.toNat_natCast]
    rw [aQ (asN (by omega)), aQ (asN (by omega)), aQ (asN (by omega)), aQ (asN (by omega))]
    have hp1 : FB lo hi (j' + 1) j' d1 := by rw [p4 hlt]; exact p1
    obtain ⟨r, a1, a2⟩ := aAu hp1 (by omega)
    exact ⟨j', true, swp d1 j' lo, rfl, by omega, by omega, r0.trans r, a1, a2⟩
  · obtain ⟨k1, k2, k3⟩ := p5 (by omega)
    have : decide ((j' : Int) < (i' : Int)) = false := by simp; omega
    rw [this, cond_false]
    simp only [Int.toNat_natCast]
    rw [aQ (asN (by omega)), aQ (asN (by omega)), aQ (asN (by omega)), aQ (asN (by omega)), wrN (x := (i' : Int) + 1) (n := i' + 1) (by omega) (by omega), wrN (x := (j' : Int) - 1) (n := j' - 1) (by omega) (by omega)]
    obtain ⟨d2, j2, e, r, pp⟩ := aGo (a := lo) (b := hi) (j' - 1 + 1 - (i' + 1)) (i' + 1) (j' - 1) (swp d1 i' j') rfl (by rw [kY]; omega) (by rw [kY]; omega) (p1.swap (by omega) k1 k2 k3)
    have w1 := pp.hi; have w2 := pp.hj
    have l2 : d2.length = d1.length := by rw [r.len, kY]
    unfold nV
    rw [show lp (fun s : List Int × Int × Int => dU (lo : Int) s.1 s.2.1 s.2.2) ((List.set (List.set d1 i' (List.getD d1 j' default)) j' (List.getD d1 i' default)), ((i' + 1 : Nat) : Int), ((j' - 1 : Nat) : Int)) = some (d2, (j2 : Int)) from e]
    simp only [Option.bind_some, nU, Int.toNat_natCast]
    rw [aQ (asN (by omega)), aQ (asN (by omega)), aQ (asN (by omega)), aQ (asN (by omega))]
    obtain ⟨rr, a1, a2⟩ := aAu pp (by omega)
    exact ⟨j2, false, swp d2 j2 lo, rfl, by omega, by omega, ((r0.trans ((p1.rel (by omega) (by omega)).mono (by omega) (Nat.le_refl _))).trans (r.mono (by omega) (Nat.le_refl _))).trans rr, a1, a2⟩

end Go.Abs
namespace Go.Abs
open Go
structure OH (a b i j : Nat) (d : List Int) : Prop where
  hi : a < i
  hij : i ≤ j + 1
  hj : j < b
  lo : ∀ k, a < k → k < i → gN d k ≤ gN d a
  up : ∀ k, j < k → k < b → gN d a < gN d k

theorem OH.swap {a b i j : Nat} {d : List Int} (h : OH a b i j d) (hb : b ≤ d.length) (hij : i < j) (h1 : gN d a < gN d i) (h2 : gN d j ≤ gN d a) : OH a b (i + 1) (j - 1) (swp d i j) := by
  have := h.hi; have := h.hj
  have g := wD (d := d) (i := i) (j := j) (by omega) (by omega)
  have ga : gN (swp d i j) a = gN d a := by rw [g, if_neg (by omega), if_neg (by omega)]
  refine ⟨by omega, by omega, by omega, fun k k1 k2 => ?_, fun k k1 k2 => ?_⟩
  · rw [ga, g, if_neg (by omega)]
    by_cases hk : k = i
    · rw [if_pos hk]; exact h2
    · rw [if_neg hk]; exact h.lo k k1 (by omega)
  · rw [ga, g]
    by_cases hk : k = j
    · rw [if_pos hk]; exact h1
    · rw [if_neg hk, if_neg (by omega)]; exact h.up k (by omega) k2

theorem aBk {a b i j : Nat} {d : List Int} (h : OH a b i j d) (hb : b ≤ d.length) (hl : d.length < 2305843009213693951) : ∃ i' j' : Nat, OH a b i' j' d ∧ i ≤ i' ∧ j' ≤ j ∧ (j' < i' → j' + 1 = i') ∧ (i' ≤ j' → i' < j' ∧ gN d a < gN d i' ∧ gN d j' ≤ gN d a) ∧
    cW (a : Nat) d (i : Nat) (j : Nat) = fV d (a : Nat) (i' : Nat) (j' : Nat) := by
  have h1 := h.hi; have h2 := h.hij; have h3 := h.hj
  obtain ⟨i', e1, a1, a2, a3, a4⟩ := VH (body := fun s => eE (a : Nat) (j : Nat) s.1 s.2) (d := d) (p := fun k => ¬ gN d a < gN d k) (j := j) (aEN (a := a) (j := j) (d := d) (by omega) (by omega) hl) (j + 1 - i) i rfl h2
  obtain ⟨j', f1, c1, c2, c3, c4⟩ := NY (body := fun s => eC (a : Nat) (i' : Nat) s.1 s.2) (d := d) (p := fun k => gN d a < gN d k) (i := i') (m := j) (by omega) (aCx (a := a) (i := i') (m := j) (d := d) (by omega) (by omega) (by omega) hl) j (Nat.le_refl _) a2
  have hend : i' ≤ j' → i' < j' ∧ gN d a < gN d i' ∧ gN d j' ≤ gN d a := fun hh => by
    have k1 : gN d a < gN d i' := Classical.byContradiction fun hn => a4 (by omega) hn
    have k2 : ¬ gN d a < gN d j' := c4 hh
    refine ⟨?_, k1, by omega⟩
    rcases Nat.lt_or_ge i' j' with h | h
    · exact h
    · have : i' = j' := by omega
      rw [this] at k1; exact absurd k1 k2
  refine ⟨i', j', ⟨by omega, by omega, by omega, fun k k1 k2 => ?_, fun k k1 k2 => ?_⟩, a1, c2, fun hh => by omega, hend, ?_⟩
  · by_cases hk : k < i
    · exact h.lo k k1 hk
    · have := a3 k (by omega) k2; omega
  · by_cases hk : j < k
    · exact h.up k hk k2
    · exact c3 k k1 (by omega)
  · unfold cW mG
    rw [show lp (fun s : List Int × Int => eE (a : Nat) (j : Nat) s.1 s.2) (d, (i : Int)) = some (d, (i' : Int)) from e1]
    simp only [Option.bind_some]
    unfold mH mE
    rw [show lp (fun s : List Int × Int => eC (a : Nat) (i' : Nat) s.1 s.2) (d, (j : Int)) = some (d, (j' : Int)) from f1]
    rfl

theorem aE5 {a b : Nat} : ∀ (n i j : Nat) (d : List Int), j + 1 - i = n → b ≤ d.length → d.length < 2305843009213693951 → OH a b i j d →
    ∃ (d' : List Int) (j' : Nat), lp (fun s : List Int × Int × Int => cW (a : Nat) s.1 s.2.1 s.2.2) (d, (i : Int), (j : Int)) = some (d', ((j' + 1 : Nat) : Int)) ∧ Rel (a + 1) b d d' ∧ OH a b (j' + 1) j' d' := by
  intro n
  induction n using Nat.strongRecOn with
  | ind n ih =>
    intro i j d h1 h2 h3 h
    obtain ⟨i', j', p1, p2, p3, p4, p5, p6⟩ := aBk h h2 h3
    have q1 := p1.hi; have q2 := p1.hj; have q3 := p1.hij
    by_cases hlt : j' < i'
    · have hs : cW (a : Nat) d (i : Nat) (j : Nat) = some (.inr (d, (i' : Int))) := by
        rw [p6]
        unfold fV
        have : decide ((j' : Int) < (i' : Int)) = true := by simp; omega
        rw [this, cond_true]
      have := p4 hlt
      exact ⟨d, j', by rw [this]; exact dI hs, Rel.refl .., by rw [this]; exact p1⟩
    · obtain ⟨k1, k2, k3⟩ := p5 (by omega)
      have hs : cW (a : Nat) d (i : Nat) (j : Nat) = some (.inl (swp d i' j', ((i' + 1 : Nat) : Int), ((j' - 1 : Nat) : Int))) := by
        rw [p6]
        unfold fV
        have : decide ((j' : Int) < (i' : Int)) = false := by simp; omega
        rw [this, cond_false]
        simp only [Int.toNat_natCast]
        rw [aQ (asN (by omega)), aQ (asN (by omega)), aQ (asN (by omega)), aQ (asN (by omega)), wrN (x := (i' : Int) + 1) (n := i' + 1) (by omega) (by omega), wrN (x := (j' : Int) - 1) (n := j' - 1) (by omega) (by omega)]
        rfl
      obtain ⟨d', j2, e, r, p⟩ := ih (j' - 1 + 1 - (i' + 1)) (by omega) (i' + 1) (j' - 1) (swp d i' j') rfl (by rw [kY]; exact h2) (by rw [kY]; exact h3) (p1.swap h2 k1 k2 k3)
      exact ⟨d', j2, (kL hs).trans e, (Rel.swp (i := i') (j := j') (by omega) (by omega) (by omega) (by omega)).trans r, p⟩

theorem XF {lo hi p : Nat} {d : List Int} (h0 : lo < hi) (hb : hi ≤ d.length) (hl : d.length < 2305843009213693951) (hp : lo ≤ p ∧ p < hi) :
    ∃ (m : Nat) (d' : List Int), gR d (lo : Int) (hi : Int) (p : Int) = some ((m : Int), d') ∧ lo < m ∧ m ≤ hi ∧ Rel lo hi d d' ∧ (∀ k, lo ≤ k → k < m → gN d' k ≤ gN d p) ∧ (∀ k, m ≤ k → k < hi → gN d p < gN d' k) := by
  unfold gR
  rw [aQ (asN (by omega)), aQ (asN (by omega)), aQ (asN (by omega)), aQ (asN (by omega)), wrN (x := (lo : Int) + 1) (n := lo + 1) (by omega) (by omega), wrN (x := (hi : Int) - 1) (n := hi - 1) (by omega) (by omega)]
  simp only [Int.toNat_natCast]
  have r0 : Rel lo hi d (swp d lo p) := Rel.swp (i := lo) (j := p) (by omega) (by omega) (by omega) (by omega)
  have l0 : (swp d lo p).length = d.length := kY ..
  have g := wD (d := d) (i := lo) (j := p) (by omega) (by omega)
  have g0 : gN (swp d lo p) lo = gN d p := by
    rw [g]
    by_cases hh : lo = p
    · rw [if_pos hh, hh]
    · rw [if_neg hh, if_pos rfl]
  have inv : OH lo hi (lo + 1) (hi - 1) (swp d lo p) := ⟨by omega, by omega, by omega, fun k k1 k2 => by omega, fun k k1 k2 => by omega⟩
  obtain ⟨d', j', e, r, pp⟩ := aE5 (a := lo) (b := hi) (hi - 1 + 1 - (lo + 1)) (lo + 1) (hi - 1) (swp d lo p) rfl (by rw [l0]; exact hb) (by rw [l0]; exact hl) inv
  have w1 := pp.hi; have w2 := pp.hj
  have ga : gN d' lo = gN d p := by rw [r.out lo (by omega), g0]
  unfold mF
  rw [show lp (fun s : List Int × Int × Int => cW (lo : Int) s.1 s.2.1 s.2.2) ((List.set (List.set d lo (List.getD d p default)) p (List.getD d lo default)), ((lo + 1 : Nat) : Int), ((hi - 1 : Nat) : Int)) = some (d', ((j' + 1 : Nat) : Int)) from e]
  refine ⟨j' + 1, d', rfl, by omega, by omega, r0.trans (r.mono (by omega) (Nat.le_refl _)), fun k k1 k2 => ?_, fun k k1 k2 => ?_⟩
  · rw [← ga]
    by_cases hk : k = lo
    · rw [hk]; exact Int.le_refl _
    · exact pp.lo k (by omega) k2
  · rw [← ga]; exact pp.up k (by omega) k2

theorem aBQ {lo i : Nat} {d : List Int} : ∀ (n i' : Nat), i' - i = n → sW lo i d → lo < i → (∀ k, i ≤ k → k < i' → gN d (k - 1) ≤ gN d k) → sW lo i' d
  | 0, i', h, hs, _, _ => fun p q p1 p2 p3 => hs p q p1 p2 (by omega)
  | n + 1, i', h, hs, hl, hk => by
    have ih := aBQ (d := d) n (i' - 1) (by omega) hs hl fun k k1 k2 => hk k k1 (by omega)
    intro p q p1 p2 p3
    by_cases hq : q = i' - 1
    · by_cases hp : p = q
      · rw [hp]; exact Int.le_refl _
      · have h1 := hk q (by omega) (by omega)
        have h2 := ih p (q - 1) p1 (by omega) (by omega)
        omega
    · exact ih p q p1 p2 (by omega)

theorem aEd {lo hi : Nat} {d : List Int} (x : Int) (hb : hi ≤ d.length) (hl : d.length < 2305843009213693951) : ∀ (n i : Nat), hi - i = n → 1 ≤ i → i ≤ hi →
    ∃ i' : Nat, lp (fun s : List Int × Int => cU (lo : Nat) (hi : Nat) x s.1 s.2) (d, (i : Int)) = some (d, (i' : Int)) ∧ i ≤ i' ∧ i' ≤ hi ∧ (∀ k, i ≤ k → k < i' → gN d (k - 1) ≤ gN d k) := by
  intro n
  induction n with
  | zero =>
    intro i h1 h2 h3
    refine ⟨i, dI ?_, Nat.le_refl _, h3, fun k k1 k2 => by omega⟩
    show cU _ _ _ _ _ = _
    have : decide ((i : Int) < (hi : Int)) = false := by simp; omega
    simp only [cU, this]
    rw [aQ (fun h => by cases h), aQ (fun h => by cases h)]
    rfl
  | succ n ih =>
    intro i h1 h2 h3
    have hd : decide ((i : Int) < (hi : Int)) = true := by simp; omega
    have hs : cU (lo : Nat) (hi : Nat) x d (i : Nat) = if gN d i < gN d (i - 1) then some (.inr (d, (i : Int))) else some (.inl (d, ((i + 1 : Nat) : Int))) := by
      unfold cU
      rw [hd, wrN (x := (i : Int) - 1) (n := i - 1) (by omega) (by omega), wrN (x := (i : Int) + 1) (n := i + 1) (by omega) (by omega), aQ fun _ => asN (by omega), aQ fun _ => asN (by omega)]
      simp only [cZ, cond_true, uC, Option.bind_some, Bool.true_and, Int.toNat_natCast, gN]
      by_cases h : d.getD i default < d.getD (i - 1) default <;> simp [h]
    by_cases h : gN d i < gN d (i - 1)
    · rw [if_pos h] at hs
      exact ⟨i, dI hs, Nat.le_refl _, h3, fun k k1 k2 => by omega⟩
    · rw [if_neg h] at hs
      obtain ⟨i', e, a1, a2, a3⟩ := ih (i + 1) (by omega) (by omega) (by omega)
      refine ⟨i', (kL hs).trans e, by omega, a2, fun k k1 k2 => ?_⟩
      by_cases hk : k = i
      · rw [hk]; omega
      · exact a3 k (by omega) k2

theorem PC {lo hi : Nat} {d d' : List Int} (r : Rel lo hi d d') (h : lo = 0 ∨ ∀ k, lo ≤ k → k < hi → gN d (lo - 1) ≤ gN d k) : lo = 0 ∨ ∀ k, lo ≤ k → k < hi → gN d' (lo - 1) ≤ gN d' k := by
  by_cases h0 : lo = 0
  · exact .inl h0
  · rcases h with h | h
    · exact .inl h
    · exact .inr fun k k1 k2 => by
        rw [r.out (lo - 1) (by omega)]
        exact r.all (p := fun v => gN d (lo - 1) ≤ v) h k k1 k2

theorem aE7 {lo hi i : Nat} (x y : Int) : ∀ (j : Nat) (d : List Int), lo ≤ j → j ≤ i → i < d.length → d.length < 2305843009213693951 → MW lo j i d → (lo = 0 ∨ ∀ k, lo ≤ k → k ≤ i → gN d (lo - 1) ≤ gN d k) →
    ∃ d', lp (fun s : List Int × Int => cN (lo : Nat) (hi : Nat) x y s.1 s.2) (d, (j : Int)) = some d' ∧ Rel lo (i + 1) d d' ∧ sW lo (i + 1) d' := by
  intro j
  induction j with
  | zero =>
    intro d h1 h2 h3 h4 h5 h6
    refine ⟨d, dI ?_, Rel.refl .., h5.done h1 (by omega)⟩
    show cN _ _ _ _ _ _ = _
    have : decide ((1 : Int) ≤ ((0 : Nat) : Int)) = false := by simp
    simp only [cN, this, cond_false]
  | succ j ih =>
    intro d h1 h2 h3 h4 h5 h6
    have hd : decide ((1 : Int) ≤ ((j + 1 : Nat) : Int)) = true := by simp; omega
    have hs : cN (lo : Nat) (hi : Nat) x y d ((j + 1 : Nat) : Int) = if gN d (j + 1) < gN d j then some (.inl (swp d (j + 1) j, (j : Int))) else some (.inr d) := by
      unfold cN
      rw [hd, cond_true, wrN (x := ((j + 1 : Nat) : Int) - 1) (n := j) (by omega) (by omega), aQ (asN (by omega)), aQ (asN (by omega))]
      simp only [uC, Option.bind_some, Int.toNat_natCast, gN]
      by_cases h : d.getD (j + 1) default < d.getD j default
      · simp only [h, decide_true, Bool.not_true, cond_false, if_true]
        rw [aQ (asN (by omega)), aQ (asN (by omega)), aQ (asN (by omega)), aQ (asN (by omega))]
        rfl
      · simp only [h, decide_false, Bool.not_false, cond_true, if_false]
    by_cases h : gN d (j + 1) < gN d j
    · rw [if_pos h] at hs
      have hlo : lo < j + 1 := by
        rcases h6 with h6 | h6
        · omega
        · rcases Nat.lt_or_ge lo (j + 1) with hh | hh
          · exact hh
          · have : lo = j + 1 := by omega
            have h7 := h6 (j + 1) (by omega) h2
            rw [this] at h7
            simp only [Nat.add_sub_cancel] at h7
            omega
      have r1 : Rel lo (i + 1) d (swp d (j + 1) j) := Rel.swp (i := j + 1) (j := j) (by omega) (by omega) (by omega) (by omega)
      obtain ⟨d', e, r, s⟩ := ih (swp d (j + 1) j) (by omega) (by omega) (by rw [kY]; exact h3) (by rw [kY]; exact h4) (h5.next hlo h2 h3 h) ((PC r1 (h6.imp id fun h k a b => h k a (by omega))).imp id fun h k a b => h k a (by omega))
      exact ⟨d', (kL hs).trans e, r1.trans r, s⟩
    · rw [if_neg h] at hs
      exact ⟨d, dI hs, Rel.refl .., h5.done h1 fun hh => h hh.2⟩

theorem aG0 {lo hi i : Nat} (x y : Int) : ∀ (n j : Nat) (d : List Int), hi - j = n → i < j → hi ≤ d.length → d.length < 2305843009213693951 →
    ∃ d', lp (fun s : List Int × Int => cV (lo : Nat) (hi : Nat) x y s.1 s.2) (d, (j : Int)) = some d' ∧ Rel i hi d d' := by
  intro n
  induction n with
  | zero =>
    intro j d h1 h2 h3 h4
    refine ⟨d, dI ?_, Rel.refl ..⟩
    show cV _ _ _ _ _ _ = _
    have : decide ((j : Int) < (hi : Int)) = false := by simp; omega
    simp only [cV, this, cond_false]
  | succ n ih =>
    intro j d h1 h2 h3 h4
    have hd : decide ((j : Int) < (hi : Int)) = true := by simp; omega
    have hs : cV (lo : Nat) (hi : Nat) x y d (j : Nat) = if gN d j < gN d (j - 1) then some (.inl (swp d j (j - 1), ((j + 1 : Nat) : Int))) else some (.inr d) := by
      unfold cV
      rw [hd, cond_true, wrN (x := (j : Int) - 1) (n := j - 1) (by omega) (by omega), wrN (x := (j : Int) + 1) (n := j + 1) (by omega) (by omega), aQ (asN (by omega)), aQ (asN (by omega))]
      simp only [uC, Option.bind_some, Int.toNat_natCast, gN]
      by_cases h : d.getD j default < d.getD (j - 1) default
      · simp only [h, decide_true, Bool.not_true, cond_false, if_true]
        rw [aQ (asN (by omega)), aQ (asN (by omega)), aQ (asN (by omega)), aQ (asN (by omega))]
        rfl
      · simp only [h, decide_false, Bool.not_false, cond_true, if_false]
    by_cases h : gN d j < gN d (j - 1)
    · rw [if_pos h] at hs
      obtain ⟨d', e, r⟩ := ih (j + 1) (swp d j (j - 1)) (by omega) (by omega) (by rw [kY]; exact h3) (by rw [kY]; exact h4)
      exact ⟨d', (kL hs).trans e, (Rel.swp (i := j) (j := j - 1) (by omega) (by omega) (by omega) (by omega)).trans r⟩
    · rw [if_neg h] at hs
      exact ⟨d, dI hs, Rel.refl ..⟩

theorem aDm {lo hi i : Nat} (x : Int) {d : List Int} (h1 : lo < i) (h2 : i < hi) (h3 : hi ≤ d.length) (h4 : d.length < 2305843009213693951) :
    ∃ d', dD d (lo : Nat) (hi : Nat) (i : Nat) x = some (.inl (d', (i : Int), IntKind.i64.wrap (x + 1))) ∧ Rel i hi d d' := by
  unfold dD
  rw [wrN (x := (hi : Int) - (i : Int)) (n := hi - i) (by omega) (by omega)]
  by_cases h : (2 : Int) ≤ ((hi - i : Nat) : Int)
  · simp only [h, decide_true, cond_true]
    unfold jY
    rw [wrN (x := (i : Int) + 1) (n := i + 1) (by omega) (by omega)]
    obtain ⟨d', e, r⟩ := aG0 (lo := lo) (hi := hi) (i := i) (i : Int) x (hi - (i + 1)) (i + 1) d rfl (by omega) h3 h4
    rw [e]
    exact ⟨d', rfl, r⟩
  · simp only [h, decide_false, cond_false]
    exact ⟨d, rfl, Rel.refl ..⟩

theorem aEQ {lo hi i : Nat} (x : Int) {d : List Int} (h1 : lo < i) (h2 : i ≤ hi) (h3 : hi ≤ d.length) (h4 : d.length < 2305843009213693951) (hs : sW lo i d) (hb : lo = 0 ∨ ∀ k, lo ≤ k → k < hi → gN d (lo - 1) ≤ gN d k) :
    (∃ (fl : Bool) (d' : List Int), dF d (lo : Nat) (hi : Nat) (i : Nat) x = some (.inr (.inr (fl, d'))) ∧ Rel lo hi d d' ∧ (fl = true → sW lo hi d')) ∨
    (∃ (d' : List Int) (i' : Nat), dF d (lo : Nat) (hi : Nat) (i : Nat) x = some (.inl (d', (i' : Int), IntKind.i64.wrap (x + 1))) ∧ Rel lo hi d d' ∧ lo < i' ∧ i' ≤ hi ∧ sW lo i' d') := by
  unfold dF
  obtain ⟨i', e, a1, a2, a3⟩ := aEd (lo := lo) (hi := hi) x h3 h4 (hi - i) i rfl (by omega) h2
  rw [e]
  simp only [Option.bind_some]
  have hs' := aBQ (i' - i) i' rfl hs h1 a3
  unfold jV
  by_cases hi' : i' = hi
  · have : decide ((i' : Int) = (hi : Int)) = true := by simp; omega
    rw [this, cond_true]
    left
    exact ⟨true, d, rfl, Rel.refl .., fun _ => hi' ▸ hs'⟩
  · have hne : decide ((i' : Int) = (hi : Int)) = false := by simp; omega
    rw [hne, cond_false, wrN (x := (hi : Int) - (lo : Int)) (n := hi - lo) (by omega) (by omega)]
    by_cases h50 : ((hi - lo : Nat) : Int) < 50
    · simp only [h50, decide_true, cond_true]
      left
      exact ⟨false, d, rfl, Rel.refl .., fun h => by cases h⟩
    · simp only [h50, decide_false, cond_false]
      rw [wrN (x := (i' : Int) - 1) (n := i' - 1) (by omega) (by omega), wrN (x := (i' : Int) - (lo : Int)) (n := i' - lo) (by omega) (by omega)]
      simp only [Int.toNat_natCast]
      rw [aQ (asN (by omega)), aQ (asN (by omega)), aQ (asN (by omega)), aQ (asN (by omega))]
      have r1 : Rel lo hi d (swp d i' (i' - 1)) := Rel.swp (i := i') (j := i' - 1) (by omega) (by omega) (by omega) (by omega)
      have l1 : (swp d i' (i' - 1)).length = d.length := kY ..
      have g := wD (d := d) (i := i') (j := i' - 1) (by omega) (by omega)
      right
      by_cases hge : (2 : Int) ≤ ((i' - lo : Nat) : Int)
      · simp only [hge, decide_true, cond_true]
        unfold kA
        have ins : MW lo (i' - 1) (i' - 1) (swp d i' (i' - 1)) := ⟨fun p q p1 p2 p3 p4 p5 => by
          rw [g, g, if_neg p4, if_neg p5, if_neg (by omega), if_neg (by omega)]
          exact hs' p q p1 p2 (by omega), fun q q1 q2 => by omega⟩
        obtain ⟨d2, e2, r2, s2⟩ := aE7 (lo := lo) (hi := hi) (i := i' - 1) (i' : Int) x (i' - 1) (swp d i' (i' - 1)) (by omega) (Nat.le_refl _) (by rw [l1]; omega) (by rw [l1]; exact h4) ins ((PC r1 hb).imp id fun h k a b => h k a (by omega))
        have e2' : lp (fun s : List Int × Int => cN (lo : Int) (hi : Int) (i' : Int) x s.1 s.2) ((List.set (List.set d i' (List.getD d (i' - 1) default)) (i' - 1) (List.getD d i' default)), ((i' - 1 : Nat) : Int)) = some d2 := e2
        rw [e2']
        simp only [Option.bind_some]
        rw [show i' - 1 + 1 = i' by omega] at r2 s2
        have l2 : d2.length = d.length := by rw [r2.len, l1]
        obtain ⟨d3, e3, r3⟩ := aDm (lo := lo) (hi := hi) (i := i') x (d := d2) (by omega) (by omega) (by omega) (by omega)
        rw [e3]
        refine ⟨d3, i', rfl, (r1.trans (r2.mono (Nat.le_refl _) (by omega))).trans (r3.mono (by omega) (Nat.le_refl _)), by omega, a2, fun p q p1 p2 p3 => ?_⟩
        rw [r3.out p (by omega), r3.out q (by omega)]
        exact s2 p q p1 p2 p3
      · simp only [hge, decide_false, cond_false]
        obtain ⟨d3, e3, r3⟩ := aDm (lo := lo) (hi := hi) (i := i') x (d := swp d i' (i' - 1)) (by omega) (by omega) (by omega) (by omega)
        have e3' : dD (List.set (List.set d i' (List.getD d (i' - 1) default)) (i' - 1) (List.getD d i' default)) (lo : Int) (hi : Int) (i' : Int) x = _ := e3
        rw [e3']
        refine ⟨d3, i', rfl, r1.trans (r3.mono (by omega) (Nat.le_refl _)), by omega, a2, ?_⟩
        have : i' = lo + 1 := by omega
        rw [this]; exact QS lo d3

theorem aG3 {lo hi : Nat} : ∀ (n x i : Nat) (d : List Int), 5 - x = n → lo < i → i ≤ hi → hi ≤ d.length → d.length < 2305843009213693951 → sW lo i d → (lo = 0 ∨ ∀ k, lo ≤ k → k < hi → gN d (lo - 1) ≤ gN d k) → x ≤ 5 →
    ∃ (fl : Bool) (d' : List Int), (lp (fun s : List Int × Int × Int => bZ (lo : Nat) (hi : Nat) s.1 s.2.1 s.2.2) (d, (i : Int), (x : Int))).bind (Sum.elim (fun rr => jW rr) (fun rr => some (rr.1, rr.2))) = some (fl, d') ∧ Rel lo hi d d' ∧ (fl = true → sW lo hi d') := by
  intro n
  induction n with
  | zero =>
    intro x i d h1 h2 h3 h4 h5 h6 h7 h8
    have hs : bZ (lo : Nat) (hi : Nat) d (i : Nat) (x : Nat) = some (.inr (.inl d)) := by
      have : decide ((x : Int) < 5) = false := by simp; omega
      simp only [bZ, this, cond_false]
    rw [dI (show (fun s : List Int × Int × Int => bZ (lo : Nat) (hi : Nat) s.1 s.2.1 s.2.2) (d, (i : Int), (x : Int)) = _ from hs)]
    exact ⟨false, d, rfl, Rel.refl .., fun h => by cases h⟩
  | succ n ih =>
    intro x i d h1 h2 h3 h4 h5 h6 h7 h8
    have hl2 : bZ (lo : Nat) (hi : Nat) d (i : Nat) (x : Nat) = dF d (lo : Nat) (hi : Nat) (i : Nat) (x : Nat) := by
      have : decide ((x : Int) < 5) = true := by simp; omega
      simp only [bZ, this, cond_true]
    rcases aEQ (lo := lo) (hi := hi) (x : Int) h2 h3 h4 h5 h6 h7 with ⟨fl, d', e, r, s⟩ | ⟨d', i', e, r, k1, k2, s⟩
    · rw [dI (show (fun s : List Int × Int × Int => bZ (lo : Nat) (hi : Nat) s.1 s.2.1 s.2.2) (d, (i : Int), (x : Int)) = _ from hl2.trans e)]
      exact ⟨fl, d', rfl, r, s⟩
    · rw [wrN (x := (x : Int) + 1) (n := x + 1) (by omega) (by omega)] at e
      obtain ⟨fl, d2, e2, r2, s2⟩ := ih (x + 1) i' d' (by omega) k1 k2 (by rw [r.len]; exact h4) (by rw [r.len]; exact h5) s (PC r h7) (by omega)
      rw [kL (show (fun s : List Int × Int × Int => bZ (lo : Nat) (hi : Nat) s.1 s.2.1 s.2.2) (d, (i : Int), (x : Int)) = _ from hl2.trans e)]
      exact ⟨fl, d2, e2, r.trans r2, s2⟩

theorem aEo {lo hi : Nat} {d : List Int} (h0 : lo < hi) (h1 : hi ≤ d.length) (h2 : d.length < 2305843009213693951) (hb : lo = 0 ∨ ∀ k, lo ≤ k → k < hi → gN d (lo - 1) ≤ gN d k) :
    ∃ (fl : Bool) (d' : List Int), gJ d (lo : Int) (hi : Int) = some (fl, d') ∧ Rel lo hi d d' ∧ (fl = true → sW lo hi d') := by
  unfold gJ jX
  rw [wrN (x := (lo : Int) + 1) (n := lo + 1) (by omega) (by omega)]
  exact aG3 (lo := lo) (hi := hi) (5 - 0) 0 (lo + 1) d rfl (by omega) (by omega) h1 h2 (QS lo d) hb (by omega)

end Go.Abs
namespace Go.Abs
open Go
abbrev PS := List Int × Int × Int × Int × Bool × Bool

abbrev PR := List Int → Int → Int → Int → Option (List Int)

def JP (a b : Nat) (d d' : List Int) : Prop := Rel a b d d' ∧ sW a b d'

structure CZ (a b lim : Nat) (d : List Int) : Prop where
  ab : a ≤ b
  bl : b ≤ d.length
  len : d.length < 2305843009213693951
  bnd : a = 0 ∨ ∀ k, a ≤ k → k < b → gN d (a - 1) ≤ gN d k
  lim : lim ≤ 100

def PG (rec : PR) (N : Nat) : Prop := ∀ (d : List Int) (a b lim : Nat), CZ a b lim d → (rec d (a : Int) (b : Int) (lim : Int) = none ∧ N ≤ b - a) ∨ ∃ d', rec d (a : Int) (b : Int) (lim : Int) = some d' ∧ JP a b d d'

def LR (N a b : Nat) (d : List Int) (F : Option (PS ⊕ List Int)) : Prop :=
  (F = none ∧ N + 1 ≤ b - a) ∨ (∃ d', F = some (.inr d') ∧ JP a b d d') ∨
  ∃ (d' : List Int) (a' b' lim' : Nat) (wb wp : Bool), F = some (.inl (d', (a' : Int), (b' : Int), (lim' : Int), wb, wp)) ∧ b' - a' < b - a ∧ CZ a' b' lim' d' ∧ ∀ d'', JP a' b' d' d'' → JP a b d d''

theorem JP.pre {a b : Nat} {d d1 d' : List Int} (r : Rel a b d d1) (h : JP a b d1 d') : JP a b d d' := ⟨r.trans h.1, h.2⟩

theorem LR.pre {N a b : Nat} {d d1 : List Int} {F : Option (PS ⊕ List Int)} (r : Rel a b d d1) (h : LR N a b d1 F) : LR N a b d F := by
  rcases h with h | ⟨d', h1, h2⟩ | ⟨d', a', b', lim', wb, wp, h1, h2, h3, h4⟩
  · exact .inl h
  · exact .inr (.inl ⟨d', h1, h2.pre r⟩)
  · exact .inr (.inr ⟨d', a', b', lim', wb, wp, h1, h2, h3, fun d'' hg => (h4 d'' hg).pre r⟩)

theorem CZ.rel {a b lim : Nat} {d d1 : List Int} (h : CZ a b lim d) (r : Rel a b d d1) : CZ a b lim d1 :=
  ⟨h.ab, by rw [r.len]; exact h.bl, by rw [r.len]; exact h.len, PC r h.bnd, h.lim⟩

theorem aAp {a m b : Nat} {d : List Int} (hm : m < b) (h1 : ∀ k, a ≤ k → k < m → gN d k ≤ gN d m) (h2 : ∀ k, m < k → k < b → gN d m ≤ gN d k) (s1 : sW a m d) (s2 : sW (m + 1) b d) : sW a b d := by
  intro p q p1 p2 p3
  by_cases hq : q < m
  · exact s1 p q p1 p2 hq
  · by_cases hp : m < p
    · exact s2 p q hp p2 p3
    · have g1 : gN d p ≤ gN d m := by
        by_cases e : p = m
        · rw [e]; exact Int.le_refl _
        · exact h1 p p1 (by omega)
      have g2 : gN d m ≤ gN d q := by
        by_cases e : q = m
        · rw [e]; exact Int.le_refl _
        · exact h2 q (by omega) p3
      omega

theorem aC6 {rec : PR} {N a b lim p : Nat} {d : List Int} (hrec : PG rec N) (hv : CZ a b lim d) (h12 : 12 < b - a) (hp : a ≤ p ∧ p < b) (wb wp : Bool) (len : Int) :
    LR N a b d (kX rec d (a : Int) (b : Int) (lim : Int) wb wp len (p : Int)) := by
  have hb := hv.bl; have hl := hv.len
  -- with all equal ones on the left
  have eqc : 0 < a → ¬ gN d (a - 1) < gN d p → LR N a b d ((gR d (a : Int) (b : Int) (p : Int)).bind fun x20 => some (.inl (x20.2, x20.1, (b : Int), (lim : Int), wb, wp))) := by
    intro ha hn
    obtain ⟨m, d', e, m1, m2, r, q1, q2⟩ := XF (lo := a) (hi := b) (p := p) (d := d) (by omega) hb hl hp
    have hall : ∀ k, a ≤ k → k < b → gN d p ≤ gN d' k := by
      refine r.all (p := fun v => gN d p ≤ v) fun k k1 k2 => ?_
      rcases hv.bnd with h | h
      · omega
      · have := h k k1 k2; omega
    rw [e]
    refine .inr (.inr ⟨d', m, b, lim, wb, wp, rfl, by omega, ⟨m2, by rw [r.len]; exact hb, by rw [r.len]; exact hl, .inr fun k k1 k2 => ?_, hv.lim⟩, fun d'' hg => ⟨r.trans (hg.1.mono (by omega) (Nat.le_refl _)), fun x y x1 x2 x3 => ?_⟩⟩)
    · have := q1 (m - 1) (by omega) (by omega); have := q2 k k1 k2; omega
    · by_cases hx : m ≤ x
      · exact hg.2 x y hx x2 x3
      · rw [hg.1.out x (by omega)]
        have g1 := q1 x x1 (by omega)
        by_cases hy : y < m
        · rw [hg.1.out y (by omega)]
          have g2 := hall y (by omega) (by omega); omega
        · have g2 := hg.1.all (p := fun v => gN d p < v) q2 y (by omega) x3
          omega
  -- a partition, and the lesser part first
  have ptc : LR N a b d ((kM d (a : Int) (b : Int) (p : Int)).bind fun x23 =>
      aT ((8 : Int) ≠ 0) <|
      cond (decide ((IntKind.i64.wrap (x23.1.1 - (a : Int))) < (IntKind.i64.wrap ((b : Int) - x23.1.1))))
      ((rec x23.2 (a : Int) x23.1.1 (lim : Int)).bind fun x28 =>
      some (.inl (x28, IntKind.i64.wrap (x23.1.1 + (1 : Int)), (b : Int), (lim : Int), decide ((IntKind.i64.wrap (Int.tdiv len (8 : Int))) ≤ (IntKind.i64.wrap (x23.1.1 - (a : Int)))), x23.1.2)))
      ((rec x23.2 (IntKind.i64.wrap (x23.1.1 + (1 : Int))) (b : Int) (lim : Int)).bind fun x31 =>
      some (.inl (x31, (a : Int), x23.1.1, (lim : Int), decide ((IntKind.i64.wrap (Int.tdiv len (8 : Int))) ≤ (IntKind.i64.wrap ((b : Int) - x23.1.1))), x23.1.2)))) := by
    obtain ⟨m, fl, d1, e, m1, m2, r, q1, q2⟩ := ZI (lo := a) (hi := b) (p := p) (d := d) (by omega) hb hl hp
    have hv1 := hv.rel r
    rw [e]
    simp only [Option.bind_some]
    rw [aQ (by decide), wrN (x := (m : Int) + 1) (n := m + 1) (by omega) (by omega)]
    have vL : CZ a m lim d1 := ⟨m1, by have := hv1.bl; omega, hv1.len, hv1.bnd.imp id fun h k k1 k2 => h k k1 (by omega), hv.lim⟩
    have vR : CZ (m + 1) b lim d1 := ⟨by omega, hv1.bl, hv1.len, .inr fun k k1 k2 => by simpa using q2 k (by omega) k2, hv.lim⟩
    cases decide ((IntKind.i64.wrap ((m : Int) - (a : Int))) < (IntKind.i64.wrap ((b : Int) - (m : Int)))) with
    | true =>
      rw [cond_true]
      rcases hrec d1 a m lim vL with ⟨hn, hN⟩ | ⟨d2, e2, g2⟩
      · rw [hn]; exact .inl ⟨rfl, by omega⟩
      · rw [e2]
        simp only [Option.bind_some]
        have top : gN d2 m = gN d1 m := g2.1.out m (by omega)
        refine .inr (.inr ⟨d2, m + 1, b, lim, _, _, rfl, by omega, ⟨by omega, by rw [g2.1.len]; exact hv1.bl, by rw [g2.1.len]; exact hv1.len, .inr fun k k1 k2 => ?_, hv.lim⟩, fun d3 hg => ⟨(r.trans (g2.1.mono (Nat.le_refl _) (by omega))).trans (hg.1.mono (by omega) (Nat.le_refl _)), ?_⟩⟩)
        · rw [show m + 1 - 1 = m by omega, top, g2.1.out k (by omega)]; exact q2 k (by omega) k2
        · have o3 : ∀ k, k ≤ m → gN d3 k = gN d2 k := fun k hk => hg.1.out k (by omega)
          refine aAp m2 (fun k k1 k2 => ?_) (fun k k1 k2 => ?_) (fun x y x1 x2 x3 => by rw [o3 x (by omega), o3 y (by omega)]; exact g2.2 x y x1 x2 x3) hg.2
          · rw [o3 k (by omega), o3 m (by omega), top]
            exact g2.1.all (p := fun v => v ≤ gN d1 m) q1 k k1 k2
          · rw [o3 m (by omega), top]
            exact hg.1.all (p := fun v => gN d1 m ≤ v) (fun k k1 k2 => by rw [g2.1.out k (by omega)]; exact q2 k (by omega) k2) k (by omega) k2
    | false =>
      rw [cond_false]
      rcases hrec d1 (m + 1) b lim vR with ⟨hn, hN⟩ | ⟨d2, e2, g2⟩
      · rw [hn]; exact .inl ⟨rfl, by omega⟩
      · rw [e2]
        simp only [Option.bind_some]
        have low : ∀ k, k ≤ m → gN d2 k = gN d1 k := fun k hk => g2.1.out k (by omega)
        refine .inr (.inr ⟨d2, a, m, lim, _, _, rfl, by omega, ⟨m1, by rw [g2.1.len]; have := hv1.bl; omega, by rw [g2.1.len]; exact hv1.len, ?_, hv.lim⟩, fun d3 hg => ⟨(r.trans (g2.1.mono (by omega) (Nat.le_refl _))).trans (hg.1.mono (Nat.le_refl _) (by omega)), ?_⟩⟩)
        · rcases hv1.bnd with h | h
          · exact .inl h
          · exact .inr fun k k1 k2 => by rw [low (a - 1) (by omega), low k (by omega)]; exact h k k1 (by omega)
        · have o3 : ∀ k, m ≤ k → gN d3 k = gN d2 k := fun k hk => hg.1.out k (by omega)
          refine aAp m2 (fun k k1 k2 => ?_) (fun k k1 k2 => ?_) hg.2 (fun x y x1 x2 x3 => by rw [o3 x (by omega), o3 y (by omega)]; exact g2.2 x y x1 x2 x3)
          · rw [o3 m (Nat.le_refl _), low m (Nat.le_refl _)]
            exact hg.1.all (p := fun v => v ≤ gN d1 m) (fun k k1 k2 => by rw [low k (by omega)]; exact q1 k k1 k2) k k1 k2
          · rw [o3 m (Nat.le_refl _), low m (Nat.le_refl _), o3 k (by omega)]
            exact g2.1.all (p := fun v => gN d1 m ≤ v) (fun k k1 k2 => q2 k (by omega) k2) k (by omega) k2
  unfold kX
  by_cases ha : 0 < a
  · have hd : decide ((0 : Int) < (a : Int)) = true := by simp; omega
    rw [hd, wrN (x := (a : Int) - 1) (n := a - 1) (by omega) (by omega), aQ fun _ => asN (by omega), aQ fun _ => asN (by omega)]
    simp only [cZ, cond_true, uC, Option.bind_some, Bool.true_and, Int.toNat_natCast]
    by_cases hlt : gN d (a - 1) < gN d p
    · simp only [gN] at hlt
      simp only [hlt, decide_true, Bool.not_true, cond_false]
      exact ptc
    · have := eqc ha hlt
      simp only [gN] at hlt
      simp only [hlt, decide_false, Bool.not_false, cond_true]
      exact this
  · have hd : decide ((0 : Int) < (a : Int)) = false := by simp; omega
    rw [hd, aQ (fun h => by cases h), aQ (fun h => by cases h)]
    simp only [cZ, cond_false, Option.bind_some, Bool.false_and]
    exact ptc

theorem aCS {rec : PR} {N a b lim p : Nat} {d : List Int} (hrec : PG rec N) (hv : CZ a b lim d) (h12 : 12 < b - a) (hp : a ≤ p ∧ p < b) (wb wp : Bool) (len hint : Int) :
    LR N a b d (kV rec d (a : Int) (b : Int) (lim : Int) wb wp len (p : Int) hint) := by
  unfold kV
  cases ((wb && wp) && (decide (hint = (1 : Int)))) with
  | false => exact aC6 hrec hv h12 hp wb wp len
  | true =>
    rw [cond_true]
    obtain ⟨fl, d', e, r, s⟩ := aEo (lo := a) (hi := b) (d := d) (by omega) hv.bl hv.len hv.bnd
    rw [e]
    simp only [Option.bind_some]
    cases fl with
    | true => exact .inr (.inl ⟨d', rfl, r, s rfl⟩)
    | false => exact (aC6 hrec (hv.rel r) h12 hp wb wp len).pre r

theorem aCW {rec : PR} {N a b lim : Nat} {d : List Int} (hrec : PG rec N) (hv : CZ a b lim d) (h12 : 12 < b - a) (wb wp : Bool) (len : Int) :
    LR N a b d (kW rec d (a : Int) (b : Int) (lim : Int) wb wp len) := by
  have hb := hv.bl; have hl := hv.len
  unfold kW
  obtain ⟨p, h, e, p1, p2⟩ := aB5 (lo := a) (hi := b) (d := d) h12 hb hl
  rw [e]
  simp only [Option.bind_some]
  by_cases h2 : h = 2
  · simp only [h2, decide_true, cond_true]
    obtain ⟨d', e2, r⟩ := aDR (lo := a) (hi := b) (d := d) (by omega) hb (by omega)
    rw [e2]
    simp only [Option.bind_some]
    rw [wrN (x := (b : Int) - 1) (n := b - 1) (by omega) (by omega), wrN (x := (p : Int) - (a : Int)) (n := p - a) (by omega) (by omega), wrN (x := ((b - 1 : Nat) : Int) - ((p - a : Nat) : Int)) (n := b - 1 - (p - a)) (by omega) (by omega)]
    exact (aCS hrec (hv.rel r) h12 ⟨by omega, by omega⟩ wb wp len 1).pre r
  · simp only [h2, decide_false, cond_false]
    exact aCS hrec hv h12 ⟨p1, p2⟩ wb wp len h

theorem aGU {rec : PR} {N a b lim : Nat} {d : List Int} (hrec : PG rec N) (hv : CZ a b lim d) (wb wp : Bool) :
    LR N a b d (fM rec d (a : Int) (b : Int) (lim : Int) wb wp) := by
  have hb := hv.bl; have hl := hv.len; have hab := hv.ab
  unfold fM
  rw [wrN (x := (b : Int) - (a : Int)) (n := b - a) (by omega) (by omega)]
  by_cases h12 : ((b - a : Nat) : Int) ≤ 12
  · simp only [h12, decide_true, cond_true]
    obtain ⟨d', e, r, s⟩ := aEz (lo := a) (hi := b) (d := d) hb (by omega) hab
    rw [e]
    exact .inr (.inl ⟨d', rfl, r, s⟩)
  · simp only [h12, decide_false, cond_false]
    by_cases h0 : lim = 0
    · have : decide ((lim : Int) = 0) = true := by simp; exact h0
      rw [this, cond_true]
      obtain ⟨d', e, r, s⟩ := aC5 (lo := a) (hi := b) (d := d) (by omega) hb hl
      rw [e]
      exact .inr (.inl ⟨d', rfl, r, s⟩)
    · have : decide ((lim : Int) = 0) = false := by simp; exact h0
      rw [this, cond_false]
      cases wb with
      | true => exact aCW hrec hv (by omega) true wp _
      | false =>
        simp only [Bool.not_false, cond_true]
        obtain ⟨d', e, r⟩ := aDw (lo := a) (hi := b) (d := d) (by omega) hb hl
        rw [e]
        simp only [Option.bind_some]
        have hlim := hv.lim
        rw [wrN (x := (lim : Int) - 1) (n := lim - 1) (by omega) (by omega)]
        have hv' := hv.rel r
        exact (aCW hrec ⟨hv'.ab, hv'.bl, hv'.len, hv'.bnd, by omega⟩ (by omega) false wp _).pre r

theorem aFD {S R : Type} {body : S → Option (S ⊕ R)} {s : S} (h : body s = none) : lp body s = none := by
  cases e : lp body s with
  | none => rfl
  | some r =>
    obtain ⟨k, hk⟩ := BQ.1 e
    cases k with
    | zero => simp [iter] at hk
    | succ k => simp [iter, h] at hk

theorem aGY {rec : PR} {N : Nat} (hrec : PG rec N) : ∀ (n a b lim : Nat) (d : List Int) (wb wp : Bool), b - a = n → CZ a b lim d →
    (lp (fun s : PS => fM rec s.1 s.2.1 s.2.2.1 s.2.2.2.1 s.2.2.2.2.1 s.2.2.2.2.2) (d, (a : Int), (b : Int), (lim : Int), wb, wp) = none ∧ N + 1 ≤ b - a) ∨
    ∃ d', lp (fun s : PS => fM rec s.1 s.2.1 s.2.2.1 s.2.2.2.1 s.2.2.2.2.1 s.2.2.2.2.2) (d, (a : Int), (b : Int), (lim : Int), wb, wp) = some d' ∧ JP a b d d' := by
  intro n
  induction n using Nat.strongRecOn with
  | ind n ih =>
    intro a b lim d wb wp hn hv
    rcases aGU hrec hv wb wp with ⟨h1, h2⟩ | ⟨d', h1, h2⟩ | ⟨d', a', b', lim', wb', wp', h1, h2, h3, h4⟩
    · exact .inl ⟨aFD h1, h2⟩
    · exact .inr ⟨d', dI h1, h2⟩
    · rw [kL (show (fun s : PS => fM rec s.1 s.2.1 s.2.2.1 s.2.2.2.1 s.2.2.2.2.1 s.2.2.2.2.2) (d, (a : Int), (b : Int), (lim : Int), wb, wp) = _ from h1)]
      rcases ih (b' - a') (by omega) a' b' lim' d' wb' wp' rfl h3 with ⟨g1, g2⟩ | ⟨d2, g1, g2⟩
      · exact .inl ⟨g1, by omega⟩
      · exact .inr ⟨d2, g1, h4 d2 g2⟩

theorem aC0 : ∀ k : Nat, PG (mP k) k
  | 0 => fun _ _ _ _ _ => .inl ⟨rfl, Nat.zero_le _⟩
  | k + 1 => fun d a b lim hv => by
    show (jN (mP k) d a b lim = none ∧ _) ∨ ∃ d', jN (mP k) d a b lim = some d' ∧ _
    unfold jN pE
    rcases aGY (aC0 k) (b - a) a b lim d true true rfl hv with ⟨h1, h2⟩ | ⟨d', h1, h2⟩
    · rw [h1]; exact .inl ⟨rfl, h2⟩
    · rw [h1]; exact .inr ⟨d', rfl, h2⟩

end Go.Abs
namespace Go.Abs
open Go
section
variable {k : aC → Int} {U : aC → Prop} {cmp : aC → aC → Option Int}
theorem mB (hs : cR k U cmp) {x y : aC} (hx : U x ∨ x = default) (hy : U y ∨ y = default) : OR rC (cmp x y) (dY (k x) (k y)) := by
  obtain ⟨n, e, h⟩ := hs.c x y hx hy
  rw [e, uC]
  exact decide_eq_decide.2 h

theorem EX (hs : cR k U cmp) (aA : List aC) (hU : ∀ x ∈ aA, U x) (a1 : Int) (b2 : Int) (i8 : Int) : OR (rS (rP (rL k U) Eq) (rL k U)) (eY cmp aA a1 b2 i8) (mL (aA.map k) a1 b2 i8) := by
  unfold eY mL
  try simp only [List.length_map, cD hs.d0, cS]
  exact cH (by first | rfl | exact ⟨rfl, rfl⟩ | (repeat' constructor) <;> first | rfl | assumption | exact cA hU (by assumption) (by assumption))

theorem ER (hs : cR k U cmp) (a1 : Int) (b2 : Int) (i8 : Int) (aA : List aC) (hU : ∀ x ∈ aA, U x) (j9 : Int) : OR (rS (rP (rL k U) Eq) (rL k U)) (gX cmp a1 b2 i8 aA j9) (gL a1 b2 i8 (aA.map k) j9) := by
  unfold gX gL
  try simp only [List.length_map, cD hs.d0, cS]
  refine bL fun h1 => ?_
  refine bL fun h2 => ?_
  refine cP (R := rC) (uD fun _ => mB hs (iA hU _) (iA hU _)) ?_
  intro x_ y_ h_
  obtain rfl := h_
  refine dN (fun h3 => ?_) (fun h4 => ?_)
  · refine bL fun h5 => ?_
    refine bL fun h6 => ?_
    refine bL fun h7 => ?_
    refine bL fun h8 => ?_
    exact cH (by first | rfl | exact ⟨rfl, rfl⟩ | (repeat' constructor) <;> first | rfl | assumption | exact cA hU (by assumption) (by assumption))
  · exact cH (by first | rfl | exact ⟨rfl, rfl⟩ | (repeat' constructor) <;> first | rfl | assumption | exact cA hU (by assumption) (by assumption))

theorem EV (hs : cR k U cmp) (aA : List aC) (hU : ∀ x ∈ aA, U x) (a1 : Int) (b2 : Int) (i8 : Int) (j9 : Int) : OR (rS (rP (rL k U) Eq) (rL k U)) (gZ cmp aA a1 b2 i8 j9) (mM (aA.map k) a1 b2 i8 j9) := by
  unfold gZ mM
  try simp only [List.length_map, cD hs.d0, cS]
  refine cP (rM (R := (rP (rL k U) Eq)) (Q := (rL k U)) ?_ ?_) ?_
  · rintro ⟨d1, v2⟩ ⟨_, _⟩ ⟨⟨rfl, hU⟩, rfl⟩
    exact ER hs _ _ _ d1 hU v2
  · exact ⟨oE hU, rfl⟩
  · rintro d1 _ ⟨rfl, hU⟩
    apply EX hs <;> assumption

theorem EK (hs : cR k U cmp) (a1 : Int) (b2 : Int) (aA : List aC) (hU : ∀ x ∈ aA, U x) (i8 : Int) : OR (rS (rP (rL k U) Eq) (rL k U)) (gS cmp a1 b2 aA i8) (dR a1 b2 (aA.map k) i8) := by
  unfold gS dR
  try simp only [List.length_map, cD hs.d0, cS]
  refine dN (fun h1 => ?_) (fun h2 => ?_)
  · exact EV hs _ hU _ _ _ _
  · exact cH (by first | rfl | exact ⟨rfl, rfl⟩ | (repeat' constructor) <;> first | rfl | assumption | exact cA hU (by assumption) (by assumption))

theorem EE (hs : cR k U cmp) (aA : List aC) (hU : ∀ x ∈ aA, U x) (a1 : Int) (b2 : Int) (i8 : Int) : OR (rL k U) (gV cmp aA a1 b2 i8) (mN (aA.map k) a1 b2 i8) := by
  unfold gV mN
  try simp only [List.length_map, cD hs.d0, cS]
  refine cP (rM (R := (rP (rL k U) Eq)) (Q := (rL k U)) ?_ ?_) ?_
  · rintro ⟨d1, v2⟩ ⟨_, _⟩ ⟨⟨rfl, hU⟩, rfl⟩
    exact EK hs _ _ d1 hU v2
  · exact ⟨oE hU, rfl⟩
  · exact fun x y h => h

theorem EZ (hs : cR k U cmp) (aA : List aC) (hU : ∀ x ∈ aA, U x) (a1 : Int) (b2 : Int) : OR (rL k U) (iL aA a1 b2 cmp) (kR (aA.map k) a1 b2) := by
  unfold iL kR
  try simp only [List.length_map, cD hs.d0, cS]
  exact EE hs _ hU _ _ _

theorem AL (hs : cR k U cmp) (aA : List aC) (hU : ∀ x ∈ aA, U x) (hi2 : Int) (aW : Int) (bS : Int) (dB : Int) : OR (rS (rP (rL k U) Eq) (rS (rL k U) (rL k U))) (gM cmp aA hi2 aW bS dB) (kK (aA.map k) hi2 aW bS dB) := by
  unfold gM kK
  try simp only [List.length_map, cD hs.d0, cS]
  refine bL fun h1 => ?_
  refine bL fun h2 => ?_
  refine cP (R := rC) (mB hs (iA hU _) (iA hU _)) ?_
  intro x_ y_ h_
  obtain rfl := h_
  refine dN (fun h3 => ?_) (fun h4 => ?_)
  · exact cH (by first | rfl | exact ⟨rfl, rfl⟩ | (repeat' constructor) <;> first | rfl | assumption | exact cA hU (by assumption) (by assumption))
  · refine bL fun h5 => ?_
    refine bL fun h6 => ?_
    refine bL fun h7 => ?_
    refine bL fun h8 => ?_
    exact cH (by first | rfl | exact ⟨rfl, rfl⟩ | (repeat' constructor) <;> first | rfl | assumption | exact cA hU (by assumption) (by assumption))

theorem KC (hs : cR k U cmp) (hi2 : Int) (aW : Int) (aA : List aC) (hU : ∀ x ∈ aA, U x) (bS : Int) : OR (rS (rP (rL k U) Eq) (rS (rL k U) (rL k U))) (kG cmp hi2 aW aA bS) (dJ hi2 aW (aA.map k) bS) := by
  unfold kG dJ
  try simp only [List.length_map, cD hs.d0, cS]
  refine dN (fun h1 => ?_) (fun h2 => ?_)
  · exact cH (by first | rfl | exact ⟨rfl, rfl⟩ | (repeat' constructor) <;> first | rfl | assumption | exact cA hU (by assumption) (by assumption))
  · refine bL fun h3 => ?_
    refine bL fun h4 => ?_
    refine cP (R := rC) (uD fun _ => mB hs (iA hU _) (iA hU _)) ?_
    intro x_ y_ h_
    obtain rfl := h_
    refine dN (fun h5 => ?_) (fun h6 => ?_)
    · exact AL hs _ hU _ _ _ _
    · exact AL hs _ hU _ _ _ _

theorem JW (hs : cR k U cmp) (aA : List aC) (hU : ∀ x ∈ aA, U x) (hi2 : Int) (aW : Int) (bS : Int) : OR (rL k U) (kF cmp aA hi2 aW bS) (oF (aA.map k) hi2 aW bS) := by
  unfold kF oF
  try simp only [List.length_map, cD hs.d0, cS]
  refine cP (rM (R := (rP (rL k U) Eq)) (Q := (rS (rL k U) (rL k U))) ?_ ?_) ?_
  · rintro ⟨d1, v2⟩ ⟨_, _⟩ ⟨⟨rfl, hU⟩, rfl⟩
    exact KC hs _ _ d1 hU v2
  · exact ⟨oE hU, rfl⟩
  · rintro (x | x) (y | y) h
    · exact h
    · exact h.elim
    · exact h.elim
    · exact h

theorem BF (hs : cR k U cmp) (aA : List aC) (hU : ∀ x ∈ aA, U x) (lo1 : Int) (hi2 : Int) (aW : Int) : OR (rL k U) (iF aA lo1 hi2 aW cmp) (iR (aA.map k) lo1 hi2 aW) := by
  unfold iF iR
  try simp only [List.length_map, cD hs.d0, cS]
  exact JW hs _ hU _ _ _

theorem KG (hs : cR k U cmp) (bK : Int) (lo9 : Int) (aA : List aC) (hU : ∀ x ∈ aA, U x) (i12 : Int) : OR (rS (rP (rL k U) Eq) (rL k U)) (kH cmp bK lo9 aA i12) (fF bK lo9 (aA.map k) i12) := by
  unfold kH fF
  try simp only [List.length_map, cD hs.d0, cS]
  refine dN (fun h1 => ?_) (fun h2 => ?_)
  · refine bL fun h3 => ?_
    refine bL fun h4 => ?_
    refine bL fun h5 => ?_
    refine bL fun h6 => ?_
    refine cP (BF hs _ (cA hU (by assumption) (by assumption)) _ _ _) ?_
    rintro w61 _ ⟨rfl, hU⟩
    exact cH (by first | rfl | exact ⟨rfl, rfl⟩ | (repeat' constructor) <;> first | rfl | assumption | exact cA hU (by assumption) (by assumption))
  · exact cH (by first | rfl | exact ⟨rfl, rfl⟩ | (repeat' constructor) <;> first | rfl | assumption | exact cA hU (by assumption) (by assumption))

theorem JZ (hs : cR k U cmp) (aA : List aC) (hU : ∀ x ∈ aA, U x) (bK : Int) (lo9 : Int) (i12 : Int) : OR (rL k U) (kD cmp aA bK lo9 i12) (oJ (aA.map k) bK lo9 i12) := by
  unfold kD oJ
  try simp only [List.length_map, cD hs.d0, cS]
  refine cP (rM (R := (rP (rL k U) Eq)) (Q := (rL k U)) ?_ ?_) ?_
  · rintro ⟨d1, v2⟩ ⟨_, _⟩ ⟨⟨rfl, hU⟩, rfl⟩
    exact KG hs _ _ d1 hU v2
  · exact ⟨oE hU, rfl⟩
  · exact fun x y h => h

theorem KR (hs : cR k U cmp) (aA : List aC) (hU : ∀ x ∈ aA, U x) (bK : Int) (lo9 : Int) (hi10 : Int) : OR (rL k U) (gP cmp aA bK lo9 hi10) (oG (aA.map k) bK lo9 hi10) := by
  unfold gP oG
  try simp only [List.length_map, cD hs.d0, cS]
  exact JZ hs _ hU _ _ _

theorem JR (hs : cR k U cmp) (bK : Int) (lo9 : Int) (hi10 : Int) (aA : List aC) (hU : ∀ x ∈ aA, U x) (i11 : Int) : OR (rS (rP (rL k U) Eq) (rL k U)) (kI cmp bK lo9 hi10 aA i11) (fE bK lo9 hi10 (aA.map k) i11) := by
  unfold kI fE
  try simp only [List.length_map, cD hs.d0, cS]
  refine dN (fun h1 => ?_) (fun h2 => ?_)
  · refine cP (BF hs _ hU _ _ _) ?_
    rintro w21 _ ⟨rfl, hU⟩
    exact cH (by first | rfl | exact ⟨rfl, rfl⟩ | (repeat' constructor) <;> first | rfl | assumption | exact cA hU (by assumption) (by assumption))
  · exact cH (by first | rfl | exact ⟨rfl, rfl⟩ | (repeat' constructor) <;> first | rfl | assumption | exact cA hU (by assumption) (by assumption))

theorem KM (hs : cR k U cmp) (aA : List aC) (hU : ∀ x ∈ aA, U x) (bK : Int) (lo9 : Int) (hi10 : Int) (i11 : Int) : OR (rL k U) (kC cmp aA bK lo9 hi10 i11) (oH (aA.map k) bK lo9 hi10 i11) := by
  unfold kC oH
  try simp only [List.length_map, cD hs.d0, cS]
  refine cP (rM (R := (rP (rL k U) Eq)) (Q := (rL k U)) ?_ ?_) ?_
  · rintro ⟨d1, v2⟩ ⟨_, _⟩ ⟨⟨rfl, hU⟩, rfl⟩
    exact JR hs _ _ _ d1 hU v2
  · exact ⟨oE hU, rfl⟩
  · rintro d1 _ ⟨rfl, hU⟩
    apply KR hs <;> assumption

theorem LJ (hs : cR k U cmp) (aA : List aC) (hU : ∀ x ∈ aA, U x) (a1 : Int) (b2 : Int) : OR (rL k U) (kN aA a1 b2 cmp) (mR (aA.map k) a1 b2) := by
  unfold kN mR
  try simp only [List.length_map, cD hs.d0, cS]
  refine bL fun h1 => ?_
  exact KM hs _ hU _ _ _ _

theorem uW (hs : cR k U cmp) (aA : List aC) (hU : ∀ x ∈ aA, U x) (a1 : Int) (iX : Int) (kU : Int) (eM : Int) (eW : Int) (gO : Int) : OR (rS (rP (rL k U) (rP Eq Eq)) (rL k U)) (eX cmp aA a1 iX kU eM eW gO) (gQ (aA.map k) a1 iX kU eM eW gO) := by
  unfold eX gQ
  try simp only [List.length_map, cD hs.d0, cS]
  refine bL fun h1 => ?_
  refine bL fun h2 => ?_
  refine bL fun h3 => ?_
  refine bL fun h4 => ?_
  exact cH (by first | rfl | exact ⟨rfl, rfl⟩ | (repeat' constructor) <;> first | rfl | assumption | exact cA hU (by assumption) (by assumption))

theorem EH (hs : cR k U cmp) (a1 : Int) (iX : Int) (eM : Int) (aA : List aC) (hU : ∀ x ∈ aA, U x) (kU : Int) (eW : Int) : OR (rS (rP (rL k U) (rP Eq Eq)) (rL k U)) (hY cmp a1 iX eM aA kU eW) (cY a1 iX eM (aA.map k) kU eW) := by
  unfold hY cY
  try simp only [List.length_map, cD hs.d0, cS]
  refine bL fun h1 => ?_
  refine dN (fun h2 => ?_) (fun h3 => ?_)
  · refine cP (R := Eq) (aFx _) ?_
    rintro x_ _ rfl
    refine dN (fun h4 => ?_) (fun h5 => ?_)
    · exact uW hs _ hU _ _ _ _ _ _
    · exact uW hs _ hU _ _ _ _ _ _
  · exact cH (by first | rfl | exact ⟨rfl, rfl⟩ | (repeat' constructor) <;> first | rfl | assumption | exact cA hU (by assumption) (by assumption))

theorem EP (hs : cR k U cmp) (aA : List aC) (hU : ∀ x ∈ aA, U x) (a1 : Int) (iX : Int) (kU : Int) (eM : Int) (eW : Int) : OR (rL k U) (gU cmp aA a1 iX kU eM eW) (mJ (aA.map k) a1 iX kU eM eW) := by
  unfold gU mJ
  try simp only [List.length_map, cD hs.d0, cS]
  refine cP (rM (R := (rP (rL k U) (rP Eq Eq))) (Q := (rL k U)) ?_ ?_) ?_
  · rintro ⟨d1, ⟨v2, v3⟩⟩ ⟨_, ⟨_, _⟩⟩ ⟨⟨rfl, hU⟩, ⟨rfl, rfl⟩⟩
    exact EH hs _ _ _ d1 hU v2 v3
  · exact ⟨oE hU, ⟨rfl, rfl⟩⟩
  · exact fun x y h => h

theorem FE (hs : cR k U cmp) (aA : List aC) (hU : ∀ x ∈ aA, U x) (a1 : Int) (b2 : Int) : OR (rL k U) (iK aA a1 b2 cmp) (kO (aA.map k) a1 b2) := by
  unfold iK kO
  try simp only [List.length_map, cD hs.d0, cS]
  refine dN (fun h1 => ?_) (fun h2 => ?_)
  · refine cP (R := Eq) (aFx _) ?_
    rintro x_ _ rfl
    refine bL fun h3 => ?_
    exact EP hs _ hU _ _ _ _ _
  · exact cH (by first | rfl | exact ⟨rfl, rfl⟩ | (repeat' constructor) <;> first | rfl | assumption | exact cA hU (by assumption) (by assumption))

theorem wG (hs : cR k U cmp) (aA : List aC) (hU : ∀ x ∈ aA, U x) (a1 : Int) (b2 : Int) (qW : Int) : OR (rP (rP Eq Eq) Eq) (fN aA a1 b2 qW cmp) (jR (aA.map k) a1 b2 qW) := by
  unfold fN jR
  try simp only [List.length_map, cD hs.d0, cS]
  refine bL fun h1 => ?_
  refine bL fun h2 => ?_
  refine cP (R := rC) (mB hs (iA hU _) (iA hU _)) ?_
  intro x_ y_ h_
  obtain rfl := h_
  refine dN (fun h3 => ?_) (fun h4 => ?_)
  · exact cH (by first | rfl | exact ⟨rfl, rfl⟩ | (repeat' constructor) <;> first | rfl | assumption | exact cA hU (by assumption) (by assumption))
  · exact cH (by first | rfl | exact ⟨rfl, rfl⟩ | (repeat' constructor) <;> first | rfl | assumption | exact cA hU (by assumption) (by assumption))

theorem CR (hs : cR k U cmp) (aA : List aC) (hU : ∀ x ∈ aA, U x) (a1 : Int) (b2 : Int) (c3 : Int) (AO : Int) : OR (rP Eq Eq) (iZ aA a1 b2 c3 AO cmp) (lW (aA.map k) a1 b2 c3 AO) := by
  unfold iZ lW
  try simp only [List.length_map, cD hs.d0, cS]
  refine cP (wG hs _ hU _ _ _) ?_
  rintro ⟨⟨w1, w2⟩, w3⟩ ⟨⟨_, _⟩, _⟩ ⟨⟨rfl, rfl⟩, rfl⟩
  refine cP (wG hs _ hU _ _ _) ?_
  rintro ⟨⟨w11, w12⟩, w13⟩ ⟨⟨_, _⟩, _⟩ ⟨⟨rfl, rfl⟩, rfl⟩
  refine cP (wG hs _ hU _ _ _) ?_
  rintro ⟨⟨w21, w22⟩, w23⟩ ⟨⟨_, _⟩, _⟩ ⟨⟨rfl, rfl⟩, rfl⟩
  exact cH (by first | rfl | exact ⟨rfl, rfl⟩ | (repeat' constructor) <;> first | rfl | assumption | exact cA hU (by assumption) (by assumption))

theorem rF (hs : cR k U cmp) (aA : List aC) (hU : ∀ x ∈ aA, U x) (a1 : Int) (AG : Int) : OR (rP Eq Eq) (dL aA a1 AG cmp) (fA (aA.map k) a1 AG) := by
  unfold dL fA
  try simp only [List.length_map, cD hs.d0, cS]
  refine cP (CR hs _ hU _ _ _ _) ?_
  rintro ⟨w1, w2⟩ ⟨_, _⟩ ⟨rfl, rfl⟩
  exact cH (by first | rfl | exact ⟨rfl, rfl⟩ | (repeat' constructor) <;> first | rfl | assumption | exact cA hU (by assumption) (by assumption))

theorem wM (hs : cR k U cmp) (aA : List aC) (hU : ∀ x ∈ aA, U x) (lV : Int) (j13 : Int) : OR (rP Eq Eq) (fI cmp aA lV j13) (iQ (aA.map k) lV j13) := by
  unfold fI iQ
  try simp only [List.length_map, cD hs.d0, cS]
  refine dN (fun h1 => ?_) (fun h2 => ?_)
  · exact cH (by first | rfl | exact ⟨rfl, rfl⟩ | (repeat' constructor) <;> first | rfl | assumption | exact cA hU (by assumption) (by assumption))
  · refine dN (fun h3 => ?_) (fun h4 => ?_)
    · exact cH (by first | rfl | exact ⟨rfl, rfl⟩ | (repeat' constructor) <;> first | rfl | assumption | exact cA hU (by assumption) (by assumption))
    · exact cH (by first | rfl | exact ⟨rfl, rfl⟩ | (repeat' constructor) <;> first | rfl | assumption | exact cA hU (by assumption) (by assumption))

theorem wT (hs : cR k U cmp) (aA : List aC) (hU : ∀ x ∈ aA, U x) (lV : Int) (i12 : Int) (j13 : Int) (k14 : Int) : OR (rP Eq Eq) (fH cmp aA lV i12 j13 k14) (iP (aA.map k) lV i12 j13 k14) := by
  unfold fH iP
  try simp only [List.length_map, cD hs.d0, cS]
  refine cP (CR hs _ hU _ _ _ _) ?_
  rintro ⟨w1, w2⟩ ⟨_, _⟩ ⟨rfl, rfl⟩
  exact wM hs _ hU _ _

theorem GR (hs : cR k U cmp) (aA : List aC) (hU : ∀ x ∈ aA, U x) (a1 : Int) (b2 : Int) : OR (rP Eq Eq) (jB aA a1 b2 cmp) (lM (aA.map k) a1 b2) := by
  unfold jB lM
  try simp only [List.length_map, cD hs.d0, cS]
  refine bL fun h1 => ?_
  refine bL fun h2 => ?_
  refine bL fun h3 => ?_
  refine dN (fun h4 => ?_) (fun h5 => ?_)
  · refine dN (fun h6 => ?_) (fun h7 => ?_)
    · refine cP (rF hs _ hU _ _) ?_
      rintro ⟨w71, w72⟩ ⟨_, _⟩ ⟨rfl, rfl⟩
      refine cP (rF hs _ hU _ _) ?_
      rintro ⟨w81, w82⟩ ⟨_, _⟩ ⟨rfl, rfl⟩
      refine cP (rF hs _ hU _ _) ?_
      rintro ⟨w91, w92⟩ ⟨_, _⟩ ⟨rfl, rfl⟩
      exact wT hs _ hU _ _ _ _
    · exact wT hs _ hU _ _ _ _
  · exact wM hs _ hU _ _

theorem FH (hs : cR k U cmp) (aA : List aC) (hU : ∀ x ∈ aA, U x) (i8 : Int) (j9 : Int) : OR (rS (rP (rL k U) (rP Eq Eq)) (rL k U)) (iM cmp aA i8 j9) (dV (aA.map k) i8 j9) := by
  unfold iM dV
  try simp only [List.length_map, cD hs.d0, cS]
  refine dN (fun h1 => ?_) (fun h2 => ?_)
  · refine bL fun h3 => ?_
    refine bL fun h4 => ?_
    refine bL fun h5 => ?_
    refine bL fun h6 => ?_
    exact cH (by first | rfl | exact ⟨rfl, rfl⟩ | (repeat' constructor) <;> first | rfl | assumption | exact cA hU (by assumption) (by assumption))
  · exact cH (by first | rfl | exact ⟨rfl, rfl⟩ | (repeat' constructor) <;> first | rfl | assumption | exact cA hU (by assumption) (by assumption))

theorem FJ (hs : cR k U cmp) (aA : List aC) (hU : ∀ x ∈ aA, U x) (i8 : Int) (j9 : Int) : OR (rL k U) (iJ cmp aA i8 j9) (mU (aA.map k) i8 j9) := by
  unfold iJ mU
  try simp only [List.length_map, cD hs.d0, cS]
  refine cP (rM (R := (rP (rL k U) (rP Eq Eq))) (Q := (rL k U)) ?_ ?_) ?_
  · rintro ⟨d1, ⟨v2, v3⟩⟩ ⟨_, ⟨_, _⟩⟩ ⟨⟨rfl, hU⟩, ⟨rfl, rfl⟩⟩
    exact FH hs  d1 hU v2 v3
  · exact ⟨oE hU, ⟨rfl, rfl⟩⟩
  · exact fun x y h => h

theorem FU (hs : cR k U cmp) (aA : List aC) (hU : ∀ x ∈ aA, U x) (a1 : Int) (b2 : Int) : OR (rL k U) (iT aA a1 b2 cmp) (lH (aA.map k) a1 b2) := by
  unfold iT lH
  try simp only [List.length_map, cD hs.d0, cS]
  exact FJ hs _ hU _ _

theorem zO (hs : cR k U cmp) (aA : List aC) (hU : ∀ x ∈ aA, U x) : OR (rP Eq (rL k U)) (dH cmp aA) (jW (aA.map k)) := by
  unfold dH jW
  try simp only [List.length_map, cD hs.d0, cS]
  exact cH (by first | rfl | exact ⟨rfl, rfl⟩ | (repeat' constructor) <;> first | rfl | assumption | exact cA hU (by assumption) (by assumption))

theorem rQ (hs : cR k U cmp) (aA : List aC) (hU : ∀ x ∈ aA, U x) (a1 : Int) (b2 : Int) (i9 : Int) (j10 : Int) : OR (rS (rP (rL k U) (rP Eq Eq)) (rS (rL k U) (rP Eq (rL k U)))) (cM cmp aA a1 b2 i9 j10) (jZ (aA.map k) a1 b2 i9 j10) := by
  unfold cM jZ
  try simp only [List.length_map, cD hs.d0, cS]
  exact cH (by first | rfl | exact ⟨rfl, rfl⟩ | (repeat' constructor) <;> first | rfl | assumption | exact cA hU (by assumption) (by assumption))

theorem zN (hs : cR k U cmp) (a1 : Int) (b2 : Int) (i9 : Int) (j10 : Int) (aA : List aC) (hU : ∀ x ∈ aA, U x) (j12 : Int) : OR (rS (rP (rL k U) Eq) (rL k U)) (eO cmp a1 b2 i9 j10 aA j12) (cV a1 b2 i9 j10 (aA.map k) j12) := by
  unfold eO cV
  try simp only [List.length_map, cD hs.d0, cS]
  refine dN (fun h1 => ?_) (fun h2 => ?_)
  · refine bL fun h3 => ?_
    refine bL fun h4 => ?_
    refine cP (R := rC) (mB hs (iA hU _) (iA hU _)) ?_
    intro x_ y_ h_
    obtain rfl := h_
    refine dN (fun h5 => ?_) (fun h6 => ?_)
    · exact cH (by first | rfl | exact ⟨rfl, rfl⟩ | (repeat' constructor) <;> first | rfl | assumption | exact cA hU (by assumption) (by assumption))
    · refine bL fun h7 => ?_
      refine bL fun h8 => ?_
      refine bL fun h9 => ?_
      refine bL fun h10 => ?_
      exact cH (by first | rfl | exact ⟨rfl, rfl⟩ | (repeat' constructor) <;> first | rfl | assumption | exact cA hU (by assumption) (by assumption))
  · exact cH (by first | rfl | exact ⟨rfl, rfl⟩ | (repeat' constructor) <;> first | rfl | assumption | exact cA hU (by assumption) (by assumption))

theorem zG (hs : cR k U cmp) (aA : List aC) (hU : ∀ x ∈ aA, U x) (a1 : Int) (b2 : Int) (i9 : Int) (j10 : Int) (j12 : Int) : OR (rS (rP (rL k U) (rP Eq Eq)) (rS (rL k U) (rP Eq (rL k U)))) (eN cmp aA a1 b2 i9 j10 j12) (jY (aA.map k) a1 b2 i9 j10 j12) := by
  unfold eN jY
  try simp only [List.length_map, cD hs.d0, cS]
  refine cP (rM (R := (rP (rL k U) Eq)) (Q := (rL k U)) ?_ ?_) ?_
  · rintro ⟨d1, v2⟩ ⟨_, _⟩ ⟨⟨rfl, hU⟩, rfl⟩
    exact zN hs _ _ _ _ d1 hU v2
  · exact ⟨oE hU, rfl⟩
  · rintro d1 _ ⟨rfl, hU⟩
    apply rQ hs <;> assumption

theorem rU (hs : cR k U cmp) (aA : List aC) (hU : ∀ x ∈ aA, U x) (a1 : Int) (b2 : Int) (i9 : Int) (j10 : Int) : OR (rS (rP (rL k U) (rP Eq Eq)) (rS (rL k U) (rP Eq (rL k U)))) (cL cmp aA a1 b2 i9 j10) (dD (aA.map k) a1 b2 i9 j10) := by
  unfold cL dD
  try simp only [List.length_map, cD hs.d0, cS]
  refine dN (fun h1 => ?_) (fun h2 => ?_)
  · exact zG hs _ hU _ _ _ _ _
  · exact rQ hs _ hU _ _ _ _

theorem yZ (hs : cR k U cmp) (a1 : Int) (b2 : Int) (i9 : Int) (j10 : Int) (aA : List aC) (hU : ∀ x ∈ aA, U x) (j11 : Int) : OR (rS (rP (rL k U) Eq) (rL k U)) (eT cmp a1 b2 i9 j10 aA j11) (cN a1 b2 i9 j10 (aA.map k) j11) := by
  unfold eT cN
  try simp only [List.length_map, cD hs.d0, cS]
  refine dN (fun h1 => ?_) (fun h2 => ?_)
  · refine bL fun h3 => ?_
    refine bL fun h4 => ?_
    refine cP (R := rC) (mB hs (iA hU _) (iA hU _)) ?_
    intro x_ y_ h_
    obtain rfl := h_
    refine dN (fun h5 => ?_) (fun h6 => ?_)
    · exact cH (by first | rfl | exact ⟨rfl, rfl⟩ | (repeat' constructor) <;> first | rfl | assumption | exact cA hU (by assumption) (by assumption))
    · refine bL fun h7 => ?_
      refine bL fun h8 => ?_
      refine bL fun h9 => ?_
      refine bL fun h10 => ?_
      exact cH (by first | rfl | exact ⟨rfl, rfl⟩ | (repeat' constructor) <;> first | rfl | assumption | exact cA hU (by assumption) (by assumption))
  · exact cH (by first | rfl | exact ⟨rfl, rfl⟩ | (repeat' constructor) <;> first | rfl | assumption | exact cA hU (by assumption) (by assumption))

theorem zA (hs : cR k U cmp) (aA : List aC) (hU : ∀ x ∈ aA, U x) (a1 : Int) (b2 : Int) (i9 : Int) (j10 : Int) (j11 : Int) : OR (rS (rP (rL k U) (rP Eq Eq)) (rS (rL k U) (rP Eq (rL k U)))) (eR cmp aA a1 b2 i9 j10 j11) (kA (aA.map k) a1 b2 i9 j10 j11) := by
  unfold eR kA
  try simp only [List.length_map, cD hs.d0, cS]
  refine cP (rM (R := (rP (rL k U) Eq)) (Q := (rL k U)) ?_ ?_) ?_
  · rintro ⟨d1, v2⟩ ⟨_, _⟩ ⟨⟨rfl, hU⟩, rfl⟩
    exact yZ hs _ _ _ _ d1 hU v2
  · exact ⟨oE hU, rfl⟩
  · rintro d1 _ ⟨rfl, hU⟩
    apply rU hs <;> assumption

theorem yY (hs : cR k U cmp) (aA : List aC) (hU : ∀ x ∈ aA, U x) (a1 : Int) (b2 : Int) (i9 : Int) (j10 : Int) : OR (rS (rP (rL k U) (rP Eq Eq)) (rS (rL k U) (rP Eq (rL k U)))) (dG cmp aA a1 b2 i9 j10) (jV (aA.map k) a1 b2 i9 j10) := by
  unfold dG jV
  try simp only [List.length_map, cD hs.d0, cS]
  refine dN (fun h1 => ?_) (fun h2 => ?_)
  · exact cH (by first | rfl | exact ⟨rfl, rfl⟩ | (repeat' constructor) <;> first | rfl | assumption | exact cA hU (by assumption) (by assumption))
  · refine dN (fun h3 => ?_) (fun h4 => ?_)
    · exact cH (by first | rfl | exact ⟨rfl, rfl⟩ | (repeat' constructor) <;> first | rfl | assumption | exact cA hU (by assumption) (by assumption))
    · refine bL fun h5 => ?_
      refine bL fun h6 => ?_
      refine bL fun h7 => ?_
      refine bL fun h8 => ?_
      refine dN (fun h9 => ?_) (fun h10 => ?_)
      · exact zA hs _ (cA hU (by assumption) (by assumption)) _ _ _ _ _
      · exact rU hs _ (cA hU (by assumption) (by assumption)) _ _ _ _

theorem zP (hs : cR k U cmp) (a1 : Int) (b2 : Int) (j10 : Int) (aA : List aC) (hU : ∀ x ∈ aA, U x) (i9 : Int) : OR (rS (rP (rL k U) Eq) (rP (rL k U) Eq)) (eS cmp a1 b2 j10 aA i9) (cU a1 b2 j10 (aA.map k) i9) := by
  unfold eS cU
  try simp only [List.length_map, cD hs.d0, cS]
  refine bL fun h1 => ?_
  refine bL fun h2 => ?_
  refine cP (R := rC) (uD fun _ => mB hs (iA hU _) (iA hU _)) ?_
  intro x_ y_ h_
  obtain rfl := h_
  refine dN (fun h3 => ?_) (fun h4 => ?_)
  · exact cH (by first | rfl | exact ⟨rfl, rfl⟩ | (repeat' constructor) <;> first | rfl | assumption | exact cA hU (by assumption) (by assumption))
  · exact cH (by first | rfl | exact ⟨rfl, rfl⟩ | (repeat' constructor) <;> first | rfl | assumption | exact cA hU (by assumption) (by assumption))

theorem zS (hs : cR k U cmp) (aA : List aC) (hU : ∀ x ∈ aA, U x) (a1 : Int) (b2 : Int) (i9 : Int) (j10 : Int) : OR (rS (rP (rL k U) (rP Eq Eq)) (rS (rL k U) (rP Eq (rL k U)))) (eV cmp aA a1 b2 i9 j10) (dF (aA.map k) a1 b2 i9 j10) := by
  unfold eV dF
  try simp only [List.length_map, cD hs.d0, cS]
  refine cP (rM (R := (rP (rL k U) Eq)) (Q := (rP (rL k U) Eq)) ?_ ?_) ?_
  · rintro ⟨d1, v2⟩ ⟨_, _⟩ ⟨⟨rfl, hU⟩, rfl⟩
    exact zP hs _ _ _ d1 hU v2
  · exact ⟨oE hU, rfl⟩
  · rintro ⟨d1, v2⟩ ⟨_, _⟩ ⟨⟨rfl, hU⟩, rfl⟩
    apply yY hs <;> assumption

theorem zC (hs : cR k U cmp) (a1 : Int) (b2 : Int) (aA : List aC) (hU : ∀ x ∈ aA, U x) (i9 : Int) (j10 : Int) : OR (rS (rP (rL k U) (rP Eq Eq)) (rS (rL k U) (rP Eq (rL k U)))) (eP cmp a1 b2 aA i9 j10) (bZ a1 b2 (aA.map k) i9 j10) := by
  unfold eP bZ
  try simp only [List.length_map, cD hs.d0, cS]
  refine dN (fun h1 => ?_) (fun h2 => ?_)
  · exact zS hs _ hU _ _ _ _
  · exact cH (by first | rfl | exact ⟨rfl, rfl⟩ | (repeat' constructor) <;> first | rfl | assumption | exact cA hU (by assumption) (by assumption))

theorem zB (hs : cR k U cmp) (aA : List aC) (hU : ∀ x ∈ aA, U x) (a1 : Int) (b2 : Int) (i9 : Int) (j10 : Int) : OR (rP Eq (rL k U)) (eU cmp aA a1 b2 i9 j10) (jX (aA.map k) a1 b2 i9 j10) := by
  unfold eU jX
  try simp only [List.length_map, cD hs.d0, cS]
  refine cP (rM (R := (rP (rL k U) (rP Eq Eq))) (Q := (rS (rL k U) (rP Eq (rL k U)))) ?_ ?_) ?_
  · rintro ⟨d1, ⟨v2, v3⟩⟩ ⟨_, ⟨_, _⟩⟩ ⟨⟨rfl, hU⟩, ⟨rfl, rfl⟩⟩
    exact zC hs _ _ d1 hU v2 v3
  · exact ⟨oE hU, ⟨rfl, rfl⟩⟩
  · rintro (x | x) (y | y) h
    · obtain ⟨rfl, hU⟩ := h; apply zO hs <;> assumption
    · exact h.elim
    · exact h.elim
    · exact h

theorem AF (hs : cR k U cmp) (aA : List aC) (hU : ∀ x ∈ aA, U x) (a1 : Int) (b2 : Int) : OR (rP Eq (rL k U)) (fB aA a1 b2 cmp) (gJ (aA.map k) a1 b2) := by
  unfold fB gJ
  try simp only [List.length_map, cD hs.d0, cS]
  exact zB hs _ hU _ _ _ _

theorem CY (hs : cR k U cmp) (aA : List aC) (hU : ∀ x ∈ aA, U x) (i11 : Int) : OR (rP Eq (rL k U)) (eJ cmp aA i11) (oV (aA.map k) i11) := by
  unfold eJ oV
  try simp only [List.length_map, cD hs.d0, cS]
  exact cH (by first | rfl | exact ⟨rfl, rfl⟩ | (repeat' constructor) <;> first | rfl | assumption | exact cA hU (by assumption) (by assumption))

theorem CX (hs : cR k U cmp) (aA : List aC) (hU : ∀ x ∈ aA, U x) (a1 : Int) (i11 : Int) (j12 : Int) : OR (rS (rP (rL k U) (rP Eq Eq)) (rP (rL k U) Eq)) (eK cmp aA a1 i11 j12) (fV (aA.map k) a1 i11 j12) := by
  unfold eK fV
  try simp only [List.length_map, cD hs.d0, cS]
  refine dN (fun h1 => ?_) (fun h2 => ?_)
  · exact cH (by first | rfl | exact ⟨rfl, rfl⟩ | (repeat' constructor) <;> first | rfl | assumption | exact cA hU (by assumption) (by assumption))
  · refine bL fun h3 => ?_
    refine bL fun h4 => ?_
    refine bL fun h5 => ?_
    refine bL fun h6 => ?_
    exact cH (by first | rfl | exact ⟨rfl, rfl⟩ | (repeat' constructor) <;> first | rfl | assumption | exact cA hU (by assumption) (by assumption))

theorem DM (hs : cR k U cmp) (a1 : Int) (i11 : Int) (aA : List aC) (hU : ∀ x ∈ aA, U x) (j12 : Int) : OR (rS (rP (rL k U) Eq) (rP (rL k U) Eq)) (gH cmp a1 i11 aA j12) (eC a1 i11 (aA.map k) j12) := by
  unfold gH eC
  try simp only [List.length_map, cD hs.d0, cS]
  refine bL fun h1 => ?_
  refine bL fun h2 => ?_
  refine cP (R := rC) (uD fun _ => mB hs (iA hU _) (iA hU _)) ?_
  intro x_ y_ h_
  obtain rfl := h_
  refine dN (fun h3 => ?_) (fun h4 => ?_)
  · exact cH (by first | rfl | exact ⟨rfl, rfl⟩ | (repeat' constructor) <;> first | rfl | assumption | exact cA hU (by assumption) (by assumption))
  · exact cH (by first | rfl | exact ⟨rfl, rfl⟩ | (repeat' constructor) <;> first | rfl | assumption | exact cA hU (by assumption) (by assumption))

theorem DD (hs : cR k U cmp) (aA : List aC) (hU : ∀ x ∈ aA, U x) (a1 : Int) (i11 : Int) (j12 : Int) : OR (rS (rP (rL k U) (rP Eq Eq)) (rP (rL k U) Eq)) (gF cmp aA a1 i11 j12) (mE (aA.map k) a1 i11 j12) := by
  unfold gF mE
  try simp only [List.length_map, cD hs.d0, cS]
  refine cP (rM (R := (rP (rL k U) Eq)) (Q := (rP (rL k U) Eq)) ?_ ?_) ?_
  · rintro ⟨d1, v2⟩ ⟨_, _⟩ ⟨⟨rfl, hU⟩, rfl⟩
    exact DM hs _ _ d1 hU v2
  · exact ⟨oE hU, rfl⟩
  · rintro ⟨d1, v2⟩ ⟨_, _⟩ ⟨⟨rfl, hU⟩, rfl⟩
    apply CX hs <;> assumption

theorem CS (hs : cR k U cmp) (aA : List aC) (hU : ∀ x ∈ aA, U x) (a1 : Int) (i11 : Int) (j12 : Int) : OR (rS (rP (rL k U) (rP Eq Eq)) (rP (rL k U) Eq)) (eG cmp aA a1 i11 j12) (mH (aA.map k) a1 i11 j12) := by
  unfold eG mH
  try simp only [List.length_map, cD hs.d0, cS]
  exact DD hs _ hU _ _ _

theorem CU (hs : cR k U cmp) (a1 : Int) (j12 : Int) (aA : List aC) (hU : ∀ x ∈ aA, U x) (i11 : Int) : OR (rS (rP (rL k U) Eq) (rP (rL k U) Eq)) (gI cmp a1 j12 aA i11) (eE a1 j12 (aA.map k) i11) := by
  unfold gI eE
  try simp only [List.length_map, cD hs.d0, cS]
  refine bL fun h1 => ?_
  refine bL fun h2 => ?_
  refine cP (R := rC) (uD fun _ => mB hs (iA hU _) (iA hU _)) ?_
  intro x_ y_ h_
  obtain rfl := h_
  refine dN (fun h3 => ?_) (fun h4 => ?_)
  · exact cH (by first | rfl | exact ⟨rfl, rfl⟩ | (repeat' constructor) <;> first | rfl | assumption | exact cA hU (by assumption) (by assumption))
  · exact cH (by first | rfl | exact ⟨rfl, rfl⟩ | (repeat' constructor) <;> first | rfl | assumption | exact cA hU (by assumption) (by assumption))

theorem DF (hs : cR k U cmp) (aA : List aC) (hU : ∀ x ∈ aA, U x) (a1 : Int) (i11 : Int) (j12 : Int) : OR (rS (rP (rL k U) (rP Eq Eq)) (rP (rL k U) Eq)) (gG cmp aA a1 i11 j12) (mG (aA.map k) a1 i11 j12) := by
  unfold gG mG
  try simp only [List.length_map, cD hs.d0, cS]
  refine cP (rM (R := (rP (rL k U) Eq)) (Q := (rP (rL k U) Eq)) ?_ ?_) ?_
  · rintro ⟨d1, v2⟩ ⟨_, _⟩ ⟨⟨rfl, hU⟩, rfl⟩
    exact CU hs _ _ d1 hU v2
  · exact ⟨oE hU, rfl⟩
  · rintro ⟨d1, v2⟩ ⟨_, _⟩ ⟨⟨rfl, hU⟩, rfl⟩
    apply CS hs <;> assumption

theorem DO (hs : cR k U cmp) (a1 : Int) (aA : List aC) (hU : ∀ x ∈ aA, U x) (i11 : Int) (j12 : Int) : OR (rS (rP (rL k U) (rP Eq Eq)) (rP (rL k U) Eq)) (gE cmp a1 aA i11 j12) (cW a1 (aA.map k) i11 j12) := by
  unfold gE cW
  try simp only [List.length_map, cD hs.d0, cS]
  exact DF hs _ hU _ _ _

theorem DQ (hs : cR k U cmp) (aA : List aC) (hU : ∀ x ∈ aA, U x) (a1 : Int) (i11 : Int) (j12 : Int) : OR (rP Eq (rL k U)) (fZ cmp aA a1 i11 j12) (mF (aA.map k) a1 i11 j12) := by
  unfold fZ mF
  try simp only [List.length_map, cD hs.d0, cS]
  refine cP (rM (R := (rP (rL k U) (rP Eq Eq))) (Q := (rP (rL k U) Eq)) ?_ ?_) ?_
  · rintro ⟨d1, ⟨v2, v3⟩⟩ ⟨_, ⟨_, _⟩⟩ ⟨⟨rfl, hU⟩, ⟨rfl, rfl⟩⟩
    exact DO hs _ d1 hU v2 v3
  · exact ⟨oE hU, ⟨rfl, rfl⟩⟩
  · rintro ⟨d1, v2⟩ ⟨_, _⟩ ⟨⟨rfl, hU⟩, rfl⟩
    apply CY hs <;> assumption

theorem EJ (hs : cR k U cmp) (aA : List aC) (hU : ∀ x ∈ aA, U x) (a1 : Int) (b2 : Int) (bX : Int) : OR (rP Eq (rL k U)) (gW aA a1 b2 bX cmp) (gR (aA.map k) a1 b2 bX) := by
  unfold gW gR
  try simp only [List.length_map, cD hs.d0, cS]
  refine bL fun h1 => ?_
  refine bL fun h2 => ?_
  refine bL fun h3 => ?_
  refine bL fun h4 => ?_
  exact DQ hs _ (cA hU (by assumption) (by assumption)) _ _ _

theorem IK (hs : cR k U cmp) (aA : List aC) (hU : ∀ x ∈ aA, U x) (a1 : Int) (j13 : Int) : OR (rP (rP Eq Eq) (rL k U)) (fR cmp aA a1 j13) (nU (aA.map k) a1 j13) := by
  unfold fR nU
  try simp only [List.length_map, cD hs.d0, cS]
  refine bL fun h1 => ?_
  refine bL fun h2 => ?_
  refine bL fun h3 => ?_
  refine bL fun h4 => ?_
  exact cH (by first | rfl | exact ⟨rfl, rfl⟩ | (repeat' constructor) <;> first | rfl | assumption | exact cA hU (by assumption) (by assumption))

theorem ID (hs : cR k U cmp) (aA : List aC) (hU : ∀ x ∈ aA, U x) (a1 : Int) (i12 : Int) (j13 : Int) : OR (rS (rP (rL k U) (rP Eq Eq)) (rP (rL k U) Eq)) (fW cmp aA a1 i12 j13) (jM (aA.map k) a1 i12 j13) := by
  unfold fW jM
  try simp only [List.length_map, cD hs.d0, cS]
  refine dN (fun h1 => ?_) (fun h2 => ?_)
  · exact cH (by first | rfl | exact ⟨rfl, rfl⟩ | (repeat' constructor) <;> first | rfl | assumption | exact cA hU (by assumption) (by assumption))
  · refine bL fun h3 => ?_
    refine bL fun h4 => ?_
    refine bL fun h5 => ?_
    refine bL fun h6 => ?_
    exact cH (by first | rfl | exact ⟨rfl, rfl⟩ | (repeat' constructor) <;> first | rfl | assumption | exact cA hU (by assumption) (by assumption))

theorem IM (hs : cR k U cmp) (a1 : Int) (i12 : Int) (aA : List aC) (hU : ∀ x ∈ aA, U x) (j13 : Int) : OR (rS (rP (rL k U) Eq) (rP (rL k U) Eq)) (jJ cmp a1 i12 aA j13) (gK a1 i12 (aA.map k) j13) := by
  unfold jJ gK
  try simp only [List.length_map, cD hs.d0, cS]
  refine bL fun h1 => ?_
  refine bL fun h2 => ?_
  refine cP (R := rC) (uD fun _ => mB hs (iA hU _) (iA hU _)) ?_
  intro x_ y_ h_
  obtain rfl := h_
  refine dN (fun h3 => ?_) (fun h4 => ?_)
  · exact cH (by first | rfl | exact ⟨rfl, rfl⟩ | (repeat' constructor) <;> first | rfl | assumption | exact cA hU (by assumption) (by assumption))
  · exact cH (by first | rfl | exact ⟨rfl, rfl⟩ | (repeat' constructor) <;> first | rfl | assumption | exact cA hU (by assumption) (by assumption))

theorem IJ (hs : cR k U cmp) (aA : List aC) (hU : ∀ x ∈ aA, U x) (a1 : Int) (i12 : Int) (j13 : Int) : OR (rS (rP (rL k U) (rP Eq Eq)) (rP (rL k U) Eq)) (jK cmp aA a1 i12 j13) (nX (aA.map k) a1 i12 j13) := by
  unfold jK nX
  try simp only [List.length_map, cD hs.d0, cS]
  refine cP (rM (R := (rP (rL k U) Eq)) (Q := (rP (rL k U) Eq)) ?_ ?_) ?_
  · rintro ⟨d1, v2⟩ ⟨_, _⟩ ⟨⟨rfl, hU⟩, rfl⟩
    exact IM hs _ _ d1 hU v2
  · exact ⟨oE hU, rfl⟩
  · rintro ⟨d1, v2⟩ ⟨_, _⟩ ⟨⟨rfl, hU⟩, rfl⟩
    apply ID hs <;> assumption

theorem IG (hs : cR k U cmp) (aA : List aC) (hU : ∀ x ∈ aA, U x) (a1 : Int) (i12 : Int) (j13 : Int) : OR (rS (rP (rL k U) (rP Eq Eq)) (rP (rL k U) Eq)) (fT cmp aA a1 i12 j13) (nT (aA.map k) a1 i12 j13) := by
  unfold fT nT
  try simp only [List.length_map, cD hs.d0, cS]
  exact IJ hs _ hU _ _ _

theorem IA (hs : cR k U cmp) (a1 : Int) (j13 : Int) (aA : List aC) (hU : ∀ x ∈ aA, U x) (i12 : Int) : OR (rS (rP (rL k U) Eq) (rP (rL k U) Eq)) (jP cmp a1 j13 aA i12) (gC a1 j13 (aA.map k) i12) := by
  unfold jP gC
  try simp only [List.length_map, cD hs.d0, cS]
  refine bL fun h1 => ?_
  refine bL fun h2 => ?_
  refine cP (R := rC) (uD fun _ => mB hs (iA hU _) (iA hU _)) ?_
  intro x_ y_ h_
  obtain rfl := h_
  refine dN (fun h3 => ?_) (fun h4 => ?_)
  · exact cH (by first | rfl | exact ⟨rfl, rfl⟩ | (repeat' constructor) <;> first | rfl | assumption | exact cA hU (by assumption) (by assumption))
  · exact cH (by first | rfl | exact ⟨rfl, rfl⟩ | (repeat' constructor) <;> first | rfl | assumption | exact cA hU (by assumption) (by assumption))

theorem IF (hs : cR k U cmp) (aA : List aC) (hU : ∀ x ∈ aA, U x) (a1 : Int) (i12 : Int) (j13 : Int) : OR (rS (rP (rL k U) (rP Eq Eq)) (rP (rL k U) Eq)) (jD cmp aA a1 i12 j13) (nW (aA.map k) a1 i12 j13) := by
  unfold jD nW
  try simp only [List.length_map, cD hs.d0, cS]
  refine cP (rM (R := (rP (rL k U) Eq)) (Q := (rP (rL k U) Eq)) ?_ ?_) ?_
  · rintro ⟨d1, v2⟩ ⟨_, _⟩ ⟨⟨rfl, hU⟩, rfl⟩
    exact IA hs _ _ d1 hU v2
  · exact ⟨oE hU, rfl⟩
  · rintro ⟨d1, v2⟩ ⟨_, _⟩ ⟨⟨rfl, hU⟩, rfl⟩
    apply IG hs <;> assumption

theorem HZ (hs : cR k U cmp) (a1 : Int) (aA : List aC) (hU : ∀ x ∈ aA, U x) (i12 : Int) (j13 : Int) : OR (rS (rP (rL k U) (rP Eq Eq)) (rP (rL k U) Eq)) (jH cmp a1 aA i12 j13) (dU a1 (aA.map k) i12 j13) := by
  unfold jH dU
  try simp only [List.length_map, cD hs.d0, cS]
  exact IF hs _ hU _ _ _

theorem II (hs : cR k U cmp) (aA : List aC) (hU : ∀ x ∈ aA, U x) (a1 : Int) (i12 : Int) (j13 : Int) : OR (rP (rP Eq Eq) (rL k U)) (jG cmp aA a1 i12 j13) (nV (aA.map k) a1 i12 j13) := by
  unfold jG nV
  try simp only [List.length_map, cD hs.d0, cS]
  refine cP (rM (R := (rP (rL k U) (rP Eq Eq))) (Q := (rP (rL k U) Eq)) ?_ ?_) ?_
  · rintro ⟨d1, ⟨v2, v3⟩⟩ ⟨_, ⟨_, _⟩⟩ ⟨⟨rfl, hU⟩, ⟨rfl, rfl⟩⟩
    exact HZ hs _ d1 hU v2 v3
  · exact ⟨oE hU, ⟨rfl, rfl⟩⟩
  · rintro ⟨d1, v2⟩ ⟨_, _⟩ ⟨⟨rfl, hU⟩, rfl⟩
    apply IK hs <;> assumption

theorem HX (hs : cR k U cmp) (aA : List aC) (hU : ∀ x ∈ aA, U x) (a1 : Int) (i12 : Int) (j13 : Int) : OR (rP (rP Eq Eq) (rL k U)) (fS cmp aA a1 i12 j13) (jQ (aA.map k) a1 i12 j13) := by
  unfold fS jQ
  try simp only [List.length_map, cD hs.d0, cS]
  refine dN (fun h1 => ?_) (fun h2 => ?_)
  · refine bL fun h3 => ?_
    refine bL fun h4 => ?_
    refine bL fun h5 => ?_
    refine bL fun h6 => ?_
    exact cH (by first | rfl | exact ⟨rfl, rfl⟩ | (repeat' constructor) <;> first | rfl | assumption | exact cA hU (by assumption) (by assumption))
  · refine bL fun h7 => ?_
    refine bL fun h8 => ?_
    refine bL fun h9 => ?_
    refine bL fun h10 => ?_
    exact II hs _ (cA hU (by assumption) (by assumption)) _ _ _

theorem IC (hs : cR k U cmp) (a1 : Int) (i12 : Int) (aA : List aC) (hU : ∀ x ∈ aA, U x) (j13 : Int) : OR (rS (rP (rL k U) Eq) (rP (rL k U) Eq)) (jF cmp a1 i12 aA j13) (fY a1 i12 (aA.map k) j13) := by
  unfold jF fY
  try simp only [List.length_map, cD hs.d0, cS]
  refine bL fun h1 => ?_
  refine bL fun h2 => ?_
  refine cP (R := rC) (uD fun _ => mB hs (iA hU _) (iA hU _)) ?_
  intro x_ y_ h_
  obtain rfl := h_
  refine dN (fun h3 => ?_) (fun h4 => ?_)
  · exact cH (by first | rfl | exact ⟨rfl, rfl⟩ | (repeat' constructor) <;> first | rfl | assumption | exact cA hU (by assumption) (by assumption))
  · exact cH (by first | rfl | exact ⟨rfl, rfl⟩ | (repeat' constructor) <;> first | rfl | assumption | exact cA hU (by assumption) (by assumption))

theorem IB (hs : cR k U cmp) (aA : List aC) (hU : ∀ x ∈ aA, U x) (a1 : Int) (i12 : Int) (j13 : Int) : OR (rP (rP Eq Eq) (rL k U)) (jI cmp aA a1 i12 j13) (nR (aA.map k) a1 i12 j13) := by
  unfold jI nR
  try simp only [List.length_map, cD hs.d0, cS]
  refine cP (rM (R := (rP (rL k U) Eq)) (Q := (rP (rL k U) Eq)) ?_ ?_) ?_
  · rintro ⟨d1, v2⟩ ⟨_, _⟩ ⟨⟨rfl, hU⟩, rfl⟩
    exact IC hs _ _ d1 hU v2
  · exact ⟨oE hU, rfl⟩
  · rintro ⟨d1, v2⟩ ⟨_, _⟩ ⟨⟨rfl, hU⟩, rfl⟩
    apply HX hs <;> assumption

theorem IE (hs : cR k U cmp) (aA : List aC) (hU : ∀ x ∈ aA, U x) (a1 : Int) (i12 : Int) (j13 : Int) : OR (rP (rP Eq Eq) (rL k U)) (fX cmp aA a1 i12 j13) (nY (aA.map k) a1 i12 j13) := by
  unfold fX nY
  try simp only [List.length_map, cD hs.d0, cS]
  exact IB hs _ hU _ _ _

theorem GM (hs : cR k U cmp) (a1 : Int) (j13 : Int) (aA : List aC) (hU : ∀ x ∈ aA, U x) (i12 : Int) : OR (rS (rP (rL k U) Eq) (rP (rL k U) Eq)) (jC cmp a1 j13 aA i12) (fP a1 j13 (aA.map k) i12) := by
  unfold jC fP
  try simp only [List.length_map, cD hs.d0, cS]
  refine bL fun h1 => ?_
  refine bL fun h2 => ?_
  refine cP (R := rC) (uD fun _ => mB hs (iA hU _) (iA hU _)) ?_
  intro x_ y_ h_
  obtain rfl := h_
  refine dN (fun h3 => ?_) (fun h4 => ?_)
  · exact cH (by first | rfl | exact ⟨rfl, rfl⟩ | (repeat' constructor) <;> first | rfl | assumption | exact cA hU (by assumption) (by assumption))
  · exact cH (by first | rfl | exact ⟨rfl, rfl⟩ | (repeat' constructor) <;> first | rfl | assumption | exact cA hU (by assumption) (by assumption))

theorem HF (hs : cR k U cmp) (aA : List aC) (hU : ∀ x ∈ aA, U x) (a1 : Int) (i12 : Int) (j13 : Int) : OR (rP (rP Eq Eq) (rL k U)) (jA cmp aA a1 i12 j13) (iY (aA.map k) a1 i12 j13) := by
  unfold jA iY
  try simp only [List.length_map, cD hs.d0, cS]
  refine cP (rM (R := (rP (rL k U) Eq)) (Q := (rP (rL k U) Eq)) ?_ ?_) ?_
  · rintro ⟨d1, v2⟩ ⟨_, _⟩ ⟨⟨rfl, hU⟩, rfl⟩
    exact GM hs _ _ d1 hU v2
  · exact ⟨oE hU, rfl⟩
  · rintro ⟨d1, v2⟩ ⟨_, _⟩ ⟨⟨rfl, hU⟩, rfl⟩
    apply IE hs <;> assumption

theorem JY (hs : cR k U cmp) (aA : List aC) (hU : ∀ x ∈ aA, U x) (a1 : Int) (b2 : Int) (bX : Int) : OR (rP (rP Eq Eq) (rL k U)) (kE aA a1 b2 bX cmp) (kM (aA.map k) a1 b2 bX) := by
  unfold kE kM
  try simp only [List.length_map, cD hs.d0, cS]
  refine bL fun h1 => ?_
  refine bL fun h2 => ?_
  refine bL fun h3 => ?_
  refine bL fun h4 => ?_
  exact HF hs _ (cA hU (by assumption) (by assumption)) _ _ _

theorem BH (hs : cR k U cmp) {rec : List aC → Int → Int → Int → Option (List aC)} {rec2 : List Int → Int → Int → Int → Option (List Int)} (hrec : ∀ d a b l, (∀ x ∈ d, U x) → OR (rL k U) (rec d a b l) (rec2 (d.map k) a b l)) (aA : List aC) (hU : ∀ x ∈ aA, U x) (a1 : Int) (b2 : Int) (bJ : Int) (bH : Bool) (bA : Bool) (cX : Int) (fL : Int) : OR (rS (rP (rL k U) (rP Eq (rP Eq (rP Eq (rP Eq Eq))))) (rL k U)) (iH cmp rec aA a1 b2 bJ bH bA cX fL) (kX rec2 (aA.map k) a1 b2 bJ bH bA cX fL) := by
  unfold iH kX
  try simp only [List.length_map, cD hs.d0, cS]
  refine bL fun h1 => ?_
  refine bL fun h2 => ?_
  refine cP (R := rC) (uD fun _ => mB hs (iA hU _) (iA hU _)) ?_
  intro x_ y_ h_
  obtain rfl := h_
  refine dN (fun h3 => ?_) (fun h4 => ?_)
  · refine cP (EJ hs _ hU _ _ _) ?_
    rintro ⟨w51, w52⟩ ⟨_, _⟩ ⟨rfl, ⟨rfl, hU⟩⟩
    exact cH (by first | rfl | exact ⟨rfl, rfl⟩ | (repeat' constructor) <;> first | rfl | assumption | exact cA hU (by assumption) (by assumption))
  · refine cP (JY hs _ hU _ _ _) ?_
    rintro ⟨⟨w81, w82⟩, w83⟩ ⟨⟨_, _⟩, _⟩ ⟨⟨rfl, rfl⟩, ⟨rfl, hU⟩⟩
    refine bL fun h5 => ?_
    refine dN (fun h6 => ?_) (fun h7 => ?_)
    · refine cP (hrec _ _ _ _ hU) ?_
      rintro d_ _ ⟨rfl, hU⟩
      exact cH (by first | rfl | exact ⟨rfl, rfl⟩ | (repeat' constructor) <;> first | rfl | assumption | exact cA hU (by assumption) (by assumption))
    · refine cP (hrec _ _ _ _ hU) ?_
      rintro d_ _ ⟨rfl, hU⟩
      exact cH (by first | rfl | exact ⟨rfl, rfl⟩ | (repeat' constructor) <;> first | rfl | assumption | exact cA hU (by assumption) (by assumption))

theorem BK (hs : cR k U cmp) {rec : List aC → Int → Int → Int → Option (List aC)} {rec2 : List Int → Int → Int → Int → Option (List Int)} (hrec : ∀ d a b l, (∀ x ∈ d, U x) → OR (rL k U) (rec d a b l) (rec2 (d.map k) a b l)) (aA : List aC) (hU : ∀ x ∈ aA, U x) (a1 : Int) (b2 : Int) (bJ : Int) (bH : Bool) (bA : Bool) (cX : Int) (fL : Int) (CL : Int) : OR (rS (rP (rL k U) (rP Eq (rP Eq (rP Eq (rP Eq Eq))))) (rL k U)) (iE cmp rec aA a1 b2 bJ bH bA cX fL CL) (kV rec2 (aA.map k) a1 b2 bJ bH bA cX fL CL) := by
  unfold iE kV
  try simp only [List.length_map, cD hs.d0, cS]
  refine dN (fun h1 => ?_) (fun h2 => ?_)
  · refine cP (AF hs _ hU _ _) ?_
    rintro ⟨w21, w22⟩ ⟨_, _⟩ ⟨rfl, ⟨rfl, hU⟩⟩
    refine dN (fun h3 => ?_) (fun h4 => ?_)
    · exact cH (by first | rfl | exact ⟨rfl, rfl⟩ | (repeat' constructor) <;> first | rfl | assumption | exact cA hU (by assumption) (by assumption))
    · exact BH hs hrec _ hU _ _ _ _ _ _ _
  · exact BH hs hrec _ hU _ _ _ _ _ _ _

theorem BP (hs : cR k U cmp) {rec : List aC → Int → Int → Int → Option (List aC)} {rec2 : List Int → Int → Int → Int → Option (List Int)} (hrec : ∀ d a b l, (∀ x ∈ d, U x) → OR (rL k U) (rec d a b l) (rec2 (d.map k) a b l)) (aA : List aC) (hU : ∀ x ∈ aA, U x) (a1 : Int) (b2 : Int) (bJ : Int) (bH : Bool) (bA : Bool) (cX : Int) : OR (rS (rP (rL k U) (rP Eq (rP Eq (rP Eq (rP Eq Eq))))) (rL k U)) (iD cmp rec aA a1 b2 bJ bH bA cX) (kW rec2 (aA.map k) a1 b2 bJ bH bA cX) := by
  unfold iD kW
  try simp only [List.length_map, cD hs.d0, cS]
  refine cP (GR hs _ hU _ _) ?_
  rintro ⟨w1, w2⟩ ⟨_, _⟩ ⟨rfl, rfl⟩
  refine dN (fun h1 => ?_) (fun h2 => ?_)
  · refine cP (FU hs _ hU _ _) ?_
    rintro w31 _ ⟨rfl, hU⟩
    exact BK hs hrec _ hU _ _ _ _ _ _ _ _
  · exact BK hs hrec _ hU _ _ _ _ _ _ _ _

theorem LA (hs : cR k U cmp) {rec : List aC → Int → Int → Int → Option (List aC)} {rec2 : List Int → Int → Int → Int → Option (List Int)} (hrec : ∀ d a b l, (∀ x ∈ d, U x) → OR (rL k U) (rec d a b l) (rec2 (d.map k) a b l)) (aA : List aC) (hU : ∀ x ∈ aA, U x) (a1 : Int) (b2 : Int) (bJ : Int) (bH : Bool) (bA : Bool) : OR (rS (rP (rL k U) (rP Eq (rP Eq (rP Eq (rP Eq Eq))))) (rL k U)) (kS cmp rec aA a1 b2 bJ bH bA) (fM rec2 (aA.map k) a1 b2 bJ bH bA) := by
  unfold kS fM
  try simp only [List.length_map, cD hs.d0, cS]
  refine dN (fun h1 => ?_) (fun h2 => ?_)
  · refine cP (EZ hs _ hU _ _) ?_
    rintro w21 _ ⟨rfl, hU⟩
    exact cH (by first | rfl | exact ⟨rfl, rfl⟩ | (repeat' constructor) <;> first | rfl | assumption | exact cA hU (by assumption) (by assumption))
  · refine dN (fun h3 => ?_) (fun h4 => ?_)
    · refine cP (LJ hs _ hU _ _) ?_
      rintro w71 _ ⟨rfl, hU⟩
      exact cH (by first | rfl | exact ⟨rfl, rfl⟩ | (repeat' constructor) <;> first | rfl | assumption | exact cA hU (by assumption) (by assumption))
    · refine dN (fun h5 => ?_) (fun h6 => ?_)
      · refine cP (FE hs _ hU _ _) ?_
        rintro w121 _ ⟨rfl, hU⟩
        exact BP hs hrec _ hU _ _ _ _ _ _
      · exact BP hs hrec _ hU _ _ _ _ _ _

theorem LG (hs : cR k U cmp) {rec : List aC → Int → Int → Int → Option (List aC)} {rec2 : List Int → Int → Int → Int → Option (List Int)} (hrec : ∀ d a b l, (∀ x ∈ d, U x) → OR (rL k U) (rec d a b l) (rec2 (d.map k) a b l)) (aA : List aC) (hU : ∀ x ∈ aA, U x) (a1 : Int) (b2 : Int) (bJ : Int) (bH : Bool) (bA : Bool) : OR (rL k U) (kQ cmp rec aA a1 b2 bJ bH bA) (pE rec2 (aA.map k) a1 b2 bJ bH bA) := by
  unfold kQ pE
  try simp only [List.length_map, cD hs.d0, cS]
  refine cP (rM (R := (rP (rL k U) (rP Eq (rP Eq (rP Eq (rP Eq Eq)))))) (Q := (rL k U)) ?_ ?_) ?_
  · rintro ⟨d1, ⟨v2, ⟨v3, ⟨v4, ⟨v5, v6⟩⟩⟩⟩⟩ ⟨_, ⟨_, ⟨_, ⟨_, ⟨_, _⟩⟩⟩⟩⟩ ⟨⟨rfl, hU⟩, ⟨rfl, ⟨rfl, ⟨rfl, ⟨rfl, rfl⟩⟩⟩⟩⟩
    exact LA hs hrec  d1 hU v2 v3 v4 v5 v6
  · exact ⟨oE hU, ⟨rfl, ⟨rfl, ⟨rfl, ⟨rfl, rfl⟩⟩⟩⟩⟩
  · exact fun x y h => h

theorem IL (hs : cR k U cmp) {rec : List aC → Int → Int → Int → Option (List aC)} {rec2 : List Int → Int → Int → Int → Option (List Int)} (hrec : ∀ d a b l, (∀ x ∈ d, U x) → OR (rL k U) (rec d a b l) (rec2 (d.map k) a b l)) (aA : List aC) (hU : ∀ x ∈ aA, U x) (a1 : Int) (b2 : Int) (bJ : Int) : OR (rL k U) (jL cmp rec aA a1 b2 bJ) (jN rec2 (aA.map k) a1 b2 bJ) := by
  unfold jL jN
  try simp only [List.length_map, cD hs.d0, cS]
  exact LG hs hrec _ hU _ _ _ _ _

theorem BI (hs : cR k U cmp) : ∀ n d a b l, (∀ x ∈ d, U x) → OR (rL k U) (iC cmp n d a b l) (mP n (d.map k) a b l)
  | 0, _, _, _, _, _ => trivial
  | n + 1, d, a, b, l, hU => IL hs (BI hs n) d hU a b l

theorem SB (hs : cR k U cmp) {xs zs : List aC} (hl : xs.length < 2305843009213693951) (hU : ∀ x ∈ xs, U x) (hi : ∀ x y, U x → U y → k x = k y → x = y)
    (hp : zs.Perm xs) (ho : (zs.map k).Pairwise (· ≤ ·)) : fU xs cmp = some zs := by
  have hz : ∀ x ∈ zs, U x := fun x hx => hU x (hp.mem_iff.1 hx)
  have key : ∀ L : Nat, L ≤ 100 → ∀ n, iC cmp n xs 0 ((List.length xs : Nat) : Int) (L : Int) = none ∧ n < xs.length + 1 ∨ iC cmp n xs 0 ((List.length xs : Nat) : Int) (L : Int) = some zs := by
    intro L hL n
    have hv : CZ 0 (xs.map k).length L (xs.map k) := ⟨Nat.zero_le _, Nat.le_refl _, by simpa using hl, .inl rfl, hL⟩
    have h1 := BI hs n xs 0 ((List.length xs : Nat) : Int) (L : Int) hU
    have h2 := aC0 n (xs.map k) 0 (xs.map k).length L hv
    rw [List.length_map] at h2
    rcases aCc h1 with ⟨e1, e2⟩ | ⟨x, y, e1, e2, rfl, hx⟩
    · rcases h2 with ⟨_, h⟩ | ⟨d', h, _⟩
      · exact .inl ⟨e1, by omega⟩
      · exact absurd (e2.symm.trans h) (by simp)
    · right
      rw [e1]
      congr 1
      rcases h2 with ⟨h, _⟩ | ⟨d', h, g⟩
      · exact absurd (e2.symm.trans h) (by simp)
      · have hd : d' = x.map k := by have := e2.symm.trans h; simpa using this.symm
        subst hd
        have hs1 : (x.map k).Pairwise (· ≤ ·) := by
          refine List.pairwise_iff_getElem.2 fun i j hi hj hij => ?_
          have hlen := g.1.len
          have := g.2 i j (Nat.zero_le _) (by omega) (by rw [hlen] at hj; simpa using hj)
          simp only [gN, List.getD_eq_getElem?_getD, List.getElem?_eq_getElem hi, List.getElem?_eq_getElem hj] at this
          exact this
        have hpp : (x.map k).Perm (zs.map k) := g.1.perm.trans (hp.map k).symm
        have he := hpp.eq_of_pairwise (le := (· ≤ ·)) (fun a b _ _ h1 h2 => Int.le_antisymm h1 h2) hs1 ho
        clear hpp hs1 g h e1 e2 h1 ho hp hU
        induction x generalizing zs with
        | nil => cases zs with
          | nil => rfl
          | cons _ _ => simp at he
        | cons a x ih => cases zs with
          | nil => simp at he
          | cons b zs =>
            simp only [List.map_cons, List.cons.injEq] at he
            rw [hi a b (hx a List.mem_cons_self) (hz b List.mem_cons_self) he.1, ih (fun y hy => hz y (List.mem_cons_of_mem _ hy)) (fun y hy => hx y (List.mem_cons_of_mem _ hy)) he.2]
  unfold fU pZ
  have hL : ∃ L : Nat, oA (IntKind.u64.wrap ((List.length xs : Nat) : Int)) = some (L : Int) ∧ L ≤ 100 := by
    rw [NG (by omega) (by omega)]
    by_cases h0 : xs.length = 0
    · rw [h0]; exact ⟨0, aFg, by omega⟩
    · obtain ⟨k, e, h1, _⟩ := aDj (x := ((List.length xs : Nat) : Int)) (by omega) (by omega)
      exact ⟨k + 1, by rw [e]; rfl, by omega⟩
  obtain ⟨L, eL, hL⟩ := hL
  rw [eL]
  simp only [Option.bind_some]
  rw [aGd (r := zs)]
  · rfl
  · rcases key L hL (xs.length + 1) with ⟨_, h⟩ | h
    · omega
    · exact ⟨_, h⟩
  · intro n r' h
    rcases key L hL n with ⟨h', _⟩ | h'
    · rw [h] at h'; cases h'
    · rw [h] at h'; exact (Option.some.inj h')

end
end Go.Abs
namespace Go.Abs
open Go
abbrev gsB (m : List (ByteArray × aC)) : List (List aE × List aD) := m.map fun p => (p.2.row, p.2.jumps)

structure mC (b : bY) (T : List aM) : Prop where
  key : ∀ p ∈ b.cells, p.1 = keyOf p.2.row
  perm : (gsB b.cells).Perm (groups T)
  tab : qM T = true
  num : ∀ e ∈ T, ∀ v ∈ e.Row, tY v.Num
  edges : b.edges = T.length

theorem ZG (a b : List aE) : oS a b < 0 ∨ a = b ∨ oS b a < 0 := by
  rcases Int.lt_trichotomy (oS a b) 0 with h | h | h
  · exact .inl h
  · exact .inr (.inl ((rO.eq a b).1 h))
  · exact .inr (.inr ((rO.anti b a).2 h))

theorem LY {gs : List (List aE × List aD)} (h : uH gs) : (gs.map (·.1)).Nodup := by
  rw [List.Nodup, List.pairwise_map]
  exact h.imp fun {a b} hab e => by
    rw [ltG, e] at hab
    exact uZ hab

theorem mC.may {b : bY} {T : List aM} (h : mC b T) : nJ T = true := (oZ.1 h.tab).1

theorem mC.srt {b : bY} {T : List aM} (h : mC b T) : uH (groups T) := (lT h.may).2.2

theorem mC.mem {b : bY} {T : List aM} (h : mC b T) {p : ByteArray × aC} (hp : p ∈ b.cells) : (p.2.row, p.2.jumps) ∈ groups T := h.perm.mem_iff.1 (List.mem_map.2 ⟨p, hp, rfl⟩)

theorem mC.rows {b : bY} {T : List aM} (h : mC b T) {g : List aE × List aD} (hg : g ∈ groups T) : rOk g.1 ∧ eZ g.2 = true ∧ g.2 ≠ [] := by
  obtain ⟨h1, h2⟩ := (lT h.may).2.1 g hg
  obtain ⟨h3, e, he, h4⟩ := MM hg
  exact ⟨⟨h1, fun v hv => h.num e he v (h4 ▸ hv)⟩, h2, h3⟩

theorem mC.cell {b : bY} {T : List aM} (h : mC b T) {p : ByteArray × aC} (hp : p ∈ b.cells) : rOk p.2.row ∧ eZ p.2.jumps = true ∧ p.2.jumps ≠ [] := h.rows (h.mem hp)

theorem mC.WR {b : bY} {T : List aM} (h : mC b T) : (b.cells.map fun p => p.2.row).Nodup := by
  have h1 : (b.cells.map fun p => p.2.row).Perm ((groups T).map (·.1)) := by
    have := h.perm.map (fun g : List aE × List aD => g.1)
    rw [List.map_map] at this
    exact this
  exact h1.nodup_iff.2 (LY h.srt)

theorem mC.IQ {b : bY} {T : List aM} (h : mC b T) : (b.cells.map (·.1)).Nodup := by
  have e : b.cells.map (·.1) = b.cells.map fun p => keyOf p.2.row := List.map_congr_left fun p hp => h.key p hp
  rw [e]
  have h1 := h.WR
  rw [List.Nodup, List.pairwise_map] at h1 ⊢
  refine List.Pairwise.imp_of_mem ?_ h1
  intro p q hp hq hne he
  exact hne (JG (h.cell hp).1.1 (h.cell hq).1.1 he)

theorem mC.len {b : bY} {T : List aM} (h : mC b T) : b.cells.length ≤ 4096 := by
  have h1 := h.perm.length_eq
  rw [List.length_map] at h1
  have h2 := MO T
  have h3 := (lT h.may).1
  omega

theorem mC.was {b : bY} {T : List aM} (h : mC b T) {r : List aE} (hr : oD r = true) : lC b.cells (keyOf r) = look (groups T) r := by
  unfold lC
  by_cases hx : ∃ p ∈ b.cells, p.2.row = r
  · obtain ⟨p, hp, rfl⟩ := hx
    obtain ⟨j, hj⟩ := List.getElem?_of_mem hp
    have e : b.cells[j]? = some (keyOf p.2.row, p.2) := by rw [hj, ← h.key p hp]
    rw [EC h.IQ e]
    exact (uA h.srt (h.mem hp)).symm
  · have h1 : ∀ p ∈ b.cells, p.1 ≠ keyOf r := by
      intro p hp e
      rw [h.key p hp] at e
      exact hx ⟨p, hp, JG (h.cell hp).1.1 hr e⟩
    rw [EB h1, uT]
    · rfl
    · intro g hg e
      obtain ⟨p, hp, e'⟩ := List.mem_map.1 (h.perm.mem_iff.2 hg)
      refine hx ⟨p, hp, ?_⟩
      rw [← e, ← e']

theorem filter_lt {α : Type} {p q : α → Bool} : ∀ {l : List α} {a : α}, (∀ x ∈ l, p x = true → q x = true) → a ∈ l → p a = false → q a = true → (l.filter p).length < (l.filter q).length
  | [], _, _, ha, _, _ => by cases ha
  | x :: l, a, h, ha, hp, hq => by
    have le : (l.filter p).length ≤ (l.filter q).length := by
      have : ∀ (m : List α), (∀ x ∈ m, p x = true → q x = true) → (m.filter p).length ≤ (m.filter q).length := by
        intro m
        induction m with
        | nil => intro _; exact Nat.le_refl _
        | cons y m ih =>
          intro hm
          have := ih fun z hz => hm z (List.mem_cons_of_mem _ hz)
          rw [List.filter_cons, List.filter_cons]
          split
          · rw [if_pos (hm y (List.mem_cons_self ..) (by assumption))]; simpa using this
          · split
            · rw [List.length_cons]; omega
            · exact this
      exact this l fun z hz => h z (List.mem_cons_of_mem _ hz)
    rcases List.mem_cons.1 ha with rfl | ha
    · rw [List.filter_cons, List.filter_cons, hp, hq]
      simp only [Bool.false_eq_true, if_false, if_true, List.length_cons]; omega
    · have := filter_lt (fun z hz => h z (List.mem_cons_of_mem _ hz)) ha hp hq
      rw [List.filter_cons, List.filter_cons]
      split
      · rw [if_pos (h x (List.mem_cons_self ..) (by assumption))]; simpa using this
      · split
        · rw [List.length_cons]; omega
        · exact this

def rkR (L : List (List aE)) (r : List aE) : Int := (((L.filter fun s => decide (oS s r < 0)).length : Nat) : Int)

theorem HN {L : List (List aE)} {a b : List aE} (ha : a ∈ L) (h : oS a b < 0) : rkR L a < rkR L b := by
  unfold rkR
  have := filter_lt (p := fun s => decide (oS s a < 0)) (q := fun s => decide (oS s b < 0)) (l := L) (a := a) (fun s _ hs => by
    simp only [decide_eq_true_eq] at hs ⊢
    exact rO.trans _ _ _ hs h) ha (by simpa using uZ) (by simpa using h)
  omega

theorem aFS {L : List (List aE)} {a b : List aE} (ha : a ∈ L) (hb : b ∈ L) : oS a b < 0 ↔ rkR L a < rkR L b := by
  refine ⟨HN ha, fun h => ?_⟩
  rcases ZG a b with h1 | h1 | h1
  · exact h1
  · subst h1; omega
  · have := HN hb h1; omega

theorem aGn {L : List (List aE)} {a b : List aE} (ha : a ∈ L) (hb : b ∈ L) (h : rkR L a = rkR L b) : a = b := by
  rcases ZG a b with h1 | h1 | h1
  · have := HN ha h1; omega
  · exact h1
  · have := HN hb h1; omega

theorem aF3 (L : List (List aE)) : rkR L [] = 0 := by
  unfold rkR
  have : (L.filter fun s => decide (oS s [] < 0)) = [] := by
    rw [List.filter_eq_nil_iff]
    intro s _
    cases s <;> simp [oS, oY]
  rw [this]; rfl

abbrev mkC (g : List aE × List aD) : aC := ⟨g.1, g.2⟩

theorem aFz {x y : aC} (hx : oD x.row = true) (hy : oD y.row = true) : pJ x y = some (oS x.row y.row) := by
  unfold pJ
  rw [WA, hx, hy]; rfl

theorem aHw {b : bY} {T : List aM} (h : mC b T) {q : List (ByteArray × aC)} (hq : q.Perm b.cells) : fU (q.map (·.2)) (fun x y => pJ x y) = some ((groups T).map mkC) := by
  have hp : ((groups T).map mkC).Perm (q.map (·.2)) := by
    have h1 := (h.perm.symm.trans ((hq.map fun p => (p.2.row, p.2.jumps)).symm)).map mkC
    rw [List.map_map] at h1
    exact h1
  have hmem : ∀ c ∈ (groups T).map mkC, (c.row, c.jumps) ∈ groups T := by
    intro c hc
    obtain ⟨g, hg, rfl⟩ := List.mem_map.1 hc
    exact hg
  have hrow : ∀ c, (c ∈ (groups T).map mkC ∨ c = default) → c.row ∈ [] :: (groups T).map (·.1) ∧ oD c.row = true := by
    rintro c (hc | rfl)
    · exact ⟨List.mem_cons_of_mem _ (List.mem_map.2 ⟨_, hmem c hc, rfl⟩), (h.rows (hmem c hc)).1.1⟩
    · exact ⟨List.mem_cons_self .., rfl⟩
  refine SB (k := fun c => rkR ([] :: (groups T).map (·.1)) c.row) (U := fun c => c ∈ (groups T).map mkC) ⟨aF3 _, ?_⟩ ?_ ?_ ?_ hp ?_
  · intro x y hx hy
    obtain ⟨x1, x2⟩ := hrow x hx
    obtain ⟨y1, y2⟩ := hrow y hy
    exact ⟨_, aFz x2 y2, aFS x1 y1⟩
  · have := h.len
    rw [List.length_map, hq.length_eq]; omega
  · exact fun x hx => hp.mem_iff.2 hx
  · intro x y hx hy e
    have e1 := aGn (hrow x (.inl hx)).1 (hrow y (.inl hy)).1 e
    have j1 := uA h.srt (hmem x hx)
    have j2 := uA h.srt (hmem y hy)
    obtain ⟨xr, xj⟩ := x
    obtain ⟨yr, yj⟩ := y
    simp only at e1 j1 j2
    subst e1
    rw [← j1, ← j2]
  · rw [List.map_map, List.pairwise_map]
    refine List.Pairwise.imp_of_mem ?_ h.srt
    intro a c ha hc hlt
    exact Int.le_of_lt (HN (List.mem_cons_of_mem _ (List.mem_map.2 ⟨a, ha, rfl⟩)) hlt)

theorem aDO : ∀ (q : List (ByteArray × aC)) (s : List aC), s.length + q.length ≤ 100000 → mS sF s q = some (s ++ q.map (·.2))
  | [], s, _ => by simp [mS]
  | p :: q, s, h => by
    rw [List.length_cons] at h
    have e : sF s p = some (s ++ [p.2]) := by
      unfold sF
      rw [aQ (by simp; omega)]
    show (sF s p).bind (fun s' => mS sF s' q) = _
    rw [e]
    simp only [Option.bind_some]
    rw [aDO q _ (by simp; omega)]
    simp

theorem RZ {b : bY} {T : List aM} (h : mC b T) : uB b = some T := by
  have hl := h.len
  unfold uB
  rw [aQ (by simp only [lN]; omega)]
  refine EM fun q hq => ?_
  rw [aDO q [] (by rw [hq.length_eq]; simp; omega)]
  simp only [Option.bind_some, List.nil_append, KH]
  rw [aHw h hq]
  simp only [Option.bind_some]
  have hT := (lT h.may).1
  rw [DJ (l := (groups T).map mkC) (st := List aM) (fun s i => (s, i)) (fun s r => s ++ r.flatMap fun c => nC c.row c.jumps) (fun s r => s.length + (r.flatMap fun c => nC c.row c.jumps).length ≤ 4096 ∧ ∀ c ∈ r, oD c.row = true ∧ eZ c.jumps = true) [] ?_ ?_ ?_]
  · rw [List.nil_append, List.flatMap_map]
    exact congrArg some (rE T)
  · intro i a r s hi hinv
    obtain ⟨h1, h2⟩ := hinv
    have hlt := (List.getElem?_eq_some_iff.1 hi).1
    obtain ⟨ha, hb⟩ := h2 a (List.mem_cons_self ..)
    rw [List.flatMap_cons, List.length_append] at h1
    have h8 := (DC ha).1
    have hgl : ((groups T).map mkC).length ≤ 4096 := by rw [List.length_map]; have := MO T; omega
    refine .inl ⟨s ++ nC a.row a.jumps, ?_, ⟨by rw [List.length_append]; omega, fun c hc => h2 c (List.mem_cons_of_mem _ hc)⟩, by simp⟩
    simp only [AI, lN, gD]
    rw [show decide ((i : Int) < ((((groups T).map mkC).length : Nat) : Int)) = true from by simp only [decide_eq_true_eq]; omega]
    simp only [cond_true]
    rw [aQ (by omega), Int.toNat_natCast, List.getD_eq_getElem?_getD, hi, Option.getD_some, aCU (by omega)]
    simp only [Option.bind_some, aAD, ha, hb, Bool.and_self, if_true]
    rw [aQ (by omega), wR, eH (by omega) (by omega)]
    rfl
  · intro s _
    simp only [AI, lN]
    rw [show decide (((((groups T).map mkC).length : Nat) : Int) < ((((groups T).map mkC).length : Nat) : Int)) = false from by simp]
    simp
  · refine ⟨?_, fun c hc => ?_⟩
    · rw [List.flatMap_map]
      have : (List.flatMap (fun a => nC (mkC a).row (mkC a).jumps) (groups T)) = T := rE T
      rw [this]; simpa using hT
    · obtain ⟨g, hg, rfl⟩ := List.mem_map.1 hc
      obtain ⟨h1, h2, _⟩ := h.rows hg
      exact ⟨h1.1, h2⟩

theorem aDs : mC ⟨[], 0, -1⟩ [] where
  key := by simp
  perm := .nil
  tab := by decide +kernel
  num := by simp
  edges := rfl

end Go.Abs
namespace Go.Abs
open Go
theorem RC {a b : List Nat} (h : a.Perm b) : a.sum = b.sum := by
  induction h with
  | nil => rfl
  | cons x _ ih => simp [ih]
  | swap x y l => simp; omega
  | trans _ _ i1 i2 => exact i1.trans i2

def sE (m : List (ByteArray × aC)) (c : aC) : List (ByteArray × aC) := if c.jumps = [] then qA m (keyOf c.row) else nI m (keyOf c.row) c

def qI (m : List (ByteArray × aC)) : Nat := (m.map fun p => p.2.jumps.length).sum

structure Cells (m : List (ByteArray × aC)) (L : List aE → List aD) : Prop where
  key : ∀ p ∈ m, p.1 = keyOf p.2.row ∧ rOk p.2.row ∧ p.2.jumps ≠ [] ∧ L p.2.row = p.2.jumps
  nd : (m.map (·.1)).Nodup
  no : ∀ r, oD r = true → L r ≠ [] → ∃ p ∈ m, p.2.row = r

theorem QO {m : List (ByteArray × aC)} {k : ByteArray} {p : ByteArray × aC} : p ∈ qA m k ↔ p ∈ m ∧ p.1 ≠ k := by
  unfold qA
  rw [List.mem_filter]
  simp

theorem WC {k : ByteArray} {v : aC} : ∀ {m : List (ByteArray × aC)} {x : ByteArray}, x ∈ (nI m k v).map (·.1) ↔ x = k ∨ x ∈ m.map (·.1)
  | [], x => by simp [nI]
  | p :: m, x => by
    unfold nI
    split
    · rename_i e
      simp only [List.map_cons, List.mem_cons, e]
      constructor
      · rintro (h | h)
        · exact .inl h
        · exact .inr (.inr h)
      · rintro (h | h | h)
        · exact .inl h
        · exact .inl h
        · exact .inr h
    · simp only [List.map_cons, List.mem_cons]
      rw [WC]
      constructor
      · rintro (h | h | h)
        · exact .inr (.inl h)
        · exact .inl h
        · exact .inr (.inr h)
      · rintro (h | h | h)
        · exact .inr (.inl h)
        · exact .inl h
        · exact .inr (.inr h)

theorem aBM {k : ByteArray} {v : aC} : ∀ {m : List (ByteArray × aC)}, (m.map (·.1)).Nodup → ((nI m k v).map (·.1)).Nodup
  | [], _ => by simp [nI]
  | p :: m, h => by
    rw [List.map_cons, List.nodup_cons] at h
    unfold nI
    split
    · rename_i e
      rw [List.map_cons, List.nodup_cons]
      exact ⟨e ▸ h.1, h.2⟩
    · rename_i e
      rw [List.map_cons, List.nodup_cons]
      refine ⟨fun hm => ?_, aBM h.2⟩
      rcases WC.1 hm with h1 | h1
      · exact e h1
      · exact h.1 h1

theorem HA {k : ByteArray} {v : aC} : ∀ {m : List (ByteArray × aC)} {p : ByteArray × aC}, (m.map (·.1)).Nodup → (p ∈ nI m k v ↔ p = (k, v) ∨ (p ∈ m ∧ p.1 ≠ k))
  | [], p, _ => by simp [nI]
  | q :: m, p, h => by
    rw [List.map_cons, List.nodup_cons] at h
    unfold nI
    split
    · rename_i e
      simp only [List.mem_cons]
      constructor
      · rintro (h1 | h1)
        · exact .inl h1
        · refine .inr ⟨.inr h1, fun e' => h.1 ?_⟩
          rw [e, ← e']; exact List.mem_map_of_mem h1
      · rintro (h1 | ⟨h1 | h1, h2⟩)
        · exact .inl h1
        · subst h1; exact absurd e h2
        · exact .inr h1
    · rename_i e
      simp only [List.mem_cons]
      rw [HA h.2]
      constructor
      · rintro (h1 | h1 | ⟨h1, h2⟩)
        · subst h1; exact .inr ⟨.inl rfl, e⟩
        · exact .inl h1
        · exact .inr ⟨.inr h1, h2⟩
      · rintro (h1 | ⟨h1 | h1, h2⟩)
        · exact .inr (.inl h1)
        · exact .inl h1
        · exact .inr (.inr ⟨h1, h2⟩)

theorem YP (p : ByteArray × aC) (m : List (ByteArray × aC)) (k : ByteArray) : lC (p :: m) k = if p.1 = k then p.2.jumps else lC m k := by
  unfold lC
  rw [vM]
  split <;> rfl

theorem PI (c : aC) : ∀ {m : List (ByteArray × aC)}, (m.map (·.1)).Nodup → qI (sE m c) + (lC m (keyOf c.row)).length = qI m + c.jumps.length
  | [], _ => by
    have e : lC [] (keyOf c.row) = [] := rfl
    rw [e]
    unfold sE
    split
    · rename_i h; simp [qA, qI, h]
    · simp [nI, qI]
  | p :: m, h => by
    rw [List.map_cons, List.nodup_cons] at h
    have ih := PI c h.2
    rw [YP]
    by_cases e : p.1 = keyOf c.row
    · rw [if_pos e]
      unfold sE
      split
      · rename_i hj
        have : qA (p :: m) (keyOf c.row) = m := by
          unfold qA
          rw [List.filter_cons, if_neg (by simp [e])]
          refine List.filter_eq_self.2 fun q hq => ?_
          have : q.1 ≠ keyOf c.row := fun e' => h.1 (by rw [e, ← e']; exact List.mem_map_of_mem hq)
          simpa using this
        rw [this, hj]
        simp [qI]; omega
      · rw [nI, if_pos e]
        simp [qI]; omega
    · rw [if_neg e]
      have hp : sE (p :: m) c = p :: sE m c := by
        unfold sE
        split
        · unfold qA
          rw [List.filter_cons, if_pos (by simpa using e)]
        · rw [nI, if_neg e]
      rw [hp]
      have : ∀ x : List (ByteArray × aC), qI (p :: x) = p.2.jumps.length + qI x := fun x => by simp [qI]
      rw [this, this]; omega

theorem aDf (c : aC) {m : List (ByteArray × aC)} (h : (m.map (·.1)).Nodup) : ((sE m c).map (·.1)).Nodup := by
  unfold sE
  split
  · unfold qA
    exact h.sublist (List.filter_sublist.map _)
  · exact aBM h

abbrev yX (L : List aE → List aD) (c : aC) : List aE → List aD := fun r => if r = c.row then c.jumps else L r

theorem aD0 {m : List (ByteArray × aC)} {L : List aE → List aD} (h : Cells m L) {c : aC} (hc : rOk c.row) : Cells (sE m c) (yX L c) := by
  have hne : ∀ p ∈ m, p.1 ≠ keyOf c.row → p.2.row ≠ c.row := fun p hp e e' => e (by rw [(h.key p hp).1, e'])
  have hne' : ∀ p ∈ m, p.2.row ≠ c.row → p.1 ≠ keyOf c.row := fun p hp e e' => e (JG (h.key p hp).2.1.1 hc.1 ((h.key p hp).1 ▸ e'))
  refine ⟨fun p hp => ?_, aDf c h.nd, fun r hr hL => ?_⟩
  · unfold sE at hp
    split at hp
    · obtain ⟨h1, h2⟩ := QO.1 hp
      obtain ⟨k1, k2, k3, k4⟩ := h.key p h1
      exact ⟨k1, k2, k3, by rw [yX, if_neg (hne p h1 h2)]; exact k4⟩
    · rcases (HA h.nd).1 hp with rfl | ⟨h1, h2⟩
      · rename_i hj
        exact ⟨rfl, hc, hj, by rw [yX, if_pos rfl]⟩
      · obtain ⟨k1, k2, k3, k4⟩ := h.key p h1
        exact ⟨k1, k2, k3, by rw [yX, if_neg (hne p h1 h2)]; exact k4⟩
  · by_cases e : r = c.row
    · rw [yX, if_pos e] at hL
      unfold sE
      rw [if_neg hL]
      exact ⟨_, (HA h.nd).2 (.inl rfl), e.symm⟩
    · rw [yX, if_neg e] at hL
      obtain ⟨p, hp, hpr⟩ := h.no r hr hL
      have hk := hne' p hp (by rw [hpr]; exact e)
      refine ⟨p, ?_, hpr⟩
      unfold sE
      split
      · exact QO.2 ⟨hp, hk⟩
      · exact (HA h.nd).2 (.inr ⟨hp, hk⟩)

theorem Cells.was {m : List (ByteArray × aC)} {L : List aE → List aD} (h : Cells m L) {r : List aE} (hr : oD r = true) : lC m (keyOf r) = L r := by
  unfold lC
  by_cases hx : ∃ p ∈ m, p.2.row = r
  · obtain ⟨p, hp, rfl⟩ := hx
    obtain ⟨j, hj⟩ := List.getElem?_of_mem hp
    have e : m[j]? = some (keyOf p.2.row, p.2) := by rw [hj, ← (h.key p hp).1]
    rw [EC h.nd e]
    exact (h.key p hp).2.2.2.symm
  · have h1 : ∀ p ∈ m, p.1 ≠ keyOf r := by
      intro p hp e
      rw [(h.key p hp).1] at e
      exact hx ⟨p, hp, JG (h.key p hp).2.1.1 hr e⟩
    rw [EB h1]
    cases hL : L r with
    | nil => rfl
    | cons j f => exact absurd (h.no r hr (by rw [hL]; simp)) hx

def wH (b : bY) (c : aC) : bY := ⟨sE b.cells c, ((qI (sE b.cells c) : Nat) : Int), b.mark⟩

theorem aFQ {b : bY} {c : aC} (hc : rOk c.row) (hnd : (b.cells.map (·.1)).Nodup) (he : b.edges = ((qI b.cells : Nat) : Int)) (hs : qI b.cells ≤ 1000000000) (hj : c.jumps.length ≤ 1024) : EF b c = some (wH b c) := by
  unfold EF
  rw [WV hc]
  simp only [Option.bind_some]
  have h1 := PI c hnd
  have hw : (lC b.cells (keyOf c.row)).length ≤ qI b.cells := by
    clear h1 hj hs he hc
    generalize b.cells = m at *
    induction m with
    | nil => exact Nat.zero_le _
    | cons p m ih =>
      rw [YP]
      have := ih (List.nodup_cons.1 hnd).2
      have e : qI (p :: m) = p.2.jumps.length + qI m := by simp [qI]
      split <;> omega
  have hsum : sL b c (keyOf c.row) = ((qI (sE b.cells c) : Nat) : Int) := by
    unfold sL
    simp only [lN, wR]
    rw [eH (n := (c.jumps.length : Int) - _) (by omega) (by omega), eH (by omega) (by omega)]
    omega
  rw [hsum]
  unfold wH sE
  by_cases hz : c.jumps = []
  · rw [show decide ((lN c.jumps) = 0) = true from by rw [hz]; rfl, if_pos hz]; rfl
  · rw [show decide ((lN c.jumps) = 0) = false from by
      simp only [lN, decide_eq_false_iff_not]
      have : c.jumps.length ≠ 0 := fun e => hz (List.length_eq_zero_iff.1 e)
      omega, if_neg hz]; rfl

structure vW (b : bY) (L : List aE → List aD) : Prop where
  cells : Cells b.cells L
  sum : b.edges = ((qI b.cells : Nat) : Int)

theorem QL {b : bY} {L : List aE → List aD} (h : vW b L) {c : aC} (hc : rOk c.row) : vW (wH b c) (yX L c) := ⟨aD0 h.cells hc, rfl⟩

theorem aGe {b : bY} {c : aC} (hnd : (b.cells.map (·.1)).Nodup) : qI (wH b c).cells ≤ qI b.cells + c.jumps.length := by
  have := PI c hnd
  show qI (sE b.cells c) ≤ _
  omega

theorem aBR {tu : List aC} {b : bY} {L : List aE → List aD} (h : vW b L) (hs : qI b.cells ≤ 4096) (hl : tu.length ≤ 100000) (htu : ∀ c ∈ tu, rOk c.row ∧ c.jumps.length ≤ 1024) :
    lp (fun s => nG tu (lN tu) s.1 s.2) (b, (0 : Int)) = some (tu.foldl wH b) ∧ vW (tu.foldl wH b) (tu.foldl yX L) ∧ (tu.foldl wH b).mark = b.mark := by
  refine ⟨?_, ?_, ?_⟩
  · rw [DJ (l := tu) (st := bY) (fun s i => (s, i)) (fun s r => r.foldl wH s) (fun s r => (∃ L, vW s L) ∧ qI s.cells + 1024 * r.length ≤ 1000000000 ∧ ∀ c ∈ r, rOk c.row ∧ c.jumps.length ≤ 1024) b ?_ ?_ ⟨⟨L, h⟩, by omega, htu⟩]
    · intro i a r s hi hinv
      obtain ⟨⟨L1, h1⟩, h2, h3⟩ := hinv
      have hlt := (List.getElem?_eq_some_iff.1 hi).1
      obtain ⟨ha, hb⟩ := h3 a (List.mem_cons_self ..)
      rw [List.length_cons] at h2
      have hle := aGe (c := a) h1.cells.nd
      refine .inl ⟨wH s a, ?_, ⟨⟨_, QL h1 ha⟩, by omega, fun c hc => h3 c (List.mem_cons_of_mem _ hc)⟩, rfl⟩
      simp only [nG, lN, gD]
      rw [show decide ((i : Int) < ((tu.length : Nat) : Int)) = true from by simp only [decide_eq_true_eq]; omega]
      simp only [cond_true]
      rw [aQ (by omega), Int.toNat_natCast, List.getD_eq_getElem?_getD, hi, Option.getD_some, aFQ ha h1.cells.nd h1.sum (by omega) hb]
      simp only [Option.bind_some]
      rw [wR, eH (by omega) (by omega)]
      rfl
    · intro s _
      simp only [nG, lN]
      rw [show decide (((tu.length : Nat) : Int) < ((tu.length : Nat) : Int)) = false from by simp]
      simp
  · clear hs hl
    induction tu generalizing b L with
    | nil => exact h
    | cons c tu ih => exact ih (QL h (htu c (List.mem_cons_self ..)).1) fun x hx => htu x (List.mem_cons_of_mem _ hx)
  · clear hs hl h
    induction tu generalizing b with
    | nil => rfl
    | cons c tu ih => rw [List.foldl_cons, ih fun x hx => htu x (List.mem_cons_of_mem _ hx)]; rfl

theorem JH : ∀ {tu : List aC} {L : List aE → List aD} {r : List aE}, (∀ c ∈ tu, c.row ≠ r) → tu.foldl yX L r = L r
  | [], _, _, _ => rfl
  | c :: tu, L, r, h => by
    rw [List.foldl_cons, JH fun x hx => h x (List.mem_cons_of_mem _ hx), yX, if_neg fun e => h c (List.mem_cons_self ..) e.symm]

theorem RE : ∀ {tu : List aC} {L : List aE → List aD} {c : aC}, (tu.map (·.row)).Nodup → c ∈ tu → tu.foldl yX L c.row = c.jumps
  | [], _, _, _, h => by cases h
  | x :: tu, L, c, hn, h => by
    rw [List.map_cons, List.nodup_cons] at hn
    rw [List.foldl_cons]
    rcases List.mem_cons.1 h with rfl | h
    · rw [JH fun y hy e => hn.1 (by rw [← e]; exact List.mem_map_of_mem hy), yX, if_pos rfl]
    · exact RE hn.2 h

theorem vW.aFv {b : bY} {L : List aE → List aD} (h : vW b L) {gs : List (List aE × List aD)} (hs : uH gs) (hf : Full gs) (hr : ∀ g ∈ gs, oD g.1 = true) (hL : ∀ r, oD r = true → look gs r = L r) : (gsB b.cells).Perm gs ∧ b.edges = ((flat gs).length : Nat) := by
  have hp : (gsB b.cells).Perm gs := by
    refine (List.perm_ext_iff_of_nodup ?_ ?_).2 fun g => ?_
    · have h1 := h.cells.nd
      rw [List.Nodup, List.pairwise_map] at h1 ⊢
      refine List.Pairwise.imp_of_mem ?_ h1
      intro p q hp hq hne e
      have e1 : p.2.row = q.2.row := congrArg Prod.fst e
      exact hne (by rw [(h.cells.key p hp).1, (h.cells.key q hq).1, e1])
    · have h1 := LY hs
      rw [List.Nodup, List.pairwise_map] at h1
      exact h1.imp fun hne e => hne (congrArg Prod.fst e)
    · constructor
      · intro hg
        obtain ⟨p, hp, rfl⟩ := List.mem_map.1 hg
        obtain ⟨_, k2, k3, k4⟩ := h.cells.key p hp
        rw [← hL _ k2.1] at k4
        rcases tL gs p.2.row with ⟨e, _⟩ | ⟨g, hg, e1, e2⟩
        · rw [e] at k4; exact absurd k4.symm k3
        · rw [k4] at e2
          obtain ⟨g1, g2⟩ := g
          simp only at e1 e2
          rw [e2, ← e1]; exact hg
      · intro hg
        have h1 := uA hs hg
        have hr := hr g hg
        have hne := hf g hg
        rw [hL _ hr] at h1
        obtain ⟨p, hp, hpr⟩ := h.cells.no g.1 hr (by rw [h1]; exact hne)
        refine List.mem_map.2 ⟨p, hp, ?_⟩
        have k4 := (h.cells.key p hp).2.2.2
        rw [hpr, h1] at k4
        obtain ⟨g1, g2⟩ := g
        simp only at hpr k4
        rw [hpr, k4]
  refine ⟨hp, ?_⟩
  rw [h.sum]
  have h1 := hp.map (fun g : List aE × List aD => g.2.length)
  rw [RQ gs, ← RC h1, List.map_map]
  rfl

theorem vW.is {b : bY} {L : List aE → List aD} (h : vW b L) {T : List aM} (ht : qM T = true) (hn : ∀ e ∈ T, ∀ v ∈ e.Row, tY v.Num) (hL : ∀ r, oD r = true → look (groups T) r = L r) : mC b T := by
  have hm := (oZ.1 ht).1
  obtain ⟨hp, he⟩ := h.aFv (lT hm).2.2 (KK T) (fun g hg => ((lT hm).2.1 g hg).1) hL
  rw [rE] at he
  exact ⟨fun p hp => (h.cells.key p hp).1, hp, ht, hn, he⟩

theorem mC.pre {b : bY} {T : List aM} (h : mC b T) : vW b (look (groups T)) := by
  refine ⟨⟨fun p hp => ?_, h.IQ, fun r hr hL => ?_⟩, ?_⟩
  · obtain ⟨h1, _, h3⟩ := h.cell hp
    exact ⟨h.key p hp, h1, h3, uA h.srt (h.mem hp)⟩
  · rcases tL (groups T) r with ⟨e, _⟩ | ⟨g, hg, e1, _⟩
    · exact absurd e hL
    · obtain ⟨p, hp, e⟩ := List.mem_map.1 (h.perm.mem_iff.2 hg)
      exact ⟨p, hp, by rw [← e1, ← e]⟩
  · rw [h.edges]
    have h1 := h.perm.map (fun g : List aE × List aD => g.2.length)
    have h2 := RQ (groups T)
    rw [rE] at h2
    rw [h2, ← RC h1, List.map_map]
    rfl

end Go.Abs
namespace Go.Abs
open Go
theorem yI {f : List aD} (h : eZ f = true) : ∀ j ∈ f, -2 < j.At ∧ j.At < 1125899906842624 ∧ j.Net ≠ 0 ∧ j.Net ≤ 1048576 ∧ -1048576 ≤ j.Net := (mY.1 h).2.above

theorem aAk {f g : List aD} (hf : eZ f = true) (hg : eZ g = true) : two (· + ·) f g = iU (f ++ g) := by
  have hb : ∀ j ∈ f ++ g, -2 < j.At ∧ j.At < 1125899906842624 ∧ j.Net ≠ 0 ∧ j.Net ≤ 1048576 ∧ -1048576 ≤ j.Net := fun j hj => (List.mem_append.1 hj).elim (yI hf j) (yI hg j)
  have hp : ∀ j ∈ f ++ g, -2 < j.At := fun j hj => (hb j hj).1
  rw [aBT hf hg]
  unfold iU
  rw [VI fun j hj => ⟨(hb j hj).2.2.2.1, (hb j hj).2.2.2.2⟩, aBP fun j hj => ⟨(hb j hj).1, by have := (hb j hj).2.1; omega⟩]
  simp only [Bool.false_eq_true, if_false]
  congr 1
  exact aFY rfl hf hg (YL hp) fun t h1 h2 => by rw [NS hp h1 h2, rZ]

theorem OF {f : List aD} (hf : eZ f = true) : iU f = (f, 0) :=
  aED (VI fun j hj => (yI hf j hj).2.2.2) (aBP fun j hj => ⟨(yI hf j hj).1, by have := (yI hf j hj).2.1; omega⟩) hf fun _ _ _ => rfl

theorem aAA {l : List aM} {f : Unit → aM → Option (Unit × Bool)} {g : aM → Bool} (hl : l.length ≤ 3518437208783) (hf : ∀ x ∈ l, f () x = some ((), g x)) : fQ l f () = some ((), l.any g) := by
  unfold fQ lJ lB
  have key : ∀ (r : List aM) (k : Nat), l.drop k = r → k ≤ l.length → ∃ x, lp (fun s : Unit × Int => dM f l ((l.length : Nat) : Int) s.1 s.2) ((), (k : Int)) = some x ∧ ((r.any g = false ∧ x = .inl ()) ∨ (r.any g = true ∧ ∃ i : Nat, x = .inr ((), (i : Int)))) := by
    intro r
    induction r with
    | nil =>
      intro k hd hk
      have : k = l.length := by
        have := congrArg List.length hd
        simp only [List.length_drop, List.length_nil] at this; omega
      subst this
      refine ⟨.inl (), dI ?_, .inl ⟨rfl, rfl⟩⟩
      simp only [dM]
      rw [show decide (((l.length : Nat) : Int) < ((l.length : Nat) : Int)) = false from by simp]
      rfl
    | cons a r ih =>
      intro k hd hk
      obtain ⟨h1, h2⟩ := drop_cons hd
      have hlt : k < l.length := (List.getElem?_eq_some_iff.1 h1).1
      have hfa := hf a (List.mem_of_getElem? h1)
      have hb : dM f l ((l.length : Nat) : Int) () (k : Int) = cond (g a) (some (.inr (.inr ((), (k : Int))))) (some (.inl ((), ((k + 1 : Nat) : Int)))) := by
        simp only [dM]
        rw [show decide ((k : Int) < ((l.length : Nat) : Int)) = true from by simp only [decide_eq_true_eq]; omega]
        simp only [cond_true]
        rw [aQ (by omega), Int.toNat_natCast, List.getD_eq_getElem?_getD, h1, Option.getD_some, hfa]
        simp only [Option.bind_some]
        rw [eH (by omega) (by omega)]
        rfl
      cases hg : g a with
      | true =>
        rw [hg] at hb
        exact ⟨_, dI hb, .inr ⟨by simp [hg], k, rfl⟩⟩
      | false =>
        rw [hg] at hb
        obtain ⟨x, hx, hc⟩ := ih (k + 1) h2 (by omega)
        refine ⟨x, by rw [kL hb]; exact hx, ?_⟩
        simpa [hg] using hc
  obtain ⟨x, hx, hc⟩ := key l 0 rfl (Nat.zero_le _)
  rw [show ((0 : Nat) : Int) = 0 from rfl] at hx
  rw [hx]
  rcases hc with ⟨h1, rfl⟩ | ⟨h1, i, rfl⟩
  · rw [h1]; rfl
  · rw [h1]
    simp only [Option.bind_some, Sum.elim_inr]
    rw [show decide ((0 : Int) ≤ (i : Int)) = true from by simp only [decide_eq_true_eq]; omega]

abbrev cellOf (T : List aM) (g : List aE × List aD) : aC := ⟨g.1, (iU (bU T g.1 ++ g.2)).1⟩

def DZ (T : List aM) (gs : List (List aE × List aD)) : Int := (gs.map fun g => (((cellOf T g).jumps.length : Nat) : Int) - (((bU T g.1).length : Nat) : Int)).sum

abbrev NH (T : List aM) (g : List aE × List aD) : Bool := decide (HC (cellOf T g).jumps < 0)

theorem aGx {b : bY} {T : List aM} (h : mC b T) {r : List aE} {f : List aD} (hr : rOk r) (hf : eZ f = true) {e n : Int} {tu : List aC} {bl : Bool} (ht : tu.length ≤ 5000) (hn1 : -1000000000 ≤ n) (hn2 : n ≤ 1000000000) :
    xR b e tu n bl r f = some (if (iU (bU T r ++ f)).2 = 0 then .inl (e, tu ++ [cellOf T (r, f)], n + ((((cellOf T (r, f)).jumps.length : Nat) : Int) - (((bU T r).length : Nat) : Int)), bl || NH T (r, f)) else .inr (7, tu, n, bl)) := by
  have hw : lC b.cells (keyOf r) = bU T r := by rw [h.was hr.1, pW h.srt]
  have hm := nS h.may r
  unfold xR
  rw [WV hr]
  simp only [Option.bind_some]
  rw [hw, add_eq, aAk hm hf]
  simp only [Option.bind_some]
  by_cases he : (iU (bU T r ++ f)).2 = 0
  · obtain ⟨_, _, hm2, hnf⟩ := GL he
    rw [if_pos he, he]
    simp only [decide_true, Bool.not_true, cond_false]
    have hl1 : (iU (bU T r ++ f)).1.length ≤ 1024 := NZ _
    have hl2 : (bU T r).length ≤ 1024 := (mY.1 hm).1
    have hm3 : eZ (iU (bU T r ++ f)).1 = true := by rw [hnf]; exact hm2
    rw [aEE, if_pos hm3]
    simp only [lN, wR]
    rw [eH (n := (((iU (bU T r ++ f)).1.length : Nat) : Int) - _) (by omega) (by omega), eH (by omega) (by omega)]
    have hz : (tu.length + [(⟨r, (iU (bU T r ++ f)).1⟩ : aC)].length) * 48 ≤ 140737488355328 ∧ tu.length + [(⟨r, (iU (bU T r ++ f)).1⟩ : aC)].length ≤ 9223372036854775807 := by simp; omega
    cases bl
    · simp only [cZ, Bool.not_false, cond_true, Option.bind_some]
      rw [aQ hz]
    · simp only [cZ, Bool.not_true, cond_false, Option.bind_some]
      rw [aQ hz]; rfl
  · rw [if_neg he]
    have h7 : (iU (bU T r ++ f)).2 = 7 := by
      rw [← aAk hm hf, aBT hm hf] at he ⊢
      rcases aAc (comb (· + ·) (bU T r) f) with h1 | h1
      · exact absurd h1 he
      · exact h1
    rw [h7]
    rfl

noncomputable abbrev UJ (b : bY) (st : (Int × List aC × Int × Bool) ⊕ (Int × List aC × Int × Bool)) (r : List aE) (f : List aD) := rnd (fun (q : Int × List aC × Int × Bool) => xR b q.1 q.2.1 q.2.2.1 q.2.2.2 r f) st

theorem aGD {b : bY} {T : List aM} (h : mC b T) : ∀ (gs : List (List aE × List aD)) (tu : List aC) (n : Int) (bl : Bool), (∀ g ∈ gs, rOk g.1 ∧ eZ g.2 = true) → tu.length + gs.length ≤ 5000 → -1000000000 + 2000 * (gs.length : Int) ≤ n → n ≤ 1000000000 - 2000 * (gs.length : Int) →
    ((∀ g ∈ gs, (iU (bU T g.1 ++ g.2)).2 = 0) → itG (UJ b) gs (.inl (0, tu, n, bl)) = some (.inl (0, tu ++ gs.map (cellOf T), n + DZ T gs, bl || gs.any (NH T)))) ∧
    ((∃ g ∈ gs, (iU (bU T g.1 ++ g.2)).2 ≠ 0) → ∃ x, itG (UJ b) gs (.inl (0, tu, n, bl)) = some (.inr (7, x))) := by
  intro gs
  induction gs with
  | nil =>
    intro tu n bl _ _ _ _
    exact ⟨fun _ => by simp [itG, DZ], fun ⟨g, hg, _⟩ => by cases hg⟩
  | cons g gs ihgs =>
    intro tu n bl hg hl h1 h2
    rw [List.length_cons] at hl h1 h2
    obtain ⟨hr, hf⟩ := hg g (List.mem_cons_self ..)
    have hm := nS h.may g.1
    have hl1 : (iU (bU T g.1 ++ g.2)).1.length ≤ 1024 := NZ _
    have hl2 : (bU T g.1).length ≤ 1024 := (mY.1 hm).1
    have hs := aGx h hr hf (e := 0) (n := n) (tu := tu) (bl := bl) (by omega) (by omega) (by omega)
    by_cases he : (iU (bU T g.1 ++ g.2)).2 = 0
    · rw [if_pos he] at hs
      have ih := ihgs (tu ++ [cellOf T g]) (n + ((((cellOf T g).jumps.length : Nat) : Int) - (((bU T g.1).length : Nat) : Int))) (bl || NH T g) (fun q hq => hg q (List.mem_cons_of_mem _ hq)) (by simp; omega) (by simp only [cellOf]; push_cast at h1; omega) (by simp only [cellOf]; push_cast at h2; omega)
      have hstep : itG (UJ b) (g :: gs) (.inl (0, tu, n, bl)) = itG (UJ b) gs (.inl (0, tu ++ [cellOf T g], n + ((((cellOf T g).jumps.length : Nat) : Int) - (((bU T g.1).length : Nat) : Int)), bl || NH T g)) := by
        simp only [itG, UJ, rnd]
        rw [hs]
        rfl
      rw [hstep]
      refine ⟨fun hall => ?_, fun ⟨q, hq, hne⟩ => ?_⟩
      · rw [ih.1 fun q hq => hall q (List.mem_cons_of_mem _ hq)]
        have e1 : DZ T (g :: gs) = ((((cellOf T g).jumps.length : Nat) : Int) - (((bU T g.1).length : Nat) : Int)) + DZ T gs := by simp [DZ]
        rw [e1, ← Int.add_assoc]
        simp [Bool.or_assoc]
      · rcases List.mem_cons.1 hq with rfl | hq
        · exact absurd he hne
        · exact ih.2 ⟨q, hq, hne⟩
    · rw [if_neg he] at hs
      refine ⟨fun hall => absurd (hall g (List.mem_cons_self ..)) he, fun _ => ⟨(tu, n, bl), ?_⟩⟩
      simp only [itG, UJ, rnd]
      rw [hs]
      rfl

theorem XX : ∀ {tu : List aC} {b : bY} {L : List aE → List aD}, vW b L → (∀ c ∈ tu, rOk c.row) → (tu.map (·.row)).Nodup →
    ((qI (tu.foldl wH b).cells : Nat) : Int) = ((qI b.cells : Nat) : Int) + (tu.map fun c => ((c.jumps.length : Nat) : Int) - (((L c.row).length : Nat) : Int)).sum
  | [], b, L, _, _, _ => by simp
  | c :: tu, b, L, h, hr, hn => by
    rw [List.map_cons, List.nodup_cons] at hn
    have hc := hr c (List.mem_cons_self ..)
    have ih := XX (QL h hc) (fun x hx => hr x (List.mem_cons_of_mem _ hx)) hn.2
    rw [List.foldl_cons, ih]
    have h1 := PI c h.cells.nd
    rw [h.cells.was hc.1] at h1
    have e : (tu.map fun x => ((x.jumps.length : Nat) : Int) - (((yX L c x.row).length : Nat) : Int)) = tu.map fun x => ((x.jumps.length : Nat) : Int) - (((L x.row).length : Nat) : Int) := by
      refine List.map_congr_left fun x hx => ?_
      have hne : x.row ≠ c.row := fun e => hn.1 (by rw [← e]; exact List.mem_map_of_mem hx)
      rw [yX, if_neg hne]
    rw [e, List.map_cons, List.sum_cons]
    show ((qI (sE b.cells c) : Nat) : Int) + _ = _
    omega

end Go.Abs
namespace Go.Abs
open Go
def mW (T : List aM) (mark : Int) (l : List aM) : Int :=
  if nJ l = false then 2 else if (l.any fun e => decide (e.At < mark)) = true then 16 else if (eF (T ++ l)).2 ≠ 0 then 7 else if qM (eF (T ++ l)).1 = true then 0 else 20

abbrev MB (l : List aM) : Prop := ∀ e ∈ l, ∀ v ∈ e.Row, tY v.Num

theorem aCw {l : List aM} (hm : nJ l = true) (hn : MB l) : ∀ g ∈ groups l, rOk g.1 ∧ eZ g.2 = true := by
  intro g hg
  obtain ⟨h1, h2⟩ := (lT hm).2.1 g hg
  obtain ⟨_, e, he, h4⟩ := MM hg
  exact ⟨⟨h1, fun v hv => hn e he v (h4 ▸ hv)⟩, h2⟩

theorem ZK {l : List aM} (hm : nJ l = true) {g : List aE × List aD} (hg : g ∈ groups l) : g.2 = bU l g.1 := by
  rw [← pW (lT hm).2.2, uA (lT hm).2.2 hg]

theorem JT {l : List aM} (hm : nJ l = true) (r : List aE) : (bU l r = [] ∧ ∀ g ∈ groups l, g.1 ≠ r) ∨ ∃ g ∈ groups l, g.1 = r ∧ bU l r = g.2 := by
  have := tL (groups l) r
  rw [pW (lT hm).2.2] at this
  exact this

theorem aDg {l : List aM} (h : (eF l).2 = 0) (hn : MB l) : MB (eF l).1 := by
  intro e he v hv
  have hr : e.Row ∈ rowsOf (eF l).1 := FT.2 ⟨e, he, rfl⟩
  have hj : bU (eF l).1 e.Row ≠ [] := by
    intro e0
    have : jE e ∈ bU (eF l).1 e.Row := List.mem_map.2 ⟨e, List.mem_filter.2 ⟨he, by simp⟩, rfl⟩
    rw [e0] at this; cases this
  rw [DV h] at hj
  by_cases hx : ∃ x ∈ l, x.Row = e.Row
  · obtain ⟨x, hx, e1⟩ := hx
    exact hn x hx v (e1 ▸ hv)
  · have : bU l e.Row = [] := KF fun x hx' e1 => hx ⟨x, hx', e1⟩
    rw [this] at hj
    exact absurd rfl hj

theorem YS {b : bY} {T l : List aM} (h : mC b T) (hl : okL l) (hn : MB l) :
    ∃ b', rG b l = some (mW T b.mark l, b') ∧ b'.mark = b.mark ∧ (mW T b.mark l = 0 → mC b' (eF (T ++ l)).1) ∧ (mW T b.mark l ≠ 0 → b' = b) := by
  unfold rG
  rw [aB3 hl]
  simp only [Option.bind_some]
  cases hm : nJ l with
  | false =>
    have ha : mW T b.mark l = 2 := by unfold mW; rw [if_pos hm]
    refine ⟨b, ?_, rfl, fun h0 => ?_, fun _ => rfl⟩
    · rw [ha]; rfl
    · rw [ha] at h0; cases h0
  | true =>
  simp only [Bool.not_true, cond_false]
  rw [aAA (g := fun e => decide (e.At < b.mark)) hl.1 (fun x _ => rfl)]
  simp only [Option.bind_some]
  cases hlate : (l.any fun e => decide (e.At < b.mark)) with
  | true =>
    have ha : mW T b.mark l = 16 := by unfold mW; rw [if_neg (by simp [hm]), if_pos hlate]
    refine ⟨b, ?_, rfl, fun h0 => ?_, fun _ => rfl⟩
    · rw [ha]; rfl
    · rw [ha] at h0; cases h0
  | false =>
  simp only [cond_false, AQ, Option.bind_some]
  have ha0 : mW T b.mark l = if (eF (T ++ l)).2 ≠ 0 then 7 else if qM (eF (T ++ l)).1 = true then 0 else 20 := by
    unfold mW; rw [if_neg (by simp [hm]), if_neg (by simp [hlate])]
  have hgs := aCw hm hn
  have hJ : ∀ g ∈ groups l, bU T g.1 ++ g.2 = bU (T ++ l) g.1 := fun g hg => by rw [oR, ← ZK hm hg]
  have hlen : (groups l).length ≤ 4096 := by have := MO l; have := (lT hm).1; omega
  have hTl : T.length ≤ 4096 := (lT h.may).1
  have hed := h.edges
  have hit := aGD h (groups l) [] b.edges false hgs (by simp; omega) (by omega) (by omega)
  unfold NK
  by_cases hbad : ∃ g ∈ groups l, (iU (bU T g.1 ++ g.2)).2 ≠ 0
  · -- a row that has no room
    obtain ⟨x, hx⟩ := hit.2 hbad
    rw [TZ hl (s' := .inr (7, x)) (by rw [hm]; exact hx)]
    have h7 : (eF (T ++ l)).2 ≠ 0 := by
      intro h0
      obtain ⟨g, hg, hne⟩ := hbad
      rw [hJ g hg] at hne
      exact hne (MV h0 g.1)
    have ha : mW T b.mark l = 7 := by rw [ha0, if_pos h7]
    refine ⟨b, ?_, rfl, fun h0 => ?_, fun _ => rfl⟩
    · rw [ha]; rfl
    · rw [ha] at h0; cases h0
  have hall : ∀ g ∈ groups l, (iU (bU T g.1 ++ g.2)).2 = 0 := fun g hg => by
    cases Classical.em ((iU (bU T g.1 ++ g.2)).2 = 0) with
    | inl h => exact h
    | inr h => exact absurd ⟨g, hg, h⟩ hbad
  have hx := hit.1 hall
  rw [TZ hl (by rw [hm]; exact hx)]
  simp only [Option.bind_some, Sum.elim_inl, List.nil_append, Bool.false_or]
  -- what is put
  have hru : ∀ c ∈ (groups l).map (cellOf T), rOk c.row ∧ c.jumps.length ≤ 1024 := by
    intro c hc
    obtain ⟨g, hg, rfl⟩ := List.mem_map.1 hc
    exact ⟨(hgs g hg).1, NZ _⟩
  have hnd : (((groups l).map (cellOf T)).map (·.row)).Nodup := by
    rw [List.map_map]
    exact LY (lT hm).2.2
  have hpre := h.pre
  have hsumT : ((qI b.cells : Nat) : Int) = (T.length : Int) := by rw [← hpre.sum, hed]
  obtain ⟨p1, p2, p3⟩ := aBR hpre (by omega) (tu := (groups l).map (cellOf T)) (by rw [List.length_map]; omega) hru
  -- the new table's rows
  have hnorm : ∀ r, (iU (bU (T ++ l) r)).2 = 0 := by
    intro r
    rcases JT hm r with ⟨e, _⟩ | ⟨g, hg, rfl, _⟩
    · rw [oR, e, List.append_nil, OF (nS h.may r)]
    · rw [← hJ g hg]; exact hall g hg
  have hL : ∀ r, (iU (bU (T ++ l) r)).1 = ((groups l).map (cellOf T)).foldl yX (look (groups T)) r := by
    intro r
    rcases JT hm r with ⟨e, hno⟩ | ⟨g, hg, rfl, _⟩
    · rw [JH (fun c hc => by
        obtain ⟨g, hg, rfl⟩ := List.mem_map.1 hc
        exact hno g hg), oR, e, List.append_nil, OF (nS h.may r), pW h.srt]
    · have := RE (L := look (groups T)) hnd (List.mem_map_of_mem (f := cellOf T) hg)
      rw [this, ← hJ g hg]
  have hS : uH (qZ iU (zQ (T ++ l))) := GZ (RN _)
  have hnon : groups (flat (qZ iU (zQ (T ++ l)))) = GY (qZ iU (zQ (T ++ l))) := BX hS
  have hlook : ∀ r, look (GY (qZ iU (zQ (T ++ l)))) r = (iU (bU (T ++ l) r)).1 := by
    intro r
    rw [← hnon, NM hS, IP (by rw [VT]), IW]
  have hmayrow : ∀ e ∈ T ++ l, oD e.Row = true := fun e he => (List.mem_append.1 he).elim (fun h1 => (BW h.may h1).1) (fun h1 => (BW hm h1).1)
  obtain ⟨_, hedges⟩ := p2.aFv (gs := GY (qZ iU (zQ (T ++ l)))) (hS.sublist List.filter_sublist) (WI _) (fun g hg => by
    obtain ⟨g', hg', rfl⟩ := List.mem_map.1 (List.mem_filter.1 hg).1
    obtain ⟨r, hr, rfl⟩ := List.mem_map.1 hg'
    obtain ⟨e, he, rfl⟩ := FT.1 hr
    exact hmayrow e he) (fun r _ => by rw [hlook]; exact hL r)
  rw [EO] at hedges
  have hcount : b.edges + DZ T (groups l) = (((flat (qZ iU (zQ (T ++ l)))).length : Nat) : Int) := by
    rw [← hedges, p2.sum, XX hpre (fun c hc => (hru c hc).1) hnd, hsumT, hed]
    congr 1
    unfold DZ
    rw [List.map_map]
    congr 1
    refine List.map_congr_left fun g hg => ?_
    show _ = _ - (((look (groups T) g.1).length : Nat) : Int)
    rw [pW h.srt]
  have hun1 := aBu h.may
  have hun2 := aBu hm
  have hun : (T ++ l).any unE = false ∧ (T ++ l).any UP = false := by
    rw [List.any_append, List.any_append, hun1.1, hun1.2, hun2.1, hun2.2]; exact ⟨rfl, rfl⟩
  unfold IV
  by_cases hbig : 4096 < b.edges + DZ T (groups l)
  · have h7 : (eF (T ++ l)).2 ≠ 0 := by
      intro h0
      obtain ⟨_, _, _, h4, h5⟩ := MG h0
      rw [h4] at h5
      rw [hcount] at hbig
      omega
    have ha : mW T b.mark l = 7 := by rw [ha0, if_pos h7]
    refine ⟨b, ?_, rfl, fun h0 => ?_, fun _ => rfl⟩
    · rw [ha, show decide ((4096 : Int) < b.edges + DZ T (groups l)) = true from by simpa using hbig]; rfl
    · rw [ha] at h0; cases h0
  rw [show decide ((4096 : Int) < b.edges + DZ T (groups l)) = false from by simpa using hbig]
  simp only [cond_false]
  have hnE : eF (T ++ l) = (flat (qZ iU (zQ (T ++ l))), 0) := by
    unfold eF
    rw [hun.1, hun.2]
    simp only [Bool.false_eq_true, if_false]
    rw [QV (fun g hg => by
      obtain ⟨r, hr, rfl⟩ := List.mem_map.1 hg
      exact hnorm r) (by rw [List.nil_append]; rw [hcount] at hbig; omega)]
    rfl
  have h0 : (eF (T ++ l)).2 = 0 := by rw [hnE]
  have hjn : ∀ r, bU (eF (T ++ l)).1 r = (iU (bU (T ++ l) r)).1 := fun r => by rw [DV h0, (GL (hnorm r)).2.2.2]
  have hcell : ∀ g ∈ groups l, (cellOf T g).jumps = bU (eF (T ++ l)).1 g.1 := fun g hg => by rw [hjn, ← hJ g hg]
  have htab : qM (eF (T ++ l)).1 = true ↔ (groups l).any (NH T) = false := by
    constructor
    · intro ht
      rw [List.any_eq_false]
      intro g hg
      have hv := (oZ.1 ht).2 g.1
      have hml := nS (wX h0) g.1
      have := (JD hml).2 hv
      unfold NH
      rw [hcell g hg]
      simpa using this
    · intro hlow
      refine oZ.2 ⟨wX h0, fun r => ?_⟩
      rcases JT hm r with ⟨e, _⟩ | ⟨g, hg, rfl, _⟩
      · rw [hjn, oR, e, List.append_nil, OF (nS h.may r)]
        exact (oZ.1 h.tab).2 r
      · have hlo := List.any_eq_false.1 hlow g hg
        unfold NH at hlo
        rw [hcell g hg] at hlo
        exact (JD (nS (wX h0) g.1)).1 (by simpa using hlo)
  cases hbl : (groups l).any (NH T) with
  | true =>
    have ha : mW T b.mark l = 20 := by
      rw [ha0, if_neg (by simp [h0]), if_neg (fun ht => by rw [htab.1 ht] at hbl; cases hbl)]
    refine ⟨b, ?_, rfl, fun h0 => ?_, fun _ => rfl⟩
    · rw [ha]; rfl
    · rw [ha] at h0; cases h0
  | false =>
    have ht := htab.2 hbl
    have ha : mW T b.mark l = 0 := by rw [ha0, if_neg (by simp [h0]), if_pos ht]
    refine ⟨((groups l).map (cellOf T)).foldl wH b, ?_, p3, fun _ => ?_, fun hne => absurd ha hne⟩
    · simp only [cond_false]
      rw [p1, ha]; rfl
    · refine p2.is ht (aDg h0 fun e he => (List.mem_append.1 he).elim (h.num e) (hn e)) fun r _ => ?_
      rw [SD h0]; exact hL r

end Go.Abs
namespace Go.Abs
open Go
theorem aGg {f : List aD} {t : Int} (hf : eZ f = true) (h0 : 0 ≤ t) (ht : t < 1125899906842624) (h : (rest f t).2 = 0) : (rest f t).1 = JA t f := by
  unfold rest at h ⊢
  rw [if_pos hf, if_neg (by omega), if_neg (by omega)] at h ⊢
  unfold told at h ⊢
  split at h
  · rename_i c; rw [if_pos c]
  · simp at h

theorem pO {l : List aM} (h : nJ l = true) (r : List aE) : look (groups l) r = bU l r := pW (lT h).2.2 r

theorem aEU {by1 : List aD → List aD × Int} {l : List aM} (hb : ∀ f, eZ f = true → (by1 f).2 = 0 → eZ (by1 f).1 = true) (h : (HM by1 l).2 = 0) : nJ (HM by1 l).1 = true := by
  obtain ⟨h1, h2, h3, h4⟩ := DG h
  obtain ⟨_, g1, g2⟩ := lT h1
  rw [h3] at h4 ⊢
  refine WK (GZ g2) (fun g hg => ?_) h4
  obtain ⟨q, hq, rfl⟩ := List.mem_map.1 hg
  exact ⟨(g1 q hq).1, hb _ (g1 q hq).2 (h2 q hq)⟩

theorem aFX {f : List aD} (h : (told f).2 = 0) : eZ (told f).1 = true := by
  unfold told at h ⊢
  split at h
  · rename_i c; rw [if_pos c]; exact c
  · simp at h

theorem aFb {f : List aD} {t : Int} (hf : eZ f = true) (h : (rest f t).2 = 0) : eZ (rest f t).1 = true := by
  unfold rest at h ⊢
  rw [if_pos hf] at h ⊢
  split
  · exact UT
  · rename_i c
    rw [if_neg c] at h
    split
    · exact hf
    · rename_i c2; rw [if_neg c2] at h; exact aFX h

theorem ES {l : List aM} {t : Int} (h : (fJ l t).2 = 0) : nJ (fJ l t).1 = true := aEU (fun _ a b => aFb a b) h

theorem aBr {l : List aM} {t : Int} (h0 : 0 ≤ t) (ht : t < 1125899906842624) (h : (fJ l t).2 = 0) (r : List aE) : bU (fJ l t).1 r = JA t (bU l r) := by
  have hm := (DG h).1
  have h1 := VS (by1 := fun f => rest f t) (by rw [DL]) h r
  have h2 := YV (by1 := fun f => rest f t) (by rw [DL]) h r
  rw [pO hm] at h1 h2
  have := pO (ES h) r
  unfold fJ at this ⊢
  rw [← this, h1, aGg (nS hm r) h0 ht h2]

theorem YO {a b : List aM} (ha : nJ a = true) (hb : nJ b = true) (h : ∀ r t, -2 < t → t < 1125899906842624 → val (bU a r) t = val (bU b r) t) : a = b :=
  aEy ha hb fun r => by
    rw [pO ha, pO hb]
    exact (YC (nS ha r)).ext (YC (nS hb r)) fun t h1 h2 => h r t h1 h2

end Go.Abs
namespace Go.Abs
open Go
theorem aEO {f : List aD} {t : Int} (hf : eZ f = true) : (rest f t).2 = 0 ∨ (rest f t).2 = 7 := by
  unfold rest
  rw [if_pos hf]
  split
  · exact .inl rfl
  · split
    · exact .inl rfl
    · exact aAc _

theorem BY {l : List aM} {t : Int} (h : (fJ l t).2 = 0) (r : List aE) : bU (fJ l t).1 r = (rest (bU l r) t).1 := by
  have hm := (DG h).1
  have h1 := VS (by1 := fun f => rest f t) (by rw [DL]) h r
  rw [pO hm] at h1
  have := pO (ES h) r
  unfold fJ at this ⊢
  rw [← this, h1]

theorem aEx {l : List aM} {t : Int} (ht : qM l = true) (h0 : 0 ≤ t) (h : (fJ l t).2 = 0) : qM (fJ l t).1 = true := by
  have hl := (oZ.1 ht).1
  have mr := ES h
  refine oZ.2 ⟨mr, fun r => ?_⟩
  by_cases h1 : t < 1125899906842624
  · rw [aBr h0 h1 h]
    refine WB (aEH (nS hl r) (by omega)) fun s s1 s2 => ?_
    rw [WD (nS hl r) s (by omega)]
    exact (oZ.1 ht).2 r _
  · rw [BY h]
    unfold rest
    rw [if_pos (nS hl r), if_pos (by omega)]
    intro s; simp [val]

def DI (tu : List aC) (p : ByteArray × aC) : Option (ByteArray × aC) := match tu.find? (fun c => decide (keyOf c.row = p.1)) with
  | none => some p
  | some c => if c.jumps = [] then none else some (p.1, c)

theorem RP (c : aC) (p : ByteArray × aC) : DI [c] p = if keyOf c.row = p.1 then (if c.jumps = [] then none else some (p.1, c)) else some p := by
  unfold DI
  by_cases e : keyOf c.row = p.1
  · simp [e]
  · simp [e]

theorem SQ {α : Type} {f g : α → Option α} : ∀ {m : List α}, (∀ x ∈ m, f x = g x) → m.filterMap f = m.filterMap g
  | [], _ => rfl
  | x :: m, h => by
    rw [List.filterMap_cons, List.filterMap_cons, h x (List.mem_cons_self ..), SQ fun y hy => h y (List.mem_cons_of_mem _ hy)]

theorem VD {α : Type} {f : α → Option α} : ∀ {m : List α}, (∀ x ∈ m, f x = some x) → m.filterMap f = m
  | [], _ => rfl
  | x :: m, h => by
    rw [List.filterMap_cons, h x (List.mem_cons_self ..), VD fun y hy => h y (List.mem_cons_of_mem _ hy)]

theorem YX {c : aC} : ∀ {m : List (ByteArray × aC)}, (m.map (·.1)).Nodup → (∃ p ∈ m, p.1 = keyOf c.row) → sE m c = m.filterMap (DI [c])
  | [], _, ⟨p, hp, _⟩ => by cases hp
  | q :: m, hn, ⟨p, hp, hk⟩ => by
    rw [List.map_cons, List.nodup_cons] at hn
    rw [List.filterMap_cons, RP]
    by_cases e : keyOf c.row = q.1
    · rw [if_pos e]
      have hrest : ∀ x ∈ m, x.1 ≠ keyOf c.row := fun x hx e' => hn.1 (by rw [← e, ← e']; exact List.mem_map_of_mem hx)
      have h1 : m.filterMap (DI [c]) = m := VD fun x hx => by rw [RP, if_neg fun e' => hrest x hx e'.symm]
      unfold sE
      by_cases hj : c.jumps = []
      · rw [if_pos hj, if_pos hj, h1]
        unfold qA
        rw [List.filter_cons, if_neg (by simp [e])]
        exact List.filter_eq_self.2 fun x hx => by simpa using hrest x hx
      · rw [if_neg hj, if_neg hj, h1, nI, if_pos e.symm, e]
    · rw [if_neg e]
      have hm : ∃ p ∈ m, p.1 = keyOf c.row := by
        rcases List.mem_cons.1 hp with rfl | hp
        · exact absurd hk.symm e
        · exact ⟨p, hp, hk⟩
      have ih := YX hn.2 hm
      show _ = q :: m.filterMap (DI [c])
      rw [← ih]
      unfold sE
      split
      · unfold qA
        rw [List.filter_cons, if_pos (by simpa using fun e' => e e'.symm)]
      · rw [nI, if_neg fun e' => e e'.symm]

theorem aAF : ∀ {tu : List aC} {m : List (ByteArray × aC)}, (m.map (·.1)).Nodup → (tu.map fun c => keyOf c.row).Nodup → (∀ c ∈ tu, ∃ p ∈ m, p.1 = keyOf c.row) → tu.foldl sE m = m.filterMap (DI tu)
  | [], m, _, _, _ => (VD fun _ _ => rfl).symm
  | c :: tu, m, hm, ht, he => by
    rw [List.map_cons, List.nodup_cons] at ht
    rw [List.foldl_cons, aAF (aDf c hm) ht.2 (fun d hd => by
      obtain ⟨p, hp, hk⟩ := he d (List.mem_cons_of_mem _ hd)
      have hne : p.1 ≠ keyOf c.row := fun e => ht.1 (by rw [← e, hk]; exact List.mem_map_of_mem (f := fun c : aC => keyOf c.row) hd)
      refine ⟨p, ?_, hk⟩
      unfold sE
      split
      · exact QO.2 ⟨hp, hne⟩
      · exact (HA hm).2 (.inr ⟨hp, hne⟩)), YX hm (he c (List.mem_cons_self ..)), List.filterMap_filterMap]
    congr 1
    funext p
    rw [RP]
    by_cases e : keyOf c.row = p.1
    · rw [if_pos e]
      have h2 : DI (c :: tu) p = if c.jumps = [] then none else some (p.1, c) := by
        unfold DI
        rw [List.find?_cons, show decide (keyOf c.row = p.1) = true from by simpa using e]
      rw [h2]
      by_cases hj : c.jumps = []
      · rw [if_pos hj]; rfl
      · rw [if_neg hj]
        show DI tu (p.1, c) = _
        have : tu.find? (fun d => decide (keyOf d.row = p.1)) = none := by
          rw [List.find?_eq_none]
          intro d hd
          have : keyOf d.row ≠ p.1 := fun e' => ht.1 (by rw [e, ← e']; exact List.mem_map_of_mem (f := fun c : aC => keyOf c.row) hd)
          simpa using this
        unfold DI
        rw [this]
    · rw [if_neg e]
      show DI tu p = _
      have h2 : (c :: tu).find? (fun d => decide (keyOf d.row = p.1)) = tu.find? (fun d => decide (keyOf d.row = p.1)) := by
        rw [List.find?_cons, show decide (keyOf c.row = p.1) = false from by simpa using e]
      unfold DI
      rw [h2]

theorem SM : ∀ (tu : List aC) (b : bY), (tu.foldl wH b).cells = tu.foldl sE b.cells
  | [], _ => rfl
  | c :: tu, b => by rw [List.foldl_cons, SM]; rfl

theorem ZX : ∀ {tu : List aC} {c : aC}, (tu.map fun c => keyOf c.row).Nodup → c ∈ tu → tu.find? (fun d => decide (keyOf d.row = keyOf c.row)) = some c
  | [], _, _, h => by cases h
  | d :: tu, c, hn, h => by
    rw [List.map_cons, List.nodup_cons] at hn
    rw [List.find?_cons]
    rcases List.mem_cons.1 h with rfl | h
    · simp
    · have hne : keyOf d.row ≠ keyOf c.row := fun e => hn.1 (by rw [e]; exact List.mem_map_of_mem (f := fun c : aC => keyOf c.row) h)
      rw [show decide (keyOf d.row = keyOf c.row) = false from by simpa using hne]
      exact ZX hn.2 h

abbrev pV (t : Int) (p : ByteArray × aC) : aC := ⟨p.2.row, (rest p.2.jumps t).1⟩

def PJ (t : Int) (p : ByteArray × aC) : Option (ByteArray × aC) := if (rest p.2.jumps t).1 = [] then none else some (p.1, pV t p)

theorem QG (t e : Int) : ∀ q : List (ByteArray × aC), mS (lF t) (.inr e) q = some (.inr e)
  | [] => rfl
  | p :: q => by
    show (lF t (.inr e) p).bind (fun s => mS (lF t) s q) = _
    rw [show lF t (.inr e) p = some (.inr e) from rfl]
    exact QG t e q

theorem aAE (t : Int) : ∀ (q : List (ByteArray × aC)) (out : List aC), (∀ p ∈ q, eZ p.2.jumps = true) → out.length + q.length ≤ 100000 →
    ((∀ p ∈ q, (rest p.2.jumps t).2 = 0) → mS (lF t) (.inl out) q = some (.inl (out ++ q.map (pV t)))) ∧
    ((∃ p ∈ q, (rest p.2.jumps t).2 ≠ 0) → mS (lF t) (.inl out) q = some (.inr 7)) := by
  intro q
  induction q with
  | nil => intro out _ _; exact ⟨fun _ => by simp [mS], fun ⟨p, hp, _⟩ => by cases hp⟩
  | cons p q ih =>
    intro out hm hl
    rw [List.length_cons] at hl
    have hstep : lF t (.inl out) p = some (if (rest p.2.jumps t).2 = 0 then .inl (out ++ [pV t p]) else .inr 7) := by
      simp only [lF]
      rw [aGa]
      simp only [Option.bind_some]
      by_cases e : (rest p.2.jumps t).2 = 0
      · rw [if_pos e, e, aQ (by simp; omega)]
        rfl
      · rw [if_neg e]
        have h7 := (aEO (t := t) (hm p (List.mem_cons_self ..))).resolve_left e
        rw [h7]; rfl
    have hfold : mS (lF t) (.inl out) (p :: q) = mS (lF t) (if (rest p.2.jumps t).2 = 0 then .inl (out ++ [pV t p]) else .inr 7) q := by
      show (lF t (.inl out) p).bind (fun s => mS (lF t) s q) = _
      rw [hstep]; rfl
    rw [hfold]
    by_cases e : (rest p.2.jumps t).2 = 0
    · rw [if_pos e]
      obtain ⟨i1, i2⟩ := ih (out ++ [pV t p]) (fun x hx => hm x (List.mem_cons_of_mem _ hx)) (by simp; omega)
      refine ⟨fun h => ?_, fun ⟨x, hx, hne⟩ => ?_⟩
      · rw [i1 fun x hx => h x (List.mem_cons_of_mem _ hx)]; simp
      · rcases List.mem_cons.1 hx with rfl | hx
        · exact absurd e hne
        · exact i2 ⟨x, hx, hne⟩
    · rw [if_neg e]
      exact ⟨fun h => absurd (h p (List.mem_cons_self ..)) e, fun _ => QG t 7 q⟩

theorem aFj {tu : List aC} (hl : tu.length ≤ 100000) (hj : ∀ c ∈ tu, c.jumps.length ≤ 1024) : lp (fun s => qT tu (lN tu) s.1 s.2) ((0 : Int), (0 : Int)) = some (((tu.map fun c => c.jumps.length).sum : Nat) : Int) := by
  rw [show ((0 : Int), (0 : Int)) = ((((0 : Nat)) : Int), (0 : Int)) from rfl]
  rw [DJ (l := tu) (st := Nat) (fun s i => ((s : Int), i)) (fun s r => ((s + (r.map fun c => c.jumps.length).sum : Nat) : Int)) (fun s r => s + 1024 * r.length ≤ 1000000000 ∧ ∀ c ∈ r, c.jumps.length ≤ 1024) 0 ?_ ?_ ⟨by omega, hj⟩]
  · simp
  · intro i a r s hi hinv
    obtain ⟨h1, h2⟩ := hinv
    have hlt := (List.getElem?_eq_some_iff.1 hi).1
    have ha := h2 a (List.mem_cons_self ..)
    rw [List.length_cons] at h1
    refine .inl ⟨s + a.jumps.length, ?_, ⟨by omega, fun c hc => h2 c (List.mem_cons_of_mem _ hc)⟩, by simp [Nat.add_assoc]⟩
    simp only [qT, lN, gD, wR]
    rw [show decide ((i : Int) < ((tu.length : Nat) : Int)) = true from by simp only [decide_eq_true_eq]; omega]
    simp only [cond_true]
    rw [aQ (by omega), Int.toNat_natCast, List.getD_eq_getElem?_getD, hi, Option.getD_some, eH (by omega) (by omega), eH (by omega) (by omega)]
    rfl
  · intro s _
    simp only [qT, lN]
    rw [show decide (((tu.length : Nat) : Int) < ((tu.length : Nat) : Int)) = false from by simp]
    simp

theorem NV {b : bY} {T : List aM} (h : mC b T) (hmk : -1 ≤ b.mark) (t : Int) :
    (t ≤ b.mark → mO b t = some (0, b)) ∧ (b.mark < t → (fJ T t).2 ≠ 0 → mO b t = some (7, b)) ∧
    (b.mark < t → (fJ T t).2 = 0 → ∃ b', mO b t = some (0, b') ∧ mC b' (fJ T t).1 ∧ b'.mark = t) := by
  by_cases ht' : t ≤ b.mark
  · refine ⟨fun _ => ?_, fun h1 => absurd ht' (by omega), fun h1 => absurd ht' (by omega)⟩
    unfold mO
    rw [show decide (t ≤ b.mark) = true from by simpa using ht']; rfl
  have ht : b.mark < t := by omega
  suffices hh : ((fJ T t).2 ≠ 0 → mO b t = some (7, b)) ∧ ((fJ T t).2 = 0 → ∃ b', mO b t = some (0, b') ∧ mC b' (fJ T t).1 ∧ b'.mark = t) from ⟨fun h1 => absurd h1 ht', fun _ => hh.1, fun _ => hh.2⟩
  have hl := h.len
  have hmB : ∀ p ∈ b.cells, eZ p.2.jumps = true := fun p hp => (h.cell hp).2.1
  have hun : mO b t = uY b.cells (fun q => (mS (lF t) (.inl []) q).bind (BV b t)) := by
    unfold mO
    rw [show decide (t ≤ b.mark) = false from by simpa using ht]; rfl
  rw [hun]
  have hrE : fJ T t = FA (fun f => rest f t) (groups T) [] := by
    unfold fJ HM; rw [if_pos h.may]
  -- all orders alike
  by_cases hbad : ∃ p ∈ b.cells, (rest p.2.jumps t).2 ≠ 0
  · have h7 : (fJ T t).2 ≠ 0 := by
      intro h0
      obtain ⟨p, hp, hne⟩ := hbad
      exact hne ((DG h0).2.1 _ (h.mem hp))
    refine ⟨fun _ => EM fun q hq => ?_, fun h0 => absurd h0 h7⟩
    obtain ⟨p, hp, hne⟩ := hbad
    rw [(aAE t q [] (fun x hx => hmB x (hq.mem_iff.1 hx)) (by rw [hq.length_eq]; simp; omega)).2 ⟨p, hq.mem_iff.2 hp, hne⟩]
    rfl
  have hall : ∀ p ∈ b.cells, (rest p.2.jumps t).2 = 0 := fun p hp => by
    cases Classical.em ((rest p.2.jumps t).2 = 0) with
    | inl h => exact h
    | inr h => exact absurd ⟨p, hp, h⟩ hbad
  have hallG : ∀ g ∈ groups T, (rest g.2 t).2 = 0 := fun g hg => by
    obtain ⟨p, hp, rfl⟩ := List.mem_map.1 (h.perm.mem_iff.2 hg)
    exact hall p hp
  have hcount : ∀ q : List (ByteArray × aC), q.Perm b.cells → ((q.map (pV t)).map fun c => c.jumps.length).sum = (flat (qZ (fun f => rest f t) (groups T))).length := by
    intro q hq
    rw [RQ]
    have h1 := ((hq.map fun p => (p.2.row, p.2.jumps)).trans h.perm).map fun g : List aE × List aD => (rest g.2 t).1.length
    rw [List.map_map] at h1
    rw [List.map_map]
    unfold qZ
    rw [List.map_map]
    exact RC h1
  have hstart : ∀ q : List (ByteArray × aC), q.Perm b.cells → mS (lF t) (.inl []) q = some (.inl (q.map (pV t))) := fun q hq => by
    rw [(aAE t q [] (fun x hx => hmB x (hq.mem_iff.1 hx)) (by rw [hq.length_eq]; simp; omega)).1 fun p hp => hall p (hq.mem_iff.1 hp)]
    rfl
  have hnn : ∀ q : List (ByteArray × aC), q.Perm b.cells → lp (fun s => qT (q.map (pV t)) (lN (q.map (pV t))) s.1 s.2) ((0 : Int), (0 : Int)) = some (((flat (qZ (fun f => rest f t) (groups T))).length : Nat) : Int) := fun q hq => by
    rw [aFj (by rw [List.length_map, hq.length_eq]; omega) (fun c hc => by
      obtain ⟨p, _, rfl⟩ := List.mem_map.1 hc
      exact ZA _ _), hcount q hq]
  by_cases hbig : 4096 < (flat (qZ (fun f => rest f t) (groups T))).length
  · have h7 : (fJ T t).2 ≠ 0 := by
      intro h0
      obtain ⟨_, _, h3, h4⟩ := DG h0
      rw [h3] at h4
      omega
    refine ⟨fun _ => EM fun q hq => ?_, fun h0 => absurd h0 h7⟩
    rw [hstart q hq]
    simp only [Option.bind_some, BV]
    rw [hnn q hq]
    simp only [Option.bind_some]
    rw [show decide ((4096 : Int) < (((flat (qZ (fun f => rest f t) (groups T))).length : Nat) : Int)) = true from by simp only [decide_eq_true_eq]; omega]
    rfl
  have h0 : (fJ T t).2 = 0 := by
    rw [hrE, QV hallG (by rw [List.nil_append]; omega)]
  refine ⟨fun h7 => absurd h0 h7, fun _ => ?_⟩
  have hpre := h.pre
  have hsumT : ((qI b.cells : Nat) : Int) = (T.length : Int) := by rw [← hpre.sum, h.edges]
  have hTl : T.length ≤ 4096 := (lT h.may).1
  -- what comes of it, in whatever order
  have hputs : ∀ q : List (ByteArray × aC), q.Perm b.cells → (q.map (pV t)).foldl wH b = ⟨b.cells.filterMap (PJ t), ((qI (b.cells.filterMap (PJ t)) : Nat) : Int), b.mark⟩ ∧
      lp (fun s => nG (q.map (pV t)) (lN (q.map (pV t))) s.1 s.2) (b, (0 : Int)) = some ((q.map (pV t)).foldl wH b) ∧ vW ((q.map (pV t)).foldl wH b) ((q.map (pV t)).foldl yX (look (groups T))) := by
    intro q hq
    have hru : ∀ c ∈ q.map (pV t), rOk c.row ∧ c.jumps.length ≤ 1024 := by
      intro c hc
      obtain ⟨p, hp, rfl⟩ := List.mem_map.1 hc
      exact ⟨(h.cell (hq.mem_iff.1 hp)).1, ZA _ _⟩
    obtain ⟨p1, p2, p3⟩ := aBR hpre (by omega) (tu := q.map (pV t)) (by rw [List.length_map, hq.length_eq]; omega) hru
    have hkeys : ((q.map (pV t)).map fun c => keyOf c.row).Nodup := by
      rw [List.map_map]
      have e : q.map ((fun c : aC => keyOf c.row) ∘ pV t) = q.map (·.1) := List.map_congr_left fun p hp => (h.key p (hq.mem_iff.1 hp)).symm
      rw [e]
      exact ((hq.map (·.1)).nodup_iff).2 h.IQ
    have hc : ((q.map (pV t)).foldl wH b).cells = b.cells.filterMap (PJ t) := by
      rw [SM, aAF h.IQ hkeys (fun c hc => by
        obtain ⟨p, hp, rfl⟩ := List.mem_map.1 hc
        exact ⟨p, hq.mem_iff.1 hp, h.key p (hq.mem_iff.1 hp)⟩)]
      refine SQ fun p hp => ?_
      have hf := ZX hkeys (List.mem_map_of_mem (f := pV t) (hq.mem_iff.2 hp))
      rw [← h.key p hp] at hf
      unfold DI PJ
      rw [hf]
    refine ⟨?_, p1, p2⟩
    have hs := p2.sum
    rw [hc] at hs
    generalize hx : (q.map (pV t)).foldl wH b = x at hc hs p3
    obtain ⟨xc, xe, xm⟩ := x
    simp only at hc hs p3
    rw [hc, hs, p3]
  refine ⟨⟨b.cells.filterMap (PJ t), ((qI (b.cells.filterMap (PJ t)) : Nat) : Int), t⟩, EM fun q hq => ?_, ?_, rfl⟩
  · rw [hstart q hq]
    simp only [Option.bind_some, BV]
    rw [hnn q hq]
    simp only [Option.bind_some]
    rw [show decide ((4096 : Int) < (((flat (qZ (fun f => rest f t) (groups T))).length : Nat) : Int)) = false from by simp only [decide_eq_false_iff_not]; omega]
    simp only [cond_false]
    obtain ⟨h1, h2, _⟩ := hputs q hq
    rw [h2, h1]
    rfl
  · obtain ⟨h1, _, h3⟩ := hputs b.cells (.refl _)
    have hrows : ((b.cells.map (pV t)).map (·.row)).Nodup := by
      rw [List.map_map]; exact h.WR
    have his : mC ((b.cells.map (pV t)).foldl wH b) (fJ T t).1 := by
      refine h3.is (aEx h.tab (by omega) h0) ?_ fun r _ => ?_
      · intro e he v hv
        have hj : bU (fJ T t).1 e.Row ≠ [] := by
          intro e0
          have : jE e ∈ bU (fJ T t).1 e.Row := List.mem_map.2 ⟨e, List.mem_filter.2 ⟨he, by simp⟩, rfl⟩
          rw [e0] at this; cases this
        rw [BY h0] at hj
        by_cases hx : ∃ x ∈ T, x.Row = e.Row
        · obtain ⟨x, hx, e1⟩ := hx
          exact h.num x hx v (e1 ▸ hv)
        · have : bU T e.Row = [] := KF fun x hx' e1 => hx ⟨x, hx', e1⟩
          rw [this, DL] at hj
          exact absurd rfl hj
      · rw [pO (ES h0), BY h0]
        by_cases hx : ∃ p ∈ b.cells, p.2.row = r
        · obtain ⟨p, hp, rfl⟩ := hx
          have h4 := RE (L := look (groups T)) hrows (List.mem_map_of_mem (f := pV t) hp)
          have e : bU T p.2.row = p.2.jumps := by rw [← pW h.srt]; exact uA h.srt (h.mem hp)
          rw [e]
          exact h4.symm
        · rw [JH (fun c hc e => by
            obtain ⟨p, hp, rfl⟩ := List.mem_map.1 hc
            exact hx ⟨p, hp, e⟩)]
          have e : look (groups T) r = [] := uT fun g hg e => by
            obtain ⟨p, hp, e'⟩ := List.mem_map.1 (h.perm.mem_iff.2 hg)
            exact hx ⟨p, hp, by rw [← e, ← e']⟩
          rw [e, ← pW h.srt, e, DL]
    rw [h1] at his
    exact ⟨his.key, his.perm, his.tab, his.num, his.edges⟩

end Go.Abs
namespace Go.Abs
open Go
theorem aDX {a b : List Int} (h : a.Perm b) : a.sum = b.sum := by
  induction h with
  | nil => rfl
  | cons x _ ih => simp [ih]
  | swap x y l => simp; omega
  | trans _ _ i1 i2 => exact i1.trans i2

def pos (x : Int) : Int := if (0 : Int) > x then 0 else x

def tT (f : List aD) : Int := (f.map fun j => pos j.Net).sum

def TK (T : List aM) : Int := (T.map fun e => pos e.Net).sum

theorem VQ {x b : Int} (h0 : 0 ≤ b) (h : x ≤ b) : 0 ≤ pos x ∧ pos x ≤ b := by unfold pos; split <;> omega

theorem OQ : ∀ {f : List aD}, (∀ j ∈ f, j.Net ≤ 1048576) → 0 ≤ tT f ∧ tT f ≤ 1048576 * (f.length : Int)
  | [], _ => by simp [tT]
  | j :: f, h => by
    have h1 := OQ fun x hx => h x (List.mem_cons_of_mem _ hx)
    have h2 := VQ (by omega) (h j (List.mem_cons_self ..))
    have e : tT (j :: f) = pos j.Net + tT f := by simp [tT]
    rw [e, List.length_cons]
    push_cast
    omega

theorem aGu {js : List aD} (hl : js.length ≤ 1024) (hj : ∀ j ∈ js, j.Net ≤ 1048576) {n : Int} (h0 : 0 ≤ n) (hn : n ≤ 100000000000000) : lp (fun s => rB js (lN js) s.1 s.2) (n, (0 : Int)) = some (n + tT js) := by
  rw [DJ (l := js) (st := Int) (fun s i => (s, i)) (fun s r => s + tT r) (fun s r => 0 ≤ s ∧ s + 1048576 * (r.length : Int) ≤ 200000000000000 ∧ ∀ j ∈ r, j.Net ≤ 1048576) n ?_ ?_ ⟨h0, by omega, hj⟩]
  · intro i a r s hi hinv
    obtain ⟨h1, h2, h3⟩ := hinv
    have hlt := (List.getElem?_eq_some_iff.1 hi).1
    have ha := VQ (by omega) (h3 a (List.mem_cons_self ..))
    rw [List.length_cons] at h2
    push_cast at h2
    refine .inl ⟨s + pos a.Net, ?_, ⟨by omega, by omega, fun c hc => h3 c (List.mem_cons_of_mem _ hc)⟩, by simp [tT, Int.add_assoc]⟩
    simp only [rB, lN, gD, wR]
    rw [show decide ((i : Int) < ((js.length : Nat) : Int)) = true from by simp only [decide_eq_true_eq]; omega]
    simp only [cond_true]
    rw [aQ (by omega), Int.toNat_natCast, List.getD_eq_getElem?_getD, hi, Option.getD_some]
    show some (Sum.inl (IntKind.i64.wrap (s + pos a.Net), IntKind.i64.wrap ((i : Int) + 1))) = _
    rw [eH (by omega) (by omega), eH (by omega) (by omega)]
    rfl
  · intro s _
    simp only [rB, lN]
    rw [show decide (((js.length : Nat) : Int) < ((js.length : Nat) : Int)) = false from by simp]
    simp [tT]

theorem aFE : ∀ (q : List (ByteArray × aC)) (n : Int), (∀ p ∈ q, eZ p.2.jumps = true) → 0 ≤ n → n + 1073741824 * (q.length : Int) ≤ 100000000000000 →
    mS (fun (n : Int) (p : ByteArray × aC) => lp (fun s => rB p.2.jumps (lN p.2.jumps) s.1 s.2) (n, (0 : Int))) n q = some (n + (q.map fun p => tT p.2.jumps).sum) := by
  intro q
  induction q with
  | nil => intro n _ _ _; simp [mS]
  | cons p q ih =>
    intro n hm h0 hn
    have hp := hm p (List.mem_cons_self ..)
    have hb : ∀ j ∈ p.2.jumps, j.Net ≤ 1048576 := fun j hj => (yI hp j hj).2.2.2.1
    have hl := (mY.1 hp).1
    have hc := OQ hb
    rw [List.length_cons] at hn
    push_cast at hn
    show (lp (fun s => rB p.2.jumps (lN p.2.jumps) s.1 s.2) (n, (0 : Int))).bind _ = _
    rw [aGu hl hb h0 (by omega)]
    simp only [Option.bind_some]
    rw [ih _ (fun x hx => hm x (List.mem_cons_of_mem _ hx)) (by omega) (by omega)]
    simp [Int.add_assoc]

theorem UG : ∀ gs : List (List aE × List aD), TK (flat gs) = (gs.map fun g => tT g.2).sum
  | [] => rfl
  | g :: gs => by
    have h1 := UG gs
    unfold TK at h1 ⊢
    rw [tQ, List.map_append, List.sum_append, h1, List.map_cons, List.sum_cons]
    congr 1
    unfold nC tT
    rw [List.map_map]; rfl

theorem aFi {b : bY} {T : List aM} (h : mC b T) : zY b = some (TK T) := by
  unfold zY
  refine EM fun q hq => ?_
  have hl := h.len
  rw [aFE q 0 (fun p hp => (h.cell (hq.mem_iff.1 hp)).2.1) (by omega) (by rw [hq.length_eq]; omega)]
  simp only [Option.bind_some]
  have h1 := ((hq.map fun p => (p.2.row, p.2.jumps)).trans h.perm).map fun g : List aE × List aD => tT g.2
  rw [List.map_map] at h1
  have h2 := UG (groups T)
  rw [rE] at h2
  rw [h2, ← aDX h1, Int.zero_add]
  rfl

abbrev tZ : List aE := [⟨1, 1, ByteArray.empty⟩]

theorem aG7 {l : List aM} (h : ∀ e ∈ l, e.Row = tZ) : MB l := by
  intro e he v hv
  rw [h e he] at hv
  simp only [List.mem_singleton] at hv
  subst hv
  exact ⟨by decide, by decide⟩

theorem lv1 : mW [] (-1) [⟨tZ, 2, 1⟩, ⟨tZ, 9, -1⟩] = 0 := by decide +kernel

theorem lv2 : eF ([] ++ [⟨tZ, 2, 1⟩, ⟨tZ, 9, -1⟩]) = ([⟨tZ, 2, 1⟩, ⟨tZ, 9, -1⟩], 0) := by decide +kernel

theorem lv3 : fJ [⟨tZ, 2, 1⟩, ⟨tZ, 9, -1⟩] 5 = ([⟨tZ, -1, 1⟩, ⟨tZ, 9, -1⟩], 0) := by decide +kernel

theorem lv4 : mW [⟨tZ, -1, 1⟩, ⟨tZ, 9, -1⟩] 5 [⟨tZ, 4, 1⟩] = 16 := by decide +kernel

theorem lv5 : TK [⟨tZ, -1, 1⟩, ⟨tZ, 9, -1⟩] = 1 := by decide +kernel

theorem aEs : pQ = some true := by
  obtain ⟨b1, a1, a2, a3, _⟩ := YS aDs (l := [⟨tZ, 2, 1⟩, ⟨tZ, 9, -1⟩]) (TL (by simp) (by simp)) (aG7 (by simp))
  have a3 := a3 lv1
  rw [lv2] at a3
  have lv1' : mW [] (⟨[], 0, -1⟩ : bY).mark [⟨tZ, 2, 1⟩, ⟨tZ, 9, -1⟩] = 0 := lv1
  rw [lv1'] at a1
  obtain ⟨_, _, f3⟩ := NV a3 (by rw [a2]; decide) 5
  obtain ⟨b2, f3, f4, f5⟩ := f3 (by rw [a2]; decide) (by rw [lv3])
  rw [lv3] at f4
  obtain ⟨b3, c1, c2, _, c4⟩ := YS f4 (l := [⟨tZ, 4, 1⟩]) (TL (by simp) (by simp)) (aG7 (by simp))
  rw [f5] at c1 c2 c4
  rw [lv4] at c1 c4
  have c4 := c4 (by decide)
  subst c4
  unfold pQ
  simp only [xQ, Option.bind_some]
  rw [a1]
  simp only [Option.bind_some]
  rw [f3]
  simp only [Option.bind_some]
  rw [c1]
  simp only [Option.bind_some, decide_true, Bool.and_self, cond_true, yA, f5]
  rw [aFi f4, lv5]
  simp only [Option.bind_some, decide_true, Bool.and_self, cond_true]
  rw [RZ f4]
  simp only [Option.bind_some]
  rw [QJ (TL (by simp) (by simp))]
  simp [cZ]

end Go.Abs
namespace Go.Abs
open Go
theorem aAB {l : List aM} (m : ∀ a ∈ l, sJ a) : MB l := fun e he v hv => ((m e he).1.1 v hv).2.1

theorem aF9 {T : List aM} (h : qM T = true) : okL T := by
  have hm := (oZ.1 h).1
  exact TL (lT hm).1 fun e he => (DC (BW hm he).1).1

theorem RF {b : bY} {T l : List aM} (h : mC b T) (hl : okL l) (hn : MB l) : ∃ b' T', rG b l = some (mW T b.mark l, b') ∧ b'.mark = b.mark ∧ mC b' T' ∧ (mW T b.mark l = 0 → T' = (eF (T ++ l)).1) ∧ (mW T b.mark l ≠ 0 → b' = b ∧ T' = T) := by
  obtain ⟨b', a1, a2, a3, a4⟩ := YS h hl hn
  by_cases e : mW T b.mark l = 0
  · exact ⟨b', _, a1, a2, a3 e, fun _ => rfl, fun h => absurd e h⟩
  · exact ⟨b', T, a1, a2, a4 e ▸ h, fun h => absurd h e, fun h => ⟨a4 h, rfl⟩⟩

theorem aBs {T l : List aM} {m : Int} (h : mW T m l = 0) : nJ l = true ∧ (∀ e ∈ l, m ≤ e.At) ∧ (eF (T ++ l)).2 = 0 ∧ qM (eF (T ++ l)).1 = true := by
  unfold mW at h
  cases h1 : nJ l with
  | false => rw [if_pos h1] at h; cases h
  | true =>
    rw [if_neg (by simp [h1])] at h
    cases h2 : (l.any fun e => decide (e.At < m)) with
    | true => rw [if_pos h2] at h; cases h
    | false =>
      rw [if_neg (by simp [h2])] at h
      by_cases h3 : (eF (T ++ l)).2 = 0
      · rw [if_neg (by simp [h3])] at h
        cases h4 : qM (eF (T ++ l)).1 with
        | false => rw [if_neg (by simp [h4])] at h; cases h
        | true =>
          refine ⟨rfl, fun e he => ?_, h3, rfl⟩
          have := List.any_eq_false.1 h2 e he
          simp only [decide_eq_true_eq] at this
          omega
      · rw [if_pos h3] at h; cases h

end Go.Abs
namespace Go.Abs
open Go
theorem MF {l : List aM} {t p : Int} (h : ∀ e ∈ l, t ≤ e.At) (hp : p < t) (r : List aE) : val (bU l r) p = 0 := by
  refine uU fun j hj => ?_
  obtain ⟨e, he, rfl⟩ := List.mem_map.1 hj
  have := h e (List.mem_filter.1 he).1
  show p < e.At
  omega

theorem aBB {T l : List aM} {t : Int} (h0 : 0 ≤ t) (h1 : t < 1125899906842624) (hT : nJ T = true) (hk : (fJ T t).2 = 0) (hl : ∀ e ∈ l, t ≤ e.At) (r : List aE) {p : Int} (hp : -1 ≤ p) : val (bU (fJ T t).1 r) p = val (bU T r) (if p < t then t - 1 else p) := by
  rw [BY hk]
  have he := YV (by1 := fun f => rest f t) (by rw [DL]) hk r
  rw [pO hT] at he
  exact aEX (nS hT r) h0 h1 he p hp

theorem RV {T l : List aM} {t : Int} (h0 : 0 ≤ t) (h1 : t < 1125899906842624) (hT : nJ T = true) (hk : (fJ T t).2 = 0) (hl : ∀ e ∈ l, t ≤ e.At) (r : List aE) {p : Int} (hp : -1 ≤ p) : val (bU ((fJ T t).1 ++ l) r) p = val (bU (T ++ l) r) (if p < t then t - 1 else p) := by
  rw [oR, oR, rZ, rZ, aBB h0 h1 hT hk hl r hp]
  by_cases h : p < t
  · rw [if_pos h, MF hl h, MF hl (show t - 1 < t by omega)]
  · rw [if_neg h]

theorem aEp {T l : List aM} {t : Int} (h0 : 0 ≤ t) (h1 : t < 1125899906842624) (hT : nJ T = true) (hk : (fJ T t).2 = 0) (hl : ∀ e ∈ l, t ≤ e.At) (e1 : (eF ((fJ T t).1 ++ l)).2 = 0) (e2 : (eF (T ++ l)).2 = 0) (e3 : (fJ (eF (T ++ l)).1 t).2 = 0) : (eF ((fJ T t).1 ++ l)).1 = (fJ (eF (T ++ l)).1 t).1 := by
  refine YO (wX e1) (ES e3) fun r p p1 p2 => ?_
  rw [JJ e1 r p1 p2, RV h0 h1 hT hk hl r (by omega), aBB h0 h1 (wX e2) e3 hl r (by omega)]
  rw [JJ e2 r (by split <;> omega) (by split <;> omega)]

theorem aAY {T l : List aM} {t : Int} (h0 : 0 ≤ t) (h1 : t < 1125899906842624) (hT : nJ T = true) (hk : (fJ T t).2 = 0) (hl : ∀ e ∈ l, t ≤ e.At) (hTt : qM T = true) (e1 : (eF ((fJ T t).1 ++ l)).2 = 0) (e2 : (eF (T ++ l)).2 = 0) : qM (eF ((fJ T t).1 ++ l)).1 = qM (eF (T ++ l)).1 := by
  rw [Bool.eq_iff_iff]
  constructor
  · intro ht
    refine PY e2 fun r p p1 p2 => ?_
    by_cases h : p < t
    · rw [oR, rZ, MF hl h]
      have := (oZ.1 hTt).2 r p
      omega
    · have h2 := (oZ.1 ht).2 r p
      rw [JJ e1 r p1 p2, RV h0 h1 hT hk hl r (by omega), if_neg h] at h2
      exact h2
  · intro ht
    refine PY e1 fun r p p1 p2 => ?_
    rw [RV h0 h1 hT hk hl r (by omega)]
    have h2 := (oZ.1 ht).2 r (if p < t then t - 1 else p)
    rw [JJ e2 r (by split <;> omega) (by split <;> omega)] at h2
    exact h2

theorem SL (l0 : (List aM)) (m0 : ∀ a ∈ l0, sJ a) (y0 : List.length l0 * 40 ≤ 140737488351232) (l1 : (List aM)) (m1 : ∀ a ∈ l1, sJ a) (y1 : List.length l1 * 40 ≤ 140737488351232) (a2 : Int) (w2 : tY a2) : tJ l0 l1 a2 = some true := by
  have k0 := aDr m0 y0
  have k1 := aDr m1 y1
  unfold tJ
  rw [aEs]
  cases hc : ((((decide ((2000 : Int) < ((List.length l0 : Nat) : Int))) || (decide ((2000 : Int) < ((List.length l1 : Nat) : Int)))) || (decide (a2 < (0 : Int)))) || (decide ((1125899906842624 : Int) ≤ a2))) with
  | true => rfl
  | false =>
  simp only [Bool.or_eq_false_iff, decide_eq_false_iff_not] at hc
  obtain ⟨⟨_, t0⟩, t1⟩ := hc
  have t0 : 0 ≤ a2 := by omega
  have t1 : a2 < 1125899906842624 := by omega
  simp only [cond_false, xQ, Option.bind_some]
  obtain ⟨b1, T1, q1, q2, h1, q4, q5⟩ := RF aDs k0 (aAB m0)
  have mk1 : b1.mark = -1 := q2
  rw [q1]
  simp only [Option.bind_some]
  by_cases e1 : mW [] (⟨[], 0, -1⟩ : bY).mark l0 = 0
  · rw [e1]
    simp only [decide_true, Bool.not_true, Bool.not_false, cond_true, Option.bind_some, Bool.or_self, Bool.false_or]
    obtain ⟨_, f2, f3⟩ := NV h1 (by rw [mk1]; decide) a2
    by_cases hk : (fJ T1 a2).2 = 0
    · obtain ⟨b2, f3, h2, mk2⟩ := f3 (by rw [mk1]; omega) hk
      rw [f3]
      simp only [Option.bind_some, decide_true, Bool.not_true, cond_false]
      obtain ⟨b3, T3, c1, c2, h3, c4, c5⟩ := RF h2 k1 (aAB m1)
      rw [c1]
      simp only [Option.bind_some]
      by_cases e16 : mW (fJ T1 a2).1 b2.mark l1 = 16
      · rw [e16]
        simp only [decide_true, cond_true, Option.bind_some, yA, c2, mk2, Bool.and_self]
      · simp only [e16, decide_false, cond_false]
        obtain ⟨b4, T4, d1, d2, h4, d4, d5⟩ := RF h1 k1 (aAB m1)
        rw [d1]
        simp only [Option.bind_some]
        rw [mk2] at e16 c1 c4 c5 ⊢
        rw [mk1] at d1 d4 d5 d2 ⊢
        by_cases both : mW (fJ T1 a2).1 a2 l1 = 0 ∧ mW T1 (-1) l1 = 0
        · obtain ⟨eA, eB⟩ := both
          rw [eA, eB]
          simp only [decide_true, Bool.and_self, cond_true]
          have c4 := c4 eA
          have d4 := d4 eB
          obtain ⟨mm, late, nA, _⟩ := aBs eA
          obtain ⟨_, _, nB, _⟩ := aBs eB
          obtain ⟨_, g2, g3⟩ := NV h4 (by rw [d2]; decide) a2
          by_cases hk4 : (fJ T4 a2).2 = 0
          · obtain ⟨b5, g3, h5, _⟩ := g3 (by rw [d2]; omega) hk4
            rw [g3]
            simp only [Option.bind_some, decide_true, cond_true]
            rw [RZ h3]
            simp only [Option.bind_some]
            rw [RZ h5]
            simp only [Option.bind_some, cZ, cond_true]
            rw [QJ (aF9 h3.tab)]
            have : T3 = (fJ T4 a2).1 := by
              rw [d4] at hk4 ⊢
              rw [c4]
              exact aEp t0 t1 h1.may hk late nA nB hk4
            simp [this]
          · rw [g2 (by rw [d2]; omega) hk4]
            rfl
        · have hcond : ((decide (mW (fJ T1 a2).1 a2 l1 = (0 : Int))) && (decide (mW T1 (-1) l1 = (0 : Int)))) = false := by
            cases hx : ((decide (mW (fJ T1 a2).1 a2 l1 = (0 : Int))) && (decide (mW T1 (-1) l1 = (0 : Int)))) with
            | false => rfl
            | true => simp only [Bool.and_eq_true, decide_eq_true_eq] at hx; exact absurd hx both
          rw [hcond]
          simp only [cond_false, Option.bind_some]
          have hfin : mW (fJ T1 a2).1 a2 l1 = mW T1 (-1) l1 ∨ mW T1 (-1) l1 = 7 ∨ mW (fJ T1 a2).1 a2 l1 = 7 := by
            cases hm : nJ l1 with
            | false =>
              left
              unfold mW; rw [if_pos hm, if_pos hm]
            | true =>
              have late : (l1.any fun e => decide (e.At < a2)) = false := by
                cases hx : (l1.any fun e => decide (e.At < a2)) with
                | false => rfl
                | true =>
                  exfalso
                  apply e16
                  unfold mW; rw [if_neg (by simp [hm]), if_pos hx]
              have late' : ∀ e ∈ l1, a2 ≤ e.At := fun e he => by
                have := List.any_eq_false.1 late e he
                simp only [decide_eq_true_eq] at this
                omega
              have aHt : (l1.any fun e => decide (e.At < (-1 : Int))) = false := by
                rw [List.any_eq_false]
                intro e he
                have := late' e he
                simp only [decide_eq_true_eq]
                omega
              have u1 : mW (fJ T1 a2).1 a2 l1 = if (eF ((fJ T1 a2).1 ++ l1)).2 ≠ 0 then 7 else if qM (eF ((fJ T1 a2).1 ++ l1)).1 = true then 0 else 20 := by
                unfold mW; rw [if_neg (by simp [hm]), if_neg (by simp [late])]
              have u2 : mW T1 (-1) l1 = if (eF (T1 ++ l1)).2 ≠ 0 then 7 else if qM (eF (T1 ++ l1)).1 = true then 0 else 20 := by
                unfold mW; rw [if_neg (by simp [hm]), if_neg (by simp [aHt])]
              by_cases n1 : (eF ((fJ T1 a2).1 ++ l1)).2 = 0
              · by_cases n2 : (eF (T1 ++ l1)).2 = 0
                · left
                  rw [u1, u2, aAY t0 t1 h1.may hk late' h1.tab n1 n2, n1, n2]
                · right; left
                  rw [u2, if_pos n2]
              · right; right
                rw [u1, if_pos n1]
          rcases hfin with h | h | h <;> rw [h] <;> simp
    · rw [f2 (by rw [mk1]; omega) hk]
      rfl
  · simp only [e1, decide_false, Bool.not_false, Bool.not_true, cond_false, Option.bind_some, Bool.true_or, Bool.or_true, cond_true]

end Go.Abs
