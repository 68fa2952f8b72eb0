/- What the law BagUndo stands on: the framework, the given functions as plain functions, their walks, and the plain laws; part 6. -/
import Derived.Test.YtapehjfhmhfaoaaBagUndoZ5
set_option linter.unusedSimpArgs false
set_option linter.unusedVariables false
namespace Go.Abs
open Go
theorem aGx {a j : Nat} {d : List Int} (ha : a < d.length) (hj : j < d.length) (hl : d.length < 2305843009213693951) : ∀ i, i ≤ j + 1 → fM (a : Nat) (j : Nat) d (i : Nat) = if i ≤ j ∧ gN d i < gN d a then some (.inl (d, ((i + 1 : Nat) : Int))) else some (.inr (d, (i : Int))) := by
  intro i hi
  unfold fM
  rw [wrN (x := (i : Int) + 1) (n := i + 1) (by omega) (by omega)]
  exact RJ (u := i) (v := a) (by omega) (by omega)

theorem aEY {a j : Nat} {d : List Int} (ha : a < d.length) (hj : j < d.length) (hl : d.length < 2305843009213693951) : ∀ i, i ≤ j + 1 → gC (a : Nat) (j : Nat) d (i : Nat) = if i ≤ j ∧ gN d i < gN d a then some (.inl (d, ((i + 1 : Nat) : Int))) else some (.inr (d, (i : Int))) := by
  intro i hi
  unfold gC
  rw [wrN (x := (i : Int) + 1) (n := i + 1) (by omega) (by omega)]
  exact RJ (u := i) (v := a) (by omega) (by omega)

theorem aCU {a i m : Nat} {d : List Int} (hi : 1 ≤ i) (ha : a < d.length) (hm : m < d.length) (hl : d.length < 2305843009213693951) : ∀ j, j ≤ m → fW (a : Nat) (i : Nat) d (j : Nat) = if i ≤ j ∧ ¬ gN d j < gN d a then some (.inl (d, ((j - 1 : Nat) : Int))) else some (.inr (d, (j : Int))) := by
  intro j hj
  unfold fW
  refine (RG (i := i) (j := j) (d := d) (α := (List Int × Int) ⊕ (List Int × Int)) (u := j) (v := a) (x := some (.inl (d, IntKind.i64.wrap ((j : Int) - 1)))) (y := some (.inr (d, (j : Int)))) (by omega) (by omega)).trans ?_
  by_cases h : i ≤ j ∧ ¬ gN d j < gN d a
  · rw [if_pos h, if_pos h, wrN (x := (j : Int) - 1) (n := j - 1) (by omega) (by omega)]
  · rw [if_neg h, if_neg h]

theorem aCl {a i m : Nat} {d : List Int} (hi : 1 ≤ i) (ha : a < d.length) (hm : m < d.length) (hl : d.length < 2305843009213693951) : ∀ j, j ≤ m → gI (a : Nat) (i : Nat) d (j : Nat) = if i ≤ j ∧ ¬ gN d j < gN d a then some (.inl (d, ((j - 1 : Nat) : Int))) else some (.inr (d, (j : Int))) := by
  intro j hj
  unfold gI
  refine (RG (i := i) (j := j) (d := d) (α := (List Int × Int) ⊕ (List Int × Int)) (u := j) (v := a) (x := some (.inl (d, IntKind.i64.wrap ((j : Int) - 1)))) (y := some (.inr (d, (j : Int)))) (by omega) (by omega)).trans ?_
  by_cases h : i ≤ j ∧ ¬ gN d j < gN d a
  · rw [if_pos h, if_pos h, wrN (x := (j : Int) - 1) (n := j - 1) (by omega) (by omega)]
  · rw [if_neg h, if_neg h]

theorem aEk {a j : Nat} {d : List Int} (ha : a < d.length) (hj : j < d.length) (hl : d.length < 2305843009213693951) : ∀ i, i ≤ j + 1 → eC (a : Nat) (j : Nat) d (i : Nat) = if i ≤ j ∧ ¬ gN d a < gN d i then some (.inl (d, ((i + 1 : Nat) : Int))) else some (.inr (d, (i : Int))) := by
  intro i hi
  unfold eC
  rw [wrN (x := (i : Int) + 1) (n := i + 1) (by omega) (by omega)]
  exact RG (u := a) (v := i) (by omega) (by omega)

theorem aB6 {a i m : Nat} {d : List Int} (hi : 1 ≤ i) (ha : a < d.length) (hm : m < d.length) (hl : d.length < 2305843009213693951) : ∀ j, j ≤ m → eG (a : Nat) (i : Nat) d (j : Nat) = if i ≤ j ∧ gN d a < gN d j then some (.inl (d, ((j - 1 : Nat) : Int))) else some (.inr (d, (j : Int))) := by
  intro j hj
  unfold eG
  refine (RJ (i := i) (j := j) (d := d) (α := (List Int × Int) ⊕ (List Int × Int)) (u := a) (v := j) (x := some (.inl (d, IntKind.i64.wrap ((j : Int) - 1)))) (y := some (.inr (d, (j : Int)))) (by omega) (by omega)).trans ?_
  by_cases h : i ≤ j ∧ gN d a < gN d j
  · rw [if_pos h, if_pos h, wrN (x := (j : Int) - 1) (n := j - 1) (by omega) (by omega)]
  · rw [if_neg h, if_neg h]

structure FC (a b i j : Nat) (d : List Int) : Prop where
  hi : a < i
  hij : i ≤ j + 1
  hj : j < b
  lo : ∀ k, a < k → k < i → gN d k < gN d a
  up : ∀ k, j < k → k < b → gN d a ≤ gN d k

theorem FC.swap {a b i j : Nat} {d : List Int} (h : FC a b i j d) (hb : b ≤ d.length) (hij : i < j) (h1 : gN d a ≤ gN d i) (h2 : gN d j < gN d a) : FC a b (i + 1) (j - 1) (swp d i j) := by
  have := h.hi; have := h.hj
  have g := wA (d := d) (i := i) (j := j) (by omega) (by omega)
  have ga : gN (swp d i j) a = gN d a := by rw [g, if_neg (by omega), if_neg (by omega)]
  refine ⟨by omega, by omega, by omega, fun k k1 k2 => ?_, fun k k1 k2 => ?_⟩
  · rw [ga, g, if_neg (by omega)]
    by_cases hk : k = i
    · rw [if_pos hk]; exact h2
    · rw [if_neg hk]; exact h.lo k k1 (by omega)
  · rw [ga, g]
    by_cases hk : k = j
    · rw [if_pos hk]; exact h1
    · rw [if_neg hk, if_neg (by omega)]; exact h.up k (by omega) k2

theorem UL {a b i j : Nat} {d : List Int} (h : FC a b i j d) (hb : b ≤ d.length) (hl : d.length < 2305843009213693951) : ∃ i' j' : Nat, FC a b i' j' d ∧ i ≤ i' ∧ j' ≤ j ∧ (j' < i' → j' + 1 = i') ∧ (i' ≤ j' → i' < j' ∧ gN d a ≤ gN d i' ∧ gN d j' < gN d a) ∧
    dU (a : Nat) d (i : Nat) (j : Nat) = jL d (a : Nat) (i' : Nat) (j' : Nat) ∧ iT d (a : Nat) (i : Nat) (j : Nat) = jF d (a : Nat) (i' : Nat) (j' : Nat) := by
  have h1 := h.hi; have h2 := h.hij; have h3 := h.hj
  obtain ⟨i', e1, a1, a2, a3, a4⟩ := VB (body := fun s => gC (a : Nat) (j : Nat) s.1 s.2) (d := d) (p := fun k => gN d k < gN d a) (j := j) (aEY (a := a) (j := j) (d := d) (by omega) (by omega) hl) (j + 1 - i) i rfl h2
  obtain ⟨i2, e1', b1, b2, b3, b4⟩ := VB (body := fun s => fM (a : Nat) (j : Nat) s.1 s.2) (d := d) (p := fun k => gN d k < gN d a) (j := j) (aGx (a := a) (j := j) (d := d) (by omega) (by omega) hl) (j + 1 - i) i rfl h2
  have hii : i2 = i' := by
    rcases Nat.lt_trichotomy i2 i' with hh | hh | hh
    · exact absurd (a3 i2 b1 hh) (b4 (by omega))
    · exact hh
    · exact absurd (b3 i' a1 hh) (a4 (by omega))
  subst hii
  obtain ⟨j', f1, c1, c2, c3, c4⟩ := NW (body := fun s => gI (a : Nat) (i2 : Nat) s.1 s.2) (d := d) (p := fun k => ¬ gN d k < gN d a) (i := i2) (m := j) (by omega) (aCl (a := a) (i := i2) (m := j) (d := d) (by omega) (by omega) (by omega) hl) j (Nat.le_refl _) a2
  obtain ⟨j2, f1', g1, g2, g3, g4⟩ := NW (body := fun s => fW (a : Nat) (i2 : Nat) s.1 s.2) (d := d) (p := fun k => ¬ gN d k < gN d a) (i := i2) (m := j) (by omega) (aCU (a := a) (i := i2) (m := j) (d := d) (by omega) (by omega) (by omega) hl) j (Nat.le_refl _) a2
  have hjj : j2 = j' := by
    rcases Nat.lt_trichotomy j2 j' with hh | hh | hh
    · exact absurd (g3 j' hh c2) (c4 (by omega))
    · exact hh
    · exact absurd (c3 j2 hh g2) (g4 (by omega))
  subst hjj
  have hend : i2 ≤ j2 → i2 < j2 ∧ gN d a ≤ gN d i2 ∧ gN d j2 < gN d a := fun hh => by
    have k1 : ¬ gN d i2 < gN d a := a4 (by omega)
    have k2 : gN d j2 < gN d a := Classical.byContradiction fun hn => c4 hh hn
    refine ⟨?_, by omega, k2⟩
    rcases Nat.lt_or_ge i2 j2 with h | h
    · exact h
    · have : i2 = j2 := by omega
      rw [this] at k1; exact absurd k2 k1
  refine ⟨i2, j2, ⟨by omega, by omega, by omega, fun k k1 k2 => ?_, fun k k1 k2 => ?_⟩, a1, c2, fun hh => by omega, hend, ?_, ?_⟩
  · by_cases hk : k < i
    · exact h.lo k k1 hk
    · exact a3 k (by omega) k2
  · by_cases hk : j < k
    · exact h.up k hk k2
    · have := c3 k k1 (by omega); omega
  · unfold dU nN
    rw [show lp (fun s : List Int × Int => gC (a : Nat) (j : Nat) s.1 s.2) (d, (i : Int)) = some (d, (i2 : Int)) from e1]
    simp only [Option.bind_some]
    unfold nM nQ
    rw [show lp (fun s : List Int × Int => gI (a : Nat) (i2 : Nat) s.1 s.2) (d, (j : Int)) = some (d, (j2 : Int)) from f1]
    rfl
  · unfold iT
    rw [show lp (fun s : List Int × Int => fM (a : Nat) (j : Nat) s.1 s.2) (d, (i : Int)) = some (d, (i2 : Int)) from e1']
    simp only [Option.bind_some]
    unfold nU nS
    rw [show lp (fun s : List Int × Int => fW (a : Nat) (i2 : Nat) s.1 s.2) (d, (j : Int)) = some (d, (j2 : Int)) from f1']
    rfl

theorem FC.rel {a b i j : Nat} {d : List Int} (h : FC a b i j d) (hb : b ≤ d.length) (hij : i ≤ j) : Rel (a + 1) b d (swp d i j) := by
  have := h.hi; have := h.hj
  exact Rel.swp (i := i) (j := j) (by omega) (by omega) (by omega) (by omega)

theorem aFY {a b : Nat} : ∀ (n i j : Nat) (d : List Int), j + 1 - i = n → b ≤ d.length → d.length < 2305843009213693951 → FC a b i j d →
    ∃ (d' : List Int) (j' : Nat), lp (fun s : List Int × Int × Int => dU (a : Nat) s.1 s.2.1 s.2.2) (d, (i : Int), (j : Int)) = some (d', (j' : Int)) ∧ Rel (a + 1) b d d' ∧ FC a b (j' + 1) j' d' := by
  intro n
  induction n using Nat.strongRecOn with
  | ind n ih =>
    intro i j d h1 h2 h3 h
    obtain ⟨i', j', p1, p2, p3, p4, p5, p6, _⟩ := UL h h2 h3
    have q1 := p1.hi; have q2 := p1.hj; have q3 := p1.hij
    by_cases hlt : j' < i'
    · have hs : dU (a : Nat) d (i : Nat) (j : Nat) = some (.inr (d, (j' : Int))) := by
        rw [p6]
        unfold jL
        have : decide ((j' : Int) < (i' : Int)) = true := by simp; omega
        rw [this, cond_true]
      have := p4 hlt
      exact ⟨d, j', dI hs, Rel.refl .., by rw [this]; exact p1⟩
    · obtain ⟨k1, k2, k3⟩ := p5 (by omega)
      have hs : dU (a : Nat) d (i : Nat) (j : Nat) = some (.inl (swp d i' j', ((i' + 1 : Nat) : Int), ((j' - 1 : Nat) : Int))) := by
        rw [p6]
        unfold jL
        have : decide ((j' : Int) < (i' : Int)) = false := by simp; omega
        rw [this, cond_false]
        simp only [Int.toNat_natCast]
        rw [aR (asN (by omega)), aR (asN (by omega)), aR (asN (by omega)), aR (asN (by omega)), wrN (x := (i' : Int) + 1) (n := i' + 1) (by omega) (by omega), wrN (x := (j' : Int) - 1) (n := j' - 1) (by omega) (by omega)]
        rfl
      obtain ⟨d', j2, e, r, p⟩ := ih (j' - 1 + 1 - (i' + 1)) (by omega) (i' + 1) (j' - 1) (swp d i' j') rfl (by rw [kW]; exact h2) (by rw [kW]; exact h3) (p1.swap h2 k1 k2 k3)
      exact ⟨d', j2, (kG hs).trans e, (p1.rel h2 (by omega)).trans r, p⟩

theorem aAL {a b j : Nat} {d : List Int} (h : FC a b (j + 1) j d) (hb : b ≤ d.length) : Rel a b d (swp d j a) ∧ (∀ k, a ≤ k → k < j → gN (swp d j a) k ≤ gN (swp d j a) j) ∧ (∀ k, j < k → k < b → gN (swp d j a) j ≤ gN (swp d j a) k) := by
  have h1 := h.hi; have h3 := h.hj
  have g := wA (d := d) (i := j) (j := a) (by omega) (by omega)
  have gj : gN (swp d j a) j = gN d a := by
    rw [g]
    by_cases hh : j = a
    · rw [if_pos hh, hh]
    · rw [if_neg hh, if_pos rfl]
  refine ⟨Rel.swp (i := j) (j := a) (by omega) (by omega) (by omega) (by omega), fun k k1 k2 => ?_, fun k k1 k2 => ?_⟩
  · rw [gj, g]
    by_cases hk : k = a
    · rw [if_pos hk]
      have := h.lo j (by omega) (by omega); omega
    · rw [if_neg hk, if_neg (by omega)]
      have := h.lo k (by omega) (by omega); omega
  · rw [gj, g, if_neg (by omega), if_neg (by omega)]
    exact h.up k k1 k2

theorem aAC {lo hi p : Nat} {d : List Int} (h0 : lo < hi) (hb : hi ≤ d.length) (hl : d.length < 2305843009213693951) (hp : lo ≤ p ∧ p < hi) :
    ∃ (m : Nat) (fl : Bool) (d' : List Int), kK d (lo : Int) (hi : Int) (p : Int) = some (((m : Int), fl), d') ∧ lo ≤ m ∧ m < hi ∧ Rel lo hi d d' ∧ (∀ k, lo ≤ k → k < m → gN d' k ≤ gN d' m) ∧ (∀ k, m < k → k < hi → gN d' m ≤ gN d' k) := by
  unfold kK
  rw [aR (asN (by omega)), aR (asN (by omega)), aR (asN (by omega)), aR (asN (by omega)), wrN (x := (lo : Int) + 1) (n := lo + 1) (by omega) (by omega), wrN (x := (hi : Int) - 1) (n := hi - 1) (by omega) (by omega)]
  simp only [Int.toNat_natCast]
  have r0 : Rel lo hi d (swp d lo p) := Rel.swp (i := lo) (j := p) (by omega) (by omega) (by omega) (by omega)
  have l0 : (swp d lo p).length = d.length := kW ..
  have inv : FC lo hi (lo + 1) (hi - 1) (swp d lo p) := ⟨by omega, by omega, by omega, fun k k1 k2 => by omega, fun k k1 k2 => by omega⟩
  obtain ⟨i', j', p1, p2, p3, p4, p5, _, p6⟩ := UL inv (by rw [l0]; exact hb) (by rw [l0]; exact hl)
  have e0 : iT (List.set (List.set d lo (List.getD d p default)) p (List.getD d lo default)) (lo : Int) ((lo + 1 : Nat) : Int) ((hi - 1 : Nat) : Int) = jF (swp d lo p) (lo : Nat) (i' : Nat) (j' : Nat) := p6
  rw [e0]
  have q1 := p1.hi; have q2 := p1.hj; have q3 := p1.hij
  generalize hg : swp d lo p = d1 at *
  unfold jF
  by_cases hlt : j' < i'
  · have : decide ((j' : Int) < (i' : Int)) = true := by simp; omega
    rw [this, cond_true]
    simp only [Int.toNat_natCast]
    rw [aR (asN (by omega)), aR (asN (by omega)), aR (asN (by omega)), aR (asN (by omega))]
    have hp1 : FC lo hi (j' + 1) j' d1 := by rw [p4 hlt]; exact p1
    obtain ⟨r, a1, a2⟩ := aAL hp1 (by omega)
    exact ⟨j', true, swp d1 j' lo, rfl, by omega, by omega, r0.trans r, a1, a2⟩
  · obtain ⟨k1, k2, k3⟩ := p5 (by omega)
    have : decide ((j' : Int) < (i' : Int)) = false := by simp; omega
    rw [this, cond_false]
    simp only [Int.toNat_natCast]
    rw [aR (asN (by omega)), aR (asN (by omega)), aR (asN (by omega)), aR (asN (by omega)), wrN (x := (i' : Int) + 1) (n := i' + 1) (by omega) (by omega), wrN (x := (j' : Int) - 1) (n := j' - 1) (by omega) (by omega)]
    obtain ⟨d2, j2, e, r, pp⟩ := aFY (a := lo) (b := hi) (j' - 1 + 1 - (i' + 1)) (i' + 1) (j' - 1) (swp d1 i' j') rfl (by rw [kW]; omega) (by rw [kW]; omega) (p1.swap (by omega) k1 k2 k3)
    have w1 := pp.hi; have w2 := pp.hj
    have l2 : d2.length = d1.length := by rw [r.len, kW]
    unfold nP
    rw [show lp (fun s : List Int × Int × Int => dU (lo : Int) s.1 s.2.1 s.2.2) ((List.set (List.set d1 i' (List.getD d1 j' default)) j' (List.getD d1 i' default)), ((i' + 1 : Nat) : Int), ((j' - 1 : Nat) : Int)) = some (d2, (j2 : Int)) from e]
    simp only [Option.bind_some, nT, Int.toNat_natCast]
    rw [aR (asN (by omega)), aR (asN (by omega)), aR (asN (by omega)), aR (asN (by omega))]
    obtain ⟨rr, a1, a2⟩ := aAL pp (by omega)
    exact ⟨j2, false, swp d2 j2 lo, rfl, by omega, by omega, ((r0.trans ((p1.rel (by omega) (by omega)).mono (by omega) (Nat.le_refl _))).trans (r.mono (by omega) (Nat.le_refl _))).trans rr, a1, a2⟩

end Go.Abs
namespace Go.Abs
open Go
structure OV (a b i j : Nat) (d : List Int) : Prop where
  hi : a < i
  hij : i ≤ j + 1
  hj : j < b
  lo : ∀ k, a < k → k < i → gN d k ≤ gN d a
  up : ∀ k, j < k → k < b → gN d a < gN d k

theorem OV.swap {a b i j : Nat} {d : List Int} (h : OV a b i j d) (hb : b ≤ d.length) (hij : i < j) (h1 : gN d a < gN d i) (h2 : gN d j ≤ gN d a) : OV a b (i + 1) (j - 1) (swp d i j) := by
  have := h.hi; have := h.hj
  have g := wA (d := d) (i := i) (j := j) (by omega) (by omega)
  have ga : gN (swp d i j) a = gN d a := by rw [g, if_neg (by omega), if_neg (by omega)]
  refine ⟨by omega, by omega, by omega, fun k k1 k2 => ?_, fun k k1 k2 => ?_⟩
  · rw [ga, g, if_neg (by omega)]
    by_cases hk : k = i
    · rw [if_pos hk]; exact h2
    · rw [if_neg hk]; exact h.lo k k1 (by omega)
  · rw [ga, g]
    by_cases hk : k = j
    · rw [if_pos hk]; exact h1
    · rw [if_neg hk, if_neg (by omega)]; exact h.up k (by omega) k2

theorem aA6 {a b i j : Nat} {d : List Int} (h : OV a b i j d) (hb : b ≤ d.length) (hl : d.length < 2305843009213693951) : ∃ i' j' : Nat, OV a b i' j' d ∧ i ≤ i' ∧ j' ≤ j ∧ (j' < i' → j' + 1 = i') ∧ (i' ≤ j' → i' < j' ∧ gN d a < gN d i' ∧ gN d j' ≤ gN d a) ∧
    cW (a : Nat) d (i : Nat) (j : Nat) = fV d (a : Nat) (i' : Nat) (j' : Nat) := by
  have h1 := h.hi; have h2 := h.hij; have h3 := h.hj
  obtain ⟨i', e1, a1, a2, a3, a4⟩ := VB (body := fun s => eC (a : Nat) (j : Nat) s.1 s.2) (d := d) (p := fun k => ¬ gN d a < gN d k) (j := j) (aEk (a := a) (j := j) (d := d) (by omega) (by omega) hl) (j + 1 - i) i rfl h2
  obtain ⟨j', f1, c1, c2, c3, c4⟩ := NW (body := fun s => eG (a : Nat) (i' : Nat) s.1 s.2) (d := d) (p := fun k => gN d a < gN d k) (i := i') (m := j) (by omega) (aB6 (a := a) (i := i') (m := j) (d := d) (by omega) (by omega) (by omega) hl) j (Nat.le_refl _) a2
  have hend : i' ≤ j' → i' < j' ∧ gN d a < gN d i' ∧ gN d j' ≤ gN d a := fun hh => by
    have k1 : gN d a < gN d i' := Classical.byContradiction fun hn => a4 (by omega) hn
    have k2 : ¬ gN d a < gN d j' := c4 hh
    refine ⟨?_, k1, by omega⟩
    rcases Nat.lt_or_ge i' j' with h | h
    · exact h
    · have : i' = j' := by omega
      rw [this] at k1; exact absurd k1 k2
  refine ⟨i', j', ⟨by omega, by omega, by omega, fun k k1 k2 => ?_, fun k k1 k2 => ?_⟩, a1, c2, fun hh => by omega, hend, ?_⟩
  · by_cases hk : k < i
    · exact h.lo k k1 hk
    · have := a3 k (by omega) k2; omega
  · by_cases hk : j < k
    · exact h.up k hk k2
    · exact c3 k k1 (by omega)
  · unfold cW mE
    rw [show lp (fun s : List Int × Int => eC (a : Nat) (j : Nat) s.1 s.2) (d, (i : Int)) = some (d, (i' : Int)) from e1]
    simp only [Option.bind_some]
    unfold mF mH
    rw [show lp (fun s : List Int × Int => eG (a : Nat) (i' : Nat) s.1 s.2) (d, (j : Int)) = some (d, (j' : Int)) from f1]
    rfl

theorem aEp {a b : Nat} : ∀ (n i j : Nat) (d : List Int), j + 1 - i = n → b ≤ d.length → d.length < 2305843009213693951 → OV a b i j d →
    ∃ (d' : List Int) (j' : Nat), lp (fun s : List Int × Int × Int => cW (a : Nat) s.1 s.2.1 s.2.2) (d, (i : Int), (j : Int)) = some (d', ((j' + 1 : Nat) : Int)) ∧ Rel (a + 1) b d d' ∧ OV a b (j' + 1) j' d' := by
  intro n
  induction n using Nat.strongRecOn with
  | ind n ih =>
    intro i j d h1 h2 h3 h
    obtain ⟨i', j', p1, p2, p3, p4, p5, p6⟩ := aA6 h h2 h3
    have q1 := p1.hi; have q2 := p1.hj; have q3 := p1.hij
    by_cases hlt : j' < i'
    · have hs : cW (a : Nat) d (i : Nat) (j : Nat) = some (.inr (d, (i' : Int))) := by
        rw [p6]
        unfold fV
        have : decide ((j' : Int) < (i' : Int)) = true := by simp; omega
        rw [this, cond_true]
      have := p4 hlt
      exact ⟨d, j', by rw [this]; exact dI hs, Rel.refl .., by rw [this]; exact p1⟩
    · obtain ⟨k1, k2, k3⟩ := p5 (by omega)
      have hs : cW (a : Nat) d (i : Nat) (j : Nat) = some (.inl (swp d i' j', ((i' + 1 : Nat) : Int), ((j' - 1 : Nat) : Int))) := by
        rw [p6]
        unfold fV
        have : decide ((j' : Int) < (i' : Int)) = false := by simp; omega
        rw [this, cond_false]
        simp only [Int.toNat_natCast]
        rw [aR (asN (by omega)), aR (asN (by omega)), aR (asN (by omega)), aR (asN (by omega)), wrN (x := (i' : Int) + 1) (n := i' + 1) (by omega) (by omega), wrN (x := (j' : Int) - 1) (n := j' - 1) (by omega) (by omega)]
        rfl
      obtain ⟨d', j2, e, r, p⟩ := ih (j' - 1 + 1 - (i' + 1)) (by omega) (i' + 1) (j' - 1) (swp d i' j') rfl (by rw [kW]; exact h2) (by rw [kW]; exact h3) (p1.swap h2 k1 k2 k3)
      exact ⟨d', j2, (kG hs).trans e, (Rel.swp (i := i') (j := j') (by omega) (by omega) (by omega) (by omega)).trans r, p⟩

theorem XB {lo hi p : Nat} {d : List Int} (h0 : lo < hi) (hb : hi ≤ d.length) (hl : d.length < 2305843009213693951) (hp : lo ≤ p ∧ p < hi) :
    ∃ (m : Nat) (d' : List Int), gP d (lo : Int) (hi : Int) (p : Int) = some ((m : Int), d') ∧ lo < m ∧ m ≤ hi ∧ Rel lo hi d d' ∧ (∀ k, lo ≤ k → k < m → gN d' k ≤ gN d p) ∧ (∀ k, m ≤ k → k < hi → gN d p < gN d' k) := by
  unfold gP
  rw [aR (asN (by omega)), aR (asN (by omega)), aR (asN (by omega)), aR (asN (by omega)), wrN (x := (lo : Int) + 1) (n := lo + 1) (by omega) (by omega), wrN (x := (hi : Int) - 1) (n := hi - 1) (by omega) (by omega)]
  simp only [Int.toNat_natCast]
  have r0 : Rel lo hi d (swp d lo p) := Rel.swp (i := lo) (j := p) (by omega) (by omega) (by omega) (by omega)
  have l0 : (swp d lo p).length = d.length := kW ..
  have g := wA (d := d) (i := lo) (j := p) (by omega) (by omega)
  have g0 : gN (swp d lo p) lo = gN d p := by
    rw [g]
    by_cases hh : lo = p
    · rw [if_pos hh, hh]
    · rw [if_neg hh, if_pos rfl]
  have inv : OV lo hi (lo + 1) (hi - 1) (swp d lo p) := ⟨by omega, by omega, by omega, fun k k1 k2 => by omega, fun k k1 k2 => by omega⟩
  obtain ⟨d', j', e, r, pp⟩ := aEp (a := lo) (b := hi) (hi - 1 + 1 - (lo + 1)) (lo + 1) (hi - 1) (swp d lo p) rfl (by rw [l0]; exact hb) (by rw [l0]; exact hl) inv
  have w1 := pp.hi; have w2 := pp.hj
  have ga : gN d' lo = gN d p := by rw [r.out lo (by omega), g0]
  unfold mG
  rw [show lp (fun s : List Int × Int × Int => cW (lo : Int) s.1 s.2.1 s.2.2) ((List.set (List.set d lo (List.getD d p default)) p (List.getD d lo default)), ((lo + 1 : Nat) : Int), ((hi - 1 : Nat) : Int)) = some (d', ((j' + 1 : Nat) : Int)) from e]
  refine ⟨j' + 1, d', rfl, by omega, by omega, r0.trans (r.mono (by omega) (Nat.le_refl _)), fun k k1 k2 => ?_, fun k k1 k2 => ?_⟩
  · rw [← ga]
    by_cases hk : k = lo
    · rw [hk]; exact Int.le_refl _
    · exact pp.lo k (by omega) k2
  · rw [← ga]; exact pp.up k (by omega) k2

theorem aBU {lo i : Nat} {d : List Int} : ∀ (n i' : Nat), i' - i = n → sY lo i d → lo < i → (∀ k, i ≤ k → k < i' → gN d (k - 1) ≤ gN d k) → sY lo i' d
  | 0, i', h, hs, _, _ => fun p q p1 p2 p3 => hs p q p1 p2 (by omega)
  | n + 1, i', h, hs, hl, hk => by
    have ih := aBU (d := d) n (i' - 1) (by omega) hs hl fun k k1 k2 => hk k k1 (by omega)
    intro p q p1 p2 p3
    by_cases hq : q = i' - 1
    · by_cases hp : p = q
      · rw [hp]; exact Int.le_refl _
      · have h1 := hk q (by omega) (by omega)
        have h2 := ih p (q - 1) p1 (by omega) (by omega)
        omega
    · exact ih p q p1 p2 (by omega)

theorem aEj {lo hi : Nat} {d : List Int} (x : Int) (hb : hi ≤ d.length) (hl : d.length < 2305843009213693951) : ∀ (n i : Nat), hi - i = n → 1 ≤ i → i ≤ hi →
    ∃ i' : Nat, lp (fun s : List Int × Int => cU (lo : Nat) (hi : Nat) x s.1 s.2) (d, (i : Int)) = some (d, (i' : Int)) ∧ i ≤ i' ∧ i' ≤ hi ∧ (∀ k, i ≤ k → k < i' → gN d (k - 1) ≤ gN d k) := by
  intro n
  induction n with
  | zero =>
    intro i h1 h2 h3
    refine ⟨i, dI ?_, Nat.le_refl _, h3, fun k k1 k2 => by omega⟩
    show cU _ _ _ _ _ = _
    have : decide ((i : Int) < (hi : Int)) = false := by simp; omega
    simp only [cU, this]
    rw [aR (fun h => by cases h), aR (fun h => by cases h)]
    rfl
  | succ n ih =>
    intro i h1 h2 h3
    have hd : decide ((i : Int) < (hi : Int)) = true := by simp; omega
    have hs : cU (lo : Nat) (hi : Nat) x d (i : Nat) = if gN d i < gN d (i - 1) then some (.inr (d, (i : Int))) else some (.inl (d, ((i + 1 : Nat) : Int))) := by
      unfold cU
      rw [hd, wrN (x := (i : Int) - 1) (n := i - 1) (by omega) (by omega), wrN (x := (i : Int) + 1) (n := i + 1) (by omega) (by omega), aR fun _ => asN (by omega), aR fun _ => asN (by omega)]
      simp only [cX, cond_true, uC, Option.bind_some, Bool.true_and, Int.toNat_natCast, gN]
      by_cases h : d.getD i default < d.getD (i - 1) default <;> simp [h]
    by_cases h : gN d i < gN d (i - 1)
    · rw [if_pos h] at hs
      exact ⟨i, dI hs, Nat.le_refl _, h3, fun k k1 k2 => by omega⟩
    · rw [if_neg h] at hs
      obtain ⟨i', e, a1, a2, a3⟩ := ih (i + 1) (by omega) (by omega) (by omega)
      refine ⟨i', (kG hs).trans e, by omega, a2, fun k k1 k2 => ?_⟩
      by_cases hk : k = i
      · rw [hk]; omega
      · exact a3 k (by omega) k2

theorem PW {lo hi : Nat} {d d' : List Int} (r : Rel lo hi d d') (h : lo = 0 ∨ ∀ k, lo ≤ k → k < hi → gN d (lo - 1) ≤ gN d k) : lo = 0 ∨ ∀ k, lo ≤ k → k < hi → gN d' (lo - 1) ≤ gN d' k := by
  by_cases h0 : lo = 0
  · exact .inl h0
  · rcases h with h | h
    · exact .inl h
    · exact .inr fun k k1 k2 => by
        rw [r.out (lo - 1) (by omega)]
        exact r.all (p := fun v => gN d (lo - 1) ≤ v) h k k1 k2

theorem aE1 {lo hi i : Nat} (x y : Int) : ∀ (j : Nat) (d : List Int), lo ≤ j → j ≤ i → i < d.length → d.length < 2305843009213693951 → OX lo j i d → (lo = 0 ∨ ∀ k, lo ≤ k → k ≤ i → gN d (lo - 1) ≤ gN d k) →
    ∃ d', lp (fun s : List Int × Int => cN (lo : Nat) (hi : Nat) x y s.1 s.2) (d, (j : Int)) = some d' ∧ Rel lo (i + 1) d d' ∧ sY lo (i + 1) d' := by
  intro j
  induction j with
  | zero =>
    intro d h1 h2 h3 h4 h5 h6
    refine ⟨d, dI ?_, Rel.refl .., h5.done h1 (by omega)⟩
    show cN _ _ _ _ _ _ = _
    have : decide ((1 : Int) ≤ ((0 : Nat) : Int)) = false := by simp
    simp only [cN, this, cond_false]
  | succ j ih =>
    intro d h1 h2 h3 h4 h5 h6
    have hd : decide ((1 : Int) ≤ ((j + 1 : Nat) : Int)) = true := by simp; omega
    have hs : cN (lo : Nat) (hi : Nat) x y d ((j + 1 : Nat) : Int) = if gN d (j + 1) < gN d j then some (.inl (swp d (j + 1) j, (j : Int))) else some (.inr d) := by
      unfold cN
      rw [hd, cond_true, wrN (x := ((j + 1 : Nat) : Int) - 1) (n := j) (by omega) (by omega), aR (asN (by omega)), aR (asN (by omega))]
      simp only [uC, Option.bind_some, Int.toNat_natCast, gN]
      by_cases h : d.getD (j + 1) default < d.getD j default
      · simp only [h, decide_true, Bool.not_true, cond_false, if_true]
        rw [aR (asN (by omega)), aR (asN (by omega)), aR (asN (by omega)), aR (asN (by omega))]
        rfl
      · simp only [h, decide_false, Bool.not_false, cond_true, if_false]
    by_cases h : gN d (j + 1) < gN d j
    · rw [if_pos h] at hs
      have hlo : lo < j + 1 := by
        rcases h6 with h6 | h6
        · omega
        · rcases Nat.lt_or_ge lo (j + 1) with hh | hh
          · exact hh
          · have : lo = j + 1 := by omega
            have h7 := h6 (j + 1) (by omega) h2
            rw [this] at h7
            simp only [Nat.add_sub_cancel] at h7
            omega
      have r1 : Rel lo (i + 1) d (swp d (j + 1) j) := Rel.swp (i := j + 1) (j := j) (by omega) (by omega) (by omega) (by omega)
      obtain ⟨d', e, r, s⟩ := ih (swp d (j + 1) j) (by omega) (by omega) (by rw [kW]; exact h3) (by rw [kW]; exact h4) (h5.next hlo h2 h3 h) ((PW r1 (h6.imp id fun h k a b => h k a (by omega))).imp id fun h k a b => h k a (by omega))
      exact ⟨d', (kG hs).trans e, r1.trans r, s⟩
    · rw [if_neg h] at hs
      exact ⟨d, dI hs, Rel.refl .., h5.done h1 fun hh => h hh.2⟩

theorem aHc {lo hi i : Nat} (x y : Int) : ∀ (n j : Nat) (d : List Int), hi - j = n → i < j → hi ≤ d.length → d.length < 2305843009213693951 →
    ∃ d', lp (fun s : List Int × Int => cV (lo : Nat) (hi : Nat) x y s.1 s.2) (d, (j : Int)) = some d' ∧ Rel i hi d d' := by
  intro n
  induction n with
  | zero =>
    intro j d h1 h2 h3 h4
    refine ⟨d, dI ?_, Rel.refl ..⟩
    show cV _ _ _ _ _ _ = _
    have : decide ((j : Int) < (hi : Int)) = false := by simp; omega
    simp only [cV, this, cond_false]
  | succ n ih =>
    intro j d h1 h2 h3 h4
    have hd : decide ((j : Int) < (hi : Int)) = true := by simp; omega
    have hs : cV (lo : Nat) (hi : Nat) x y d (j : Nat) = if gN d j < gN d (j - 1) then some (.inl (swp d j (j - 1), ((j + 1 : Nat) : Int))) else some (.inr d) := by
      unfold cV
      rw [hd, cond_true, wrN (x := (j : Int) - 1) (n := j - 1) (by omega) (by omega), wrN (x := (j : Int) + 1) (n := j + 1) (by omega) (by omega), aR (asN (by omega)), aR (asN (by omega))]
      simp only [uC, Option.bind_some, Int.toNat_natCast, gN]
      by_cases h : d.getD j default < d.getD (j - 1) default
      · simp only [h, decide_true, Bool.not_true, cond_false, if_true]
        rw [aR (asN (by omega)), aR (asN (by omega)), aR (asN (by omega)), aR (asN (by omega))]
        rfl
      · simp only [h, decide_false, Bool.not_false, cond_true, if_false]
    by_cases h : gN d j < gN d (j - 1)
    · rw [if_pos h] at hs
      obtain ⟨d', e, r⟩ := ih (j + 1) (swp d j (j - 1)) (by omega) (by omega) (by rw [kW]; exact h3) (by rw [kW]; exact h4)
      exact ⟨d', (kG hs).trans e, (Rel.swp (i := j) (j := j - 1) (by omega) (by omega) (by omega) (by omega)).trans r⟩
    · rw [if_neg h] at hs
      exact ⟨d, dI hs, Rel.refl ..⟩

theorem aDh {lo hi i : Nat} (x : Int) {d : List Int} (h1 : lo < i) (h2 : i < hi) (h3 : hi ≤ d.length) (h4 : d.length < 2305843009213693951) :
    ∃ d', dD d (lo : Nat) (hi : Nat) (i : Nat) x = some (.inl (d', (i : Int), IntKind.i64.wrap (x + 1))) ∧ Rel i hi d d' := by
  unfold dD
  rw [wrN (x := (hi : Int) - (i : Int)) (n := hi - i) (by omega) (by omega)]
  by_cases h : (2 : Int) ≤ ((hi - i : Nat) : Int)
  · simp only [h, decide_true, cond_true]
    unfold jU
    rw [wrN (x := (i : Int) + 1) (n := i + 1) (by omega) (by omega)]
    obtain ⟨d', e, r⟩ := aHc (lo := lo) (hi := hi) (i := i) (i : Int) x (hi - (i + 1)) (i + 1) d rfl (by omega) h3 h4
    rw [e]
    exact ⟨d', rfl, r⟩
  · simp only [h, decide_false, cond_false]
    exact ⟨d, rfl, Rel.refl ..⟩

theorem aEV {lo hi i : Nat} (x : Int) {d : List Int} (h1 : lo < i) (h2 : i ≤ hi) (h3 : hi ≤ d.length) (h4 : d.length < 2305843009213693951) (hs : sY lo i d) (hb : lo = 0 ∨ ∀ k, lo ≤ k → k < hi → gN d (lo - 1) ≤ gN d k) :
    (∃ (fl : Bool) (d' : List Int), dF d (lo : Nat) (hi : Nat) (i : Nat) x = some (.inr (.inr (fl, d'))) ∧ Rel lo hi d d' ∧ (fl = true → sY lo hi d')) ∨
    (∃ (d' : List Int) (i' : Nat), dF d (lo : Nat) (hi : Nat) (i : Nat) x = some (.inl (d', (i' : Int), IntKind.i64.wrap (x + 1))) ∧ Rel lo hi d d' ∧ lo < i' ∧ i' ≤ hi ∧ sY lo i' d') := by
  unfold dF
  obtain ⟨i', e, a1, a2, a3⟩ := aEj (lo := lo) (hi := hi) x h3 h4 (hi - i) i rfl (by omega) h2
  rw [e]
  simp only [Option.bind_some]
  have hs' := aBU (i' - i) i' rfl hs h1 a3
  unfold jV
  by_cases hi' : i' = hi
  · have : decide ((i' : Int) = (hi : Int)) = true := by simp; omega
    rw [this, cond_true]
    left
    exact ⟨true, d, rfl, Rel.refl .., fun _ => hi' ▸ hs'⟩
  · have hne : decide ((i' : Int) = (hi : Int)) = false := by simp; omega
    rw [hne, cond_false, wrN (x := (hi : Int) - (lo : Int)) (n := hi - lo) (by omega) (by omega)]
    by_cases h50 : ((hi - lo : Nat) : Int) < 50
    · simp only [h50, decide_true, cond_true]
      left
      exact ⟨false, d, rfl, Rel.refl .., fun h => by cases h⟩
    · simp only [h50, decide_false, cond_false]
      rw [wrN (x := (i' : Int) - 1) (n := i' - 1) (by omega) (by omega), wrN (x := (i' : Int) - (lo : Int)) (n := i' - lo) (by omega) (by omega)]
      simp only [Int.toNat_natCast]
      rw [aR (asN (by omega)), aR (asN (by omega)), aR (asN (by omega)), aR (asN (by omega))]
      have r1 : Rel lo hi d (swp d i' (i' - 1)) := Rel.swp (i := i') (j := i' - 1) (by omega) (by omega) (by omega) (by omega)
      have l1 : (swp d i' (i' - 1)).length = d.length := kW ..
      have g := wA (d := d) (i := i') (j := i' - 1) (by omega) (by omega)
      right
      by_cases hge : (2 : Int) ≤ ((i' - lo : Nat) : Int)
      · simp only [hge, decide_true, cond_true]
        unfold jY
        have ins : OX lo (i' - 1) (i' - 1) (swp d i' (i' - 1)) := ⟨fun p q p1 p2 p3 p4 p5 => by
          rw [g, g, if_neg p4, if_neg p5, if_neg (by omega), if_neg (by omega)]
          exact hs' p q p1 p2 (by omega), fun q q1 q2 => by omega⟩
        obtain ⟨d2, e2, r2, s2⟩ := aE1 (lo := lo) (hi := hi) (i := i' - 1) (i' : Int) x (i' - 1) (swp d i' (i' - 1)) (by omega) (Nat.le_refl _) (by rw [l1]; omega) (by rw [l1]; exact h4) ins ((PW r1 hb).imp id fun h k a b => h k a (by omega))
        have e2' : lp (fun s : List Int × Int => cN (lo : Int) (hi : Int) (i' : Int) x s.1 s.2) ((List.set (List.set d i' (List.getD d (i' - 1) default)) (i' - 1) (List.getD d i' default)), ((i' - 1 : Nat) : Int)) = some d2 := e2
        rw [e2']
        simp only [Option.bind_some]
        rw [show i' - 1 + 1 = i' by omega] at r2 s2
        have l2 : d2.length = d.length := by rw [r2.len, l1]
        obtain ⟨d3, e3, r3⟩ := aDh (lo := lo) (hi := hi) (i := i') x (d := d2) (by omega) (by omega) (by omega) (by omega)
        rw [e3]
        refine ⟨d3, i', rfl, (r1.trans (r2.mono (Nat.le_refl _) (by omega))).trans (r3.mono (by omega) (Nat.le_refl _)), by omega, a2, fun p q p1 p2 p3 => ?_⟩
        rw [r3.out p (by omega), r3.out q (by omega)]
        exact s2 p q p1 p2 p3
      · simp only [hge, decide_false, cond_false]
        obtain ⟨d3, e3, r3⟩ := aDh (lo := lo) (hi := hi) (i := i') x (d := swp d i' (i' - 1)) (by omega) (by omega) (by omega) (by omega)
        have e3' : dD (List.set (List.set d i' (List.getD d (i' - 1) default)) (i' - 1) (List.getD d i' default)) (lo : Int) (hi : Int) (i' : Int) x = _ := e3
        rw [e3']
        refine ⟨d3, i', rfl, r1.trans (r3.mono (by omega) (Nat.le_refl _)), by omega, a2, ?_⟩
        have : i' = lo + 1 := by omega
        rw [this]; exact QY lo d3

theorem aGV {lo hi : Nat} : ∀ (n x i : Nat) (d : List Int), 5 - x = n → lo < i → i ≤ hi → hi ≤ d.length → d.length < 2305843009213693951 → sY lo i d → (lo = 0 ∨ ∀ k, lo ≤ k → k < hi → gN d (lo - 1) ≤ gN d k) → x ≤ 5 →
    ∃ (fl : Bool) (d' : List Int), (lp (fun s : List Int × Int × Int => bZ (lo : Nat) (hi : Nat) s.1 s.2.1 s.2.2) (d, (i : Int), (x : Int))).bind (Sum.elim (fun rr => jW rr) (fun rr => some (rr.1, rr.2))) = some (fl, d') ∧ Rel lo hi d d' ∧ (fl = true → sY lo hi d') := by
  intro n
  induction n with
  | zero =>
    intro x i d h1 h2 h3 h4 h5 h6 h7 h8
    have hs : bZ (lo : Nat) (hi : Nat) d (i : Nat) (x : Nat) = some (.inr (.inl d)) := by
      have : decide ((x : Int) < 5) = false := by simp; omega
      simp only [bZ, this, cond_false]
    rw [dI (show (fun s : List Int × Int × Int => bZ (lo : Nat) (hi : Nat) s.1 s.2.1 s.2.2) (d, (i : Int), (x : Int)) = _ from hs)]
    exact ⟨false, d, rfl, Rel.refl .., fun h => by cases h⟩
  | succ n ih =>
    intro x i d h1 h2 h3 h4 h5 h6 h7 h8
    have hl2 : bZ (lo : Nat) (hi : Nat) d (i : Nat) (x : Nat) = dF d (lo : Nat) (hi : Nat) (i : Nat) (x : Nat) := by
      have : decide ((x : Int) < 5) = true := by simp; omega
      simp only [bZ, this, cond_true]
    rcases aEV (lo := lo) (hi := hi) (x : Int) h2 h3 h4 h5 h6 h7 with ⟨fl, d', e, r, s⟩ | ⟨d', i', e, r, k1, k2, s⟩
    · rw [dI (show (fun s : List Int × Int × Int => bZ (lo : Nat) (hi : Nat) s.1 s.2.1 s.2.2) (d, (i : Int), (x : Int)) = _ from hl2.trans e)]
      exact ⟨fl, d', rfl, r, s⟩
    · rw [wrN (x := (x : Int) + 1) (n := x + 1) (by omega) (by omega)] at e
      obtain ⟨fl, d2, e2, r2, s2⟩ := ih (x + 1) i' d' (by omega) k1 k2 (by rw [r.len]; exact h4) (by rw [r.len]; exact h5) s (PW r h7) (by omega)
      rw [kG (show (fun s : List Int × Int × Int => bZ (lo : Nat) (hi : Nat) s.1 s.2.1 s.2.2) (d, (i : Int), (x : Int)) = _ from hl2.trans e)]
      exact ⟨fl, d2, e2, r.trans r2, s2⟩

theorem aEv {lo hi : Nat} {d : List Int} (h0 : lo < hi) (h1 : hi ≤ d.length) (h2 : d.length < 2305843009213693951) (hb : lo = 0 ∨ ∀ k, lo ≤ k → k < hi → gN d (lo - 1) ≤ gN d k) :
    ∃ (fl : Bool) (d' : List Int), fX d (lo : Int) (hi : Int) = some (fl, d') ∧ Rel lo hi d d' ∧ (fl = true → sY lo hi d') := by
  unfold fX jT
  rw [wrN (x := (lo : Int) + 1) (n := lo + 1) (by omega) (by omega)]
  exact aGV (lo := lo) (hi := hi) (5 - 0) 0 (lo + 1) d rfl (by omega) (by omega) h1 h2 (QY lo d) hb (by omega)

end Go.Abs
namespace Go.Abs
open Go
abbrev PS := List Int × Int × Int × Int × Bool × Bool

abbrev PR := List Int → Int → Int → Int → Option (List Int)

def JO (a b : Nat) (d d' : List Int) : Prop := Rel a b d d' ∧ sY a b d'

structure CZ (a b lim : Nat) (d : List Int) : Prop where
  ab : a ≤ b
  bl : b ≤ d.length
  len : d.length < 2305843009213693951
  bnd : a = 0 ∨ ∀ k, a ≤ k → k < b → gN d (a - 1) ≤ gN d k
  lim : lim ≤ 100

def PV (rec : PR) (N : Nat) : Prop := ∀ (d : List Int) (a b lim : Nat), CZ a b lim d → (rec d (a : Int) (b : Int) (lim : Int) = none ∧ N ≤ b - a) ∨ ∃ d', rec d (a : Int) (b : Int) (lim : Int) = some d' ∧ JO a b d d'

def MT (N a b : Nat) (d : List Int) (F : Option (PS ⊕ List Int)) : Prop :=
  (F = none ∧ N + 1 ≤ b - a) ∨ (∃ d', F = some (.inr d') ∧ JO a b d d') ∨
  ∃ (d' : List Int) (a' b' lim' : Nat) (wb wp : Bool), F = some (.inl (d', (a' : Int), (b' : Int), (lim' : Int), wb, wp)) ∧ b' - a' < b - a ∧ CZ a' b' lim' d' ∧ ∀ d'', JO a' b' d' d'' → JO a b d d''

theorem JO.pre {a b : Nat} {d d1 d' : List Int} (r : Rel a b d d1) (h : JO a b d1 d') : JO a b d d' := ⟨r.trans h.1, h.2⟩

theorem MT.pre {N a b : Nat} {d d1 : List Int} {F : Option (PS ⊕ List Int)} (r : Rel a b d d1) (h : MT N a b d1 F) : MT N a b d F := by
  rcases h with h | ⟨d', h1, h2⟩ | ⟨d', a', b', lim', wb, wp, h1, h2, h3, h4⟩
  · exact .inl h
  · exact .inr (.inl ⟨d', h1, h2.pre r⟩)
  · exact .inr (.inr ⟨d', a', b', lim', wb, wp, h1, h2, h3, fun d'' hg => (h4 d'' hg).pre r⟩)

theorem CZ.rel {a b lim : Nat} {d d1 : List Int} (h : CZ a b lim d) (r : Rel a b d d1) : CZ a b lim d1 :=
  ⟨h.ab, by rw [r.len]; exact h.bl, by rw [r.len]; exact h.len, PW r h.bnd, h.lim⟩

theorem YV {a m b : Nat} {d : List Int} (hm : m < b) (h1 : ∀ k, a ≤ k → k < m → gN d k ≤ gN d m) (h2 : ∀ k, m < k → k < b → gN d m ≤ gN d k) (s1 : sY a m d) (s2 : sY (m + 1) b d) : sY a b d := by
  intro p q p1 p2 p3
  by_cases hq : q < m
  · exact s1 p q p1 p2 hq
  · by_cases hp : m < p
    · exact s2 p q hp p2 p3
    · have g1 : gN d p ≤ gN d m := by
        by_cases e : p = m
        · rw [e]; exact Int.le_refl _
        · exact h1 p p1 (by omega)
      have g2 : gN d m ≤ gN d q := by
        by_cases e : q = m
        · rw [e]; exact Int.le_refl _
        · exact h2 q (by omega) p3
      omega

theorem aDR {rec : PR} {N a b lim p : Nat} {d : List Int} (hrec : PV rec N) (hv : CZ a b lim d) (h12 : 12 < b - a) (hp : a ≤ p ∧ p < b) (wb wp : Bool) (len : Int) :
    MT N a b d (kS rec d (a : Int) (b : Int) (lim : Int) wb wp len (p : Int)) := by
  have hb := hv.bl; have hl := hv.len
  -- with all equal ones on the left
  have eqc : 0 < a → ¬ gN d (a - 1) < gN d p → MT N a b d ((gP d (a : Int) (b : Int) (p : Int)).bind fun x20 => some (.inl (x20.2, x20.1, (b : Int), (lim : Int), wb, wp))) := by
    intro ha hn
    obtain ⟨m, d', e, m1, m2, r, q1, q2⟩ := XB (lo := a) (hi := b) (p := p) (d := d) (by omega) hb hl hp
    have hall : ∀ k, a ≤ k → k < b → gN d p ≤ gN d' k := by
      refine r.all (p := fun v => gN d p ≤ v) fun k k1 k2 => ?_
      rcases hv.bnd with h | h
      · omega
      · have := h k k1 k2; omega
    rw [e]
    refine .inr (.inr ⟨d', m, b, lim, wb, wp, rfl, by omega, ⟨m2, by rw [r.len]; exact hb, by rw [r.len]; exact hl, .inr fun k k1 k2 => ?_, hv.lim⟩, fun d'' hg => ⟨r.trans (hg.1.mono (by omega) (Nat.le_refl _)), fun x y x1 x2 x3 => ?_⟩⟩)
    · have := q1 (m - 1) (by omega) (by omega); have := q2 k k1 k2; omega
    · by_cases hx : m ≤ x
      · exact hg.2 x y hx x2 x3
      · rw [hg.1.out x (by omega)]
        have g1 := q1 x x1 (by omega)
        by_cases hy : y < m
        · rw [hg.1.out y (by omega)]
          have g2 := hall y (by omega) (by omega); omega
        · have g2 := hg.1.all (p := fun v => gN d p < v) q2 y (by omega) x3
          omega
  -- a partition, and the lesser part first
  have ptc : MT N a b d ((kK d (a : Int) (b : Int) (p : Int)).bind fun x23 =>
      aT ((8 : Int) ≠ 0) <|
      cond (decide ((IntKind.i64.wrap (x23.1.1 - (a : Int))) < (IntKind.i64.wrap ((b : Int) - x23.1.1))))
      ((rec x23.2 (a : Int) x23.1.1 (lim : Int)).bind fun x28 =>
      some (.inl (x28, IntKind.i64.wrap (x23.1.1 + (1 : Int)), (b : Int), (lim : Int), decide ((IntKind.i64.wrap (Int.tdiv len (8 : Int))) ≤ (IntKind.i64.wrap (x23.1.1 - (a : Int)))), x23.1.2)))
      ((rec x23.2 (IntKind.i64.wrap (x23.1.1 + (1 : Int))) (b : Int) (lim : Int)).bind fun x31 =>
      some (.inl (x31, (a : Int), x23.1.1, (lim : Int), decide ((IntKind.i64.wrap (Int.tdiv len (8 : Int))) ≤ (IntKind.i64.wrap ((b : Int) - x23.1.1))), x23.1.2)))) := by
    obtain ⟨m, fl, d1, e, m1, m2, r, q1, q2⟩ := aAC (lo := a) (hi := b) (p := p) (d := d) (by omega) hb hl hp
    have hv1 := hv.rel r
    rw [e]
    simp only [Option.bind_some]
    rw [aR (by decide), wrN (x := (m : Int) + 1) (n := m + 1) (by omega) (by omega)]
    have vL : CZ a m lim d1 := ⟨m1, by have := hv1.bl; omega, hv1.len, hv1.bnd.imp id fun h k k1 k2 => h k k1 (by omega), hv.lim⟩
    have vR : CZ (m + 1) b lim d1 := ⟨by omega, hv1.bl, hv1.len, .inr fun k k1 k2 => by simpa using q2 k (by omega) k2, hv.lim⟩
    cases decide ((IntKind.i64.wrap ((m : Int) - (a : Int))) < (IntKind.i64.wrap ((b : Int) - (m : Int)))) with
    | true =>
      rw [cond_true]
      rcases hrec d1 a m lim vL with ⟨hn, hN⟩ | ⟨d2, e2, g2⟩
      · rw [hn]; exact .inl ⟨rfl, by omega⟩
      · rw [e2]
        simp only [Option.bind_some]
        have top : gN d2 m = gN d1 m := g2.1.out m (by omega)
        refine .inr (.inr ⟨d2, m + 1, b, lim, _, _, rfl, by omega, ⟨by omega, by rw [g2.1.len]; exact hv1.bl, by rw [g2.1.len]; exact hv1.len, .inr fun k k1 k2 => ?_, hv.lim⟩, fun d3 hg => ⟨(r.trans (g2.1.mono (Nat.le_refl _) (by omega))).trans (hg.1.mono (by omega) (Nat.le_refl _)), ?_⟩⟩)
        · rw [show m + 1 - 1 = m by omega, top, g2.1.out k (by omega)]; exact q2 k (by omega) k2
        · have o3 : ∀ k, k ≤ m → gN d3 k = gN d2 k := fun k hk => hg.1.out k (by omega)
          refine YV m2 (fun k k1 k2 => ?_) (fun k k1 k2 => ?_) (fun x y x1 x2 x3 => by rw [o3 x (by omega), o3 y (by omega)]; exact g2.2 x y x1 x2 x3) hg.2
          · rw [o3 k (by omega), o3 m (by omega), top]
            exact g2.1.all (p := fun v => v ≤ gN d1 m) q1 k k1 k2
          · rw [o3 m (by omega), top]
            exact hg.1.all (p := fun v => gN d1 m ≤ v) (fun k k1 k2 => by rw [g2.1.out k (by omega)]; exact q2 k (by omega) k2) k (by omega) k2
    | false =>
      rw [cond_false]
      rcases hrec d1 (m + 1) b lim vR with ⟨hn, hN⟩ | ⟨d2, e2, g2⟩
      · rw [hn]; exact .inl ⟨rfl, by omega⟩
      · rw [e2]
        simp only [Option.bind_some]
        have low : ∀ k, k ≤ m → gN d2 k = gN d1 k := fun k hk => g2.1.out k (by omega)
        refine .inr (.inr ⟨d2, a, m, lim, _, _, rfl, by omega, ⟨m1, by rw [g2.1.len]; have := hv1.bl; omega, by rw [g2.1.len]; exact hv1.len, ?_, hv.lim⟩, fun d3 hg => ⟨(r.trans (g2.1.mono (by omega) (Nat.le_refl _))).trans (hg.1.mono (Nat.le_refl _) (by omega)), ?_⟩⟩)
        · rcases hv1.bnd with h | h
          · exact .inl h
          · exact .inr fun k k1 k2 => by rw [low (a - 1) (by omega), low k (by omega)]; exact h k k1 (by omega)
        · have o3 : ∀ k, m ≤ k → gN d3 k = gN d2 k := fun k hk => hg.1.out k (by omega)
          refine YV m2 (fun k k1 k2 => ?_) (fun k k1 k2 => ?_) hg.2 (fun x y x1 x2 x3 => by rw [o3 x (by omega), o3 y (by omega)]; exact g2.2 x y x1 x2 x3)
          · rw [o3 m (Nat.le_refl _), low m (Nat.le_refl _)]
            exact hg.1.all (p := fun v => v ≤ gN d1 m) (fun k k1 k2 => by rw [low k (by omega)]; exact q1 k k1 k2) k k1 k2
          · rw [o3 m (Nat.le_refl _), low m (Nat.le_refl _), o3 k (by omega)]
            exact g2.1.all (p := fun v => gN d1 m ≤ v) (fun k k1 k2 => q2 k (by omega) k2) k (by omega) k2
  unfold kS
  by_cases ha : 0 < a
  · have hd : decide ((0 : Int) < (a : Int)) = true := by simp; omega
    rw [hd, wrN (x := (a : Int) - 1) (n := a - 1) (by omega) (by omega), aR fun _ => asN (by omega), aR fun _ => asN (by omega)]
    simp only [cX, cond_true, uC, Option.bind_some, Bool.true_and, Int.toNat_natCast]
    by_cases hlt : gN d (a - 1) < gN d p
    · simp only [gN] at hlt
      simp only [hlt, decide_true, Bool.not_true, cond_false]
      exact ptc
    · have := eqc ha hlt
      simp only [gN] at hlt
      simp only [hlt, decide_false, Bool.not_false, cond_true]
      exact this
  · have hd : decide ((0 : Int) < (a : Int)) = false := by simp; omega
    rw [hd, aR (fun h => by cases h), aR (fun h => by cases h)]
    simp only [cX, cond_false, Option.bind_some, Bool.false_and]
    exact ptc

theorem aDZ {rec : PR} {N a b lim p : Nat} {d : List Int} (hrec : PV rec N) (hv : CZ a b lim d) (h12 : 12 < b - a) (hp : a ≤ p ∧ p < b) (wb wp : Bool) (len hint : Int) :
    MT N a b d (kV rec d (a : Int) (b : Int) (lim : Int) wb wp len (p : Int) hint) := by
  unfold kV
  cases ((wb && wp) && (decide (hint = (1 : Int)))) with
  | false => exact aDR hrec hv h12 hp wb wp len
  | true =>
    rw [cond_true]
    obtain ⟨fl, d', e, r, s⟩ := aEv (lo := a) (hi := b) (d := d) (by omega) hv.bl hv.len hv.bnd
    rw [e]
    simp only [Option.bind_some]
    cases fl with
    | true => exact .inr (.inl ⟨d', rfl, r, s rfl⟩)
    | false => exact (aDR hrec (hv.rel r) h12 hp wb wp len).pre r

theorem aD9 {rec : PR} {N a b lim : Nat} {d : List Int} (hrec : PV rec N) (hv : CZ a b lim d) (h12 : 12 < b - a) (wb wp : Bool) (len : Int) :
    MT N a b d (kX rec d (a : Int) (b : Int) (lim : Int) wb wp len) := by
  have hb := hv.bl; have hl := hv.len
  unfold kX
  obtain ⟨p, h, e, p1, p2⟩ := aCg (lo := a) (hi := b) (d := d) h12 hb hl
  rw [e]
  simp only [Option.bind_some]
  by_cases h2 : h = 2
  · simp only [h2, decide_true, cond_true]
    obtain ⟨d', e2, r⟩ := aD3 (lo := a) (hi := b) (d := d) (by omega) hb (by omega)
    rw [e2]
    simp only [Option.bind_some]
    rw [wrN (x := (b : Int) - 1) (n := b - 1) (by omega) (by omega), wrN (x := (p : Int) - (a : Int)) (n := p - a) (by omega) (by omega), wrN (x := ((b - 1 : Nat) : Int) - ((p - a : Nat) : Int)) (n := b - 1 - (p - a)) (by omega) (by omega)]
    exact (aDZ hrec (hv.rel r) h12 ⟨by omega, by omega⟩ wb wp len 1).pre r
  · simp only [h2, decide_false, cond_false]
    exact aDZ hrec hv h12 ⟨p1, p2⟩ wb wp len h

theorem aGX {rec : PR} {N a b lim : Nat} {d : List Int} (hrec : PV rec N) (hv : CZ a b lim d) (wb wp : Bool) :
    MT N a b d (fI rec d (a : Int) (b : Int) (lim : Int) wb wp) := by
  have hb := hv.bl; have hl := hv.len; have hab := hv.ab
  unfold fI
  rw [wrN (x := (b : Int) - (a : Int)) (n := b - a) (by omega) (by omega)]
  by_cases h12 : ((b - a : Nat) : Int) ≤ 12
  · simp only [h12, decide_true, cond_true]
    obtain ⟨d', e, r, s⟩ := aFb (lo := a) (hi := b) (d := d) hb (by omega) hab
    rw [e]
    exact .inr (.inl ⟨d', rfl, r, s⟩)
  · simp only [h12, decide_false, cond_false]
    by_cases h0 : lim = 0
    · have : decide ((lim : Int) = 0) = true := by simp; exact h0
      rw [this, cond_true]
      obtain ⟨d', e, r, s⟩ := aDg (lo := a) (hi := b) (d := d) (by omega) hb hl
      rw [e]
      exact .inr (.inl ⟨d', rfl, r, s⟩)
    · have : decide ((lim : Int) = 0) = false := by simp; exact h0
      rw [this, cond_false]
      cases wb with
      | true => exact aD9 hrec hv (by omega) true wp _
      | false =>
        simp only [Bool.not_false, cond_true]
        obtain ⟨d', e, r⟩ := aDY (lo := a) (hi := b) (d := d) (by omega) hb hl
        rw [e]
        simp only [Option.bind_some]
        have hlim := hv.lim
        rw [wrN (x := (lim : Int) - 1) (n := lim - 1) (by omega) (by omega)]
        have hv' := hv.rel r
        exact (aD9 hrec ⟨hv'.ab, hv'.bl, hv'.len, hv'.bnd, by omega⟩ (by omega) false wp _).pre r

theorem aFI {S R : Type} {body : S → Option (S ⊕ R)} {s : S} (h : body s = none) : lp body s = none := by
  cases e : lp body s with
  | none => rfl
  | some r =>
    obtain ⟨k, hk⟩ := BH.1 e
    cases k with
    | zero => simp [iter] at hk
    | succ k => simp [iter, h] at hk

theorem aGU {rec : PR} {N : Nat} (hrec : PV rec N) : ∀ (n a b lim : Nat) (d : List Int) (wb wp : Bool), b - a = n → CZ a b lim d →
    (lp (fun s : PS => fI rec s.1 s.2.1 s.2.2.1 s.2.2.2.1 s.2.2.2.2.1 s.2.2.2.2.2) (d, (a : Int), (b : Int), (lim : Int), wb, wp) = none ∧ N + 1 ≤ b - a) ∨
    ∃ d', lp (fun s : PS => fI rec s.1 s.2.1 s.2.2.1 s.2.2.2.1 s.2.2.2.2.1 s.2.2.2.2.2) (d, (a : Int), (b : Int), (lim : Int), wb, wp) = some d' ∧ JO a b d d' := by
  intro n
  induction n using Nat.strongRecOn with
  | ind n ih =>
    intro a b lim d wb wp hn hv
    rcases aGX hrec hv wb wp with ⟨h1, h2⟩ | ⟨d', h1, h2⟩ | ⟨d', a', b', lim', wb', wp', h1, h2, h3, h4⟩
    · exact .inl ⟨aFI h1, h2⟩
    · exact .inr ⟨d', dI h1, h2⟩
    · rw [kG (show (fun s : PS => fI rec s.1 s.2.1 s.2.2.1 s.2.2.2.1 s.2.2.2.2.1 s.2.2.2.2.2) (d, (a : Int), (b : Int), (lim : Int), wb, wp) = _ from h1)]
      rcases ih (b' - a') (by omega) a' b' lim' d' wb' wp' rfl h3 with ⟨g1, g2⟩ | ⟨d2, g1, g2⟩
      · exact .inl ⟨g1, by omega⟩
      · exact .inr ⟨d2, g1, h4 d2 g2⟩

theorem aDa : ∀ k : Nat, PV (mP k) k
  | 0 => fun _ _ _ _ _ => .inl ⟨rfl, Nat.zero_le _⟩
  | k + 1 => fun d a b lim hv => by
    show (jN (mP k) d a b lim = none ∧ _) ∨ ∃ d', jN (mP k) d a b lim = some d' ∧ _
    unfold jN oQ
    rcases aGU (aDa k) (b - a) a b lim d true true rfl hv with ⟨h1, h2⟩ | ⟨d', h1, h2⟩
    · rw [h1]; exact .inl ⟨rfl, h2⟩
    · rw [h1]; exact .inr ⟨d', rfl, h2⟩

end Go.Abs
namespace Go.Abs
open Go
section
variable {k : aC → Int} {U : aC → Prop} {cmp : aC → aC → Option Int}
theorem lY (hs : cR k U cmp) {x y : aC} (hx : U x ∨ x = default) (hy : U y ∨ y = default) : OR rC (cmp x y) (dY (k x) (k y)) := by
  obtain ⟨n, e, h⟩ := hs.c x y hx hy
  rw [e, uC]
  exact decide_eq_decide.2 h

theorem EZ (hs : cR k U cmp) (aA : List aC) (hU : ∀ x ∈ aA, U x) (a1 : Int) (b2 : Int) (i8 : Int) : OR (rS (rP (rL k U) Eq) (rL k U)) (eV cmp aA a1 b2 i8) (mL (aA.map k) a1 b2 i8) := by
  unfold eV mL
  try simp only [List.length_map, cD hs.d0, cS]
  exact cI (by first | rfl | exact ⟨rfl, rfl⟩ | (repeat' constructor) <;> first | rfl | assumption | exact cA hU (by assumption) (by assumption))

theorem ET (hs : cR k U cmp) (a1 : Int) (b2 : Int) (i8 : Int) (aA : List aC) (hU : ∀ x ∈ aA, U x) (j9 : Int) : OR (rS (rP (rL k U) Eq) (rL k U)) (gQ cmp a1 b2 i8 aA j9) (gM a1 b2 i8 (aA.map k) j9) := by
  unfold gQ gM
  try simp only [List.length_map, cD hs.d0, cS]
  refine bK fun h1 => ?_
  refine bK fun h2 => ?_
  refine cO (R := rC) (tX fun _ => lY hs (gZ hU _) (gZ hU _)) ?_
  intro x_ y_ h_
  obtain rfl := h_
  refine dN (fun h3 => ?_) (fun h4 => ?_)
  · refine bK fun h5 => ?_
    refine bK fun h6 => ?_
    refine bK fun h7 => ?_
    refine bK fun h8 => ?_
    exact cI (by first | rfl | exact ⟨rfl, rfl⟩ | (repeat' constructor) <;> first | rfl | assumption | exact cA hU (by assumption) (by assumption))
  · exact cI (by first | rfl | exact ⟨rfl, rfl⟩ | (repeat' constructor) <;> first | rfl | assumption | exact cA hU (by assumption) (by assumption))

theorem EU (hs : cR k U cmp) (aA : List aC) (hU : ∀ x ∈ aA, U x) (a1 : Int) (b2 : Int) (i8 : Int) (j9 : Int) : OR (rS (rP (rL k U) Eq) (rL k U)) (gS cmp aA a1 b2 i8 j9) (mJ (aA.map k) a1 b2 i8 j9) := by
  unfold gS mJ
  try simp only [List.length_map, cD hs.d0, cS]
  refine cO (rD (R := (rP (rL k U) Eq)) (Q := (rL k U)) ?_ ?_) ?_
  · rintro ⟨d1, v2⟩ ⟨_, _⟩ ⟨⟨rfl, hU⟩, rfl⟩
    exact ET hs _ _ _ d1 hU v2
  · exact ⟨oA hU, rfl⟩
  · rintro d1 _ ⟨rfl, hU⟩
    apply EZ hs <;> assumption

theorem EW (hs : cR k U cmp) (a1 : Int) (b2 : Int) (aA : List aC) (hU : ∀ x ∈ aA, U x) (i8 : Int) : OR (rS (rP (rL k U) Eq) (rL k U)) (gT cmp a1 b2 aA i8) (dQ a1 b2 (aA.map k) i8) := by
  unfold gT dQ
  try simp only [List.length_map, cD hs.d0, cS]
  refine dN (fun h1 => ?_) (fun h2 => ?_)
  · exact EU hs _ hU _ _ _ _
  · exact cI (by first | rfl | exact ⟨rfl, rfl⟩ | (repeat' constructor) <;> first | rfl | assumption | exact cA hU (by assumption) (by assumption))

theorem EL (hs : cR k U cmp) (aA : List aC) (hU : ∀ x ∈ aA, U x) (a1 : Int) (b2 : Int) (i8 : Int) : OR (rL k U) (gU cmp aA a1 b2 i8) (mM (aA.map k) a1 b2 i8) := by
  unfold gU mM
  try simp only [List.length_map, cD hs.d0, cS]
  refine cO (rD (R := (rP (rL k U) Eq)) (Q := (rL k U)) ?_ ?_) ?_
  · rintro ⟨d1, v2⟩ ⟨_, _⟩ ⟨⟨rfl, hU⟩, rfl⟩
    exact EW hs _ _ d1 hU v2
  · exact ⟨oA hU, rfl⟩
  · exact fun x y h => h

theorem FF (hs : cR k U cmp) (aA : List aC) (hU : ∀ x ∈ aA, U x) (a1 : Int) (b2 : Int) : OR (rL k U) (iI aA a1 b2 cmp) (kQ (aA.map k) a1 b2) := by
  unfold iI kQ
  try simp only [List.length_map, cD hs.d0, cS]
  exact EL hs _ hU _ _ _

theorem AO (hs : cR k U cmp) (aA : List aC) (hU : ∀ x ∈ aA, U x) (hi2 : Int) (aW : Int) (bS : Int) (dB : Int) : OR (rS (rP (rL k U) Eq) (rS (rL k U) (rL k U))) (gK cmp aA hi2 aW bS dB) (kH (aA.map k) hi2 aW bS dB) := by
  unfold gK kH
  try simp only [List.length_map, cD hs.d0, cS]
  refine bK fun h1 => ?_
  refine bK fun h2 => ?_
  refine cO (R := rC) (lY hs (gZ hU _) (gZ hU _)) ?_
  intro x_ y_ h_
  obtain rfl := h_
  refine dN (fun h3 => ?_) (fun h4 => ?_)
  · exact cI (by first | rfl | exact ⟨rfl, rfl⟩ | (repeat' constructor) <;> first | rfl | assumption | exact cA hU (by assumption) (by assumption))
  · refine bK fun h5 => ?_
    refine bK fun h6 => ?_
    refine bK fun h7 => ?_
    refine bK fun h8 => ?_
    exact cI (by first | rfl | exact ⟨rfl, rfl⟩ | (repeat' constructor) <;> first | rfl | assumption | exact cA hU (by assumption) (by assumption))

theorem KJ (hs : cR k U cmp) (hi2 : Int) (aW : Int) (aA : List aC) (hU : ∀ x ∈ aA, U x) (bS : Int) : OR (rS (rP (rL k U) Eq) (rS (rL k U) (rL k U))) (kB cmp hi2 aW aA bS) (dJ hi2 aW (aA.map k) bS) := by
  unfold kB dJ
  try simp only [List.length_map, cD hs.d0, cS]
  refine dN (fun h1 => ?_) (fun h2 => ?_)
  · exact cI (by first | rfl | exact ⟨rfl, rfl⟩ | (repeat' constructor) <;> first | rfl | assumption | exact cA hU (by assumption) (by assumption))
  · refine bK fun h3 => ?_
    refine bK fun h4 => ?_
    refine cO (R := rC) (tX fun _ => lY hs (gZ hU _) (gZ hU _)) ?_
    intro x_ y_ h_
    obtain rfl := h_
    refine dN (fun h5 => ?_) (fun h6 => ?_)
    · exact AO hs _ hU _ _ _ _
    · exact AO hs _ hU _ _ _ _

theorem JU (hs : cR k U cmp) (aA : List aC) (hU : ∀ x ∈ aA, U x) (hi2 : Int) (aW : Int) (bS : Int) : OR (rL k U) (kA cmp aA hi2 aW bS) (oC (aA.map k) hi2 aW bS) := by
  unfold kA oC
  try simp only [List.length_map, cD hs.d0, cS]
  refine cO (rD (R := (rP (rL k U) Eq)) (Q := (rS (rL k U) (rL k U))) ?_ ?_) ?_
  · rintro ⟨d1, v2⟩ ⟨_, _⟩ ⟨⟨rfl, hU⟩, rfl⟩
    exact KJ hs _ _ d1 hU v2
  · exact ⟨oA hU, rfl⟩
  · rintro (x | x) (y | y) h
    · exact h
    · exact h.elim
    · exact h.elim
    · exact h

theorem BP (hs : cR k U cmp) (aA : List aC) (hU : ∀ x ∈ aA, U x) (lo1 : Int) (hi2 : Int) (aW : Int) : OR (rL k U) (iB aA lo1 hi2 aW cmp) (iN (aA.map k) lo1 hi2 aW) := by
  unfold iB iN
  try simp only [List.length_map, cD hs.d0, cS]
  exact JU hs _ hU _ _ _

theorem KM (hs : cR k U cmp) (bL : Int) (lo9 : Int) (aA : List aC) (hU : ∀ x ∈ aA, U x) (i12 : Int) : OR (rS (rP (rL k U) Eq) (rL k U)) (kF cmp bL lo9 aA i12) (fA bL lo9 (aA.map k) i12) := by
  unfold kF fA
  try simp only [List.length_map, cD hs.d0, cS]
  refine dN (fun h1 => ?_) (fun h2 => ?_)
  · refine bK fun h3 => ?_
    refine bK fun h4 => ?_
    refine bK fun h5 => ?_
    refine bK fun h6 => ?_
    refine cO (BP hs _ (cA hU (by assumption) (by assumption)) _ _ _) ?_
    rintro w61 _ ⟨rfl, hU⟩
    exact cI (by first | rfl | exact ⟨rfl, rfl⟩ | (repeat' constructor) <;> first | rfl | assumption | exact cA hU (by assumption) (by assumption))
  · exact cI (by first | rfl | exact ⟨rfl, rfl⟩ | (repeat' constructor) <;> first | rfl | assumption | exact cA hU (by assumption) (by assumption))

theorem JW (hs : cR k U cmp) (aA : List aC) (hU : ∀ x ∈ aA, U x) (bL : Int) (lo9 : Int) (i12 : Int) : OR (rL k U) (kD cmp aA bL lo9 i12) (oE (aA.map k) bL lo9 i12) := by
  unfold kD oE
  try simp only [List.length_map, cD hs.d0, cS]
  refine cO (rD (R := (rP (rL k U) Eq)) (Q := (rL k U)) ?_ ?_) ?_
  · rintro ⟨d1, v2⟩ ⟨_, _⟩ ⟨⟨rfl, hU⟩, rfl⟩
    exact KM hs _ _ d1 hU v2
  · exact ⟨oA hU, rfl⟩
  · exact fun x y h => h

theorem JT (hs : cR k U cmp) (aA : List aC) (hU : ∀ x ∈ aA, U x) (bL : Int) (lo9 : Int) (hi10 : Int) : OR (rL k U) (gL cmp aA bL lo9 hi10) (oD (aA.map k) bL lo9 hi10) := by
  unfold gL oD
  try simp only [List.length_map, cD hs.d0, cS]
  exact JW hs _ hU _ _ _

theorem KI (hs : cR k U cmp) (bL : Int) (lo9 : Int) (hi10 : Int) (aA : List aC) (hU : ∀ x ∈ aA, U x) (i11 : Int) : OR (rS (rP (rL k U) Eq) (rL k U)) (kE cmp bL lo9 hi10 aA i11) (fB bL lo9 hi10 (aA.map k) i11) := by
  unfold kE fB
  try simp only [List.length_map, cD hs.d0, cS]
  refine dN (fun h1 => ?_) (fun h2 => ?_)
  · refine cO (BP hs _ hU _ _ _) ?_
    rintro w21 _ ⟨rfl, hU⟩
    exact cI (by first | rfl | exact ⟨rfl, rfl⟩ | (repeat' constructor) <;> first | rfl | assumption | exact cA hU (by assumption) (by assumption))
  · exact cI (by first | rfl | exact ⟨rfl, rfl⟩ | (repeat' constructor) <;> first | rfl | assumption | exact cA hU (by assumption) (by assumption))

theorem KH (hs : cR k U cmp) (aA : List aC) (hU : ∀ x ∈ aA, U x) (bL : Int) (lo9 : Int) (hi10 : Int) (i11 : Int) : OR (rL k U) (kC cmp aA bL lo9 hi10 i11) (oB (aA.map k) bL lo9 hi10 i11) := by
  unfold kC oB
  try simp only [List.length_map, cD hs.d0, cS]
  refine cO (rD (R := (rP (rL k U) Eq)) (Q := (rL k U)) ?_ ?_) ?_
  · rintro ⟨d1, v2⟩ ⟨_, _⟩ ⟨⟨rfl, hU⟩, rfl⟩
    exact KI hs _ _ _ d1 hU v2
  · exact ⟨oA hU, rfl⟩
  · rintro d1 _ ⟨rfl, hU⟩
    apply JT hs <;> assumption

theorem LJ (hs : cR k U cmp) (aA : List aC) (hU : ∀ x ∈ aA, U x) (a1 : Int) (b2 : Int) : OR (rL k U) (kL aA a1 b2 cmp) (mO (aA.map k) a1 b2) := by
  unfold kL mO
  try simp only [List.length_map, cD hs.d0, cS]
  refine bK fun h1 => ?_
  exact KH hs _ hU _ _ _ _

theorem uV (hs : cR k U cmp) (aA : List aC) (hU : ∀ x ∈ aA, U x) (a1 : Int) (iU : Int) (kU : Int) (eH : Int) (eT : Int) (gO : Int) : OR (rS (rP (rL k U) (rP Eq Eq)) (rL k U)) (eU cmp aA a1 iU kU eH eT gO) (gJ (aA.map k) a1 iU kU eH eT gO) := by
  unfold eU gJ
  try simp only [List.length_map, cD hs.d0, cS]
  refine bK fun h1 => ?_
  refine bK fun h2 => ?_
  refine bK fun h3 => ?_
  refine bK fun h4 => ?_
  exact cI (by first | rfl | exact ⟨rfl, rfl⟩ | (repeat' constructor) <;> first | rfl | assumption | exact cA hU (by assumption) (by assumption))

theorem FA (hs : cR k U cmp) (a1 : Int) (iU : Int) (eH : Int) (aA : List aC) (hU : ∀ x ∈ aA, U x) (kU : Int) (eT : Int) : OR (rS (rP (rL k U) (rP Eq Eq)) (rL k U)) (gX cmp a1 iU eH aA kU eT) (cZ a1 iU eH (aA.map k) kU eT) := by
  unfold gX cZ
  try simp only [List.length_map, cD hs.d0, cS]
  refine bK fun h1 => ?_
  refine dN (fun h2 => ?_) (fun h3 => ?_)
  · refine cO (R := Eq) (aFl _) ?_
    rintro x_ _ rfl
    refine dN (fun h4 => ?_) (fun h5 => ?_)
    · exact uV hs _ hU _ _ _ _ _ _
    · exact uV hs _ hU _ _ _ _ _ _
  · exact cI (by first | rfl | exact ⟨rfl, rfl⟩ | (repeat' constructor) <;> first | rfl | assumption | exact cA hU (by assumption) (by assumption))

theorem EV (hs : cR k U cmp) (aA : List aC) (hU : ∀ x ∈ aA, U x) (a1 : Int) (iU : Int) (kU : Int) (eH : Int) (eT : Int) : OR (rL k U) (gR cmp aA a1 iU kU eH eT) (mK (aA.map k) a1 iU kU eH eT) := by
  unfold gR mK
  try simp only [List.length_map, cD hs.d0, cS]
  refine cO (rD (R := (rP (rL k U) (rP Eq Eq))) (Q := (rL k U)) ?_ ?_) ?_
  · rintro ⟨d1, ⟨v2, v3⟩⟩ ⟨_, ⟨_, _⟩⟩ ⟨⟨rfl, hU⟩, ⟨rfl, rfl⟩⟩
    exact FA hs _ _ _ d1 hU v2 v3
  · exact ⟨oA hU, ⟨rfl, rfl⟩⟩
  · exact fun x y h => h

theorem FM (hs : cR k U cmp) (aA : List aC) (hU : ∀ x ∈ aA, U x) (a1 : Int) (b2 : Int) : OR (rL k U) (iF aA a1 b2 cmp) (kP (aA.map k) a1 b2) := by
  unfold iF kP
  try simp only [List.length_map, cD hs.d0, cS]
  refine dN (fun h1 => ?_) (fun h2 => ?_)
  · refine cO (R := Eq) (aFl _) ?_
    rintro x_ _ rfl
    refine bK fun h3 => ?_
    exact EV hs _ hU _ _ _ _ _
  · exact cI (by first | rfl | exact ⟨rfl, rfl⟩ | (repeat' constructor) <;> first | rfl | assumption | exact cA hU (by assumption) (by assumption))

theorem wM (hs : cR k U cmp) (aA : List aC) (hU : ∀ x ∈ aA, U x) (a1 : Int) (b2 : Int) (qQ : Int) : OR (rP (rP Eq Eq) Eq) (fK aA a1 b2 qQ cmp) (jQ (aA.map k) a1 b2 qQ) := by
  unfold fK jQ
  try simp only [List.length_map, cD hs.d0, cS]
  refine bK fun h1 => ?_
  refine bK fun h2 => ?_
  refine cO (R := rC) (lY hs (gZ hU _) (gZ hU _)) ?_
  intro x_ y_ h_
  obtain rfl := h_
  refine dN (fun h3 => ?_) (fun h4 => ?_)
  · exact cI (by first | rfl | exact ⟨rfl, rfl⟩ | (repeat' constructor) <;> first | rfl | assumption | exact cA hU (by assumption) (by assumption))
  · exact cI (by first | rfl | exact ⟨rfl, rfl⟩ | (repeat' constructor) <;> first | rfl | assumption | exact cA hU (by assumption) (by assumption))

theorem CS (hs : cR k U cmp) (aA : List aC) (hU : ∀ x ∈ aA, U x) (a1 : Int) (b2 : Int) (c3 : Int) (AB : Int) : OR (rP Eq Eq) (iS aA a1 b2 c3 AB cmp) (lW (aA.map k) a1 b2 c3 AB) := by
  unfold iS lW
  try simp only [List.length_map, cD hs.d0, cS]
  refine cO (wM hs _ hU _ _ _) ?_
  rintro ⟨⟨w1, w2⟩, w3⟩ ⟨⟨_, _⟩, _⟩ ⟨⟨rfl, rfl⟩, rfl⟩
  refine cO (wM hs _ hU _ _ _) ?_
  rintro ⟨⟨w11, w12⟩, w13⟩ ⟨⟨_, _⟩, _⟩ ⟨⟨rfl, rfl⟩, rfl⟩
  refine cO (wM hs _ hU _ _ _) ?_
  rintro ⟨⟨w21, w22⟩, w23⟩ ⟨⟨_, _⟩, _⟩ ⟨⟨rfl, rfl⟩, rfl⟩
  exact cI (by first | rfl | exact ⟨rfl, rfl⟩ | (repeat' constructor) <;> first | rfl | assumption | exact cA hU (by assumption) (by assumption))

theorem qZ (hs : cR k U cmp) (aA : List aC) (hU : ∀ x ∈ aA, U x) (a1 : Int) (AL : Int) : OR (rP Eq Eq) (dM aA a1 AL cmp) (eX (aA.map k) a1 AL) := by
  unfold dM eX
  try simp only [List.length_map, cD hs.d0, cS]
  refine cO (CS hs _ hU _ _ _ _) ?_
  rintro ⟨w1, w2⟩ ⟨_, _⟩ ⟨rfl, rfl⟩
  exact cI (by first | rfl | exact ⟨rfl, rfl⟩ | (repeat' constructor) <;> first | rfl | assumption | exact cA hU (by assumption) (by assumption))

theorem wS (hs : cR k U cmp) (aA : List aC) (hU : ∀ x ∈ aA, U x) (lV : Int) (j13 : Int) : OR (rP Eq Eq) (fC cmp aA lV j13) (iL (aA.map k) lV j13) := by
  unfold fC iL
  try simp only [List.length_map, cD hs.d0, cS]
  refine dN (fun h1 => ?_) (fun h2 => ?_)
  · exact cI (by first | rfl | exact ⟨rfl, rfl⟩ | (repeat' constructor) <;> first | rfl | assumption | exact cA hU (by assumption) (by assumption))
  · refine dN (fun h3 => ?_) (fun h4 => ?_)
    · exact cI (by first | rfl | exact ⟨rfl, rfl⟩ | (repeat' constructor) <;> first | rfl | assumption | exact cA hU (by assumption) (by assumption))
    · exact cI (by first | rfl | exact ⟨rfl, rfl⟩ | (repeat' constructor) <;> first | rfl | assumption | exact cA hU (by assumption) (by assumption))

theorem wO (hs : cR k U cmp) (aA : List aC) (hU : ∀ x ∈ aA, U x) (lV : Int) (i12 : Int) (j13 : Int) (k14 : Int) : OR (rP Eq Eq) (fD cmp aA lV i12 j13 k14) (iM (aA.map k) lV i12 j13 k14) := by
  unfold fD iM
  try simp only [List.length_map, cD hs.d0, cS]
  refine cO (CS hs _ hU _ _ _ _) ?_
  rintro ⟨w1, w2⟩ ⟨_, _⟩ ⟨rfl, rfl⟩
  exact wS hs _ hU _ _

theorem GP (hs : cR k U cmp) (aA : List aC) (hU : ∀ x ∈ aA, U x) (a1 : Int) (b2 : Int) : OR (rP Eq Eq) (iW aA a1 b2 cmp) (lP (aA.map k) a1 b2) := by
  unfold iW lP
  try simp only [List.length_map, cD hs.d0, cS]
  refine bK fun h1 => ?_
  refine bK fun h2 => ?_
  refine bK fun h3 => ?_
  refine dN (fun h4 => ?_) (fun h5 => ?_)
  · refine dN (fun h6 => ?_) (fun h7 => ?_)
    · refine cO (qZ hs _ hU _ _) ?_
      rintro ⟨w71, w72⟩ ⟨_, _⟩ ⟨rfl, rfl⟩
      refine cO (qZ hs _ hU _ _) ?_
      rintro ⟨w81, w82⟩ ⟨_, _⟩ ⟨rfl, rfl⟩
      refine cO (qZ hs _ hU _ _) ?_
      rintro ⟨w91, w92⟩ ⟨_, _⟩ ⟨rfl, rfl⟩
      exact wO hs _ hU _ _ _ _
    · exact wO hs _ hU _ _ _ _
  · exact wS hs _ hU _ _

theorem FE (hs : cR k U cmp) (aA : List aC) (hU : ∀ x ∈ aA, U x) (i8 : Int) (j9 : Int) : OR (rS (rP (rL k U) (rP Eq Eq)) (rL k U)) (iH cmp aA i8 j9) (dV (aA.map k) i8 j9) := by
  unfold iH dV
  try simp only [List.length_map, cD hs.d0, cS]
  refine dN (fun h1 => ?_) (fun h2 => ?_)
  · refine bK fun h3 => ?_
    refine bK fun h4 => ?_
    refine bK fun h5 => ?_
    refine bK fun h6 => ?_
    exact cI (by first | rfl | exact ⟨rfl, rfl⟩ | (repeat' constructor) <;> first | rfl | assumption | exact cA hU (by assumption) (by assumption))
  · exact cI (by first | rfl | exact ⟨rfl, rfl⟩ | (repeat' constructor) <;> first | rfl | assumption | exact cA hU (by assumption) (by assumption))

theorem FN (hs : cR k U cmp) (aA : List aC) (hU : ∀ x ∈ aA, U x) (i8 : Int) (j9 : Int) : OR (rL k U) (iJ cmp aA i8 j9) (mT (aA.map k) i8 j9) := by
  unfold iJ mT
  try simp only [List.length_map, cD hs.d0, cS]
  refine cO (rD (R := (rP (rL k U) (rP Eq Eq))) (Q := (rL k U)) ?_ ?_) ?_
  · rintro ⟨d1, ⟨v2, v3⟩⟩ ⟨_, ⟨_, _⟩⟩ ⟨⟨rfl, hU⟩, ⟨rfl, rfl⟩⟩
    exact FE hs  d1 hU v2 v3
  · exact ⟨oA hU, ⟨rfl, rfl⟩⟩
  · exact fun x y h => h

theorem FZ (hs : cR k U cmp) (aA : List aC) (hU : ∀ x ∈ aA, U x) (a1 : Int) (b2 : Int) : OR (rL k U) (iO aA a1 b2 cmp) (lC (aA.map k) a1 b2) := by
  unfold iO lC
  try simp only [List.length_map, cD hs.d0, cS]
  exact FN hs _ hU _ _

theorem zI (hs : cR k U cmp) (aA : List aC) (hU : ∀ x ∈ aA, U x) : OR (rP Eq (rL k U)) (dG cmp aA) (jW (aA.map k)) := by
  unfold dG jW
  try simp only [List.length_map, cD hs.d0, cS]
  exact cI (by first | rfl | exact ⟨rfl, rfl⟩ | (repeat' constructor) <;> first | rfl | assumption | exact cA hU (by assumption) (by assumption))

theorem rR (hs : cR k U cmp) (aA : List aC) (hU : ∀ x ∈ aA, U x) (a1 : Int) (b2 : Int) (i9 : Int) (j10 : Int) : OR (rS (rP (rL k U) (rP Eq Eq)) (rS (rL k U) (rP Eq (rL k U)))) (cL cmp aA a1 b2 i9 j10) (jX (aA.map k) a1 b2 i9 j10) := by
  unfold cL jX
  try simp only [List.length_map, cD hs.d0, cS]
  exact cI (by first | rfl | exact ⟨rfl, rfl⟩ | (repeat' constructor) <;> first | rfl | assumption | exact cA hU (by assumption) (by assumption))

theorem zF (hs : cR k U cmp) (a1 : Int) (b2 : Int) (i9 : Int) (j10 : Int) (aA : List aC) (hU : ∀ x ∈ aA, U x) (j12 : Int) : OR (rS (rP (rL k U) Eq) (rL k U)) (eM cmp a1 b2 i9 j10 aA j12) (cV a1 b2 i9 j10 (aA.map k) j12) := by
  unfold eM cV
  try simp only [List.length_map, cD hs.d0, cS]
  refine dN (fun h1 => ?_) (fun h2 => ?_)
  · refine bK fun h3 => ?_
    refine bK fun h4 => ?_
    refine cO (R := rC) (lY hs (gZ hU _) (gZ hU _)) ?_
    intro x_ y_ h_
    obtain rfl := h_
    refine dN (fun h5 => ?_) (fun h6 => ?_)
    · exact cI (by first | rfl | exact ⟨rfl, rfl⟩ | (repeat' constructor) <;> first | rfl | assumption | exact cA hU (by assumption) (by assumption))
    · refine bK fun h7 => ?_
      refine bK fun h8 => ?_
      refine bK fun h9 => ?_
      refine bK fun h10 => ?_
      exact cI (by first | rfl | exact ⟨rfl, rfl⟩ | (repeat' constructor) <;> first | rfl | assumption | exact cA hU (by assumption) (by assumption))
  · exact cI (by first | rfl | exact ⟨rfl, rfl⟩ | (repeat' constructor) <;> first | rfl | assumption | exact cA hU (by assumption) (by assumption))

theorem zM (hs : cR k U cmp) (aA : List aC) (hU : ∀ x ∈ aA, U x) (a1 : Int) (b2 : Int) (i9 : Int) (j10 : Int) (j12 : Int) : OR (rS (rP (rL k U) (rP Eq Eq)) (rS (rL k U) (rP Eq (rL k U)))) (eO cmp aA a1 b2 i9 j10 j12) (jU (aA.map k) a1 b2 i9 j10 j12) := by
  unfold eO jU
  try simp only [List.length_map, cD hs.d0, cS]
  refine cO (rD (R := (rP (rL k U) Eq)) (Q := (rL k U)) ?_ ?_) ?_
  · rintro ⟨d1, v2⟩ ⟨_, _⟩ ⟨⟨rfl, hU⟩, rfl⟩
    exact zF hs _ _ _ _ d1 hU v2
  · exact ⟨oA hU, rfl⟩
  · rintro d1 _ ⟨rfl, hU⟩
    apply rR hs <;> assumption

theorem rN (hs : cR k U cmp) (aA : List aC) (hU : ∀ x ∈ aA, U x) (a1 : Int) (b2 : Int) (i9 : Int) (j10 : Int) : OR (rS (rP (rL k U) (rP Eq Eq)) (rS (rL k U) (rP Eq (rL k U)))) (cM cmp aA a1 b2 i9 j10) (dD (aA.map k) a1 b2 i9 j10) := by
  unfold cM dD
  try simp only [List.length_map, cD hs.d0, cS]
  refine dN (fun h1 => ?_) (fun h2 => ?_)
  · exact zM hs _ hU _ _ _ _ _
  · exact rR hs _ hU _ _ _ _

theorem zH (hs : cR k U cmp) (a1 : Int) (b2 : Int) (i9 : Int) (j10 : Int) (aA : List aC) (hU : ∀ x ∈ aA, U x) (j11 : Int) : OR (rS (rP (rL k U) Eq) (rL k U)) (eN cmp a1 b2 i9 j10 aA j11) (cN a1 b2 i9 j10 (aA.map k) j11) := by
  unfold eN cN
  try simp only [List.length_map, cD hs.d0, cS]
  refine dN (fun h1 => ?_) (fun h2 => ?_)
  · refine bK fun h3 => ?_
    refine bK fun h4 => ?_
    refine cO (R := rC) (lY hs (gZ hU _) (gZ hU _)) ?_
    intro x_ y_ h_
    obtain rfl := h_
    refine dN (fun h5 => ?_) (fun h6 => ?_)
    · exact cI (by first | rfl | exact ⟨rfl, rfl⟩ | (repeat' constructor) <;> first | rfl | assumption | exact cA hU (by assumption) (by assumption))
    · refine bK fun h7 => ?_
      refine bK fun h8 => ?_
      refine bK fun h9 => ?_
      refine bK fun h10 => ?_
      exact cI (by first | rfl | exact ⟨rfl, rfl⟩ | (repeat' constructor) <;> first | rfl | assumption | exact cA hU (by assumption) (by assumption))
  · exact cI (by first | rfl | exact ⟨rfl, rfl⟩ | (repeat' constructor) <;> first | rfl | assumption | exact cA hU (by assumption) (by assumption))

theorem zE (hs : cR k U cmp) (aA : List aC) (hU : ∀ x ∈ aA, U x) (a1 : Int) (b2 : Int) (i9 : Int) (j10 : Int) (j11 : Int) : OR (rS (rP (rL k U) (rP Eq Eq)) (rS (rL k U) (rP Eq (rL k U)))) (eK cmp aA a1 b2 i9 j10 j11) (jY (aA.map k) a1 b2 i9 j10 j11) := by
  unfold eK jY
  try simp only [List.length_map, cD hs.d0, cS]
  refine cO (rD (R := (rP (rL k U) Eq)) (Q := (rL k U)) ?_ ?_) ?_
  · rintro ⟨d1, v2⟩ ⟨_, _⟩ ⟨⟨rfl, hU⟩, rfl⟩
    exact zH hs _ _ _ _ d1 hU v2
  · exact ⟨oA hU, rfl⟩
  · rintro d1 _ ⟨rfl, hU⟩
    apply rN hs <;> assumption

theorem zU (hs : cR k U cmp) (aA : List aC) (hU : ∀ x ∈ aA, U x) (a1 : Int) (b2 : Int) (i9 : Int) (j10 : Int) : OR (rS (rP (rL k U) (rP Eq Eq)) (rS (rL k U) (rP Eq (rL k U)))) (dH cmp aA a1 b2 i9 j10) (jV (aA.map k) a1 b2 i9 j10) := by
  unfold dH jV
  try simp only [List.length_map, cD hs.d0, cS]
  refine dN (fun h1 => ?_) (fun h2 => ?_)
  · exact cI (by first | rfl | exact ⟨rfl, rfl⟩ | (repeat' constructor) <;> first | rfl | assumption | exact cA hU (by assumption) (by assumption))
  · refine dN (fun h3 => ?_) (fun h4 => ?_)
    · exact cI (by first | rfl | exact ⟨rfl, rfl⟩ | (repeat' constructor) <;> first | rfl | assumption | exact cA hU (by assumption) (by assumption))
    · refine bK fun h5 => ?_
      refine bK fun h6 => ?_
      refine bK fun h7 => ?_
      refine bK fun h8 => ?_
      refine dN (fun h9 => ?_) (fun h10 => ?_)
      · exact zE hs _ (cA hU (by assumption) (by assumption)) _ _ _ _ _
      · exact rN hs _ (cA hU (by assumption) (by assumption)) _ _ _ _

theorem zQ (hs : cR k U cmp) (a1 : Int) (b2 : Int) (j10 : Int) (aA : List aC) (hU : ∀ x ∈ aA, U x) (i9 : Int) : OR (rS (rP (rL k U) Eq) (rP (rL k U) Eq)) (eS cmp a1 b2 j10 aA i9) (cU a1 b2 j10 (aA.map k) i9) := by
  unfold eS cU
  try simp only [List.length_map, cD hs.d0, cS]
  refine bK fun h1 => ?_
  refine bK fun h2 => ?_
  refine cO (R := rC) (tX fun _ => lY hs (gZ hU _) (gZ hU _)) ?_
  intro x_ y_ h_
  obtain rfl := h_
  refine dN (fun h3 => ?_) (fun h4 => ?_)
  · exact cI (by first | rfl | exact ⟨rfl, rfl⟩ | (repeat' constructor) <;> first | rfl | assumption | exact cA hU (by assumption) (by assumption))
  · exact cI (by first | rfl | exact ⟨rfl, rfl⟩ | (repeat' constructor) <;> first | rfl | assumption | exact cA hU (by assumption) (by assumption))

theorem zD (hs : cR k U cmp) (aA : List aC) (hU : ∀ x ∈ aA, U x) (a1 : Int) (b2 : Int) (i9 : Int) (j10 : Int) : OR (rS (rP (rL k U) (rP Eq Eq)) (rS (rL k U) (rP Eq (rL k U)))) (eR cmp aA a1 b2 i9 j10) (dF (aA.map k) a1 b2 i9 j10) := by
  unfold eR dF
  try simp only [List.length_map, cD hs.d0, cS]
  refine cO (rD (R := (rP (rL k U) Eq)) (Q := (rP (rL k U) Eq)) ?_ ?_) ?_
  · rintro ⟨d1, v2⟩ ⟨_, _⟩ ⟨⟨rfl, hU⟩, rfl⟩
    exact zQ hs _ _ _ d1 hU v2
  · exact ⟨oA hU, rfl⟩
  · rintro ⟨d1, v2⟩ ⟨_, _⟩ ⟨⟨rfl, hU⟩, rfl⟩
    apply zU hs <;> assumption

theorem zR (hs : cR k U cmp) (a1 : Int) (b2 : Int) (aA : List aC) (hU : ∀ x ∈ aA, U x) (i9 : Int) (j10 : Int) : OR (rS (rP (rL k U) (rP Eq Eq)) (rS (rL k U) (rP Eq (rL k U)))) (eJ cmp a1 b2 aA i9 j10) (bZ a1 b2 (aA.map k) i9 j10) := by
  unfold eJ bZ
  try simp only [List.length_map, cD hs.d0, cS]
  refine dN (fun h1 => ?_) (fun h2 => ?_)
  · exact zD hs _ hU _ _ _ _
  · exact cI (by first | rfl | exact ⟨rfl, rfl⟩ | (repeat' constructor) <;> first | rfl | assumption | exact cA hU (by assumption) (by assumption))

theorem zJ (hs : cR k U cmp) (aA : List aC) (hU : ∀ x ∈ aA, U x) (a1 : Int) (b2 : Int) (i9 : Int) (j10 : Int) : OR (rP Eq (rL k U)) (eP cmp aA a1 b2 i9 j10) (jT (aA.map k) a1 b2 i9 j10) := by
  unfold eP jT
  try simp only [List.length_map, cD hs.d0, cS]
  refine cO (rD (R := (rP (rL k U) (rP Eq Eq))) (Q := (rS (rL k U) (rP Eq (rL k U)))) ?_ ?_) ?_
  · rintro ⟨d1, ⟨v2, v3⟩⟩ ⟨_, ⟨_, _⟩⟩ ⟨⟨rfl, hU⟩, ⟨rfl, rfl⟩⟩
    exact zR hs _ _ d1 hU v2 v3
  · exact ⟨oA hU, ⟨rfl, rfl⟩⟩
  · rintro (x | x) (y | y) h
    · obtain ⟨rfl, hU⟩ := h; apply zI hs <;> assumption
    · exact h.elim
    · exact h.elim
    · exact h

theorem AF (hs : cR k U cmp) (aA : List aC) (hU : ∀ x ∈ aA, U x) (a1 : Int) (b2 : Int) : OR (rP Eq (rL k U)) (eY aA a1 b2 cmp) (fX (aA.map k) a1 b2) := by
  unfold eY fX
  try simp only [List.length_map, cD hs.d0, cS]
  exact zJ hs _ hU _ _ _ _

theorem DN (hs : cR k U cmp) (aA : List aC) (hU : ∀ x ∈ aA, U x) (i11 : Int) : OR (rP Eq (rL k U)) (eE cmp aA i11) (oW (aA.map k) i11) := by
  unfold eE oW
  try simp only [List.length_map, cD hs.d0, cS]
  exact cI (by first | rfl | exact ⟨rfl, rfl⟩ | (repeat' constructor) <;> first | rfl | assumption | exact cA hU (by assumption) (by assumption))

theorem CU (hs : cR k U cmp) (aA : List aC) (hU : ∀ x ∈ aA, U x) (a1 : Int) (i11 : Int) (j12 : Int) : OR (rS (rP (rL k U) (rP Eq Eq)) (rP (rL k U) Eq)) (eF cmp aA a1 i11 j12) (fV (aA.map k) a1 i11 j12) := by
  unfold eF fV
  try simp only [List.length_map, cD hs.d0, cS]
  refine dN (fun h1 => ?_) (fun h2 => ?_)
  · exact cI (by first | rfl | exact ⟨rfl, rfl⟩ | (repeat' constructor) <;> first | rfl | assumption | exact cA hU (by assumption) (by assumption))
  · refine bK fun h3 => ?_
    refine bK fun h4 => ?_
    refine bK fun h5 => ?_
    refine bK fun h6 => ?_
    exact cI (by first | rfl | exact ⟨rfl, rfl⟩ | (repeat' constructor) <;> first | rfl | assumption | exact cA hU (by assumption) (by assumption))

theorem DH (hs : cR k U cmp) (a1 : Int) (i11 : Int) (aA : List aC) (hU : ∀ x ∈ aA, U x) (j12 : Int) : OR (rS (rP (rL k U) Eq) (rP (rL k U) Eq)) (gF cmp a1 i11 aA j12) (eG a1 i11 (aA.map k) j12) := by
  unfold gF eG
  try simp only [List.length_map, cD hs.d0, cS]
  refine bK fun h1 => ?_
  refine bK fun h2 => ?_
  refine cO (R := rC) (tX fun _ => lY hs (gZ hU _) (gZ hU _)) ?_
  intro x_ y_ h_
  obtain rfl := h_
  refine dN (fun h3 => ?_) (fun h4 => ?_)
  · exact cI (by first | rfl | exact ⟨rfl, rfl⟩ | (repeat' constructor) <;> first | rfl | assumption | exact cA hU (by assumption) (by assumption))
  · exact cI (by first | rfl | exact ⟨rfl, rfl⟩ | (repeat' constructor) <;> first | rfl | assumption | exact cA hU (by assumption) (by assumption))

theorem DI (hs : cR k U cmp) (aA : List aC) (hU : ∀ x ∈ aA, U x) (a1 : Int) (i11 : Int) (j12 : Int) : OR (rS (rP (rL k U) (rP Eq Eq)) (rP (rL k U) Eq)) (gE cmp aA a1 i11 j12) (mH (aA.map k) a1 i11 j12) := by
  unfold gE mH
  try simp only [List.length_map, cD hs.d0, cS]
  refine cO (rD (R := (rP (rL k U) Eq)) (Q := (rP (rL k U) Eq)) ?_ ?_) ?_
  · rintro ⟨d1, v2⟩ ⟨_, _⟩ ⟨⟨rfl, hU⟩, rfl⟩
    exact DH hs _ _ d1 hU v2
  · exact ⟨oA hU, rfl⟩
  · rintro ⟨d1, v2⟩ ⟨_, _⟩ ⟨⟨rfl, hU⟩, rfl⟩
    apply CU hs <;> assumption

theorem DK (hs : cR k U cmp) (aA : List aC) (hU : ∀ x ∈ aA, U x) (a1 : Int) (i11 : Int) (j12 : Int) : OR (rS (rP (rL k U) (rP Eq Eq)) (rP (rL k U) Eq)) (eD cmp aA a1 i11 j12) (mF (aA.map k) a1 i11 j12) := by
  unfold eD mF
  try simp only [List.length_map, cD hs.d0, cS]
  exact DI hs _ hU _ _ _

theorem DO (hs : cR k U cmp) (a1 : Int) (j12 : Int) (aA : List aC) (hU : ∀ x ∈ aA, U x) (i11 : Int) : OR (rS (rP (rL k U) Eq) (rP (rL k U) Eq)) (fZ cmp a1 j12 aA i11) (eC a1 j12 (aA.map k) i11) := by
  unfold fZ eC
  try simp only [List.length_map, cD hs.d0, cS]
  refine bK fun h1 => ?_
  refine bK fun h2 => ?_
  refine cO (R := rC) (tX fun _ => lY hs (gZ hU _) (gZ hU _)) ?_
  intro x_ y_ h_
  obtain rfl := h_
  refine dN (fun h3 => ?_) (fun h4 => ?_)
  · exact cI (by first | rfl | exact ⟨rfl, rfl⟩ | (repeat' constructor) <;> first | rfl | assumption | exact cA hU (by assumption) (by assumption))
  · exact cI (by first | rfl | exact ⟨rfl, rfl⟩ | (repeat' constructor) <;> first | rfl | assumption | exact cA hU (by assumption) (by assumption))

theorem DL (hs : cR k U cmp) (aA : List aC) (hU : ∀ x ∈ aA, U x) (a1 : Int) (i11 : Int) (j12 : Int) : OR (rS (rP (rL k U) (rP Eq Eq)) (rP (rL k U) Eq)) (gH cmp aA a1 i11 j12) (mE (aA.map k) a1 i11 j12) := by
  unfold gH mE
  try simp only [List.length_map, cD hs.d0, cS]
  refine cO (rD (R := (rP (rL k U) Eq)) (Q := (rP (rL k U) Eq)) ?_ ?_) ?_
  · rintro ⟨d1, v2⟩ ⟨_, _⟩ ⟨⟨rfl, hU⟩, rfl⟩
    exact DO hs _ _ d1 hU v2
  · exact ⟨oA hU, rfl⟩
  · rintro ⟨d1, v2⟩ ⟨_, _⟩ ⟨⟨rfl, hU⟩, rfl⟩
    apply DK hs <;> assumption

theorem CW (hs : cR k U cmp) (a1 : Int) (aA : List aC) (hU : ∀ x ∈ aA, U x) (i11 : Int) (j12 : Int) : OR (rS (rP (rL k U) (rP Eq Eq)) (rP (rL k U) Eq)) (fY cmp a1 aA i11 j12) (cW a1 (aA.map k) i11 j12) := by
  unfold fY cW
  try simp only [List.length_map, cD hs.d0, cS]
  exact DL hs _ hU _ _ _

theorem CV (hs : cR k U cmp) (aA : List aC) (hU : ∀ x ∈ aA, U x) (a1 : Int) (i11 : Int) (j12 : Int) : OR (rP Eq (rL k U)) (gG cmp aA a1 i11 j12) (mG (aA.map k) a1 i11 j12) := by
  unfold gG mG
  try simp only [List.length_map, cD hs.d0, cS]
  refine cO (rD (R := (rP (rL k U) (rP Eq Eq))) (Q := (rP (rL k U) Eq)) ?_ ?_) ?_
  · rintro ⟨d1, ⟨v2, v3⟩⟩ ⟨_, ⟨_, _⟩⟩ ⟨⟨rfl, hU⟩, ⟨rfl, rfl⟩⟩
    exact CW hs _ d1 hU v2 v3
  · exact ⟨oA hU, ⟨rfl, rfl⟩⟩
  · rintro ⟨d1, v2⟩ ⟨_, _⟩ ⟨⟨rfl, hU⟩, rfl⟩
    apply DN hs <;> assumption

theorem EY (hs : cR k U cmp) (aA : List aC) (hU : ∀ x ∈ aA, U x) (a1 : Int) (b2 : Int) (bY : Int) : OR (rP Eq (rL k U)) (gY aA a1 b2 bY cmp) (gP (aA.map k) a1 b2 bY) := by
  unfold gY gP
  try simp only [List.length_map, cD hs.d0, cS]
  refine bK fun h1 => ?_
  refine bK fun h2 => ?_
  refine bK fun h3 => ?_
  refine bK fun h4 => ?_
  exact CV hs _ (cA hU (by assumption) (by assumption)) _ _ _

theorem IA (hs : cR k U cmp) (aA : List aC) (hU : ∀ x ∈ aA, U x) (a1 : Int) (j13 : Int) : OR (rP (rP Eq Eq) (rL k U)) (fQ cmp aA a1 j13) (nT (aA.map k) a1 j13) := by
  unfold fQ nT
  try simp only [List.length_map, cD hs.d0, cS]
  refine bK fun h1 => ?_
  refine bK fun h2 => ?_
  refine bK fun h3 => ?_
  refine bK fun h4 => ?_
  exact cI (by first | rfl | exact ⟨rfl, rfl⟩ | (repeat' constructor) <;> first | rfl | assumption | exact cA hU (by assumption) (by assumption))

theorem IF (hs : cR k U cmp) (aA : List aC) (hU : ∀ x ∈ aA, U x) (a1 : Int) (i12 : Int) (j13 : Int) : OR (rS (rP (rL k U) (rP Eq Eq)) (rP (rL k U) Eq)) (fU cmp aA a1 i12 j13) (jL (aA.map k) a1 i12 j13) := by
  unfold fU jL
  try simp only [List.length_map, cD hs.d0, cS]
  refine dN (fun h1 => ?_) (fun h2 => ?_)
  · exact cI (by first | rfl | exact ⟨rfl, rfl⟩ | (repeat' constructor) <;> first | rfl | assumption | exact cA hU (by assumption) (by assumption))
  · refine bK fun h3 => ?_
    refine bK fun h4 => ?_
    refine bK fun h5 => ?_
    refine bK fun h6 => ?_
    exact cI (by first | rfl | exact ⟨rfl, rfl⟩ | (repeat' constructor) <;> first | rfl | assumption | exact cA hU (by assumption) (by assumption))

theorem IN (hs : cR k U cmp) (a1 : Int) (i12 : Int) (aA : List aC) (hU : ∀ x ∈ aA, U x) (j13 : Int) : OR (rS (rP (rL k U) Eq) (rP (rL k U) Eq)) (jJ cmp a1 i12 aA j13) (gI a1 i12 (aA.map k) j13) := by
  unfold jJ gI
  try simp only [List.length_map, cD hs.d0, cS]
  refine bK fun h1 => ?_
  refine bK fun h2 => ?_
  refine cO (R := rC) (tX fun _ => lY hs (gZ hU _) (gZ hU _)) ?_
  intro x_ y_ h_
  obtain rfl := h_
  refine dN (fun h3 => ?_) (fun h4 => ?_)
  · exact cI (by first | rfl | exact ⟨rfl, rfl⟩ | (repeat' constructor) <;> first | rfl | assumption | exact cA hU (by assumption) (by assumption))
  · exact cI (by first | rfl | exact ⟨rfl, rfl⟩ | (repeat' constructor) <;> first | rfl | assumption | exact cA hU (by assumption) (by assumption))

theorem IL (hs : cR k U cmp) (aA : List aC) (hU : ∀ x ∈ aA, U x) (a1 : Int) (i12 : Int) (j13 : Int) : OR (rS (rP (rL k U) (rP Eq Eq)) (rP (rL k U) Eq)) (jD cmp aA a1 i12 j13) (nQ (aA.map k) a1 i12 j13) := by
  unfold jD nQ
  try simp only [List.length_map, cD hs.d0, cS]
  refine cO (rD (R := (rP (rL k U) Eq)) (Q := (rP (rL k U) Eq)) ?_ ?_) ?_
  · rintro ⟨d1, v2⟩ ⟨_, _⟩ ⟨⟨rfl, hU⟩, rfl⟩
    exact IN hs _ _ d1 hU v2
  · exact ⟨oA hU, rfl⟩
  · rintro ⟨d1, v2⟩ ⟨_, _⟩ ⟨⟨rfl, hU⟩, rfl⟩
    apply IF hs <;> assumption

theorem IM (hs : cR k U cmp) (aA : List aC) (hU : ∀ x ∈ aA, U x) (a1 : Int) (i12 : Int) (j13 : Int) : OR (rS (rP (rL k U) (rP Eq Eq)) (rP (rL k U) Eq)) (fP cmp aA a1 i12 j13) (nM (aA.map k) a1 i12 j13) := by
  unfold fP nM
  try simp only [List.length_map, cD hs.d0, cS]
  exact IL hs _ hU _ _ _

theorem ID (hs : cR k U cmp) (a1 : Int) (j13 : Int) (aA : List aC) (hU : ∀ x ∈ aA, U x) (i12 : Int) : OR (rS (rP (rL k U) Eq) (rP (rL k U) Eq)) (jG cmp a1 j13 aA i12) (gC a1 j13 (aA.map k) i12) := by
  unfold jG gC
  try simp only [List.length_map, cD hs.d0, cS]
  refine bK fun h1 => ?_
  refine bK fun h2 => ?_
  refine cO (R := rC) (tX fun _ => lY hs (gZ hU _) (gZ hU _)) ?_
  intro x_ y_ h_
  obtain rfl := h_
  refine dN (fun h3 => ?_) (fun h4 => ?_)
  · exact cI (by first | rfl | exact ⟨rfl, rfl⟩ | (repeat' constructor) <;> first | rfl | assumption | exact cA hU (by assumption) (by assumption))
  · exact cI (by first | rfl | exact ⟨rfl, rfl⟩ | (repeat' constructor) <;> first | rfl | assumption | exact cA hU (by assumption) (by assumption))

theorem IG (hs : cR k U cmp) (aA : List aC) (hU : ∀ x ∈ aA, U x) (a1 : Int) (i12 : Int) (j13 : Int) : OR (rS (rP (rL k U) (rP Eq Eq)) (rP (rL k U) Eq)) (jH cmp aA a1 i12 j13) (nN (aA.map k) a1 i12 j13) := by
  unfold jH nN
  try simp only [List.length_map, cD hs.d0, cS]
  refine cO (rD (R := (rP (rL k U) Eq)) (Q := (rP (rL k U) Eq)) ?_ ?_) ?_
  · rintro ⟨d1, v2⟩ ⟨_, _⟩ ⟨⟨rfl, hU⟩, rfl⟩
    exact ID hs _ _ d1 hU v2
  · exact ⟨oA hU, rfl⟩
  · rintro ⟨d1, v2⟩ ⟨_, _⟩ ⟨⟨rfl, hU⟩, rfl⟩
    apply IM hs <;> assumption

theorem IC (hs : cR k U cmp) (a1 : Int) (aA : List aC) (hU : ∀ x ∈ aA, U x) (i12 : Int) (j13 : Int) : OR (rS (rP (rL k U) (rP Eq Eq)) (rP (rL k U) Eq)) (jK cmp a1 aA i12 j13) (dU a1 (aA.map k) i12 j13) := by
  unfold jK dU
  try simp only [List.length_map, cD hs.d0, cS]
  exact IG hs _ hU _ _ _

theorem HZ (hs : cR k U cmp) (aA : List aC) (hU : ∀ x ∈ aA, U x) (a1 : Int) (i12 : Int) (j13 : Int) : OR (rP (rP Eq Eq) (rL k U)) (jO cmp aA a1 i12 j13) (nP (aA.map k) a1 i12 j13) := by
  unfold jO nP
  try simp only [List.length_map, cD hs.d0, cS]
  refine cO (rD (R := (rP (rL k U) (rP Eq Eq))) (Q := (rP (rL k U) Eq)) ?_ ?_) ?_
  · rintro ⟨d1, ⟨v2, v3⟩⟩ ⟨_, ⟨_, _⟩⟩ ⟨⟨rfl, hU⟩, ⟨rfl, rfl⟩⟩
    exact IC hs _ d1 hU v2 v3
  · exact ⟨oA hU, ⟨rfl, rfl⟩⟩
  · rintro ⟨d1, v2⟩ ⟨_, _⟩ ⟨⟨rfl, hU⟩, rfl⟩
    apply IA hs <;> assumption

theorem II (hs : cR k U cmp) (aA : List aC) (hU : ∀ x ∈ aA, U x) (a1 : Int) (i12 : Int) (j13 : Int) : OR (rP (rP Eq Eq) (rL k U)) (fR cmp aA a1 i12 j13) (jF (aA.map k) a1 i12 j13) := by
  unfold fR jF
  try simp only [List.length_map, cD hs.d0, cS]
  refine dN (fun h1 => ?_) (fun h2 => ?_)
  · refine bK fun h3 => ?_
    refine bK fun h4 => ?_
    refine bK fun h5 => ?_
    refine bK fun h6 => ?_
    exact cI (by first | rfl | exact ⟨rfl, rfl⟩ | (repeat' constructor) <;> first | rfl | assumption | exact cA hU (by assumption) (by assumption))
  · refine bK fun h7 => ?_
    refine bK fun h8 => ?_
    refine bK fun h9 => ?_
    refine bK fun h10 => ?_
    exact HZ hs _ (cA hU (by assumption) (by assumption)) _ _ _

theorem IJ (hs : cR k U cmp) (a1 : Int) (i12 : Int) (aA : List aC) (hU : ∀ x ∈ aA, U x) (j13 : Int) : OR (rS (rP (rL k U) Eq) (rP (rL k U) Eq)) (jI cmp a1 i12 aA j13) (fW a1 i12 (aA.map k) j13) := by
  unfold jI fW
  try simp only [List.length_map, cD hs.d0, cS]
  refine bK fun h1 => ?_
  refine bK fun h2 => ?_
  refine cO (R := rC) (tX fun _ => lY hs (gZ hU _) (gZ hU _)) ?_
  intro x_ y_ h_
  obtain rfl := h_
  refine dN (fun h3 => ?_) (fun h4 => ?_)
  · exact cI (by first | rfl | exact ⟨rfl, rfl⟩ | (repeat' constructor) <;> first | rfl | assumption | exact cA hU (by assumption) (by assumption))
  · exact cI (by first | rfl | exact ⟨rfl, rfl⟩ | (repeat' constructor) <;> first | rfl | assumption | exact cA hU (by assumption) (by assumption))

theorem IP (hs : cR k U cmp) (aA : List aC) (hU : ∀ x ∈ aA, U x) (a1 : Int) (i12 : Int) (j13 : Int) : OR (rP (rP Eq Eq) (rL k U)) (jC cmp aA a1 i12 j13) (nS (aA.map k) a1 i12 j13) := by
  unfold jC nS
  try simp only [List.length_map, cD hs.d0, cS]
  refine cO (rD (R := (rP (rL k U) Eq)) (Q := (rP (rL k U) Eq)) ?_ ?_) ?_
  · rintro ⟨d1, v2⟩ ⟨_, _⟩ ⟨⟨rfl, hU⟩, rfl⟩
    exact IJ hs _ _ d1 hU v2
  · exact ⟨oA hU, rfl⟩
  · rintro ⟨d1, v2⟩ ⟨_, _⟩ ⟨⟨rfl, hU⟩, rfl⟩
    apply II hs <;> assumption

theorem IE (hs : cR k U cmp) (aA : List aC) (hU : ∀ x ∈ aA, U x) (a1 : Int) (i12 : Int) (j13 : Int) : OR (rP (rP Eq Eq) (rL k U)) (fS cmp aA a1 i12 j13) (nU (aA.map k) a1 i12 j13) := by
  unfold fS nU
  try simp only [List.length_map, cD hs.d0, cS]
  exact IP hs _ hU _ _ _

theorem GK (hs : cR k U cmp) (a1 : Int) (j13 : Int) (aA : List aC) (hU : ∀ x ∈ aA, U x) (i12 : Int) : OR (rS (rP (rL k U) Eq) (rP (rL k U) Eq)) (iV cmp a1 j13 aA i12) (fM a1 j13 (aA.map k) i12) := by
  unfold iV fM
  try simp only [List.length_map, cD hs.d0, cS]
  refine bK fun h1 => ?_
  refine bK fun h2 => ?_
  refine cO (R := rC) (tX fun _ => lY hs (gZ hU _) (gZ hU _)) ?_
  intro x_ y_ h_
  obtain rfl := h_
  refine dN (fun h3 => ?_) (fun h4 => ?_)
  · exact cI (by first | rfl | exact ⟨rfl, rfl⟩ | (repeat' constructor) <;> first | rfl | assumption | exact cA hU (by assumption) (by assumption))
  · exact cI (by first | rfl | exact ⟨rfl, rfl⟩ | (repeat' constructor) <;> first | rfl | assumption | exact cA hU (by assumption) (by assumption))

theorem GO (hs : cR k U cmp) (aA : List aC) (hU : ∀ x ∈ aA, U x) (a1 : Int) (i12 : Int) (j13 : Int) : OR (rP (rP Eq Eq) (rL k U)) (iX cmp aA a1 i12 j13) (iT (aA.map k) a1 i12 j13) := by
  unfold iX iT
  try simp only [List.length_map, cD hs.d0, cS]
  refine cO (rD (R := (rP (rL k U) Eq)) (Q := (rP (rL k U) Eq)) ?_ ?_) ?_
  · rintro ⟨d1, v2⟩ ⟨_, _⟩ ⟨⟨rfl, hU⟩, rfl⟩
    exact GK hs _ _ d1 hU v2
  · exact ⟨oA hU, rfl⟩
  · rintro ⟨d1, v2⟩ ⟨_, _⟩ ⟨⟨rfl, hU⟩, rfl⟩
    apply IE hs <;> assumption

theorem KK (hs : cR k U cmp) (aA : List aC) (hU : ∀ x ∈ aA, U x) (a1 : Int) (b2 : Int) (bY : Int) : OR (rP (rP Eq Eq) (rL k U)) (jZ aA a1 b2 bY cmp) (kK (aA.map k) a1 b2 bY) := by
  unfold jZ kK
  try simp only [List.length_map, cD hs.d0, cS]
  refine bK fun h1 => ?_
  refine bK fun h2 => ?_
  refine bK fun h3 => ?_
  refine bK fun h4 => ?_
  exact GO hs _ (cA hU (by assumption) (by assumption)) _ _ _

theorem BJ (hs : cR k U cmp) {rec : List aC → Int → Int → Int → Option (List aC)} {rec2 : List Int → Int → Int → Int → Option (List Int)} (hrec : ∀ d a b l, (∀ x ∈ d, U x) → OR (rL k U) (rec d a b l) (rec2 (d.map k) a b l)) (aA : List aC) (hU : ∀ x ∈ aA, U x) (a1 : Int) (b2 : Int) (bJ : Int) (bH : Bool) (bA : Bool) (cY : Int) (fF : Int) : OR (rS (rP (rL k U) (rP Eq (rP Eq (rP Eq (rP Eq Eq))))) (rL k U)) (iA cmp rec aA a1 b2 bJ bH bA cY fF) (kS rec2 (aA.map k) a1 b2 bJ bH bA cY fF) := by
  unfold iA kS
  try simp only [List.length_map, cD hs.d0, cS]
  refine bK fun h1 => ?_
  refine bK fun h2 => ?_
  refine cO (R := rC) (tX fun _ => lY hs (gZ hU _) (gZ hU _)) ?_
  intro x_ y_ h_
  obtain rfl := h_
  refine dN (fun h3 => ?_) (fun h4 => ?_)
  · refine cO (EY hs _ hU _ _ _) ?_
    rintro ⟨w51, w52⟩ ⟨_, _⟩ ⟨rfl, ⟨rfl, hU⟩⟩
    exact cI (by first | rfl | exact ⟨rfl, rfl⟩ | (repeat' constructor) <;> first | rfl | assumption | exact cA hU (by assumption) (by assumption))
  · refine cO (KK hs _ hU _ _ _) ?_
    rintro ⟨⟨w81, w82⟩, w83⟩ ⟨⟨_, _⟩, _⟩ ⟨⟨rfl, rfl⟩, ⟨rfl, hU⟩⟩
    refine bK fun h5 => ?_
    refine dN (fun h6 => ?_) (fun h7 => ?_)
    · refine cO (hrec _ _ _ _ hU) ?_
      rintro d_ _ ⟨rfl, hU⟩
      exact cI (by first | rfl | exact ⟨rfl, rfl⟩ | (repeat' constructor) <;> first | rfl | assumption | exact cA hU (by assumption) (by assumption))
    · refine cO (hrec _ _ _ _ hU) ?_
      rintro d_ _ ⟨rfl, hU⟩
      exact cI (by first | rfl | exact ⟨rfl, rfl⟩ | (repeat' constructor) <;> first | rfl | assumption | exact cA hU (by assumption) (by assumption))

theorem BO (hs : cR k U cmp) {rec : List aC → Int → Int → Int → Option (List aC)} {rec2 : List Int → Int → Int → Int → Option (List Int)} (hrec : ∀ d a b l, (∀ x ∈ d, U x) → OR (rL k U) (rec d a b l) (rec2 (d.map k) a b l)) (aA : List aC) (hU : ∀ x ∈ aA, U x) (a1 : Int) (b2 : Int) (bJ : Int) (bH : Bool) (bA : Bool) (cY : Int) (fF : Int) (CK : Int) : OR (rS (rP (rL k U) (rP Eq (rP Eq (rP Eq (rP Eq Eq))))) (rL k U)) (iE cmp rec aA a1 b2 bJ bH bA cY fF CK) (kV rec2 (aA.map k) a1 b2 bJ bH bA cY fF CK) := by
  unfold iE kV
  try simp only [List.length_map, cD hs.d0, cS]
  refine dN (fun h1 => ?_) (fun h2 => ?_)
  · refine cO (AF hs _ hU _ _) ?_
    rintro ⟨w21, w22⟩ ⟨_, _⟩ ⟨rfl, ⟨rfl, hU⟩⟩
    refine dN (fun h3 => ?_) (fun h4 => ?_)
    · exact cI (by first | rfl | exact ⟨rfl, rfl⟩ | (repeat' constructor) <;> first | rfl | assumption | exact cA hU (by assumption) (by assumption))
    · exact BJ hs hrec _ hU _ _ _ _ _ _ _
  · exact BJ hs hrec _ hU _ _ _ _ _ _ _

theorem BL (hs : cR k U cmp) {rec : List aC → Int → Int → Int → Option (List aC)} {rec2 : List Int → Int → Int → Int → Option (List Int)} (hrec : ∀ d a b l, (∀ x ∈ d, U x) → OR (rL k U) (rec d a b l) (rec2 (d.map k) a b l)) (aA : List aC) (hU : ∀ x ∈ aA, U x) (a1 : Int) (b2 : Int) (bJ : Int) (bH : Bool) (bA : Bool) (cY : Int) : OR (rS (rP (rL k U) (rP Eq (rP Eq (rP Eq (rP Eq Eq))))) (rL k U)) (hY cmp rec aA a1 b2 bJ bH bA cY) (kX rec2 (aA.map k) a1 b2 bJ bH bA cY) := by
  unfold hY kX
  try simp only [List.length_map, cD hs.d0, cS]
  refine cO (GP hs _ hU _ _) ?_
  rintro ⟨w1, w2⟩ ⟨_, _⟩ ⟨rfl, rfl⟩
  refine dN (fun h1 => ?_) (fun h2 => ?_)
  · refine cO (FZ hs _ hU _ _) ?_
    rintro w31 _ ⟨rfl, hU⟩
    exact BO hs hrec _ hU _ _ _ _ _ _ _ _
  · exact BO hs hrec _ hU _ _ _ _ _ _ _ _

theorem LC (hs : cR k U cmp) {rec : List aC → Int → Int → Int → Option (List aC)} {rec2 : List Int → Int → Int → Int → Option (List Int)} (hrec : ∀ d a b l, (∀ x ∈ d, U x) → OR (rL k U) (rec d a b l) (rec2 (d.map k) a b l)) (aA : List aC) (hU : ∀ x ∈ aA, U x) (a1 : Int) (b2 : Int) (bJ : Int) (bH : Bool) (bA : Bool) : OR (rS (rP (rL k U) (rP Eq (rP Eq (rP Eq (rP Eq Eq))))) (rL k U)) (kO cmp rec aA a1 b2 bJ bH bA) (fI rec2 (aA.map k) a1 b2 bJ bH bA) := by
  unfold kO fI
  try simp only [List.length_map, cD hs.d0, cS]
  refine dN (fun h1 => ?_) (fun h2 => ?_)
  · refine cO (FF hs _ hU _ _) ?_
    rintro w21 _ ⟨rfl, hU⟩
    exact cI (by first | rfl | exact ⟨rfl, rfl⟩ | (repeat' constructor) <;> first | rfl | assumption | exact cA hU (by assumption) (by assumption))
  · refine dN (fun h3 => ?_) (fun h4 => ?_)
    · refine cO (LJ hs _ hU _ _) ?_
      rintro w71 _ ⟨rfl, hU⟩
      exact cI (by first | rfl | exact ⟨rfl, rfl⟩ | (repeat' constructor) <;> first | rfl | assumption | exact cA hU (by assumption) (by assumption))
    · refine dN (fun h5 => ?_) (fun h6 => ?_)
      · refine cO (FM hs _ hU _ _) ?_
        rintro w121 _ ⟨rfl, hU⟩
        exact BL hs hrec _ hU _ _ _ _ _ _
      · exact BL hs hrec _ hU _ _ _ _ _ _

theorem LH (hs : cR k U cmp) {rec : List aC → Int → Int → Int → Option (List aC)} {rec2 : List Int → Int → Int → Int → Option (List Int)} (hrec : ∀ d a b l, (∀ x ∈ d, U x) → OR (rL k U) (rec d a b l) (rec2 (d.map k) a b l)) (aA : List aC) (hU : ∀ x ∈ aA, U x) (a1 : Int) (b2 : Int) (bJ : Int) (bH : Bool) (bA : Bool) : OR (rL k U) (kR cmp rec aA a1 b2 bJ bH bA) (oQ rec2 (aA.map k) a1 b2 bJ bH bA) := by
  unfold kR oQ
  try simp only [List.length_map, cD hs.d0, cS]
  refine cO (rD (R := (rP (rL k U) (rP Eq (rP Eq (rP Eq (rP Eq Eq)))))) (Q := (rL k U)) ?_ ?_) ?_
  · rintro ⟨d1, ⟨v2, ⟨v3, ⟨v4, ⟨v5, v6⟩⟩⟩⟩⟩ ⟨_, ⟨_, ⟨_, ⟨_, ⟨_, _⟩⟩⟩⟩⟩ ⟨⟨rfl, hU⟩, ⟨rfl, ⟨rfl, ⟨rfl, ⟨rfl, rfl⟩⟩⟩⟩⟩
    exact LC hs hrec  d1 hU v2 v3 v4 v5 v6
  · exact ⟨oA hU, ⟨rfl, ⟨rfl, ⟨rfl, ⟨rfl, rfl⟩⟩⟩⟩⟩
  · exact fun x y h => h

theorem IB (hs : cR k U cmp) {rec : List aC → Int → Int → Int → Option (List aC)} {rec2 : List Int → Int → Int → Int → Option (List Int)} (hrec : ∀ d a b l, (∀ x ∈ d, U x) → OR (rL k U) (rec d a b l) (rec2 (d.map k) a b l)) (aA : List aC) (hU : ∀ x ∈ aA, U x) (a1 : Int) (b2 : Int) (bJ : Int) : OR (rL k U) (jA cmp rec aA a1 b2 bJ) (jN rec2 (aA.map k) a1 b2 bJ) := by
  unfold jA jN
  try simp only [List.length_map, cD hs.d0, cS]
  exact LH hs hrec _ hU _ _ _ _ _

theorem BG (hs : cR k U cmp) : ∀ n d a b l, (∀ x ∈ d, U x) → OR (rL k U) (iC cmp n d a b l) (mP n (d.map k) a b l)
  | 0, _, _, _, _, _ => trivial
  | n + 1, d, a, b, l, hU => IB hs (BG hs n) d hU a b l

theorem TY (hs : cR k U cmp) {xs zs : List aC} (hl : xs.length < 2305843009213693951) (hU : ∀ x ∈ xs, U x) (hi : ∀ x y, U x → U y → k x = k y → x = y)
    (hp : zs.Perm xs) (ho : (zs.map k).Pairwise (· ≤ ·)) : fT xs cmp = some zs := by
  have hz : ∀ x ∈ zs, U x := fun x hx => hU x (hp.mem_iff.1 hx)
  have key : ∀ L : Nat, L ≤ 100 → ∀ n, iC cmp n xs 0 ((List.length xs : Nat) : Int) (L : Int) = none ∧ n < xs.length + 1 ∨ iC cmp n xs 0 ((List.length xs : Nat) : Int) (L : Int) = some zs := by
    intro L hL n
    have hv : CZ 0 (xs.map k).length L (xs.map k) := ⟨Nat.zero_le _, Nat.le_refl _, by simpa using hl, .inl rfl, hL⟩
    have h1 := BG hs n xs 0 ((List.length xs : Nat) : Int) (L : Int) hU
    have h2 := aDa n (xs.map k) 0 (xs.map k).length L hv
    rw [List.length_map] at h2
    rcases aB3 h1 with ⟨e1, e2⟩ | ⟨x, y, e1, e2, rfl, hx⟩
    · rcases h2 with ⟨_, h⟩ | ⟨d', h, _⟩
      · exact .inl ⟨e1, by omega⟩
      · exact absurd (e2.symm.trans h) (by simp)
    · right
      rw [e1]
      congr 1
      rcases h2 with ⟨h, _⟩ | ⟨d', h, g⟩
      · exact absurd (e2.symm.trans h) (by simp)
      · have hd : d' = x.map k := by have := e2.symm.trans h; simpa using this.symm
        subst hd
        have hs1 : (x.map k).Pairwise (· ≤ ·) := by
          refine List.pairwise_iff_getElem.2 fun i j hi hj hij => ?_
          have hlen := g.1.len
          have := g.2 i j (Nat.zero_le _) (by omega) (by rw [hlen] at hj; simpa using hj)
          simp only [gN, List.getD_eq_getElem?_getD, List.getElem?_eq_getElem hi, List.getElem?_eq_getElem hj] at this
          exact this
        have hpp : (x.map k).Perm (zs.map k) := g.1.perm.trans (hp.map k).symm
        have he := hpp.eq_of_pairwise (le := (· ≤ ·)) (fun a b _ _ h1 h2 => Int.le_antisymm h1 h2) hs1 ho
        clear hpp hs1 g h e1 e2 h1 ho hp hU
        induction x generalizing zs with
        | nil => cases zs with
          | nil => rfl
          | cons _ _ => simp at he
        | cons a x ih => cases zs with
          | nil => simp at he
          | cons b zs =>
            simp only [List.map_cons, List.cons.injEq] at he
            rw [hi a b (hx a List.mem_cons_self) (hz b List.mem_cons_self) he.1, ih (fun y hy => hz y (List.mem_cons_of_mem _ hy)) (fun y hy => hx y (List.mem_cons_of_mem _ hy)) he.2]
  unfold fT pT
  have hL : ∃ L : Nat, nO (IntKind.u64.wrap ((List.length xs : Nat) : Int)) = some (L : Int) ∧ L ≤ 100 := by
    rw [OI (by omega) (by omega)]
    by_cases h0 : xs.length = 0
    · rw [h0]; exact ⟨0, aEH, by omega⟩
    · obtain ⟨k, e, h1, _⟩ := aCO (x := ((List.length xs : Nat) : Int)) (by omega) (by omega)
      exact ⟨k + 1, by rw [e]; rfl, by omega⟩
  obtain ⟨L, eL, hL⟩ := hL
  rw [eL]
  simp only [Option.bind_some]
  rw [aGy (r := zs)]
  · rfl
  · rcases key L hL (xs.length + 1) with ⟨_, h⟩ | h
    · omega
    · exact ⟨_, h⟩
  · intro n r' h
    rcases key L hL n with ⟨h', _⟩ | h'
    · rw [h] at h'; cases h'
    · rw [h] at h'; exact (Option.some.inj h')

end
end Go.Abs
namespace Go.Abs
open Go
abbrev gsB (m : List (ByteArray × aC)) : List (List aE × List aD) := m.map fun p => (p.2.row, p.2.jumps)

structure mB (b : bU) (T : List aI) : Prop where
  key : ∀ p ∈ b.cells, p.1 = keyOf p.2.row
  perm : (gsB b.cells).Perm (groups T)
  tab : uI T = true
  num : ∀ e ∈ T, ∀ v ∈ e.Row, uM v.Num
  edges : b.edges = T.length

theorem YA (a b : List aE) : oR a b < 0 ∨ a = b ∨ oR b a < 0 := by
  rcases Int.lt_trichotomy (oR a b) 0 with h | h | h
  · exact .inl h
  · exact .inr (.inl ((rH.eq a b).1 h))
  · exact .inr (.inr ((rH.anti b a).2 h))

theorem MR {gs : List (List aE × List aD)} (h : uG gs) : (gs.map (·.1)).Nodup := by
  rw [List.Nodup, List.pairwise_map]
  exact h.imp fun {a b} hab e => by
    rw [ltG, e] at hab
    exact vF hab

theorem mB.may {b : bU} {T : List aI} (h : mB b T) : nZ T = true := (rV.1 h.tab).1

theorem mB.srt {b : bU} {T : List aI} (h : mB b T) : uG (groups T) := (kJ h.may).2.2

theorem mB.mem {b : bU} {T : List aI} (h : mB b T) {p : ByteArray × aC} (hp : p ∈ b.cells) : (p.2.row, p.2.jumps) ∈ groups T := h.perm.mem_iff.1 (List.mem_map.2 ⟨p, hp, rfl⟩)

theorem mB.rows {b : bU} {T : List aI} (h : mB b T) {g : List aE × List aD} (hg : g ∈ groups T) : rOk g.1 ∧ eA g.2 = true ∧ g.2 ≠ [] := by
  obtain ⟨h1, h2⟩ := (kJ h.may).2.1 g hg
  obtain ⟨h3, e, he, h4⟩ := LW hg
  exact ⟨⟨h1, fun v hv => h.num e he v (h4 ▸ hv)⟩, h2, h3⟩

theorem mB.cell {b : bU} {T : List aI} (h : mB b T) {p : ByteArray × aC} (hp : p ∈ b.cells) : rOk p.2.row ∧ eA p.2.jumps = true ∧ p.2.jumps ≠ [] := h.rows (h.mem hp)

theorem mB.WM {b : bU} {T : List aI} (h : mB b T) : (b.cells.map fun p => p.2.row).Nodup := by
  have h1 : (b.cells.map fun p => p.2.row).Perm ((groups T).map (·.1)) := by
    have := h.perm.map (fun g : List aE × List aD => g.1)
    rw [List.map_map] at this
    exact this
  exact h1.nodup_iff.2 (MR h.srt)

theorem mB.JI {b : bU} {T : List aI} (h : mB b T) : (b.cells.map (·.1)).Nodup := by
  have e : b.cells.map (·.1) = b.cells.map fun p => keyOf p.2.row := List.map_congr_left fun p hp => h.key p hp
  rw [e]
  have h1 := h.WM
  rw [List.Nodup, List.pairwise_map] at h1 ⊢
  refine List.Pairwise.imp_of_mem ?_ h1
  intro p q hp hq hne he
  exact hne (JD (h.cell hp).1.1 (h.cell hq).1.1 he)

theorem mB.len {b : bU} {T : List aI} (h : mB b T) : b.cells.length ≤ 4096 := by
  have h1 := h.perm.length_eq
  rw [List.length_map] at h1
  have h2 := MK T
  have h3 := (kJ h.may).1
  omega

theorem mB.was {b : bU} {T : List aI} (h : mB b T) {r : List aE} (hr : nV r = true) : lH b.cells (keyOf r) = look (groups T) r := by
  unfold lH
  by_cases hx : ∃ p ∈ b.cells, p.2.row = r
  · obtain ⟨p, hp, rfl⟩ := hx
    obtain ⟨j, hj⟩ := List.getElem?_of_mem hp
    have e : b.cells[j]? = some (keyOf p.2.row, p.2) := by rw [hj, ← h.key p hp]
    rw [EA h.JI e]
    exact (uA h.srt (h.mem hp)).symm
  · have h1 : ∀ p ∈ b.cells, p.1 ≠ keyOf r := by
      intro p hp e
      rw [h.key p hp] at e
      exact hx ⟨p, hp, JD (h.cell hp).1.1 hr e⟩
    rw [DX h1, uT]
    · rfl
    · intro g hg e
      obtain ⟨p, hp, e'⟩ := List.mem_map.1 (h.perm.mem_iff.2 hg)
      refine hx ⟨p, hp, ?_⟩
      rw [← e, ← e']

theorem filter_lt {α : Type} {p q : α → Bool} : ∀ {l : List α} {a : α}, (∀ x ∈ l, p x = true → q x = true) → a ∈ l → p a = false → q a = true → (l.filter p).length < (l.filter q).length
  | [], _, _, ha, _, _ => by cases ha
  | x :: l, a, h, ha, hp, hq => by
    have le : (l.filter p).length ≤ (l.filter q).length := by
      have : ∀ (m : List α), (∀ x ∈ m, p x = true → q x = true) → (m.filter p).length ≤ (m.filter q).length := by
        intro m
        induction m with
        | nil => intro _; exact Nat.le_refl _
        | cons y m ih =>
          intro hm
          have := ih fun z hz => hm z (List.mem_cons_of_mem _ hz)
          rw [List.filter_cons, List.filter_cons]
          split
          · rw [if_pos (hm y (List.mem_cons_self ..) (by assumption))]; simpa using this
          · split
            · rw [List.length_cons]; omega
            · exact this
      exact this l fun z hz => h z (List.mem_cons_of_mem _ hz)
    rcases List.mem_cons.1 ha with rfl | ha
    · rw [List.filter_cons, List.filter_cons, hp, hq]
      simp only [Bool.false_eq_true, if_false, if_true, List.length_cons]; omega
    · have := filter_lt (fun z hz => h z (List.mem_cons_of_mem _ hz)) ha hp hq
      rw [List.filter_cons, List.filter_cons]
      split
      · rw [if_pos (h x (List.mem_cons_self ..) (by assumption))]; simpa using this
      · split
        · rw [List.length_cons]; omega
        · exact this

def rkR (L : List (List aE)) (r : List aE) : Int := (((L.filter fun s => decide (oR s r < 0)).length : Nat) : Int)

theorem HI {L : List (List aE)} {a b : List aE} (ha : a ∈ L) (h : oR a b < 0) : rkR L a < rkR L b := by
  unfold rkR
  have := filter_lt (p := fun s => decide (oR s a < 0)) (q := fun s => decide (oR s b < 0)) (l := L) (a := a) (fun s _ hs => by
    simp only [decide_eq_true_eq] at hs ⊢
    exact rH.trans _ _ _ hs h) ha (by simpa using vF) (by simpa using h)
  omega

theorem aGt {L : List (List aE)} {a b : List aE} (ha : a ∈ L) (hb : b ∈ L) : oR a b < 0 ↔ rkR L a < rkR L b := by
  refine ⟨HI ha, fun h => ?_⟩
  rcases YA a b with h1 | h1 | h1
  · exact h1
  · subst h1; omega
  · have := HI hb h1; omega

theorem aGq {L : List (List aE)} {a b : List aE} (ha : a ∈ L) (hb : b ∈ L) (h : rkR L a = rkR L b) : a = b := by
  rcases YA a b with h1 | h1 | h1
  · have := HI ha h1; omega
  · exact h1
  · have := HI hb h1; omega

theorem aGs (L : List (List aE)) : rkR L [] = 0 := by
  unfold rkR
  have : (L.filter fun s => decide (oR s [] < 0)) = [] := by
    rw [List.filter_eq_nil_iff]
    intro s _
    cases s <;> simp [oR, oT]
  rw [this]; rfl

abbrev mkC (g : List aE × List aD) : aC := ⟨g.1, g.2⟩

theorem aFG {x y : aC} (hx : nV x.row = true) (hy : nV y.row = true) : pH x y = some (oR x.row y.row) := by
  unfold pH
  rw [VS, hx, hy]; rfl

theorem aHr {b : bU} {T : List aI} (h : mB b T) {q : List (ByteArray × aC)} (hq : q.Perm b.cells) : fT (q.map (·.2)) (fun x y => pH x y) = some ((groups T).map mkC) := by
  have hp : ((groups T).map mkC).Perm (q.map (·.2)) := by
    have h1 := (h.perm.symm.trans ((hq.map fun p => (p.2.row, p.2.jumps)).symm)).map mkC
    rw [List.map_map] at h1
    exact h1
  have hmem : ∀ c ∈ (groups T).map mkC, (c.row, c.jumps) ∈ groups T := by
    intro c hc
    obtain ⟨g, hg, rfl⟩ := List.mem_map.1 hc
    exact hg
  have hrow : ∀ c, (c ∈ (groups T).map mkC ∨ c = default) → c.row ∈ [] :: (groups T).map (·.1) ∧ nV c.row = true := by
    rintro c (hc | rfl)
    · exact ⟨List.mem_cons_of_mem _ (List.mem_map.2 ⟨_, hmem c hc, rfl⟩), (h.rows (hmem c hc)).1.1⟩
    · exact ⟨List.mem_cons_self .., rfl⟩
  refine TY (k := fun c => rkR ([] :: (groups T).map (·.1)) c.row) (U := fun c => c ∈ (groups T).map mkC) ⟨aGs _, ?_⟩ ?_ ?_ ?_ hp ?_
  · intro x y hx hy
    obtain ⟨x1, x2⟩ := hrow x hx
    obtain ⟨y1, y2⟩ := hrow y hy
    exact ⟨_, aFG x2 y2, aGt x1 y1⟩
  · have := h.len
    rw [List.length_map, hq.length_eq]; omega
  · exact fun x hx => hp.mem_iff.2 hx
  · intro x y hx hy e
    have e1 := aGq (hrow x (.inl hx)).1 (hrow y (.inl hy)).1 e
    have j1 := uA h.srt (hmem x hx)
    have j2 := uA h.srt (hmem y hy)
    obtain ⟨xr, xj⟩ := x
    obtain ⟨yr, yj⟩ := y
    simp only at e1 j1 j2
    subst e1
    rw [← j1, ← j2]
  · rw [List.map_map, List.pairwise_map]
    refine List.Pairwise.imp_of_mem ?_ h.srt
    intro a c ha hc hlt
    exact Int.le_of_lt (HI (List.mem_cons_of_mem _ (List.mem_map.2 ⟨a, ha, rfl⟩)) hlt)

theorem aDp : ∀ (q : List (ByteArray × aC)) (s : List aC), s.length + q.length ≤ 100000 → mU sB s q = some (s ++ q.map (·.2))
  | [], s, _ => by simp [mU]
  | p :: q, s, h => by
    rw [List.length_cons] at h
    have e : sB s p = some (s ++ [p.2]) := by
      unfold sB
      rw [aR (by simp; omega)]
    show (sB s p).bind (fun s' => mU sB s' q) = _
    rw [e]
    simp only [Option.bind_some]
    rw [aDp q _ (by simp; omega)]
    simp

theorem LQ {b : bU} {T : List aI} (h : mB b T) : sD b = some T := by
  have hl := h.len
  unfold sD
  rw [aR (by simp only [lN]; omega)]
  refine EH fun q hq => ?_
  rw [aDp q [] (by rw [hq.length_eq]; simp; omega)]
  simp only [Option.bind_some, List.nil_append, KU]
  rw [aHr h hq]
  simp only [Option.bind_some]
  have hT := (kJ h.may).1
  rw [BR (l := (groups T).map mkC) (st := List aI) (fun s i => (s, i)) (fun s r => s ++ r.flatMap fun c => mS c.row c.jumps) (fun s r => s.length + (r.flatMap fun c => mS c.row c.jumps).length ≤ 4096 ∧ ∀ c ∈ r, nV c.row = true ∧ eA c.jumps = true) [] ?_ ?_ ?_]
  · rw [List.nil_append, List.flatMap_map]
    exact congrArg some (qE T)
  · intro i a r s hi hinv
    obtain ⟨h1, h2⟩ := hinv
    have hlt := (List.getElem?_eq_some_iff.1 hi).1
    obtain ⟨ha, hb⟩ := h2 a (List.mem_cons_self ..)
    rw [List.flatMap_cons, List.length_append] at h1
    have h8 := (DB ha).1
    have hgl : ((groups T).map mkC).length ≤ 4096 := by rw [List.length_map]; have := MK T; omega
    refine .inl ⟨s ++ mS a.row a.jumps, ?_, ⟨by rw [List.length_append]; omega, fun c hc => h2 c (List.mem_cons_of_mem _ hc)⟩, by simp⟩
    simp only [AH, lN, gD]
    rw [show decide ((i : Int) < ((((groups T).map mkC).length : Nat) : Int)) = true from by simp only [decide_eq_true_eq]; omega]
    simp only [cond_true]
    rw [aR (by omega), Int.toNat_natCast, List.getD_eq_getElem?_getD, hi, Option.getD_some, aDk (by omega)]
    simp only [Option.bind_some, YN, ha, hb, Bool.and_self, if_true]
    rw [aR (by omega), wR, dZ (by omega) (by omega)]
    rfl
  · intro s _
    simp only [AH, lN]
    rw [show decide (((((groups T).map mkC).length : Nat) : Int) < ((((groups T).map mkC).length : Nat) : Int)) = false from by simp]
    simp
  · refine ⟨?_, fun c hc => ?_⟩
    · rw [List.flatMap_map]
      have : (List.flatMap (fun a => mS (mkC a).row (mkC a).jumps) (groups T)) = T := qE T
      rw [this]; simpa using hT
    · obtain ⟨g, hg, rfl⟩ := List.mem_map.1 hc
      obtain ⟨h1, h2, _⟩ := h.rows hg
      exact ⟨h1.1, h2⟩

theorem aCW : mB ⟨[], 0, -1⟩ [] where
  key := by simp
  perm := .nil
  tab := by decide +kernel
  num := by simp
  edges := rfl

end Go.Abs
namespace Go.Abs
open Go
theorem RM {a b : List Nat} (h : a.Perm b) : a.sum = b.sum := by
  induction h with
  | nil => rfl
  | cons x _ ih => simp [ih]
  | swap x y l => simp; omega
  | trans _ _ i1 i2 => exact i1.trans i2

def rY (m : List (ByteArray × aC)) (c : aC) : List (ByteArray × aC) := if c.jumps = [] then pX m (keyOf c.row) else nC m (keyOf c.row) c

def pY (m : List (ByteArray × aC)) : Nat := (m.map fun p => p.2.jumps.length).sum

structure Cells (m : List (ByteArray × aC)) (L : List aE → List aD) : Prop where
  key : ∀ p ∈ m, p.1 = keyOf p.2.row ∧ rOk p.2.row ∧ p.2.jumps ≠ [] ∧ L p.2.row = p.2.jumps
  nd : (m.map (·.1)).Nodup
  no : ∀ r, nV r = true → L r ≠ [] → ∃ p ∈ m, p.2.row = r

theorem RE {m : List (ByteArray × aC)} {k : ByteArray} {p : ByteArray × aC} : p ∈ pX m k ↔ p ∈ m ∧ p.1 ≠ k := by
  unfold pX
  rw [List.mem_filter]
  simp

theorem WI {k : ByteArray} {v : aC} : ∀ {m : List (ByteArray × aC)} {x : ByteArray}, x ∈ (nC m k v).map (·.1) ↔ x = k ∨ x ∈ m.map (·.1)
  | [], x => by simp [nC]
  | p :: m, x => by
    unfold nC
    split
    · rename_i e
      simp only [List.map_cons, List.mem_cons, e]
      constructor
      · rintro (h | h)
        · exact .inl h
        · exact .inr (.inr h)
      · rintro (h | h | h)
        · exact .inl h
        · exact .inl h
        · exact .inr h
    · simp only [List.map_cons, List.mem_cons]
      rw [WI]
      constructor
      · rintro (h | h | h)
        · exact .inr (.inl h)
        · exact .inl h
        · exact .inr (.inr h)
      · rintro (h | h | h)
        · exact .inr (.inl h)
        · exact .inl h
        · exact .inr (.inr h)

theorem aBT {k : ByteArray} {v : aC} : ∀ {m : List (ByteArray × aC)}, (m.map (·.1)).Nodup → ((nC m k v).map (·.1)).Nodup
  | [], _ => by simp [nC]
  | p :: m, h => by
    rw [List.map_cons, List.nodup_cons] at h
    unfold nC
    split
    · rename_i e
      rw [List.map_cons, List.nodup_cons]
      exact ⟨e ▸ h.1, h.2⟩
    · rename_i e
      rw [List.map_cons, List.nodup_cons]
      refine ⟨fun hm => ?_, aBT h.2⟩
      rcases WI.1 hm with h1 | h1
      · exact e h1
      · exact h.1 h1

theorem HB {k : ByteArray} {v : aC} : ∀ {m : List (ByteArray × aC)} {p : ByteArray × aC}, (m.map (·.1)).Nodup → (p ∈ nC m k v ↔ p = (k, v) ∨ (p ∈ m ∧ p.1 ≠ k))
  | [], p, _ => by simp [nC]
  | q :: m, p, h => by
    rw [List.map_cons, List.nodup_cons] at h
    unfold nC
    split
    · rename_i e
      simp only [List.mem_cons]
      constructor
      · rintro (h1 | h1)
        · exact .inl h1
        · refine .inr ⟨.inr h1, fun e' => h.1 ?_⟩
          rw [e, ← e']; exact List.mem_map_of_mem h1
      · rintro (h1 | ⟨h1 | h1, h2⟩)
        · exact .inl h1
        · subst h1; exact absurd e h2
        · exact .inr h1
    · rename_i e
      simp only [List.mem_cons]
      rw [HB h.2]
      constructor
      · rintro (h1 | h1 | ⟨h1, h2⟩)
        · subst h1; exact .inr ⟨.inl rfl, e⟩
        · exact .inl h1
        · exact .inr ⟨.inr h1, h2⟩
      · rintro (h1 | ⟨h1 | h1, h2⟩)
        · exact .inr (.inl h1)
        · exact .inl h1
        · exact .inr (.inr ⟨h1, h2⟩)

theorem YJ (p : ByteArray × aC) (m : List (ByteArray × aC)) (k : ByteArray) : lH (p :: m) k = if p.1 = k then p.2.jumps else lH m k := by
  unfold lH
  rw [vM]
  split <;> rfl

theorem PL (c : aC) : ∀ {m : List (ByteArray × aC)}, (m.map (·.1)).Nodup → pY (rY m c) + (lH m (keyOf c.row)).length = pY m + c.jumps.length
  | [], _ => by
    have e : lH [] (keyOf c.row) = [] := rfl
    rw [e]
    unfold rY
    split
    · rename_i h; simp [pX, pY, h]
    · simp [nC, pY]
  | p :: m, h => by
    rw [List.map_cons, List.nodup_cons] at h
    have ih := PL c h.2
    rw [YJ]
    by_cases e : p.1 = keyOf c.row
    · rw [if_pos e]
      unfold rY
      split
      · rename_i hj
        have : pX (p :: m) (keyOf c.row) = m := by
          unfold pX
          rw [List.filter_cons, if_neg (by simp [e])]
          refine List.filter_eq_self.2 fun q hq => ?_
          have : q.1 ≠ keyOf c.row := fun e' => h.1 (by rw [e, ← e']; exact List.mem_map_of_mem hq)
          simpa using this
        rw [this, hj]
        simp [pY]; omega
      · rw [nC, if_pos e]
        simp [pY]; omega
    · rw [if_neg e]
      have hp : rY (p :: m) c = p :: rY m c := by
        unfold rY
        split
        · unfold pX
          rw [List.filter_cons, if_pos (by simpa using e)]
        · rw [nC, if_neg e]
      rw [hp]
      have : ∀ x : List (ByteArray × aC), pY (p :: x) = p.2.jumps.length + pY x := fun x => by simp [pY]
      rw [this, this]; omega

theorem aDE (c : aC) {m : List (ByteArray × aC)} (h : (m.map (·.1)).Nodup) : ((rY m c).map (·.1)).Nodup := by
  unfold rY
  split
  · unfold pX
    exact h.sublist (List.filter_sublist.map _)
  · exact aBT h

abbrev zT (L : List aE → List aD) (c : aC) : List aE → List aD := fun r => if r = c.row then c.jumps else L r

theorem aDs {m : List (ByteArray × aC)} {L : List aE → List aD} (h : Cells m L) {c : aC} (hc : rOk c.row) : Cells (rY m c) (zT L c) := by
  have hne : ∀ p ∈ m, p.1 ≠ keyOf c.row → p.2.row ≠ c.row := fun p hp e e' => e (by rw [(h.key p hp).1, e'])
  have hne' : ∀ p ∈ m, p.2.row ≠ c.row → p.1 ≠ keyOf c.row := fun p hp e e' => e (JD (h.key p hp).2.1.1 hc.1 ((h.key p hp).1 ▸ e'))
  refine ⟨fun p hp => ?_, aDE c h.nd, fun r hr hL => ?_⟩
  · unfold rY at hp
    split at hp
    · obtain ⟨h1, h2⟩ := RE.1 hp
      obtain ⟨k1, k2, k3, k4⟩ := h.key p h1
      exact ⟨k1, k2, k3, by rw [zT, if_neg (hne p h1 h2)]; exact k4⟩
    · rcases (HB h.nd).1 hp with rfl | ⟨h1, h2⟩
      · rename_i hj
        exact ⟨rfl, hc, hj, by rw [zT, if_pos rfl]⟩
      · obtain ⟨k1, k2, k3, k4⟩ := h.key p h1
        exact ⟨k1, k2, k3, by rw [zT, if_neg (hne p h1 h2)]; exact k4⟩
  · by_cases e : r = c.row
    · rw [zT, if_pos e] at hL
      unfold rY
      rw [if_neg hL]
      exact ⟨_, (HB h.nd).2 (.inl rfl), e.symm⟩
    · rw [zT, if_neg e] at hL
      obtain ⟨p, hp, hpr⟩ := h.no r hr hL
      have hk := hne' p hp (by rw [hpr]; exact e)
      refine ⟨p, ?_, hpr⟩
      unfold rY
      split
      · exact RE.2 ⟨hp, hk⟩
      · exact (HB h.nd).2 (.inr ⟨hp, hk⟩)

theorem Cells.was {m : List (ByteArray × aC)} {L : List aE → List aD} (h : Cells m L) {r : List aE} (hr : nV r = true) : lH m (keyOf r) = L r := by
  unfold lH
  by_cases hx : ∃ p ∈ m, p.2.row = r
  · obtain ⟨p, hp, rfl⟩ := hx
    obtain ⟨j, hj⟩ := List.getElem?_of_mem hp
    have e : m[j]? = some (keyOf p.2.row, p.2) := by rw [hj, ← (h.key p hp).1]
    rw [EA h.nd e]
    exact (h.key p hp).2.2.2.symm
  · have h1 : ∀ p ∈ m, p.1 ≠ keyOf r := by
      intro p hp e
      rw [(h.key p hp).1] at e
      exact hx ⟨p, hp, JD (h.key p hp).2.1.1 hr e⟩
    rw [DX h1]
    cases hL : L r with
    | nil => rfl
    | cons j f => exact absurd (h.no r hr (by rw [hL]; simp)) hx

def wL (b : bU) (c : aC) : bU := ⟨rY b.cells c, ((pY (rY b.cells c) : Nat) : Int), b.mark⟩

theorem aGj {b : bU} {c : aC} (hc : rOk c.row) (hnd : (b.cells.map (·.1)).Nodup) (he : b.edges = ((pY b.cells : Nat) : Int)) (hs : pY b.cells ≤ 1000000000) (hj : c.jumps.length ≤ 1024) : EX b c = some (wL b c) := by
  unfold EX
  rw [VZ hc]
  simp only [Option.bind_some]
  have h1 := PL c hnd
  have hw : (lH b.cells (keyOf c.row)).length ≤ pY b.cells := by
    clear h1 hj hs he hc
    generalize b.cells = m at *
    induction m with
    | nil => exact Nat.zero_le _
    | cons p m ih =>
      rw [YJ]
      have := ih (List.nodup_cons.1 hnd).2
      have e : pY (p :: m) = p.2.jumps.length + pY m := by simp [pY]
      split <;> omega
  have hsum : sM b c (keyOf c.row) = ((pY (rY b.cells c) : Nat) : Int) := by
    unfold sM
    simp only [lN, wR]
    rw [dZ (n := (c.jumps.length : Int) - _) (by omega) (by omega), dZ (by omega) (by omega)]
    omega
  rw [hsum]
  unfold wL rY
  by_cases hz : c.jumps = []
  · rw [show decide ((lN c.jumps) = 0) = true from by rw [hz]; rfl, if_pos hz]; rfl
  · rw [show decide ((lN c.jumps) = 0) = false from by
      simp only [lN, decide_eq_false_iff_not]
      have : c.jumps.length ≠ 0 := fun e => hz (List.length_eq_zero_iff.1 e)
      omega, if_neg hz]; rfl

structure vW (b : bU) (L : List aE → List aD) : Prop where
  cells : Cells b.cells L
  sum : b.edges = ((pY b.cells : Nat) : Int)

theorem QZ {b : bU} {L : List aE → List aD} (h : vW b L) {c : aC} (hc : rOk c.row) : vW (wL b c) (zT L c) := ⟨aDs h.cells hc, rfl⟩

theorem aFF {b : bU} {c : aC} (hnd : (b.cells.map (·.1)).Nodup) : pY (wL b c).cells ≤ pY b.cells + c.jumps.length := by
  have := PL c hnd
  show pY (rY b.cells c) ≤ _
  omega

theorem aBF {tu : List aC} {b : bU} {L : List aE → List aD} (h : vW b L) (hs : pY b.cells ≤ 4096) (hl : tu.length ≤ 100000) (htu : ∀ c ∈ tu, rOk c.row ∧ c.jumps.length ≤ 1024) :
    lp (fun s => nA tu (lN tu) s.1 s.2) (b, (0 : Int)) = some (tu.foldl wL b) ∧ vW (tu.foldl wL b) (tu.foldl zT L) ∧ (tu.foldl wL b).mark = b.mark := by
  refine ⟨?_, ?_, ?_⟩
  · rw [BR (l := tu) (st := bU) (fun s i => (s, i)) (fun s r => r.foldl wL s) (fun s r => (∃ L, vW s L) ∧ pY s.cells + 1024 * r.length ≤ 1000000000 ∧ ∀ c ∈ r, rOk c.row ∧ c.jumps.length ≤ 1024) b ?_ ?_ ⟨⟨L, h⟩, by omega, htu⟩]
    · intro i a r s hi hinv
      obtain ⟨⟨L1, h1⟩, h2, h3⟩ := hinv
      have hlt := (List.getElem?_eq_some_iff.1 hi).1
      obtain ⟨ha, hb⟩ := h3 a (List.mem_cons_self ..)
      rw [List.length_cons] at h2
      have hle := aFF (c := a) h1.cells.nd
      refine .inl ⟨wL s a, ?_, ⟨⟨_, QZ h1 ha⟩, by omega, fun c hc => h3 c (List.mem_cons_of_mem _ hc)⟩, rfl⟩
      simp only [nA, lN, gD]
      rw [show decide ((i : Int) < ((tu.length : Nat) : Int)) = true from by simp only [decide_eq_true_eq]; omega]
      simp only [cond_true]
      rw [aR (by omega), Int.toNat_natCast, List.getD_eq_getElem?_getD, hi, Option.getD_some, aGj ha h1.cells.nd h1.sum (by omega) hb]
      simp only [Option.bind_some]
      rw [wR, dZ (by omega) (by omega)]
      rfl
    · intro s _
      simp only [nA, lN]
      rw [show decide (((tu.length : Nat) : Int) < ((tu.length : Nat) : Int)) = false from by simp]
      simp
  · clear hs hl
    induction tu generalizing b L with
    | nil => exact h
    | cons c tu ih => exact ih (QZ h (htu c (List.mem_cons_self ..)).1) fun x hx => htu x (List.mem_cons_of_mem _ hx)
  · clear hs hl h
    induction tu generalizing b with
    | nil => rfl
    | cons c tu ih => rw [List.foldl_cons, ih fun x hx => htu x (List.mem_cons_of_mem _ hx)]; rfl

theorem JS : ∀ {tu : List aC} {L : List aE → List aD} {r : List aE}, (∀ c ∈ tu, c.row ≠ r) → tu.foldl zT L r = L r
  | [], _, _, _ => rfl
  | c :: tu, L, r, h => by
    rw [List.foldl_cons, JS fun x hx => h x (List.mem_cons_of_mem _ hx), zT, if_neg fun e => h c (List.mem_cons_self ..) e.symm]

theorem RQ : ∀ {tu : List aC} {L : List aE → List aD} {c : aC}, (tu.map (·.row)).Nodup → c ∈ tu → tu.foldl zT L c.row = c.jumps
  | [], _, _, _, h => by cases h
  | x :: tu, L, c, hn, h => by
    rw [List.map_cons, List.nodup_cons] at hn
    rw [List.foldl_cons]
    rcases List.mem_cons.1 h with rfl | h
    · rw [JS fun y hy e => hn.1 (by rw [← e]; exact List.mem_map_of_mem hy), zT, if_pos rfl]
    · exact RQ hn.2 h

theorem vW.aFv {b : bU} {L : List aE → List aD} (h : vW b L) {gs : List (List aE × List aD)} (hs : uG gs) (hf : Full gs) (hr : ∀ g ∈ gs, nV g.1 = true) (hL : ∀ r, nV r = true → look gs r = L r) : (gsB b.cells).Perm gs ∧ b.edges = ((flat gs).length : Nat) := by
  have hp : (gsB b.cells).Perm gs := by
    refine (List.perm_ext_iff_of_nodup ?_ ?_).2 fun g => ?_
    · have h1 := h.cells.nd
      rw [List.Nodup, List.pairwise_map] at h1 ⊢
      refine List.Pairwise.imp_of_mem ?_ h1
      intro p q hp hq hne e
      have e1 : p.2.row = q.2.row := congrArg Prod.fst e
      exact hne (by rw [(h.cells.key p hp).1, (h.cells.key q hq).1, e1])
    · have h1 := MR hs
      rw [List.Nodup, List.pairwise_map] at h1
      exact h1.imp fun hne e => hne (congrArg Prod.fst e)
    · constructor
      · intro hg
        obtain ⟨p, hp, rfl⟩ := List.mem_map.1 hg
        obtain ⟨_, k2, k3, k4⟩ := h.cells.key p hp
        rw [← hL _ k2.1] at k4
        rcases tT gs p.2.row with ⟨e, _⟩ | ⟨g, hg, e1, e2⟩
        · rw [e] at k4; exact absurd k4.symm k3
        · rw [k4] at e2
          obtain ⟨g1, g2⟩ := g
          simp only at e1 e2
          rw [e2, ← e1]; exact hg
      · intro hg
        have h1 := uA hs hg
        have hr := hr g hg
        have hne := hf g hg
        rw [hL _ hr] at h1
        obtain ⟨p, hp, hpr⟩ := h.cells.no g.1 hr (by rw [h1]; exact hne)
        refine List.mem_map.2 ⟨p, hp, ?_⟩
        have k4 := (h.cells.key p hp).2.2.2
        rw [hpr, h1] at k4
        obtain ⟨g1, g2⟩ := g
        simp only at hpr k4
        rw [hpr, k4]
  refine ⟨hp, ?_⟩
  rw [h.sum]
  have h1 := hp.map (fun g : List aE × List aD => g.2.length)
  rw [HJ gs, ← RM h1, List.map_map]
  rfl

theorem vW.is {b : bU} {L : List aE → List aD} (h : vW b L) {T : List aI} (ht : uI T = true) (hn : ∀ e ∈ T, ∀ v ∈ e.Row, uM v.Num) (hL : ∀ r, nV r = true → look (groups T) r = L r) : mB b T := by
  have hm := (rV.1 ht).1
  obtain ⟨hp, he⟩ := h.aFv (kJ hm).2.2 (QF T) (fun g hg => ((kJ hm).2.1 g hg).1) hL
  rw [qE] at he
  exact ⟨fun p hp => (h.cells.key p hp).1, hp, ht, hn, he⟩

theorem mB.pre {b : bU} {T : List aI} (h : mB b T) : vW b (look (groups T)) := by
  refine ⟨⟨fun p hp => ?_, h.JI, fun r hr hL => ?_⟩, ?_⟩
  · obtain ⟨h1, _, h3⟩ := h.cell hp
    exact ⟨h.key p hp, h1, h3, uA h.srt (h.mem hp)⟩
  · rcases tT (groups T) r with ⟨e, _⟩ | ⟨g, hg, e1, _⟩
    · exact absurd e hL
    · obtain ⟨p, hp, e⟩ := List.mem_map.1 (h.perm.mem_iff.2 hg)
      exact ⟨p, hp, by rw [← e1, ← e]⟩
  · rw [h.edges]
    have h1 := h.perm.map (fun g : List aE × List aD => g.2.length)
    have h2 := HJ (groups T)
    rw [qE] at h2
    rw [h2, ← RM h1, List.map_map]
    rfl

end Go.Abs
namespace Go.Abs
open Go
theorem yS {f : List aD} (h : eA f = true) : ∀ j ∈ f, -2 < j.At ∧ j.At < 1125899906842624 ∧ j.Net ≠ 0 ∧ j.Net ≤ 1048576 ∧ -1048576 ≤ j.Net := (lK.1 h).2.above

theorem ZA {f g : List aD} (hf : eA f = true) (hg : eA g = true) : two (· + ·) f g = fO (f ++ g) := by
  have hb : ∀ j ∈ f ++ g, -2 < j.At ∧ j.At < 1125899906842624 ∧ j.Net ≠ 0 ∧ j.Net ≤ 1048576 ∧ -1048576 ≤ j.Net := fun j hj => (List.mem_append.1 hj).elim (yS hf j) (yS hg j)
  have hp : ∀ j ∈ f ++ g, -2 < j.At := fun j hj => (hb j hj).1
  rw [aBJ hf hg]
  unfold fO
  rw [IS fun j hj => ⟨(hb j hj).2.2.2.1, (hb j hj).2.2.2.2⟩, PU fun j hj => ⟨(hb j hj).1, by have := (hb j hj).2.1; omega⟩]
  simp only [Bool.false_eq_true, if_false]
  congr 1
  exact aGi rfl hf hg (aE0 hp) fun t h1 h2 => by rw [VN hp h1 h2, tW]

theorem OJ {f : List aD} (hf : eA f = true) : fO f = (f, 0) :=
  YF (IS fun j hj => (yS hf j hj).2.2.2) (PU fun j hj => ⟨(yS hf j hj).1, by have := (yS hf j hj).2.1; omega⟩) hf fun _ _ _ => rfl

theorem ZH {l : List aI} {f : Unit → aI → Option (Unit × Bool)} {g : aI → Bool} (hl : l.length ≤ 3518437208783) (hf : ∀ x ∈ l, f () x = some ((), g x)) : fN l f () = some ((), l.any g) := by
  unfold fN lJ lB
  have key : ∀ (r : List aI) (k : Nat), l.drop k = r → k ≤ l.length → ∃ x, lp (fun s : Unit × Int => dL f l ((l.length : Nat) : Int) s.1 s.2) ((), (k : Int)) = some x ∧ ((r.any g = false ∧ x = .inl ()) ∨ (r.any g = true ∧ ∃ i : Nat, x = .inr ((), (i : Int)))) := by
    intro r
    induction r with
    | nil =>
      intro k hd hk
      have : k = l.length := by
        have := congrArg List.length hd
        simp only [List.length_drop, List.length_nil] at this; omega
      subst this
      refine ⟨.inl (), dI ?_, .inl ⟨rfl, rfl⟩⟩
      simp only [dL]
      rw [show decide (((l.length : Nat) : Int) < ((l.length : Nat) : Int)) = false from by simp]
      rfl
    | cons a r ih =>
      intro k hd hk
      obtain ⟨h1, h2⟩ := drop_cons hd
      have hlt : k < l.length := (List.getElem?_eq_some_iff.1 h1).1
      have hfa := hf a (List.mem_of_getElem? h1)
      have hb : dL f l ((l.length : Nat) : Int) () (k : Int) = cond (g a) (some (.inr (.inr ((), (k : Int))))) (some (.inl ((), ((k + 1 : Nat) : Int)))) := by
        simp only [dL]
        rw [show decide ((k : Int) < ((l.length : Nat) : Int)) = true from by simp only [decide_eq_true_eq]; omega]
        simp only [cond_true]
        rw [aR (by omega), Int.toNat_natCast, List.getD_eq_getElem?_getD, h1, Option.getD_some, hfa]
        simp only [Option.bind_some]
        rw [dZ (by omega) (by omega)]
        rfl
      cases hg : g a with
      | true =>
        rw [hg] at hb
        exact ⟨_, dI hb, .inr ⟨by simp [hg], k, rfl⟩⟩
      | false =>
        rw [hg] at hb
        obtain ⟨x, hx, hc⟩ := ih (k + 1) h2 (by omega)
        refine ⟨x, by rw [kG hb]; exact hx, ?_⟩
        simpa [hg] using hc
  obtain ⟨x, hx, hc⟩ := key l 0 rfl (Nat.zero_le _)
  rw [show ((0 : Nat) : Int) = 0 from rfl] at hx
  rw [hx]
  rcases hc with ⟨h1, rfl⟩ | ⟨h1, i, rfl⟩
  · rw [h1]; rfl
  · rw [h1]
    simp only [Option.bind_some, Sum.elim_inr]
    rw [show decide ((0 : Int) ≤ (i : Int)) = true from by simp only [decide_eq_true_eq]; omega]

abbrev cellOf (T : List aI) (g : List aE × List aD) : aC := ⟨g.1, (fO (bX T g.1 ++ g.2)).1⟩

def EF (T : List aI) (gs : List (List aE × List aD)) : Int := (gs.map fun g => (((cellOf T g).jumps.length : Nat) : Int) - (((bX T g.1).length : Nat) : Int)).sum

abbrev OU (T : List aI) (g : List aE × List aD) : Bool := decide (HS (cellOf T g).jumps < 0)

theorem aGh {b : bU} {T : List aI} (h : mB b T) {r : List aE} {f : List aD} (hr : rOk r) (hf : eA f = true) {e n : Int} {tu : List aC} {bl : Bool} (ht : tu.length ≤ 5000) (hn1 : -1000000000 ≤ n) (hn2 : n ≤ 1000000000) :
    xU b e tu n bl r f = some (if (fO (bX T r ++ f)).2 = 0 then .inl (e, tu ++ [cellOf T (r, f)], n + ((((cellOf T (r, f)).jumps.length : Nat) : Int) - (((bX T r).length : Nat) : Int)), bl || OU T (r, f)) else .inr (7, tu, n, bl)) := by
  have hw : lH b.cells (keyOf r) = bX T r := by rw [h.was hr.1, mI h.srt]
  have hm := oP h.may r
  unfold xU
  rw [VZ hr]
  simp only [Option.bind_some]
  rw [hw, add_eq, ZA hm hf]
  simp only [Option.bind_some]
  by_cases he : (fO (bX T r ++ f)).2 = 0
  · obtain ⟨_, _, hm2, hnf⟩ := BE he
    rw [if_pos he, he]
    simp only [decide_true, Bool.not_true, cond_false]
    have hl1 : (fO (bX T r ++ f)).1.length ≤ 1024 := OT _
    have hl2 : (bX T r).length ≤ 1024 := (lK.1 hm).1
    have hm3 : eA (fO (bX T r ++ f)).1 = true := by rw [hnf]; exact hm2
    rw [aE4, if_pos hm3]
    simp only [lN, wR]
    rw [dZ (n := (((fO (bX T r ++ f)).1.length : Nat) : Int) - _) (by omega) (by omega), dZ (by omega) (by omega)]
    have hz : (tu.length + [(⟨r, (fO (bX T r ++ f)).1⟩ : aC)].length) * 48 ≤ 140737488355328 ∧ tu.length + [(⟨r, (fO (bX T r ++ f)).1⟩ : aC)].length ≤ 9223372036854775807 := by simp; omega
    cases bl
    · simp only [cX, Bool.not_false, cond_true, Option.bind_some]
      rw [aR hz]
    · simp only [cX, Bool.not_true, cond_false, Option.bind_some]
      rw [aR hz]; rfl
  · rw [if_neg he]
    have h7 : (fO (bX T r ++ f)).2 = 7 := by
      rw [← ZA hm hf, aBJ hm hf] at he ⊢
      rcases ZW (comb (· + ·) (bX T r) f) with h1 | h1
      · exact absurd h1 he
      · exact h1
    rw [h7]
    rfl

noncomputable abbrev UP (b : bU) (st : (Int × List aC × Int × Bool) ⊕ (Int × List aC × Int × Bool)) (r : List aE) (f : List aD) := rnd (fun (q : Int × List aC × Int × Bool) => xU b q.1 q.2.1 q.2.2.1 q.2.2.2 r f) st

theorem aGP {b : bU} {T : List aI} (h : mB b T) : ∀ (gs : List (List aE × List aD)) (tu : List aC) (n : Int) (bl : Bool), (∀ g ∈ gs, rOk g.1 ∧ eA g.2 = true) → tu.length + gs.length ≤ 5000 → -1000000000 + 2000 * (gs.length : Int) ≤ n → n ≤ 1000000000 - 2000 * (gs.length : Int) →
    ((∀ g ∈ gs, (fO (bX T g.1 ++ g.2)).2 = 0) → itG (UP b) gs (.inl (0, tu, n, bl)) = some (.inl (0, tu ++ gs.map (cellOf T), n + EF T gs, bl || gs.any (OU T)))) ∧
    ((∃ g ∈ gs, (fO (bX T g.1 ++ g.2)).2 ≠ 0) → ∃ x, itG (UP b) gs (.inl (0, tu, n, bl)) = some (.inr (7, x))) := by
  intro gs
  induction gs with
  | nil =>
    intro tu n bl _ _ _ _
    exact ⟨fun _ => by simp [itG, EF], fun ⟨g, hg, _⟩ => by cases hg⟩
  | cons g gs ihgs =>
    intro tu n bl hg hl h1 h2
    rw [List.length_cons] at hl h1 h2
    obtain ⟨hr, hf⟩ := hg g (List.mem_cons_self ..)
    have hm := oP h.may g.1
    have hl1 : (fO (bX T g.1 ++ g.2)).1.length ≤ 1024 := OT _
    have hl2 : (bX T g.1).length ≤ 1024 := (lK.1 hm).1
    have hs := aGh h hr hf (e := 0) (n := n) (tu := tu) (bl := bl) (by omega) (by omega) (by omega)
    by_cases he : (fO (bX T g.1 ++ g.2)).2 = 0
    · rw [if_pos he] at hs
      have ih := ihgs (tu ++ [cellOf T g]) (n + ((((cellOf T g).jumps.length : Nat) : Int) - (((bX T g.1).length : Nat) : Int))) (bl || OU T g) (fun q hq => hg q (List.mem_cons_of_mem _ hq)) (by simp; omega) (by simp only [cellOf]; push_cast at h1; omega) (by simp only [cellOf]; push_cast at h2; omega)
      have hstep : itG (UP b) (g :: gs) (.inl (0, tu, n, bl)) = itG (UP b) gs (.inl (0, tu ++ [cellOf T g], n + ((((cellOf T g).jumps.length : Nat) : Int) - (((bX T g.1).length : Nat) : Int)), bl || OU T g)) := by
        simp only [itG, UP, rnd]
        rw [hs]
        rfl
      rw [hstep]
      refine ⟨fun hall => ?_, fun ⟨q, hq, hne⟩ => ?_⟩
      · rw [ih.1 fun q hq => hall q (List.mem_cons_of_mem _ hq)]
        have e1 : EF T (g :: gs) = ((((cellOf T g).jumps.length : Nat) : Int) - (((bX T g.1).length : Nat) : Int)) + EF T gs := by simp [EF]
        rw [e1, ← Int.add_assoc]
        simp [Bool.or_assoc]
      · rcases List.mem_cons.1 hq with rfl | hq
        · exact absurd he hne
        · exact ih.2 ⟨q, hq, hne⟩
    · rw [if_neg he] at hs
      refine ⟨fun hall => absurd (hall g (List.mem_cons_self ..)) he, fun _ => ⟨(tu, n, bl), ?_⟩⟩
      simp only [itG, UP, rnd]
      rw [hs]
      rfl

theorem YG : ∀ {tu : List aC} {b : bU} {L : List aE → List aD}, vW b L → (∀ c ∈ tu, rOk c.row) → (tu.map (·.row)).Nodup →
    ((pY (tu.foldl wL b).cells : Nat) : Int) = ((pY b.cells : Nat) : Int) + (tu.map fun c => ((c.jumps.length : Nat) : Int) - (((L c.row).length : Nat) : Int)).sum
  | [], b, L, _, _, _ => by simp
  | c :: tu, b, L, h, hr, hn => by
    rw [List.map_cons, List.nodup_cons] at hn
    have hc := hr c (List.mem_cons_self ..)
    have ih := YG (QZ h hc) (fun x hx => hr x (List.mem_cons_of_mem _ hx)) hn.2
    rw [List.foldl_cons, ih]
    have h1 := PL c h.cells.nd
    rw [h.cells.was hc.1] at h1
    have e : (tu.map fun x => ((x.jumps.length : Nat) : Int) - (((zT L c x.row).length : Nat) : Int)) = tu.map fun x => ((x.jumps.length : Nat) : Int) - (((L x.row).length : Nat) : Int) := by
      refine List.map_congr_left fun x hx => ?_
      have hne : x.row ≠ c.row := fun e => hn.1 (by rw [← e]; exact List.mem_map_of_mem hx)
      rw [zT, if_neg hne]
    rw [e, List.map_cons, List.sum_cons]
    show ((pY (rY b.cells c) : Nat) : Int) + _ = _
    omega

end Go.Abs
namespace Go.Abs
open Go
def rI (T : List aI) (mark : Int) (l : List aI) : Int :=
  if nZ l = false then 2 else if (l.any fun e => decide (e.At < mark)) = true then 16 else if (jB (T ++ l)).2 ≠ 0 then 7 else if uI (jB (T ++ l)).1 = true then 0 else 20

abbrev JF (l : List aI) : Prop := ∀ e ∈ l, ∀ v ∈ e.Row, uM v.Num

theorem aCe {l : List aI} (hm : nZ l = true) (hn : JF l) : ∀ g ∈ groups l, rOk g.1 ∧ eA g.2 = true := by
  intro g hg
  obtain ⟨h1, h2⟩ := (kJ hm).2.1 g hg
  obtain ⟨_, e, he, h4⟩ := LW hg
  exact ⟨⟨h1, fun v hv => hn e he v (h4 ▸ hv)⟩, h2⟩

theorem aAP {l : List aI} (hm : nZ l = true) {g : List aE × List aD} (hg : g ∈ groups l) : g.2 = bX l g.1 := by
  rw [← mI (kJ hm).2.2, uA (kJ hm).2.2 hg]

theorem KL {l : List aI} (hm : nZ l = true) (r : List aE) : (bX l r = [] ∧ ∀ g ∈ groups l, g.1 ≠ r) ∨ ∃ g ∈ groups l, g.1 = r ∧ bX l r = g.2 := by
  have := tT (groups l) r
  rw [mI (kJ hm).2.2] at this
  exact this

theorem aDK {l : List aI} (h : (jB l).2 = 0) (hn : JF l) : JF (jB l).1 := by
  intro e he v hv
  have hr : e.Row ∈ rowsOf (jB l).1 := FT.2 ⟨e, he, rfl⟩
  have hj : bX (jB l).1 e.Row ≠ [] := by
    intro e0
    have : jE e ∈ bX (jB l).1 e.Row := List.mem_map.2 ⟨e, List.mem_filter.2 ⟨he, by simp⟩, rfl⟩
    rw [e0] at this; cases this
  rw [QS h] at hj
  by_cases hx : ∃ x ∈ l, x.Row = e.Row
  · obtain ⟨x, hx, e1⟩ := hx
    exact hn x hx v (e1 ▸ hv)
  · have : bX l e.Row = [] := KC fun x hx' e1 => hx ⟨x, hx', e1⟩
    rw [this] at hj
    exact absurd rfl hj

theorem TO {b : bU} {T l : List aI} (h : mB b T) (hl : okL l) (hn : JF l) :
    ∃ b', sG b l = some (rI T b.mark l, b') ∧ b'.mark = b.mark ∧ (rI T b.mark l = 0 → mB b' (jB (T ++ l)).1) ∧ (rI T b.mark l ≠ 0 → b' = b) := by
  unfold sG
  rw [aBV hl]
  simp only [Option.bind_some]
  cases hm : nZ l with
  | false =>
    have ha : rI T b.mark l = 2 := by unfold rI; rw [if_pos hm]
    refine ⟨b, ?_, rfl, fun h0 => ?_, fun _ => rfl⟩
    · rw [ha]; rfl
    · rw [ha] at h0; cases h0
  | true =>
  simp only [Bool.not_true, cond_false]
  rw [ZH (g := fun e => decide (e.At < b.mark)) hl.1 (fun x _ => rfl)]
  simp only [Option.bind_some]
  cases hlate : (l.any fun e => decide (e.At < b.mark)) with
  | true =>
    have ha : rI T b.mark l = 16 := by unfold rI; rw [if_neg (by simp [hm]), if_pos hlate]
    refine ⟨b, ?_, rfl, fun h0 => ?_, fun _ => rfl⟩
    · rw [ha]; rfl
    · rw [ha] at h0; cases h0
  | false =>
  simp only [cond_false, AR, Option.bind_some]
  have ha0 : rI T b.mark l = if (jB (T ++ l)).2 ≠ 0 then 7 else if uI (jB (T ++ l)).1 = true then 0 else 20 := by
    unfold rI; rw [if_neg (by simp [hm]), if_neg (by simp [hlate])]
  have hgs := aCe hm hn
  have hJ : ∀ g ∈ groups l, bX T g.1 ++ g.2 = bX (T ++ l) g.1 := fun g hg => by rw [pU, ← aAP hm hg]
  have hlen : (groups l).length ≤ 4096 := by have := MK l; have := (kJ hm).1; omega
  have hTl : T.length ≤ 4096 := (kJ h.may).1
  have hed := h.edges
  have hit := aGP h (groups l) [] b.edges false hgs (by simp; omega) (by omega) (by omega)
  unfold NQ
  by_cases hbad : ∃ g ∈ groups l, (fO (bX T g.1 ++ g.2)).2 ≠ 0
  · -- a row that has no room
    obtain ⟨x, hx⟩ := hit.2 hbad
    rw [TB hl (s' := .inr (7, x)) (by rw [hm]; exact hx)]
    have h7 : (jB (T ++ l)).2 ≠ 0 := by
      intro h0
      obtain ⟨g, hg, hne⟩ := hbad
      rw [hJ g hg] at hne
      exact hne (EP h0 g.1)
    have ha : rI T b.mark l = 7 := by rw [ha0, if_pos h7]
    refine ⟨b, ?_, rfl, fun h0 => ?_, fun _ => rfl⟩
    · rw [ha]; rfl
    · rw [ha] at h0; cases h0
  have hall : ∀ g ∈ groups l, (fO (bX T g.1 ++ g.2)).2 = 0 := fun g hg => by
    cases Classical.em ((fO (bX T g.1 ++ g.2)).2 = 0) with
    | inl h => exact h
    | inr h => exact absurd ⟨g, hg, h⟩ hbad
  have hx := hit.1 hall
  rw [TB hl (by rw [hm]; exact hx)]
  simp only [Option.bind_some, Sum.elim_inl, List.nil_append, Bool.false_or]
  -- what is put
  have hru : ∀ c ∈ (groups l).map (cellOf T), rOk c.row ∧ c.jumps.length ≤ 1024 := by
    intro c hc
    obtain ⟨g, hg, rfl⟩ := List.mem_map.1 hc
    exact ⟨(hgs g hg).1, OT _⟩
  have hnd : (((groups l).map (cellOf T)).map (·.row)).Nodup := by
    rw [List.map_map]
    exact MR (kJ hm).2.2
  have hpre := h.pre
  have hsumT : ((pY b.cells : Nat) : Int) = (T.length : Int) := by rw [← hpre.sum, hed]
  obtain ⟨p1, p2, p3⟩ := aBF hpre (by omega) (tu := (groups l).map (cellOf T)) (by rw [List.length_map]; omega) hru
  -- the new table's rows
  have hnorm : ∀ r, (fO (bX (T ++ l) r)).2 = 0 := by
    intro r
    rcases KL hm r with ⟨e, _⟩ | ⟨g, hg, rfl, _⟩
    · rw [pU, e, List.append_nil, OJ (oP h.may r)]
    · rw [← hJ g hg]; exact hall g hg
  have hL : ∀ r, (fO (bX (T ++ l) r)).1 = ((groups l).map (cellOf T)).foldl zT (look (groups T)) r := by
    intro r
    rcases KL hm r with ⟨e, hno⟩ | ⟨g, hg, rfl, _⟩
    · rw [JS (fun c hc => by
        obtain ⟨g, hg, rfl⟩ := List.mem_map.1 hc
        exact hno g hg), pU, e, List.append_nil, OJ (oP h.may r), mI h.srt]
    · have := RQ (L := look (groups T)) hnd (List.mem_map_of_mem (f := cellOf T) hg)
      rw [this, ← hJ g hg]
  have hS : uG (nK fO (vK (T ++ l))) := xV (MA _)
  have hnon : groups (flat (nK fO (vK (T ++ l)))) = DF (nK fO (vK (T ++ l))) := BW hS
  have hlook : ∀ r, look (DF (nK fO (vK (T ++ l)))) r = (fO (bX (T ++ l) r)).1 := by
    intro r
    rw [← hnon, OB hS, BN (by rw [OE]), FB]
  have hmayrow : ∀ e ∈ T ++ l, nV e.Row = true := fun e he => (List.mem_append.1 he).elim (fun h1 => (vG h.may h1).1) (fun h1 => (vG hm h1).1)
  obtain ⟨_, hedges⟩ := p2.aFv (gs := DF (nK fO (vK (T ++ l)))) (hS.sublist List.filter_sublist) (OC _) (fun g hg => by
    obtain ⟨g', hg', rfl⟩ := List.mem_map.1 (List.mem_filter.1 hg).1
    obtain ⟨r, hr, rfl⟩ := List.mem_map.1 hg'
    obtain ⟨e, he, rfl⟩ := FT.1 hr
    exact hmayrow e he) (fun r _ => by rw [hlook]; exact hL r)
  rw [xC] at hedges
  have hcount : b.edges + EF T (groups l) = (((flat (nK fO (vK (T ++ l)))).length : Nat) : Int) := by
    rw [← hedges, p2.sum, YG hpre (fun c hc => (hru c hc).1) hnd, hsumT, hed]
    congr 1
    unfold EF
    rw [List.map_map]
    congr 1
    refine List.map_congr_left fun g hg => ?_
    show _ = _ - (((look (groups T) g.1).length : Nat) : Int)
    rw [mI h.srt]
  have hun1 := PY h.may
  have hun2 := PY hm
  have hun : (T ++ l).any unE = false ∧ (T ++ l).any RK = false := by
    rw [List.any_append, List.any_append, hun1.1, hun1.2, hun2.1, hun2.2]; exact ⟨rfl, rfl⟩
  unfold IT
  by_cases hbig : 4096 < b.edges + EF T (groups l)
  · have h7 : (jB (T ++ l)).2 ≠ 0 := by
      intro h0
      obtain ⟨_, _, _, h4, h5⟩ := ME h0
      rw [h4] at h5
      rw [hcount] at hbig
      omega
    have ha : rI T b.mark l = 7 := by rw [ha0, if_pos h7]
    refine ⟨b, ?_, rfl, fun h0 => ?_, fun _ => rfl⟩
    · rw [ha, show decide ((4096 : Int) < b.edges + EF T (groups l)) = true from by simpa using hbig]; rfl
    · rw [ha] at h0; cases h0
  rw [show decide ((4096 : Int) < b.edges + EF T (groups l)) = false from by simpa using hbig]
  simp only [cond_false]
  have hnE : jB (T ++ l) = (flat (nK fO (vK (T ++ l))), 0) := by
    unfold jB
    rw [hun.1, hun.2]
    simp only [Bool.false_eq_true, if_false]
    rw [GL (fun g hg => by
      obtain ⟨r, hr, rfl⟩ := List.mem_map.1 hg
      exact hnorm r) (by rw [List.nil_append]; rw [hcount] at hbig; omega)]
    rfl
  have h0 : (jB (T ++ l)).2 = 0 := by rw [hnE]
  have hjn : ∀ r, bX (jB (T ++ l)).1 r = (fO (bX (T ++ l) r)).1 := fun r => by rw [QS h0, (BE (hnorm r)).2.2.2]
  have hcell : ∀ g ∈ groups l, (cellOf T g).jumps = bX (jB (T ++ l)).1 g.1 := fun g hg => by rw [hjn, ← hJ g hg]
  have htab : uI (jB (T ++ l)).1 = true ↔ (groups l).any (OU T) = false := by
    constructor
    · intro ht
      rw [List.any_eq_false]
      intro g hg
      have hv := (rV.1 ht).2 g.1
      have hml := oP (EJ h0) g.1
      have := (JC hml).2 hv
      unfold OU
      rw [hcell g hg]
      simpa using this
    · intro hlow
      refine rV.2 ⟨EJ h0, fun r => ?_⟩
      rcases KL hm r with ⟨e, _⟩ | ⟨g, hg, rfl, _⟩
      · rw [hjn, pU, e, List.append_nil, OJ (oP h.may r)]
        exact (rV.1 h.tab).2 r
      · have hlo := List.any_eq_false.1 hlow g hg
        unfold OU at hlo
        rw [hcell g hg] at hlo
        exact (JC (oP (EJ h0) g.1)).1 (by simpa using hlo)
  cases hbl : (groups l).any (OU T) with
  | true =>
    have ha : rI T b.mark l = 20 := by
      rw [ha0, if_neg (by simp [h0]), if_neg (fun ht => by rw [htab.1 ht] at hbl; cases hbl)]
    refine ⟨b, ?_, rfl, fun h0 => ?_, fun _ => rfl⟩
    · rw [ha]; rfl
    · rw [ha] at h0; cases h0
  | false =>
    have ht := htab.2 hbl
    have ha : rI T b.mark l = 0 := by rw [ha0, if_neg (by simp [h0]), if_pos ht]
    refine ⟨((groups l).map (cellOf T)).foldl wL b, ?_, p3, fun _ => ?_, fun hne => absurd ha hne⟩
    · simp only [cond_false]
      rw [p1, ha]; rfl
    · refine p2.is ht (aDK h0 fun e he => (List.mem_append.1 he).elim (h.num e) (hn e)) fun r _ => ?_
      rw [MP h0]; exact hL r

end Go.Abs
namespace Go.Abs
open Go
theorem aF8 {f : List aD} {t : Int} (hf : eA f = true) (h0 : 0 ≤ t) (ht : t < 1125899906842624) (h : (rest f t).2 = 0) : (rest f t).1 = JB t f := by
  unfold rest at h ⊢
  rw [if_pos hf, if_neg (by omega), if_neg (by omega)] at h ⊢
  unfold told at h ⊢
  split at h
  · rename_i c; rw [if_pos c]
  · simp at h

theorem tR {l : List aI} (h : nZ l = true) (r : List aE) : look (groups l) r = bX l r := mI (kJ h).2.2 r

theorem aEm {by1 : List aD → List aD × Int} {l : List aI} (hb : ∀ f, eA f = true → (by1 f).2 = 0 → eA (by1 f).1 = true) (h : (DE by1 l).2 = 0) : nZ (DE by1 l).1 = true := by
  obtain ⟨h1, h2, h3, h4⟩ := BQ h
  obtain ⟨_, g1, g2⟩ := kJ h1
  rw [h3] at h4 ⊢
  refine NG (xV g2) (fun g hg => ?_) h4
  obtain ⟨q, hq, rfl⟩ := List.mem_map.1 hg
  exact ⟨(g1 q hq).1, hb _ (g1 q hq).2 (h2 q hq)⟩

theorem aFz {f : List aD} (h : (told f).2 = 0) : eA (told f).1 = true := by
  unfold told at h ⊢
  split at h
  · rename_i c; rw [if_pos c]; exact c
  · simp at h

theorem aE5 {f : List aD} {t : Int} (hf : eA f = true) (h : (rest f t).2 = 0) : eA (rest f t).1 = true := by
  unfold rest at h ⊢
  rw [if_pos hf] at h ⊢
  split
  · exact PJ
  · rename_i c
    rw [if_neg c] at h
    split
    · exact hf
    · rename_i c2; rw [if_neg c2] at h; exact aFz h

theorem JK {l : List aI} {t : Int} (h : (pR l t).2 = 0) : nZ (pR l t).1 = true := aEm (fun _ a b => aE5 a b) h

theorem aA2 {l : List aI} {t : Int} (h0 : 0 ≤ t) (ht : t < 1125899906842624) (h : (pR l t).2 = 0) (r : List aE) : bX (pR l t).1 r = JB t (bX l r) := by
  have hm := (BQ h).1
  have h1 := WJ (by1 := fun f => rest f t) (by rw [HH]) h r
  have h2 := aEq (by1 := fun f => rest f t) (by rw [HH]) h r
  rw [tR hm] at h1 h2
  have := tR (JK h) r
  unfold pR at this ⊢
  rw [← this, h1, aF8 (oP hm r) h0 ht h2]

end Go.Abs
namespace Go.Abs
open Go
theorem aEl {f : List aD} {t : Int} (hf : eA f = true) : (rest f t).2 = 0 ∨ (rest f t).2 = 7 := by
  unfold rest
  rw [if_pos hf]
  split
  · exact .inl rfl
  · split
    · exact .inl rfl
    · exact ZW _

theorem HY {l : List aI} {t : Int} (h : (pR l t).2 = 0) (r : List aE) : bX (pR l t).1 r = (rest (bX l r) t).1 := by
  have hm := (BQ h).1
  have h1 := WJ (by1 := fun f => rest f t) (by rw [HH]) h r
  rw [tR hm] at h1
  have := tR (JK h) r
  unfold pR at this ⊢
  rw [← this, h1]

theorem aEx {l : List aI} {t : Int} (ht : uI l = true) (h0 : 0 ≤ t) (h : (pR l t).2 = 0) : uI (pR l t).1 = true := by
  have hl := (rV.1 ht).1
  have mr := JK h
  refine rV.2 ⟨mr, fun r => ?_⟩
  by_cases h1 : t < 1125899906842624
  · rw [aA2 h0 h1 h]
    refine aEb (aFj (oP hl r) (by omega)) fun s s1 s2 => ?_
    rw [aDL (oP hl r) s (by omega)]
    exact (rV.1 ht).2 r _
  · rw [HY h]
    unfold rest
    rw [if_pos (oP hl r), if_pos (by omega)]
    intro s; simp [val]

def DA (tu : List aC) (p : ByteArray × aC) : Option (ByteArray × aC) := match tu.find? (fun c => decide (keyOf c.row = p.1)) with
  | none => some p
  | some c => if c.jumps = [] then none else some (p.1, c)

theorem QV (c : aC) (p : ByteArray × aC) : DA [c] p = if keyOf c.row = p.1 then (if c.jumps = [] then none else some (p.1, c)) else some p := by
  unfold DA
  by_cases e : keyOf c.row = p.1
  · simp [e]
  · simp [e]

theorem UJ {α : Type} {f g : α → Option α} : ∀ {m : List α}, (∀ x ∈ m, f x = g x) → m.filterMap f = m.filterMap g
  | [], _ => rfl
  | x :: m, h => by
    rw [List.filterMap_cons, List.filterMap_cons, h x (List.mem_cons_self ..), UJ fun y hy => h y (List.mem_cons_of_mem _ hy)]

theorem VA {α : Type} {f : α → Option α} : ∀ {m : List α}, (∀ x ∈ m, f x = some x) → m.filterMap f = m
  | [], _ => rfl
  | x :: m, h => by
    rw [List.filterMap_cons, h x (List.mem_cons_self ..), VA fun y hy => h y (List.mem_cons_of_mem _ hy)]

theorem ZD {c : aC} : ∀ {m : List (ByteArray × aC)}, (m.map (·.1)).Nodup → (∃ p ∈ m, p.1 = keyOf c.row) → rY m c = m.filterMap (DA [c])
  | [], _, ⟨p, hp, _⟩ => by cases hp
  | q :: m, hn, ⟨p, hp, hk⟩ => by
    rw [List.map_cons, List.nodup_cons] at hn
    rw [List.filterMap_cons, QV]
    by_cases e : keyOf c.row = q.1
    · rw [if_pos e]
      have hrest : ∀ x ∈ m, x.1 ≠ keyOf c.row := fun x hx e' => hn.1 (by rw [← e, ← e']; exact List.mem_map_of_mem hx)
      have h1 : m.filterMap (DA [c]) = m := VA fun x hx => by rw [QV, if_neg fun e' => hrest x hx e'.symm]
      unfold rY
      by_cases hj : c.jumps = []
      · rw [if_pos hj, if_pos hj, h1]
        unfold pX
        rw [List.filter_cons, if_neg (by simp [e])]
        exact List.filter_eq_self.2 fun x hx => by simpa using hrest x hx
      · rw [if_neg hj, if_neg hj, h1, nC, if_pos e.symm, e]
    · rw [if_neg e]
      have hm : ∃ p ∈ m, p.1 = keyOf c.row := by
        rcases List.mem_cons.1 hp with rfl | hp
        · exact absurd hk.symm e
        · exact ⟨p, hp, hk⟩
      have ih := ZD hn.2 hm
      show _ = q :: m.filterMap (DA [c])
      rw [← ih]
      unfold rY
      split
      · unfold pX
        rw [List.filter_cons, if_pos (by simpa using fun e' => e e'.symm)]
      · rw [nC, if_neg fun e' => e e'.symm]

theorem ZV : ∀ {tu : List aC} {m : List (ByteArray × aC)}, (m.map (·.1)).Nodup → (tu.map fun c => keyOf c.row).Nodup → (∀ c ∈ tu, ∃ p ∈ m, p.1 = keyOf c.row) → tu.foldl rY m = m.filterMap (DA tu)
  | [], m, _, _, _ => (VA fun _ _ => rfl).symm
  | c :: tu, m, hm, ht, he => by
    rw [List.map_cons, List.nodup_cons] at ht
    rw [List.foldl_cons, ZV (aDE c hm) ht.2 (fun d hd => by
      obtain ⟨p, hp, hk⟩ := he d (List.mem_cons_of_mem _ hd)
      have hne : p.1 ≠ keyOf c.row := fun e => ht.1 (by rw [← e, hk]; exact List.mem_map_of_mem (f := fun c : aC => keyOf c.row) hd)
      refine ⟨p, ?_, hk⟩
      unfold rY
      split
      · exact RE.2 ⟨hp, hne⟩
      · exact (HB hm).2 (.inr ⟨hp, hne⟩)), ZD hm (he c (List.mem_cons_self ..)), List.filterMap_filterMap]
    congr 1
    funext p
    rw [QV]
    by_cases e : keyOf c.row = p.1
    · rw [if_pos e]
      have h2 : DA (c :: tu) p = if c.jumps = [] then none else some (p.1, c) := by
        unfold DA
        rw [List.find?_cons, show decide (keyOf c.row = p.1) = true from by simpa using e]
      rw [h2]
      by_cases hj : c.jumps = []
      · rw [if_pos hj]; rfl
      · rw [if_neg hj]
        show DA tu (p.1, c) = _
        have : tu.find? (fun d => decide (keyOf d.row = p.1)) = none := by
          rw [List.find?_eq_none]
          intro d hd
          have : keyOf d.row ≠ p.1 := fun e' => ht.1 (by rw [e, ← e']; exact List.mem_map_of_mem (f := fun c : aC => keyOf c.row) hd)
          simpa using this
        unfold DA
        rw [this]
    · rw [if_neg e]
      show DA tu p = _
      have h2 : (c :: tu).find? (fun d => decide (keyOf d.row = p.1)) = tu.find? (fun d => decide (keyOf d.row = p.1)) := by
        rw [List.find?_cons, show decide (keyOf c.row = p.1) = false from by simpa using e]
      unfold DA
      rw [h2]

theorem SH : ∀ (tu : List aC) (b : bU), (tu.foldl wL b).cells = tu.foldl rY b.cells
  | [], _ => rfl
  | c :: tu, b => by rw [List.foldl_cons, SH]; rfl

theorem aAd : ∀ {tu : List aC} {c : aC}, (tu.map fun c => keyOf c.row).Nodup → c ∈ tu → tu.find? (fun d => decide (keyOf d.row = keyOf c.row)) = some c
  | [], _, _, h => by cases h
  | d :: tu, c, hn, h => by
    rw [List.map_cons, List.nodup_cons] at hn
    rw [List.find?_cons]
    rcases List.mem_cons.1 h with rfl | h
    · simp
    · have hne : keyOf d.row ≠ keyOf c.row := fun e => hn.1 (by rw [e]; exact List.mem_map_of_mem (f := fun c : aC => keyOf c.row) h)
      rw [show decide (keyOf d.row = keyOf c.row) = false from by simpa using hne]
      exact aAd hn.2 h

abbrev pQ (t : Int) (p : ByteArray × aC) : aC := ⟨p.2.row, (rest p.2.jumps t).1⟩

def PN (t : Int) (p : ByteArray × aC) : Option (ByteArray × aC) := if (rest p.2.jumps t).1 = [] then none else some (p.1, pQ t p)

theorem QG (t e : Int) : ∀ q : List (ByteArray × aC), mU (lE t) (.inr e) q = some (.inr e)
  | [] => rfl
  | p :: q => by
    show (lE t (.inr e) p).bind (fun s => mU (lE t) s q) = _
    rw [show lE t (.inr e) p = some (.inr e) from rfl]
    exact QG t e q

theorem aAM (t : Int) : ∀ (q : List (ByteArray × aC)) (out : List aC), (∀ p ∈ q, eA p.2.jumps = true) → out.length + q.length ≤ 100000 →
    ((∀ p ∈ q, (rest p.2.jumps t).2 = 0) → mU (lE t) (.inl out) q = some (.inl (out ++ q.map (pQ t)))) ∧
    ((∃ p ∈ q, (rest p.2.jumps t).2 ≠ 0) → mU (lE t) (.inl out) q = some (.inr 7)) := by
  intro q
  induction q with
  | nil => intro out _ _; exact ⟨fun _ => by simp [mU], fun ⟨p, hp, _⟩ => by cases hp⟩
  | cons p q ih =>
    intro out hm hl
    rw [List.length_cons] at hl
    have hstep : lE t (.inl out) p = some (if (rest p.2.jumps t).2 = 0 then .inl (out ++ [pQ t p]) else .inr 7) := by
      simp only [lE]
      rw [aGl]
      simp only [Option.bind_some]
      by_cases e : (rest p.2.jumps t).2 = 0
      · rw [if_pos e, e, aR (by simp; omega)]
        rfl
      · rw [if_neg e]
        have h7 := (aEl (t := t) (hm p (List.mem_cons_self ..))).resolve_left e
        rw [h7]; rfl
    have hfold : mU (lE t) (.inl out) (p :: q) = mU (lE t) (if (rest p.2.jumps t).2 = 0 then .inl (out ++ [pQ t p]) else .inr 7) q := by
      show (lE t (.inl out) p).bind (fun s => mU (lE t) s q) = _
      rw [hstep]; rfl
    rw [hfold]
    by_cases e : (rest p.2.jumps t).2 = 0
    · rw [if_pos e]
      obtain ⟨i1, i2⟩ := ih (out ++ [pQ t p]) (fun x hx => hm x (List.mem_cons_of_mem _ hx)) (by simp; omega)
      refine ⟨fun h => ?_, fun ⟨x, hx, hne⟩ => ?_⟩
      · rw [i1 fun x hx => h x (List.mem_cons_of_mem _ hx)]; simp
      · rcases List.mem_cons.1 hx with rfl | hx
        · exact absurd e hne
        · exact i2 ⟨x, hx, hne⟩
    · rw [if_neg e]
      exact ⟨fun h => absurd (h p (List.mem_cons_self ..)) e, fun _ => QG t 7 q⟩

theorem aE3 {tu : List aC} (hl : tu.length ≤ 100000) (hj : ∀ c ∈ tu, c.jumps.length ≤ 1024) : lp (fun s => qM tu (lN tu) s.1 s.2) ((0 : Int), (0 : Int)) = some (((tu.map fun c => c.jumps.length).sum : Nat) : Int) := by
  rw [show ((0 : Int), (0 : Int)) = ((((0 : Nat)) : Int), (0 : Int)) from rfl]
  rw [BR (l := tu) (st := Nat) (fun s i => ((s : Int), i)) (fun s r => ((s + (r.map fun c => c.jumps.length).sum : Nat) : Int)) (fun s r => s + 1024 * r.length ≤ 1000000000 ∧ ∀ c ∈ r, c.jumps.length ≤ 1024) 0 ?_ ?_ ⟨by omega, hj⟩]
  · simp
  · intro i a r s hi hinv
    obtain ⟨h1, h2⟩ := hinv
    have hlt := (List.getElem?_eq_some_iff.1 hi).1
    have ha := h2 a (List.mem_cons_self ..)
    rw [List.length_cons] at h1
    refine .inl ⟨s + a.jumps.length, ?_, ⟨by omega, fun c hc => h2 c (List.mem_cons_of_mem _ hc)⟩, by simp [Nat.add_assoc]⟩
    simp only [qM, lN, gD, wR]
    rw [show decide ((i : Int) < ((tu.length : Nat) : Int)) = true from by simp only [decide_eq_true_eq]; omega]
    simp only [cond_true]
    rw [aR (by omega), Int.toNat_natCast, List.getD_eq_getElem?_getD, hi, Option.getD_some, dZ (by omega) (by omega), dZ (by omega) (by omega)]
    rfl
  · intro s _
    simp only [qM, lN]
    rw [show decide (((tu.length : Nat) : Int) < ((tu.length : Nat) : Int)) = false from by simp]
    simp

theorem aDt {b : bU} {T : List aI} (h : mB b T) (hmk : -1 ≤ b.mark) (t : Int) :
    (t ≤ b.mark → oG b t = some (0, b)) ∧ (b.mark < t → (pR T t).2 ≠ 0 → oG b t = some (7, b)) ∧
    (b.mark < t → (pR T t).2 = 0 → ∃ b', oG b t = some (0, b') ∧ mB b' (pR T t).1 ∧ b'.mark = t) := by
  by_cases ht' : t ≤ b.mark
  · refine ⟨fun _ => ?_, fun h1 => absurd ht' (by omega), fun h1 => absurd ht' (by omega)⟩
    unfold oG
    rw [show decide (t ≤ b.mark) = true from by simpa using ht']; rfl
  have ht : b.mark < t := by omega
  suffices hh : ((pR T t).2 ≠ 0 → oG b t = some (7, b)) ∧ ((pR T t).2 = 0 → ∃ b', oG b t = some (0, b') ∧ mB b' (pR T t).1 ∧ b'.mark = t) from ⟨fun h1 => absurd h1 ht', fun _ => hh.1, fun _ => hh.2⟩
  have hl := h.len
  have hmB : ∀ p ∈ b.cells, eA p.2.jumps = true := fun p hp => (h.cell hp).2.1
  have hun : oG b t = uW b.cells (fun q => (mU (lE t) (.inl []) q).bind (BZ b t)) := by
    unfold oG
    rw [show decide (t ≤ b.mark) = false from by simpa using ht]; rfl
  rw [hun]
  have hrE : pR T t = FD (fun f => rest f t) (groups T) [] := by
    unfold pR DE; rw [if_pos h.may]
  -- all orders alike
  by_cases hbad : ∃ p ∈ b.cells, (rest p.2.jumps t).2 ≠ 0
  · have h7 : (pR T t).2 ≠ 0 := by
      intro h0
      obtain ⟨p, hp, hne⟩ := hbad
      exact hne ((BQ h0).2.1 _ (h.mem hp))
    refine ⟨fun _ => EH fun q hq => ?_, fun h0 => absurd h0 h7⟩
    obtain ⟨p, hp, hne⟩ := hbad
    rw [(aAM t q [] (fun x hx => hmB x (hq.mem_iff.1 hx)) (by rw [hq.length_eq]; simp; omega)).2 ⟨p, hq.mem_iff.2 hp, hne⟩]
    rfl
  have hall : ∀ p ∈ b.cells, (rest p.2.jumps t).2 = 0 := fun p hp => by
    cases Classical.em ((rest p.2.jumps t).2 = 0) with
    | inl h => exact h
    | inr h => exact absurd ⟨p, hp, h⟩ hbad
  have hallG : ∀ g ∈ groups T, (rest g.2 t).2 = 0 := fun g hg => by
    obtain ⟨p, hp, rfl⟩ := List.mem_map.1 (h.perm.mem_iff.2 hg)
    exact hall p hp
  have hcount : ∀ q : List (ByteArray × aC), q.Perm b.cells → ((q.map (pQ t)).map fun c => c.jumps.length).sum = (flat (nK (fun f => rest f t) (groups T))).length := by
    intro q hq
    rw [HJ]
    have h1 := ((hq.map fun p => (p.2.row, p.2.jumps)).trans h.perm).map fun g : List aE × List aD => (rest g.2 t).1.length
    rw [List.map_map] at h1
    rw [List.map_map]
    unfold nK
    rw [List.map_map]
    exact RM h1
  have hstart : ∀ q : List (ByteArray × aC), q.Perm b.cells → mU (lE t) (.inl []) q = some (.inl (q.map (pQ t))) := fun q hq => by
    rw [(aAM t q [] (fun x hx => hmB x (hq.mem_iff.1 hx)) (by rw [hq.length_eq]; simp; omega)).1 fun p hp => hall p (hq.mem_iff.1 hp)]
    rfl
  have hnn : ∀ q : List (ByteArray × aC), q.Perm b.cells → lp (fun s => qM (q.map (pQ t)) (lN (q.map (pQ t))) s.1 s.2) ((0 : Int), (0 : Int)) = some (((flat (nK (fun f => rest f t) (groups T))).length : Nat) : Int) := fun q hq => by
    rw [aE3 (by rw [List.length_map, hq.length_eq]; omega) (fun c hc => by
      obtain ⟨p, _, rfl⟩ := List.mem_map.1 hc
      exact aAe _ _), hcount q hq]
  by_cases hbig : 4096 < (flat (nK (fun f => rest f t) (groups T))).length
  · have h7 : (pR T t).2 ≠ 0 := by
      intro h0
      obtain ⟨_, _, h3, h4⟩ := BQ h0
      rw [h3] at h4
      omega
    refine ⟨fun _ => EH fun q hq => ?_, fun h0 => absurd h0 h7⟩
    rw [hstart q hq]
    simp only [Option.bind_some, BZ]
    rw [hnn q hq]
    simp only [Option.bind_some]
    rw [show decide ((4096 : Int) < (((flat (nK (fun f => rest f t) (groups T))).length : Nat) : Int)) = true from by simp only [decide_eq_true_eq]; omega]
    rfl
  have h0 : (pR T t).2 = 0 := by
    rw [hrE, GL hallG (by rw [List.nil_append]; omega)]
  refine ⟨fun h7 => absurd h0 h7, fun _ => ?_⟩
  have hpre := h.pre
  have hsumT : ((pY b.cells : Nat) : Int) = (T.length : Int) := by rw [← hpre.sum, h.edges]
  have hTl : T.length ≤ 4096 := (kJ h.may).1
  -- what comes of it, in whatever order
  have hputs : ∀ q : List (ByteArray × aC), q.Perm b.cells → (q.map (pQ t)).foldl wL b = ⟨b.cells.filterMap (PN t), ((pY (b.cells.filterMap (PN t)) : Nat) : Int), b.mark⟩ ∧
      lp (fun s => nA (q.map (pQ t)) (lN (q.map (pQ t))) s.1 s.2) (b, (0 : Int)) = some ((q.map (pQ t)).foldl wL b) ∧ vW ((q.map (pQ t)).foldl wL b) ((q.map (pQ t)).foldl zT (look (groups T))) := by
    intro q hq
    have hru : ∀ c ∈ q.map (pQ t), rOk c.row ∧ c.jumps.length ≤ 1024 := by
      intro c hc
      obtain ⟨p, hp, rfl⟩ := List.mem_map.1 hc
      exact ⟨(h.cell (hq.mem_iff.1 hp)).1, aAe _ _⟩
    obtain ⟨p1, p2, p3⟩ := aBF hpre (by omega) (tu := q.map (pQ t)) (by rw [List.length_map, hq.length_eq]; omega) hru
    have hkeys : ((q.map (pQ t)).map fun c => keyOf c.row).Nodup := by
      rw [List.map_map]
      have e : q.map ((fun c : aC => keyOf c.row) ∘ pQ t) = q.map (·.1) := List.map_congr_left fun p hp => (h.key p (hq.mem_iff.1 hp)).symm
      rw [e]
      exact ((hq.map (·.1)).nodup_iff).2 h.JI
    have hc : ((q.map (pQ t)).foldl wL b).cells = b.cells.filterMap (PN t) := by
      rw [SH, ZV h.JI hkeys (fun c hc => by
        obtain ⟨p, hp, rfl⟩ := List.mem_map.1 hc
        exact ⟨p, hq.mem_iff.1 hp, h.key p (hq.mem_iff.1 hp)⟩)]
      refine UJ fun p hp => ?_
      have hf := aAd hkeys (List.mem_map_of_mem (f := pQ t) (hq.mem_iff.2 hp))
      rw [← h.key p hp] at hf
      unfold DA PN
      rw [hf]
    refine ⟨?_, p1, p2⟩
    have hs := p2.sum
    rw [hc] at hs
    generalize hx : (q.map (pQ t)).foldl wL b = x at hc hs p3
    obtain ⟨xc, xe, xm⟩ := x
    simp only at hc hs p3
    rw [hc, hs, p3]
  refine ⟨⟨b.cells.filterMap (PN t), ((pY (b.cells.filterMap (PN t)) : Nat) : Int), t⟩, EH fun q hq => ?_, ?_, rfl⟩
  · rw [hstart q hq]
    simp only [Option.bind_some, BZ]
    rw [hnn q hq]
    simp only [Option.bind_some]
    rw [show decide ((4096 : Int) < (((flat (nK (fun f => rest f t) (groups T))).length : Nat) : Int)) = false from by simp only [decide_eq_false_iff_not]; omega]
    simp only [cond_false]
    obtain ⟨h1, h2, _⟩ := hputs q hq
    rw [h2, h1]
    rfl
  · obtain ⟨h1, _, h3⟩ := hputs b.cells (.refl _)
    have hrows : ((b.cells.map (pQ t)).map (·.row)).Nodup := by
      rw [List.map_map]; exact h.WM
    have his : mB ((b.cells.map (pQ t)).foldl wL b) (pR T t).1 := by
      refine h3.is (aEx h.tab (by omega) h0) ?_ fun r _ => ?_
      · intro e he v hv
        have hj : bX (pR T t).1 e.Row ≠ [] := by
          intro e0
          have : jE e ∈ bX (pR T t).1 e.Row := List.mem_map.2 ⟨e, List.mem_filter.2 ⟨he, by simp⟩, rfl⟩
          rw [e0] at this; cases this
        rw [HY h0] at hj
        by_cases hx : ∃ x ∈ T, x.Row = e.Row
        · obtain ⟨x, hx, e1⟩ := hx
          exact h.num x hx v (e1 ▸ hv)
        · have : bX T e.Row = [] := KC fun x hx' e1 => hx ⟨x, hx', e1⟩
          rw [this, HH] at hj
          exact absurd rfl hj
      · rw [tR (JK h0), HY h0]
        by_cases hx : ∃ p ∈ b.cells, p.2.row = r
        · obtain ⟨p, hp, rfl⟩ := hx
          have h4 := RQ (L := look (groups T)) hrows (List.mem_map_of_mem (f := pQ t) hp)
          have e : bX T p.2.row = p.2.jumps := by rw [← mI h.srt]; exact uA h.srt (h.mem hp)
          rw [e]
          exact h4.symm
        · rw [JS (fun c hc e => by
            obtain ⟨p, hp, rfl⟩ := List.mem_map.1 hc
            exact hx ⟨p, hp, e⟩)]
          have e : look (groups T) r = [] := uT fun g hg e => by
            obtain ⟨p, hp, e'⟩ := List.mem_map.1 (h.perm.mem_iff.2 hg)
            exact hx ⟨p, hp, by rw [← e, ← e']⟩
          rw [e, ← mI h.srt, e, HH]
    rw [h1] at his
    exact ⟨his.key, his.perm, his.tab, his.num, his.edges⟩

end Go.Abs
namespace Go.Abs
open Go
theorem aDn {a b : List Int} (h : a.Perm b) : a.sum = b.sum := by
  induction h with
  | nil => rfl
  | cons x _ ih => simp [ih]
  | swap x y l => simp; omega
  | trans _ _ i1 i2 => exact i1.trans i2

def pos (x : Int) : Int := if (0 : Int) > x then 0 else x

def tV (f : List aD) : Int := (f.map fun j => pos j.Net).sum

def UI (T : List aI) : Int := (T.map fun e => pos e.Net).sum

theorem VX {x b : Int} (h0 : 0 ≤ b) (h : x ≤ b) : 0 ≤ pos x ∧ pos x ≤ b := by unfold pos; split <;> omega

theorem OA : ∀ {f : List aD}, (∀ j ∈ f, j.Net ≤ 1048576) → 0 ≤ tV f ∧ tV f ≤ 1048576 * (f.length : Int)
  | [], _ => by simp [tV]
  | j :: f, h => by
    have h1 := OA fun x hx => h x (List.mem_cons_of_mem _ hx)
    have h2 := VX (by omega) (h j (List.mem_cons_self ..))
    have e : tV (j :: f) = pos j.Net + tV f := by simp [tV]
    rw [e, List.length_cons]
    push_cast
    omega

theorem aF0 {js : List aD} (hl : js.length ≤ 1024) (hj : ∀ j ∈ js, j.Net ≤ 1048576) {n : Int} (h0 : 0 ≤ n) (hn : n ≤ 100000000000000) : lp (fun s => qX js (lN js) s.1 s.2) (n, (0 : Int)) = some (n + tV js) := by
  rw [BR (l := js) (st := Int) (fun s i => (s, i)) (fun s r => s + tV r) (fun s r => 0 ≤ s ∧ s + 1048576 * (r.length : Int) ≤ 200000000000000 ∧ ∀ j ∈ r, j.Net ≤ 1048576) n ?_ ?_ ⟨h0, by omega, hj⟩]
  · intro i a r s hi hinv
    obtain ⟨h1, h2, h3⟩ := hinv
    have hlt := (List.getElem?_eq_some_iff.1 hi).1
    have ha := VX (by omega) (h3 a (List.mem_cons_self ..))
    rw [List.length_cons] at h2
    push_cast at h2
    refine .inl ⟨s + pos a.Net, ?_, ⟨by omega, by omega, fun c hc => h3 c (List.mem_cons_of_mem _ hc)⟩, by simp [tV, Int.add_assoc]⟩
    simp only [qX, lN, gD, wR]
    rw [show decide ((i : Int) < ((js.length : Nat) : Int)) = true from by simp only [decide_eq_true_eq]; omega]
    simp only [cond_true]
    rw [aR (by omega), Int.toNat_natCast, List.getD_eq_getElem?_getD, hi, Option.getD_some]
    show some (Sum.inl (IntKind.i64.wrap (s + pos a.Net), IntKind.i64.wrap ((i : Int) + 1))) = _
    rw [dZ (by omega) (by omega), dZ (by omega) (by omega)]
    rfl
  · intro s _
    simp only [qX, lN]
    rw [show decide (((js.length : Nat) : Int) < ((js.length : Nat) : Int)) = false from by simp]
    simp [tV]

theorem aGa : ∀ (q : List (ByteArray × aC)) (n : Int), (∀ p ∈ q, eA p.2.jumps = true) → 0 ≤ n → n + 1073741824 * (q.length : Int) ≤ 100000000000000 →
    mU (fun (n : Int) (p : ByteArray × aC) => lp (fun s => qX p.2.jumps (lN p.2.jumps) s.1 s.2) (n, (0 : Int))) n q = some (n + (q.map fun p => tV p.2.jumps).sum) := by
  intro q
  induction q with
  | nil => intro n _ _ _; simp [mU]
  | cons p q ih =>
    intro n hm h0 hn
    have hp := hm p (List.mem_cons_self ..)
    have hb : ∀ j ∈ p.2.jumps, j.Net ≤ 1048576 := fun j hj => (yS hp j hj).2.2.2.1
    have hl := (lK.1 hp).1
    have hc := OA hb
    rw [List.length_cons] at hn
    push_cast at hn
    show (lp (fun s => qX p.2.jumps (lN p.2.jumps) s.1 s.2) (n, (0 : Int))).bind _ = _
    rw [aF0 hl hb h0 (by omega)]
    simp only [Option.bind_some]
    rw [ih _ (fun x hx => hm x (List.mem_cons_of_mem _ hx)) (by omega) (by omega)]
    simp [Int.add_assoc]

theorem UD : ∀ gs : List (List aE × List aD), UI (flat gs) = (gs.map fun g => tV g.2).sum
  | [] => rfl
  | g :: gs => by
    have h1 := UD gs
    unfold UI at h1 ⊢
    rw [qY, List.map_append, List.sum_append, h1, List.map_cons, List.sum_cons]
    congr 1
    unfold mS tV
    rw [List.map_map]; rfl

theorem aE9 {b : bU} {T : List aI} (h : mB b T) : AI b = some (UI T) := by
  unfold AI
  refine EH fun q hq => ?_
  have hl := h.len
  rw [aGa q 0 (fun p hp => (h.cell (hq.mem_iff.1 hp)).2.1) (by omega) (by rw [hq.length_eq]; omega)]
  simp only [Option.bind_some]
  have h1 := ((hq.map fun p => (p.2.row, p.2.jumps)).trans h.perm).map fun g : List aE × List aD => tV g.2
  rw [List.map_map] at h1
  have h2 := UD (groups T)
  rw [qE] at h2
  rw [h2, ← aDn h1, Int.zero_add]
  rfl

abbrev uB : List aE := [⟨1, 1, ByteArray.empty⟩]

theorem aGE {l : List aI} (h : ∀ e ∈ l, e.Row = uB) : JF l := by
  intro e he v hv
  rw [h e he] at hv
  simp only [List.mem_singleton] at hv
  subst hv
  exact ⟨by decide, by decide⟩

theorem lv1 : rI [] (-1) [⟨uB, 2, 1⟩, ⟨uB, 9, -1⟩] = 0 := by decide +kernel

theorem lv2 : jB ([] ++ [⟨uB, 2, 1⟩, ⟨uB, 9, -1⟩]) = ([⟨uB, 2, 1⟩, ⟨uB, 9, -1⟩], 0) := by decide +kernel

theorem lv3 : pR [⟨uB, 2, 1⟩, ⟨uB, 9, -1⟩] 5 = ([⟨uB, -1, 1⟩, ⟨uB, 9, -1⟩], 0) := by decide +kernel

theorem lv4 : rI [⟨uB, -1, 1⟩, ⟨uB, 9, -1⟩] 5 [⟨uB, 4, 1⟩] = 16 := by decide +kernel

theorem lv5 : UI [⟨uB, -1, 1⟩, ⟨uB, 9, -1⟩] = 1 := by decide +kernel

theorem aAm : uN = some true := by
  obtain ⟨b1, a1, a2, a3, _⟩ := TO aCW (l := [⟨uB, 2, 1⟩, ⟨uB, 9, -1⟩]) (TP (by simp) (by simp)) (aGE (by simp))
  have a3 := a3 lv1
  rw [lv2] at a3
  have lv1' : rI [] (⟨[], 0, -1⟩ : bU).mark [⟨uB, 2, 1⟩, ⟨uB, 9, -1⟩] = 0 := lv1
  rw [lv1'] at a1
  obtain ⟨_, _, f3⟩ := aDt a3 (by rw [a2]; decide) 5
  obtain ⟨b2, f3, f4, f5⟩ := f3 (by rw [a2]; decide) (by rw [lv3])
  rw [lv3] at f4
  obtain ⟨b3, c1, c2, _, c4⟩ := TO f4 (l := [⟨uB, 4, 1⟩]) (TP (by simp) (by simp)) (aGE (by simp))
  rw [f5] at c1 c2 c4
  rw [lv4] at c1 c4
  have c4 := c4 (by decide)
  subst c4
  unfold uN
  simp only [BM, Option.bind_some]
  rw [a1]
  simp only [Option.bind_some]
  rw [f3]
  simp only [Option.bind_some]
  rw [c1]
  simp only [Option.bind_some, decide_true, Bool.and_self, cond_true, FV, f5]
  rw [aE9 f4, lv5]
  simp only [Option.bind_some, decide_true, Bool.and_self, cond_true]
  rw [LQ f4]
  simp only [Option.bind_some]
  rw [JZ (TP (by simp) (by simp))]
  simp [cX]

end Go.Abs
namespace Go.Abs
open Go
theorem ZO {l : List aI} (m : ∀ a ∈ l, sC a) : JF l := fun e he v hv => ((m e he).1.1 v hv).2.1

theorem aF6 {T : List aI} (h : uI T = true) : okL T := by
  have hm := (rV.1 h).1
  exact TP (kJ hm).1 fun e he => (DB (vG hm he).1).1

theorem aAn {b : bU} {T l : List aI} (h : mB b T) (hl : okL l) (hn : JF l) : ∃ b' T', sG b l = some (rI T b.mark l, b') ∧ b'.mark = b.mark ∧ mB b' T' ∧ (rI T b.mark l = 0 → T' = (jB (T ++ l)).1) ∧ (rI T b.mark l ≠ 0 → b' = b ∧ T' = T) := by
  obtain ⟨b', a1, a2, a3, a4⟩ := TO h hl hn
  by_cases e : rI T b.mark l = 0
  · exact ⟨b', _, a1, a2, a3 e, fun _ => rfl, fun h => absurd e h⟩
  · exact ⟨b', T, a1, a2, a4 e ▸ h, fun h => absurd h e, fun h => ⟨a4 h, rfl⟩⟩

theorem aFM {T l : List aI} {m : Int} (h : rI T m l = 0) : nZ l = true ∧ (∀ e ∈ l, m ≤ e.At) ∧ (jB (T ++ l)).2 = 0 ∧ uI (jB (T ++ l)).1 = true := by
  unfold rI at h
  cases h1 : nZ l with
  | false => rw [if_pos h1] at h; cases h
  | true =>
    rw [if_neg (by simp [h1])] at h
    cases h2 : (l.any fun e => decide (e.At < m)) with
    | true => rw [if_pos h2] at h; cases h
    | false =>
      rw [if_neg (by simp [h2])] at h
      by_cases h3 : (jB (T ++ l)).2 = 0
      · rw [if_neg (by simp [h3])] at h
        cases h4 : uI (jB (T ++ l)).1 with
        | false => rw [if_neg (by simp [h4])] at h; cases h
        | true =>
          refine ⟨rfl, fun e he => ?_, h3, rfl⟩
          have := List.any_eq_false.1 h2 e he
          simp only [decide_eq_true_eq] at this
          omega
      · rw [if_pos h3] at h; cases h

end Go.Abs
namespace Go.Abs
open Go
abbrev NX (e : aI) : aI := ⟨e.Row, e.At, -e.Net⟩

theorem aFh {l : List aI} (hm : nZ l = true) : (OF l).1 = l.map NX := by
  have h0 := (UW hm).1
  obtain ⟨_, _, h3, _⟩ := BQ h0
  have h4 : (OF l).1 = flat (nK DR (groups l)) := h3
  rw [h4]
  conv => rhs; rw [← qE l]
  have : ∀ gs : List (List aE × List aD), (∀ g ∈ gs, eA g.2 = true) → flat (nK DR gs) = (flat gs).map NX := by
    intro gs
    induction gs with
    | nil => intro _; rfl
    | cons g gs ih =>
      intro hg
      have e : nK DR (g :: gs) = (g.1, (DR g.2).1) :: nK DR gs := rfl
      rw [e, qY, qY, List.map_append, ih fun x hx => hg x (List.mem_cons_of_mem _ hx)]
      congr 1
      unfold DR
      rw [if_pos (hg g (List.mem_cons_self ..))]
      simp [mS, GR]
  exact this _ fun g hg => ((kJ hm).2.1 g hg).2

theorem aGu {l : List aI} (hm : nZ l = true) (b : bU) (was : List aI) : lp (fun s : List aI × Int => qS l b was s.1 s.2) ([], (0 : Int)) = some (l.map NX) := by
  have hl := (kJ hm).1
  rw [BR (l := l) (st := List aI) (fun s i => (s, i)) (fun s r => s ++ r.map NX) (fun s r => s.length + r.length ≤ 4096 ∧ ∀ e ∈ r, e.Net ≤ 1048576 ∧ -1048576 ≤ e.Net) [] ?_ ?_ ⟨by simpa using hl, fun e he => (vG hm he).2.2.2.2⟩]
  · simp
  · intro i a r s hi hinv
    obtain ⟨h1, h2⟩ := hinv
    have hlt := (List.getElem?_eq_some_iff.1 hi).1
    have ha := h2 a (List.mem_cons_self ..)
    rw [List.length_cons] at h1
    refine .inl ⟨s ++ [NX a], ?_, ⟨by simp; omega, fun c hc => h2 c (List.mem_cons_of_mem _ hc)⟩, by simp⟩
    simp only [qS]
    rw [show decide ((i : Int) < ((l.length : Nat) : Int)) = true from by simp only [decide_eq_true_eq]; omega]
    simp only [cond_true]
    rw [Int.toNat_natCast, List.getD_eq_getElem?_getD, hi, Option.getD_some, aR (by omega), aR (by omega), aR (by omega), aR (by simp; omega), dZ (by omega) (by omega), dZ (by omega) (by omega), Int.zero_sub]
    rfl
  · intro s _
    simp only [qS]
    rw [show decide (((l.length : Nat) : Int) < ((l.length : Nat) : Int)) = false from by simp]
    simp

theorem YI (l0 : (List aI)) (m0 : ∀ a ∈ l0, sC a) (y0 : List.length l0 * 40 ≤ 140737488351232) (l1 : (List aI)) (m1 : ∀ a ∈ l1, sC a) (y1 : List.length l1 * 40 ≤ 140737488351232) : wX l0 l1 = some true := by
  have k0 := aDj m0 y0
  have k1 := aDj m1 y1
  obtain ⟨b1, T1, a1, a2, h1, _, _⟩ := aAn aCW k0 (ZO m0)
  obtain ⟨b2, T2, c1, c2, h2, c4, c5⟩ := aAn h1 k1 (ZO m1)
  have mk1 : b1.mark = -1 := a2
  unfold wX
  simp only [BM, Option.bind_some]
  rw [a1]
  simp only [Option.bind_some]
  rw [LQ h1]
  simp only [Option.bind_some]
  rw [c1]
  simp only [Option.bind_some]
  have kT := aF6 h1.tab
  by_cases e : rI T1 b1.mark l1 = 0
  · have c4 := c4 e
    obtain ⟨mm, _, n0, nt⟩ := aFM e
    rw [e]
    simp only [decide_true, Bool.not_true, cond_false]
    unfold vI
    rw [aGu mm]
    simp only [Option.bind_some, sQ]
    rw [aAm]
    simp only [Option.bind_some, cond_true]
    have hback := aFh mm
    obtain ⟨_, mn, _⟩ := UW mm
    rw [hback] at mn
    have hun := aFe h1.may mm n0
    rw [hback, ← c4] at hun
    have kb : okL (l1.map NX) := ⟨by rw [List.length_map]; exact k1.1, fun x hx => by
      obtain ⟨y, hy, rfl⟩ := List.mem_map.1 hx
      exact k1.2 y hy⟩
    have nb : JF (l1.map NX) := fun x hx v hv => by
      obtain ⟨y, hy, rfl⟩ := List.mem_map.1 hx
      exact ZO m1 y hy v hv
    have h0 : rI T2 b2.mark (l1.map NX) = 0 := by
      unfold rI
      rw [if_neg (by simp [mn]), if_neg, if_neg (by rw [hun]; simp), if_pos (by rw [hun]; exact h1.tab)]
      rw [Bool.not_eq_true, List.any_eq_false]
      intro x hx
      have := (vG mn hx).2.1
      rw [c2, mk1]
      simp only [decide_eq_true_eq]
      omega
    obtain ⟨b3, d1, _, d3, _⟩ := TO h2 kb nb
    have d3 := d3 h0
    rw [hun] at d3
    rw [d1, h0]
    simp only [Option.bind_some, decide_true, Bool.and_self, cond_true]
    rw [LQ d3]
    simp only [Option.bind_some, cX, cond_true]
    rw [JZ kT]
    simp
  · obtain ⟨rfl, rfl⟩ := c5 e
    simp only [e, decide_false, Bool.not_false, cond_true]
    rw [aAm]
    simp only [Option.bind_some, cond_true]
    rw [LQ h1]
    simp only [Option.bind_some, cX, cond_true]
    rw [JZ kT]
    simp

end Go.Abs
