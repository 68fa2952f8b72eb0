/- What the law WindowRises stands on: the framework, the given functions as plain functions, their walks, and the plain laws; part 6. -/
import Derived.Test.YteecjdpicjpnfabWindowRisesZ5
set_option linter.unusedSimpArgs false
set_option linter.unusedVariables false
namespace Go.Abs
open Go
theorem NJ {a b i j : Nat} {d : List Int} (h : BG a b i j d) (hb : b ≤ d.length) (hl : d.length < 2305843009213693951) : ∃ i' j' : Nat, BG a b i' j' d ∧ i ≤ i' ∧ j' ≤ j ∧ (j' < i' → j' + 1 = i') ∧ (i' ≤ j' → i' < j' ∧ gN d a ≤ gN d i' ∧ gN d j' < gN d a) ∧
    dS (a : Nat) d (i : Nat) (j : Nat) = eZ d (a : Nat) (i' : Nat) (j' : Nat) ∧ gI d (a : Nat) (i : Nat) (j : Nat) = fA d (a : Nat) (i' : Nat) (j' : Nat) := by
  have h1 := h.hi; have h2 := h.hij; have h3 := h.hj
  obtain ⟨i', e1, a1, a2, a3, a4⟩ := PJ (body := fun s => fC (a : Nat) (j : Nat) s.1 s.2) (d := d) (p := fun k => gN d k < gN d a) (j := j) (aC9 (a := a) (j := j) (d := d) (by omega) (by omega) hl) (j + 1 - i) i rfl h2
  obtain ⟨i2, e1', b1, b2, b3, b4⟩ := PJ (body := fun s => eR (a : Nat) (j : Nat) s.1 s.2) (d := d) (p := fun k => gN d k < gN d a) (j := j) (aD7 (a := a) (j := j) (d := d) (by omega) (by omega) hl) (j + 1 - i) i rfl h2
  have hii : i2 = i' := by
    rcases Nat.lt_trichotomy i2 i' with hh | hh | hh
    · exact absurd (a3 i2 b1 hh) (b4 (by omega))
    · exact hh
    · exact absurd (b3 i' a1 hh) (a4 (by omega))
  subst hii
  obtain ⟨j', f1, c1, c2, c3, c4⟩ := IQ (body := fun s => eY (a : Nat) (i2 : Nat) s.1 s.2) (d := d) (p := fun k => ¬ gN d k < gN d a) (i := i2) (m := j) (by omega) (aA1 (a := a) (i := i2) (m := j) (d := d) (by omega) (by omega) (by omega) hl) j (Nat.le_refl _) a2
  obtain ⟨j2, f1', g1, g2, g3, g4⟩ := IQ (body := fun s => eX (a : Nat) (i2 : Nat) s.1 s.2) (d := d) (p := fun k => ¬ gN d k < gN d a) (i := i2) (m := j) (by omega) (aBO (a := a) (i := i2) (m := j) (d := d) (by omega) (by omega) (by omega) hl) j (Nat.le_refl _) a2
  have hjj : j2 = j' := by
    rcases Nat.lt_trichotomy j2 j' with hh | hh | hh
    · exact absurd (g3 j' hh c2) (c4 (by omega))
    · exact hh
    · exact absurd (c3 j2 hh g2) (g4 (by omega))
  subst hjj
  have hend : i2 ≤ j2 → i2 < j2 ∧ gN d a ≤ gN d i2 ∧ gN d j2 < gN d a := fun hh => by
    have k1 : ¬ gN d i2 < gN d a := a4 (by omega)
    have k2 : gN d j2 < gN d a := Classical.byContradiction fun hn => c4 hh hn
    refine ⟨?_, by omega, k2⟩
    rcases Nat.lt_or_ge i2 j2 with h | h
    · exact h
    · have : i2 = j2 := by omega
      rw [this] at k1; exact absurd k2 k1
  refine ⟨i2, j2, ⟨by omega, by omega, by omega, fun k k1 k2 => ?_, fun k k1 k2 => ?_⟩, a1, c2, fun hh => by omega, hend, ?_, ?_⟩
  · by_cases hk : k < i
    · exact h.lo k k1 hk
    · exact a3 k (by omega) k2
  · by_cases hk : j < k
    · exact h.up k hk k2
    · have := c3 k k1 (by omega); omega
  · unfold dS lE
    rw [show lp (fun s : List Int × Int => fC (a : Nat) (j : Nat) s.1 s.2) (d, (i : Int)) = some (d, (i2 : Int)) from e1]
    simp only [Option.bind_some]
    unfold jA lC
    rw [show lp (fun s : List Int × Int => eY (a : Nat) (i2 : Nat) s.1 s.2) (d, (j : Int)) = some (d, (j2 : Int)) from f1]
    rfl
  · unfold gI
    rw [show lp (fun s : List Int × Int => eR (a : Nat) (j : Nat) s.1 s.2) (d, (i : Int)) = some (d, (i2 : Int)) from e1']
    simp only [Option.bind_some]
    unfold jF kY
    rw [show lp (fun s : List Int × Int => eX (a : Nat) (i2 : Nat) s.1 s.2) (d, (j : Int)) = some (d, (j2 : Int)) from f1']
    rfl

theorem BG.rel {a b i j : Nat} {d : List Int} (h : BG a b i j d) (hb : b ≤ d.length) (hij : i ≤ j) : Rel (a + 1) b d (swp d i j) := by
  have := h.hi; have := h.hj
  exact Rel.swp (i := i) (j := j) (by omega) (by omega) (by omega) (by omega)

theorem aEy {a b : Nat} : ∀ (n i j : Nat) (d : List Int), j + 1 - i = n → b ≤ d.length → d.length < 2305843009213693951 → BG a b i j d →
    ∃ (d' : List Int) (j' : Nat), lp (fun s : List Int × Int × Int => dS (a : Nat) s.1 s.2.1 s.2.2) (d, (i : Int), (j : Int)) = some (d', (j' : Int)) ∧ Rel (a + 1) b d d' ∧ BG a b (j' + 1) j' d' := by
  intro n
  induction n using Nat.strongRecOn with
  | ind n ih =>
    intro i j d h1 h2 h3 h
    obtain ⟨i', j', p1, p2, p3, p4, p5, p6, _⟩ := NJ h h2 h3
    have q1 := p1.hi; have q2 := p1.hj; have q3 := p1.hij
    by_cases hlt : j' < i'
    · have hs : dS (a : Nat) d (i : Nat) (j : Nat) = some (.inr (d, (j' : Int))) := by
        rw [p6]
        unfold eZ
        have : decide ((j' : Int) < (i' : Int)) = true := by simp; omega
        rw [this, cond_true]
      have := p4 hlt
      exact ⟨d, j', cV hs, Rel.refl .., by rw [this]; exact p1⟩
    · obtain ⟨k1, k2, k3⟩ := p5 (by omega)
      have hs : dS (a : Nat) d (i : Nat) (j : Nat) = some (.inl (swp d i' j', ((i' + 1 : Nat) : Int), ((j' - 1 : Nat) : Int))) := by
        rw [p6]
        unfold eZ
        have : decide ((j' : Int) < (i' : Int)) = false := by simp; omega
        rw [this, cond_false]
        simp only [Int.toNat_natCast]
        rw [aP (asN (by omega)), aP (asN (by omega)), aP (asN (by omega)), aP (asN (by omega)), wrN (x := (i' : Int) + 1) (n := i' + 1) (by omega) (by omega), wrN (x := (j' : Int) - 1) (n := j' - 1) (by omega) (by omega)]
        rfl
      obtain ⟨d', j2, e, r, p⟩ := ih (j' - 1 + 1 - (i' + 1)) (by omega) (i' + 1) (j' - 1) (swp d i' j') rfl (by rw [iK]; exact h2) (by rw [iK]; exact h3) (p1.swap h2 k1 k2 k3)
      exact ⟨d', j2, (fO hs).trans e, (p1.rel h2 (by omega)).trans r, p⟩

theorem UE {a b j : Nat} {d : List Int} (h : BG a b (j + 1) j d) (hb : b ≤ d.length) : Rel a b d (swp d j a) ∧ (∀ k, a ≤ k → k < j → gN (swp d j a) k ≤ gN (swp d j a) j) ∧ (∀ k, j < k → k < b → gN (swp d j a) j ≤ gN (swp d j a) k) := by
  have h1 := h.hi; have h3 := h.hj
  have g := uP (d := d) (i := j) (j := a) (by omega) (by omega)
  have gj : gN (swp d j a) j = gN d a := by
    rw [g]
    by_cases hh : j = a
    · rw [if_pos hh, hh]
    · rw [if_neg hh, if_pos rfl]
  refine ⟨Rel.swp (i := j) (j := a) (by omega) (by omega) (by omega) (by omega), fun k k1 k2 => ?_, fun k k1 k2 => ?_⟩
  · rw [gj, g]
    by_cases hk : k = a
    · rw [if_pos hk]
      have := h.lo j (by omega) (by omega); omega
    · rw [if_neg hk, if_neg (by omega)]
      have := h.lo k (by omega) (by omega); omega
  · rw [gj, g, if_neg (by omega), if_neg (by omega)]
    exact h.up k k1 k2

theorem WI {lo hi p : Nat} {d : List Int} (h0 : lo < hi) (hb : hi ≤ d.length) (hl : d.length < 2305843009213693951) (hp : lo ≤ p ∧ p < hi) :
    ∃ (m : Nat) (fl : Bool) (d' : List Int), iA d (lo : Int) (hi : Int) (p : Int) = some (((m : Int), fl), d') ∧ lo ≤ m ∧ m < hi ∧ Rel lo hi d d' ∧ (∀ k, lo ≤ k → k < m → gN d' k ≤ gN d' m) ∧ (∀ k, m < k → k < hi → gN d' m ≤ gN d' k) := by
  unfold iA
  rw [aP (asN (by omega)), aP (asN (by omega)), aP (asN (by omega)), aP (asN (by omega)), wrN (x := (lo : Int) + 1) (n := lo + 1) (by omega) (by omega), wrN (x := (hi : Int) - 1) (n := hi - 1) (by omega) (by omega)]
  simp only [Int.toNat_natCast]
  have r0 : Rel lo hi d (swp d lo p) := Rel.swp (i := lo) (j := p) (by omega) (by omega) (by omega) (by omega)
  have l0 : (swp d lo p).length = d.length := iK ..
  have inv : BG lo hi (lo + 1) (hi - 1) (swp d lo p) := ⟨by omega, by omega, by omega, fun k k1 k2 => by omega, fun k k1 k2 => by omega⟩
  obtain ⟨i', j', p1, p2, p3, p4, p5, _, p6⟩ := NJ inv (by rw [l0]; exact hb) (by rw [l0]; exact hl)
  have e0 : gI (List.set (List.set d lo (List.getD d p default)) p (List.getD d lo default)) (lo : Int) ((lo + 1 : Nat) : Int) ((hi - 1 : Nat) : Int) = fA (swp d lo p) (lo : Nat) (i' : Nat) (j' : Nat) := p6
  rw [e0]
  have q1 := p1.hi; have q2 := p1.hj; have q3 := p1.hij
  generalize hg : swp d lo p = d1 at *
  unfold fA
  by_cases hlt : j' < i'
  · have : decide ((j' : Int) < (i' : Int)) = true := by simp; omega
    rw [this, cond_true]
    simp only [Int.toNat_natCast]
    rw [aP (asN (by omega)), aP (asN (by omega)), aP (asN (by omega)), aP (asN (by omega))]
    have hp1 : BG lo hi (j' + 1) j' d1 := by rw [p4 hlt]; exact p1
    obtain ⟨r, a1, a2⟩ := UE hp1 (by omega)
    exact ⟨j', true, swp d1 j' lo, rfl, by omega, by omega, r0.trans r, a1, a2⟩
  · obtain ⟨k1, k2, k3⟩ := p5 (by omega)
    have : decide ((j' : Int) < (i' : Int)) = false := by simp; omega
    rw [this, cond_false]
    simp only [Int.toNat_natCast]
    rw [aP (asN (by omega)), aP (asN (by omega)), aP (asN (by omega)), aP (asN (by omega)), wrN (x := (i' : Int) + 1) (n := i' + 1) (by omega) (by omega), wrN (x := (j' : Int) - 1) (n := j' - 1) (by omega) (by omega)]
    obtain ⟨d2, j2, e, r, pp⟩ := aEy (a := lo) (b := hi) (j' - 1 + 1 - (i' + 1)) (i' + 1) (j' - 1) (swp d1 i' j') rfl (by rw [iK]; omega) (by rw [iK]; omega) (p1.swap (by omega) k1 k2 k3)
    have w1 := pp.hi; have w2 := pp.hj
    have l2 : d2.length = d1.length := by rw [r.len, iK]
    unfold kU
    rw [show lp (fun s : List Int × Int × Int => dS (lo : Int) s.1 s.2.1 s.2.2) ((List.set (List.set d1 i' (List.getD d1 j' default)) j' (List.getD d1 i' default)), ((i' + 1 : Nat) : Int), ((j' - 1 : Nat) : Int)) = some (d2, (j2 : Int)) from e]
    simp only [Option.bind_some, jC, Int.toNat_natCast]
    rw [aP (asN (by omega)), aP (asN (by omega)), aP (asN (by omega)), aP (asN (by omega))]
    obtain ⟨rr, a1, a2⟩ := UE pp (by omega)
    exact ⟨j2, false, swp d2 j2 lo, rfl, by omega, by omega, ((r0.trans ((p1.rel (by omega) (by omega)).mono (by omega) (Nat.le_refl _))).trans (r.mono (by omega) (Nat.le_refl _))).trans rr, a1, a2⟩

end Go.Abs
namespace Go.Abs
open Go
structure HF (a b i j : Nat) (d : List Int) : Prop where
  hi : a < i
  hij : i ≤ j + 1
  hj : j < b
  lo : ∀ k, a < k → k < i → gN d k ≤ gN d a
  up : ∀ k, j < k → k < b → gN d a < gN d k

theorem HF.swap {a b i j : Nat} {d : List Int} (h : HF a b i j d) (hb : b ≤ d.length) (hij : i < j) (h1 : gN d a < gN d i) (h2 : gN d j ≤ gN d a) : HF a b (i + 1) (j - 1) (swp d i j) := by
  have := h.hi; have := h.hj
  have g := uP (d := d) (i := i) (j := j) (by omega) (by omega)
  have ga : gN (swp d i j) a = gN d a := by rw [g, if_neg (by omega), if_neg (by omega)]
  refine ⟨by omega, by omega, by omega, fun k k1 k2 => ?_, fun k k1 k2 => ?_⟩
  · rw [ga, g, if_neg (by omega)]
    by_cases hk : k = i
    · rw [if_pos hk]; exact h2
    · rw [if_neg hk]; exact h.lo k k1 (by omega)
  · rw [ga, g]
    by_cases hk : k = j
    · rw [if_pos hk]; exact h1
    · rw [if_neg hk, if_neg (by omega)]; exact h.up k (by omega) k2

theorem XS {a b i j : Nat} {d : List Int} (h : HF a b i j d) (hb : b ≤ d.length) (hl : d.length < 2305843009213693951) : ∃ i' j' : Nat, HF a b i' j' d ∧ i ≤ i' ∧ j' ≤ j ∧ (j' < i' → j' + 1 = i') ∧ (i' ≤ j' → i' < j' ∧ gN d a < gN d i' ∧ gN d j' ≤ gN d a) ∧
    dB (a : Nat) d (i : Nat) (j : Nat) = dZ d (a : Nat) (i' : Nat) (j' : Nat) := by
  have h1 := h.hi; have h2 := h.hij; have h3 := h.hj
  obtain ⟨i', e1, a1, a2, a3, a4⟩ := PJ (body := fun s => dY (a : Nat) (j : Nat) s.1 s.2) (d := d) (p := fun k => ¬ gN d a < gN d k) (j := j) (aCV (a := a) (j := j) (d := d) (by omega) (by omega) hl) (j + 1 - i) i rfl h2
  obtain ⟨j', f1, c1, c2, c3, c4⟩ := IQ (body := fun s => dX (a : Nat) (i' : Nat) s.1 s.2) (d := d) (p := fun k => gN d a < gN d k) (i := i') (m := j) (by omega) (aBc (a := a) (i := i') (m := j) (d := d) (by omega) (by omega) (by omega) hl) j (Nat.le_refl _) a2
  have hend : i' ≤ j' → i' < j' ∧ gN d a < gN d i' ∧ gN d j' ≤ gN d a := fun hh => by
    have k1 : gN d a < gN d i' := Classical.byContradiction fun hn => a4 (by omega) hn
    have k2 : ¬ gN d a < gN d j' := c4 hh
    refine ⟨?_, k1, by omega⟩
    rcases Nat.lt_or_ge i' j' with h | h
    · exact h
    · have : i' = j' := by omega
      rw [this] at k1; exact absurd k1 k2
  refine ⟨i', j', ⟨by omega, by omega, by omega, fun k k1 k2 => ?_, fun k k1 k2 => ?_⟩, a1, c2, fun hh => by omega, hend, ?_⟩
  · by_cases hk : k < i
    · exact h.lo k k1 hk
    · have := a3 k (by omega) k2; omega
  · by_cases hk : j < k
    · exact h.up k hk k2
    · exact c3 k k1 (by omega)
  · unfold dB jK
    rw [show lp (fun s : List Int × Int => dY (a : Nat) (j : Nat) s.1 s.2) (d, (i : Int)) = some (d, (i' : Int)) from e1]
    simp only [Option.bind_some]
    unfold gP jM
    rw [show lp (fun s : List Int × Int => dX (a : Nat) (i' : Nat) s.1 s.2) (d, (j : Int)) = some (d, (j' : Int)) from f1]
    rfl

theorem aCT {a b : Nat} : ∀ (n i j : Nat) (d : List Int), j + 1 - i = n → b ≤ d.length → d.length < 2305843009213693951 → HF a b i j d →
    ∃ (d' : List Int) (j' : Nat), lp (fun s : List Int × Int × Int => dB (a : Nat) s.1 s.2.1 s.2.2) (d, (i : Int), (j : Int)) = some (d', ((j' + 1 : Nat) : Int)) ∧ Rel (a + 1) b d d' ∧ HF a b (j' + 1) j' d' := by
  intro n
  induction n using Nat.strongRecOn with
  | ind n ih =>
    intro i j d h1 h2 h3 h
    obtain ⟨i', j', p1, p2, p3, p4, p5, p6⟩ := XS h h2 h3
    have q1 := p1.hi; have q2 := p1.hj; have q3 := p1.hij
    by_cases hlt : j' < i'
    · have hs : dB (a : Nat) d (i : Nat) (j : Nat) = some (.inr (d, (i' : Int))) := by
        rw [p6]
        unfold dZ
        have : decide ((j' : Int) < (i' : Int)) = true := by simp; omega
        rw [this, cond_true]
      have := p4 hlt
      exact ⟨d, j', by rw [this]; exact cV hs, Rel.refl .., by rw [this]; exact p1⟩
    · obtain ⟨k1, k2, k3⟩ := p5 (by omega)
      have hs : dB (a : Nat) d (i : Nat) (j : Nat) = some (.inl (swp d i' j', ((i' + 1 : Nat) : Int), ((j' - 1 : Nat) : Int))) := by
        rw [p6]
        unfold dZ
        have : decide ((j' : Int) < (i' : Int)) = false := by simp; omega
        rw [this, cond_false]
        simp only [Int.toNat_natCast]
        rw [aP (asN (by omega)), aP (asN (by omega)), aP (asN (by omega)), aP (asN (by omega)), wrN (x := (i' : Int) + 1) (n := i' + 1) (by omega) (by omega), wrN (x := (j' : Int) - 1) (n := j' - 1) (by omega) (by omega)]
        rfl
      obtain ⟨d', j2, e, r, p⟩ := ih (j' - 1 + 1 - (i' + 1)) (by omega) (i' + 1) (j' - 1) (swp d i' j') rfl (by rw [iK]; exact h2) (by rw [iK]; exact h3) (p1.swap h2 k1 k2 k3)
      exact ⟨d', j2, (fO hs).trans e, (Rel.swp (i := i') (j := j') (by omega) (by omega) (by omega) (by omega)).trans r, p⟩

theorem SO {lo hi p : Nat} {d : List Int} (h0 : lo < hi) (hb : hi ≤ d.length) (hl : d.length < 2305843009213693951) (hp : lo ≤ p ∧ p < hi) :
    ∃ (m : Nat) (d' : List Int), fG d (lo : Int) (hi : Int) (p : Int) = some ((m : Int), d') ∧ lo < m ∧ m ≤ hi ∧ Rel lo hi d d' ∧ (∀ k, lo ≤ k → k < m → gN d' k ≤ gN d p) ∧ (∀ k, m ≤ k → k < hi → gN d p < gN d' k) := by
  unfold fG
  rw [aP (asN (by omega)), aP (asN (by omega)), aP (asN (by omega)), aP (asN (by omega)), wrN (x := (lo : Int) + 1) (n := lo + 1) (by omega) (by omega), wrN (x := (hi : Int) - 1) (n := hi - 1) (by omega) (by omega)]
  simp only [Int.toNat_natCast]
  have r0 : Rel lo hi d (swp d lo p) := Rel.swp (i := lo) (j := p) (by omega) (by omega) (by omega) (by omega)
  have l0 : (swp d lo p).length = d.length := iK ..
  have g := uP (d := d) (i := lo) (j := p) (by omega) (by omega)
  have g0 : gN (swp d lo p) lo = gN d p := by
    rw [g]
    by_cases hh : lo = p
    · rw [if_pos hh, hh]
    · rw [if_neg hh, if_pos rfl]
  have inv : HF lo hi (lo + 1) (hi - 1) (swp d lo p) := ⟨by omega, by omega, by omega, fun k k1 k2 => by omega, fun k k1 k2 => by omega⟩
  obtain ⟨d', j', e, r, pp⟩ := aCT (a := lo) (b := hi) (hi - 1 + 1 - (lo + 1)) (lo + 1) (hi - 1) (swp d lo p) rfl (by rw [l0]; exact hb) (by rw [l0]; exact hl) inv
  have w1 := pp.hi; have w2 := pp.hj
  have ga : gN d' lo = gN d p := by rw [r.out lo (by omega), g0]
  unfold jN
  rw [show lp (fun s : List Int × Int × Int => dB (lo : Int) s.1 s.2.1 s.2.2) ((List.set (List.set d lo (List.getD d p default)) p (List.getD d lo default)), ((lo + 1 : Nat) : Int), ((hi - 1 : Nat) : Int)) = some (d', ((j' + 1 : Nat) : Int)) from e]
  refine ⟨j' + 1, d', rfl, by omega, by omega, r0.trans (r.mono (by omega) (Nat.le_refl _)), fun k k1 k2 => ?_, fun k k1 k2 => ?_⟩
  · rw [← ga]
    by_cases hk : k = lo
    · rw [hk]; exact Int.le_refl _
    · exact pp.lo k (by omega) k2
  · rw [← ga]; exact pp.up k (by omega) k2

theorem ZR {lo i : Nat} {d : List Int} : ∀ (n i' : Nat), i' - i = n → qV lo i d → lo < i → (∀ k, i ≤ k → k < i' → gN d (k - 1) ≤ gN d k) → qV lo i' d
  | 0, i', h, hs, _, _ => fun p q p1 p2 p3 => hs p q p1 p2 (by omega)
  | n + 1, i', h, hs, hl, hk => by
    have ih := ZR (d := d) n (i' - 1) (by omega) hs hl fun k k1 k2 => hk k k1 (by omega)
    intro p q p1 p2 p3
    by_cases hq : q = i' - 1
    · by_cases hp : p = q
      · rw [hp]; exact Int.le_refl _
      · have h1 := hk q (by omega) (by omega)
        have h2 := ih p (q - 1) p1 (by omega) (by omega)
        omega
    · exact ih p q p1 p2 (by omega)

theorem aDB {lo hi : Nat} {d : List Int} (x : Int) (hb : hi ≤ d.length) (hl : d.length < 2305843009213693951) : ∀ (n i : Nat), hi - i = n → 1 ≤ i → i ≤ hi →
    ∃ i' : Nat, lp (fun s : List Int × Int => cS (lo : Nat) (hi : Nat) x s.1 s.2) (d, (i : Int)) = some (d, (i' : Int)) ∧ i ≤ i' ∧ i' ≤ hi ∧ (∀ k, i ≤ k → k < i' → gN d (k - 1) ≤ gN d k) := by
  intro n
  induction n with
  | zero =>
    intro i h1 h2 h3
    refine ⟨i, cV ?_, Nat.le_refl _, h3, fun k k1 k2 => by omega⟩
    show cS _ _ _ _ _ = _
    have : decide ((i : Int) < (hi : Int)) = false := by simp; omega
    simp only [cS, this]
    rw [aP (fun h => by cases h), aP (fun h => by cases h)]
    rfl
  | succ n ih =>
    intro i h1 h2 h3
    have hd : decide ((i : Int) < (hi : Int)) = true := by simp; omega
    have hs : cS (lo : Nat) (hi : Nat) x d (i : Nat) = if gN d i < gN d (i - 1) then some (.inr (d, (i : Int))) else some (.inl (d, ((i + 1 : Nat) : Int))) := by
      unfold cS
      rw [hd, wrN (x := (i : Int) - 1) (n := i - 1) (by omega) (by omega), wrN (x := (i : Int) + 1) (n := i + 1) (by omega) (by omega), aP fun _ => asN (by omega), aP fun _ => asN (by omega)]
      simp only [dL, cond_true, tH, Option.bind_some, Bool.true_and, Int.toNat_natCast, gN]
      by_cases h : d.getD i default < d.getD (i - 1) default <;> simp [h]
    by_cases h : gN d i < gN d (i - 1)
    · rw [if_pos h] at hs
      exact ⟨i, cV hs, Nat.le_refl _, h3, fun k k1 k2 => by omega⟩
    · rw [if_neg h] at hs
      obtain ⟨i', e, a1, a2, a3⟩ := ih (i + 1) (by omega) (by omega) (by omega)
      refine ⟨i', (fO hs).trans e, by omega, a2, fun k k1 k2 => ?_⟩
      by_cases hk : k = i
      · rw [hk]; omega
      · exact a3 k (by omega) k2

theorem JX {lo hi : Nat} {d d' : List Int} (r : Rel lo hi d d') (h : lo = 0 ∨ ∀ k, lo ≤ k → k < hi → gN d (lo - 1) ≤ gN d k) : lo = 0 ∨ ∀ k, lo ≤ k → k < hi → gN d' (lo - 1) ≤ gN d' k := by
  by_cases h0 : lo = 0
  · exact .inl h0
  · rcases h with h | h
    · exact .inl h
    · exact .inr fun k k1 k2 => by
        rw [r.out (lo - 1) (by omega)]
        exact r.all (p := fun v => gN d (lo - 1) ≤ v) h k k1 k2

theorem aCL {lo hi i : Nat} (x y : Int) : ∀ (j : Nat) (d : List Int), lo ≤ j → j ≤ i → i < d.length → d.length < 2305843009213693951 → IM lo j i d → (lo = 0 ∨ ∀ k, lo ≤ k → k ≤ i → gN d (lo - 1) ≤ gN d k) →
    ∃ d', lp (fun s : List Int × Int => cL (lo : Nat) (hi : Nat) x y s.1 s.2) (d, (j : Int)) = some d' ∧ Rel lo (i + 1) d d' ∧ qV lo (i + 1) d' := by
  intro j
  induction j with
  | zero =>
    intro d h1 h2 h3 h4 h5 h6
    refine ⟨d, cV ?_, Rel.refl .., h5.done h1 (by omega)⟩
    show cL _ _ _ _ _ _ = _
    have : decide ((1 : Int) ≤ ((0 : Nat) : Int)) = false := by simp
    simp only [cL, this, cond_false]
  | succ j ih =>
    intro d h1 h2 h3 h4 h5 h6
    have hd : decide ((1 : Int) ≤ ((j + 1 : Nat) : Int)) = true := by simp; omega
    have hs : cL (lo : Nat) (hi : Nat) x y d ((j + 1 : Nat) : Int) = if gN d (j + 1) < gN d j then some (.inl (swp d (j + 1) j, (j : Int))) else some (.inr d) := by
      unfold cL
      rw [hd, cond_true, wrN (x := ((j + 1 : Nat) : Int) - 1) (n := j) (by omega) (by omega), aP (asN (by omega)), aP (asN (by omega))]
      simp only [tH, Option.bind_some, Int.toNat_natCast, gN]
      by_cases h : d.getD (j + 1) default < d.getD j default
      · simp only [h, decide_true, Bool.not_true, cond_false, if_true]
        rw [aP (asN (by omega)), aP (asN (by omega)), aP (asN (by omega)), aP (asN (by omega))]
        rfl
      · simp only [h, decide_false, Bool.not_false, cond_true, if_false]
    by_cases h : gN d (j + 1) < gN d j
    · rw [if_pos h] at hs
      have hlo : lo < j + 1 := by
        rcases h6 with h6 | h6
        · omega
        · rcases Nat.lt_or_ge lo (j + 1) with hh | hh
          · exact hh
          · have : lo = j + 1 := by omega
            have h7 := h6 (j + 1) (by omega) h2
            rw [this] at h7
            simp only [Nat.add_sub_cancel] at h7
            omega
      have r1 : Rel lo (i + 1) d (swp d (j + 1) j) := Rel.swp (i := j + 1) (j := j) (by omega) (by omega) (by omega) (by omega)
      obtain ⟨d', e, r, s⟩ := ih (swp d (j + 1) j) (by omega) (by omega) (by rw [iK]; exact h3) (by rw [iK]; exact h4) (h5.next hlo h2 h3 h) ((JX r1 (h6.imp id fun h k a b => h k a (by omega))).imp id fun h k a b => h k a (by omega))
      exact ⟨d', (fO hs).trans e, r1.trans r, s⟩
    · rw [if_neg h] at hs
      exact ⟨d, cV hs, Rel.refl .., h5.done h1 fun hh => h hh.2⟩

theorem aFh {lo hi i : Nat} (x y : Int) : ∀ (n j : Nat) (d : List Int), hi - j = n → i < j → hi ≤ d.length → d.length < 2305843009213693951 →
    ∃ d', lp (fun s : List Int × Int => cR (lo : Nat) (hi : Nat) x y s.1 s.2) (d, (j : Int)) = some d' ∧ Rel i hi d d' := by
  intro n
  induction n with
  | zero =>
    intro j d h1 h2 h3 h4
    refine ⟨d, cV ?_, Rel.refl ..⟩
    show cR _ _ _ _ _ _ = _
    have : decide ((j : Int) < (hi : Int)) = false := by simp; omega
    simp only [cR, this, cond_false]
  | succ n ih =>
    intro j d h1 h2 h3 h4
    have hd : decide ((j : Int) < (hi : Int)) = true := by simp; omega
    have hs : cR (lo : Nat) (hi : Nat) x y d (j : Nat) = if gN d j < gN d (j - 1) then some (.inl (swp d j (j - 1), ((j + 1 : Nat) : Int))) else some (.inr d) := by
      unfold cR
      rw [hd, cond_true, wrN (x := (j : Int) - 1) (n := j - 1) (by omega) (by omega), wrN (x := (j : Int) + 1) (n := j + 1) (by omega) (by omega), aP (asN (by omega)), aP (asN (by omega))]
      simp only [tH, Option.bind_some, Int.toNat_natCast, gN]
      by_cases h : d.getD j default < d.getD (j - 1) default
      · simp only [h, decide_true, Bool.not_true, cond_false, if_true]
        rw [aP (asN (by omega)), aP (asN (by omega)), aP (asN (by omega)), aP (asN (by omega))]
        rfl
      · simp only [h, decide_false, Bool.not_false, cond_true, if_false]
    by_cases h : gN d j < gN d (j - 1)
    · rw [if_pos h] at hs
      obtain ⟨d', e, r⟩ := ih (j + 1) (swp d j (j - 1)) (by omega) (by omega) (by rw [iK]; exact h3) (by rw [iK]; exact h4)
      exact ⟨d', (fO hs).trans e, (Rel.swp (i := j) (j := j - 1) (by omega) (by omega) (by omega) (by omega)).trans r⟩
    · rw [if_neg h] at hs
      exact ⟨d, cV hs, Rel.refl ..⟩

theorem aCv {lo hi i : Nat} (x : Int) {d : List Int} (h1 : lo < i) (h2 : i < hi) (h3 : hi ≤ d.length) (h4 : d.length < 2305843009213693951) :
    ∃ d', cK d (lo : Nat) (hi : Nat) (i : Nat) x = some (.inl (d', (i : Int), IntKind.i64.wrap (x + 1))) ∧ Rel i hi d d' := by
  unfold cK
  rw [wrN (x := (hi : Int) - (i : Int)) (n := hi - i) (by omega) (by omega)]
  by_cases h : (2 : Int) ≤ ((hi - i : Nat) : Int)
  · simp only [h, decide_true, cond_true]
    unfold gY
    rw [wrN (x := (i : Int) + 1) (n := i + 1) (by omega) (by omega)]
    obtain ⟨d', e, r⟩ := aFh (lo := lo) (hi := hi) (i := i) (i : Int) x (hi - (i + 1)) (i + 1) d rfl (by omega) h3 h4
    rw [e]
    exact ⟨d', rfl, r⟩
  · simp only [h, decide_false, cond_false]
    exact ⟨d, rfl, Rel.refl ..⟩

theorem aDC {lo hi i : Nat} (x : Int) {d : List Int} (h1 : lo < i) (h2 : i ≤ hi) (h3 : hi ≤ d.length) (h4 : d.length < 2305843009213693951) (hs : qV lo i d) (hb : lo = 0 ∨ ∀ k, lo ≤ k → k < hi → gN d (lo - 1) ≤ gN d k) :
    (∃ (fl : Bool) (d' : List Int), dJ d (lo : Nat) (hi : Nat) (i : Nat) x = some (.inr (.inr (fl, d'))) ∧ Rel lo hi d d' ∧ (fl = true → qV lo hi d')) ∨
    (∃ (d' : List Int) (i' : Nat), dJ d (lo : Nat) (hi : Nat) (i : Nat) x = some (.inl (d', (i' : Int), IntKind.i64.wrap (x + 1))) ∧ Rel lo hi d d' ∧ lo < i' ∧ i' ≤ hi ∧ qV lo i' d') := by
  unfold dJ
  obtain ⟨i', e, a1, a2, a3⟩ := aDB (lo := lo) (hi := hi) x h3 h4 (hi - i) i rfl (by omega) h2
  rw [e]
  simp only [Option.bind_some]
  have hs' := ZR (i' - i) i' rfl hs h1 a3
  unfold eS
  by_cases hi' : i' = hi
  · have : decide ((i' : Int) = (hi : Int)) = true := by simp; omega
    rw [this, cond_true]
    left
    exact ⟨true, d, rfl, Rel.refl .., fun _ => hi' ▸ hs'⟩
  · have hne : decide ((i' : Int) = (hi : Int)) = false := by simp; omega
    rw [hne, cond_false, wrN (x := (hi : Int) - (lo : Int)) (n := hi - lo) (by omega) (by omega)]
    by_cases h50 : ((hi - lo : Nat) : Int) < 50
    · simp only [h50, decide_true, cond_true]
      left
      exact ⟨false, d, rfl, Rel.refl .., fun h => by cases h⟩
    · simp only [h50, decide_false, cond_false]
      rw [wrN (x := (i' : Int) - 1) (n := i' - 1) (by omega) (by omega), wrN (x := (i' : Int) - (lo : Int)) (n := i' - lo) (by omega) (by omega)]
      simp only [Int.toNat_natCast]
      rw [aP (asN (by omega)), aP (asN (by omega)), aP (asN (by omega)), aP (asN (by omega))]
      have r1 : Rel lo hi d (swp d i' (i' - 1)) := Rel.swp (i := i') (j := i' - 1) (by omega) (by omega) (by omega) (by omega)
      have l1 : (swp d i' (i' - 1)).length = d.length := iK ..
      have g := uP (d := d) (i := i') (j := i' - 1) (by omega) (by omega)
      right
      by_cases hge : (2 : Int) ≤ ((i' - lo : Nat) : Int)
      · simp only [hge, decide_true, cond_true]
        unfold gZ
        have ins : IM lo (i' - 1) (i' - 1) (swp d i' (i' - 1)) := ⟨fun p q p1 p2 p3 p4 p5 => by
          rw [g, g, if_neg p4, if_neg p5, if_neg (by omega), if_neg (by omega)]
          exact hs' p q p1 p2 (by omega), fun q q1 q2 => by omega⟩
        obtain ⟨d2, e2, r2, s2⟩ := aCL (lo := lo) (hi := hi) (i := i' - 1) (i' : Int) x (i' - 1) (swp d i' (i' - 1)) (by omega) (Nat.le_refl _) (by rw [l1]; omega) (by rw [l1]; exact h4) ins ((JX r1 hb).imp id fun h k a b => h k a (by omega))
        have e2' : lp (fun s : List Int × Int => cL (lo : Int) (hi : Int) (i' : Int) x s.1 s.2) ((List.set (List.set d i' (List.getD d (i' - 1) default)) (i' - 1) (List.getD d i' default)), ((i' - 1 : Nat) : Int)) = some d2 := e2
        rw [e2']
        simp only [Option.bind_some]
        rw [show i' - 1 + 1 = i' by omega] at r2 s2
        have l2 : d2.length = d.length := by rw [r2.len, l1]
        obtain ⟨d3, e3, r3⟩ := aCv (lo := lo) (hi := hi) (i := i') x (d := d2) (by omega) (by omega) (by omega) (by omega)
        rw [e3]
        refine ⟨d3, i', rfl, (r1.trans (r2.mono (Nat.le_refl _) (by omega))).trans (r3.mono (by omega) (Nat.le_refl _)), by omega, a2, fun p q p1 p2 p3 => ?_⟩
        rw [r3.out p (by omega), r3.out q (by omega)]
        exact s2 p q p1 p2 p3
      · simp only [hge, decide_false, cond_false]
        obtain ⟨d3, e3, r3⟩ := aCv (lo := lo) (hi := hi) (i := i') x (d := swp d i' (i' - 1)) (by omega) (by omega) (by omega) (by omega)
        have e3' : cK (List.set (List.set d i' (List.getD d (i' - 1) default)) (i' - 1) (List.getD d i' default)) (lo : Int) (hi : Int) (i' : Int) x = _ := e3
        rw [e3']
        refine ⟨d3, i', rfl, r1.trans (r3.mono (by omega) (Nat.le_refl _)), by omega, a2, ?_⟩
        have : i' = lo + 1 := by omega
        rw [this]; exact MA lo d3

theorem aE1 {lo hi : Nat} : ∀ (n x i : Nat) (d : List Int), 5 - x = n → lo < i → i ≤ hi → hi ≤ d.length → d.length < 2305843009213693951 → qV lo i d → (lo = 0 ∨ ∀ k, lo ≤ k → k < hi → gN d (lo - 1) ≤ gN d k) → x ≤ 5 →
    ∃ (fl : Bool) (d' : List Int), (lp (fun s : List Int × Int × Int => cA (lo : Nat) (hi : Nat) s.1 s.2.1 s.2.2) (d, (i : Int), (x : Int))).bind (Sum.elim (fun rr => eT rr) (fun rr => some (rr.1, rr.2))) = some (fl, d') ∧ Rel lo hi d d' ∧ (fl = true → qV lo hi d') := by
  intro n
  induction n with
  | zero =>
    intro x i d h1 h2 h3 h4 h5 h6 h7 h8
    have hs : cA (lo : Nat) (hi : Nat) d (i : Nat) (x : Nat) = some (.inr (.inl d)) := by
      have : decide ((x : Int) < 5) = false := by simp; omega
      simp only [cA, this, cond_false]
    rw [cV (show (fun s : List Int × Int × Int => cA (lo : Nat) (hi : Nat) s.1 s.2.1 s.2.2) (d, (i : Int), (x : Int)) = _ from hs)]
    exact ⟨false, d, rfl, Rel.refl .., fun h => by cases h⟩
  | succ n ih =>
    intro x i d h1 h2 h3 h4 h5 h6 h7 h8
    have hl2 : cA (lo : Nat) (hi : Nat) d (i : Nat) (x : Nat) = dJ d (lo : Nat) (hi : Nat) (i : Nat) (x : Nat) := by
      have : decide ((x : Int) < 5) = true := by simp; omega
      simp only [cA, this, cond_true]
    rcases aDC (lo := lo) (hi := hi) (x : Int) h2 h3 h4 h5 h6 h7 with ⟨fl, d', e, r, s⟩ | ⟨d', i', e, r, k1, k2, s⟩
    · rw [cV (show (fun s : List Int × Int × Int => cA (lo : Nat) (hi : Nat) s.1 s.2.1 s.2.2) (d, (i : Int), (x : Int)) = _ from hl2.trans e)]
      exact ⟨fl, d', rfl, r, s⟩
    · rw [wrN (x := (x : Int) + 1) (n := x + 1) (by omega) (by omega)] at e
      obtain ⟨fl, d2, e2, r2, s2⟩ := ih (x + 1) i' d' (by omega) k1 k2 (by rw [r.len]; exact h4) (by rw [r.len]; exact h5) s (JX r h7) (by omega)
      rw [fO (show (fun s : List Int × Int × Int => cA (lo : Nat) (hi : Nat) s.1 s.2.1 s.2.2) (d, (i : Int), (x : Int)) = _ from hl2.trans e)]
      exact ⟨fl, d2, e2, r.trans r2, s2⟩

theorem aDn {lo hi : Nat} {d : List Int} (h0 : lo < hi) (h1 : hi ≤ d.length) (h2 : d.length < 2305843009213693951) (hb : lo = 0 ∨ ∀ k, lo ≤ k → k < hi → gN d (lo - 1) ≤ gN d k) :
    ∃ (fl : Bool) (d' : List Int), fE d (lo : Int) (hi : Int) = some (fl, d') ∧ Rel lo hi d d' ∧ (fl = true → qV lo hi d') := by
  unfold fE gW
  rw [wrN (x := (lo : Int) + 1) (n := lo + 1) (by omega) (by omega)]
  exact aE1 (lo := lo) (hi := hi) (5 - 0) 0 (lo + 1) d rfl (by omega) (by omega) h1 h2 (MA lo d) hb (by omega)

end Go.Abs
namespace Go.Abs
open Go
abbrev PS := List Int × Int × Int × Int × Bool × Bool

abbrev PR := List Int → Int → Int → Int → Option (List Int)

def AG (a b : Nat) (d d' : List Int) : Prop := Rel a b d d' ∧ qV a b d'

structure zU (a b lim : Nat) (d : List Int) : Prop where
  ab : a ≤ b
  bl : b ≤ d.length
  len : d.length < 2305843009213693951
  bnd : a = 0 ∨ ∀ k, a ≤ k → k < b → gN d (a - 1) ≤ gN d k
  lim : lim ≤ 100

def JU (rec : PR) (N : Nat) : Prop := ∀ (d : List Int) (a b lim : Nat), zU a b lim d → (rec d (a : Int) (b : Int) (lim : Int) = none ∧ N ≤ b - a) ∨ ∃ d', rec d (a : Int) (b : Int) (lim : Int) = some d' ∧ AG a b d d'

def FK (N a b : Nat) (d : List Int) (F : Option (PS ⊕ List Int)) : Prop :=
  (F = none ∧ N + 1 ≤ b - a) ∨ (∃ d', F = some (.inr d') ∧ AG a b d d') ∨
  ∃ (d' : List Int) (a' b' lim' : Nat) (wb wp : Bool), F = some (.inl (d', (a' : Int), (b' : Int), (lim' : Int), wb, wp)) ∧ b' - a' < b - a ∧ zU a' b' lim' d' ∧ ∀ d'', AG a' b' d' d'' → AG a b d d''

theorem AG.pre {a b : Nat} {d d1 d' : List Int} (r : Rel a b d d1) (h : AG a b d1 d') : AG a b d d' := ⟨r.trans h.1, h.2⟩

theorem FK.pre {N a b : Nat} {d d1 : List Int} {F : Option (PS ⊕ List Int)} (r : Rel a b d d1) (h : FK N a b d1 F) : FK N a b d F := by
  rcases h with h | ⟨d', h1, h2⟩ | ⟨d', a', b', lim', wb, wp, h1, h2, h3, h4⟩
  · exact .inl h
  · exact .inr (.inl ⟨d', h1, h2.pre r⟩)
  · exact .inr (.inr ⟨d', a', b', lim', wb, wp, h1, h2, h3, fun d'' hg => (h4 d'' hg).pre r⟩)

theorem zU.rel {a b lim : Nat} {d d1 : List Int} (h : zU a b lim d) (r : Rel a b d d1) : zU a b lim d1 :=
  ⟨h.ab, by rw [r.len]; exact h.bl, by rw [r.len]; exact h.len, JX r h.bnd, h.lim⟩

theorem UH {a m b : Nat} {d : List Int} (hm : m < b) (h1 : ∀ k, a ≤ k → k < m → gN d k ≤ gN d m) (h2 : ∀ k, m < k → k < b → gN d m ≤ gN d k) (s1 : qV a m d) (s2 : qV (m + 1) b d) : qV a b d := by
  intro p q p1 p2 p3
  by_cases hq : q < m
  · exact s1 p q p1 p2 hq
  · by_cases hp : m < p
    · exact s2 p q hp p2 p3
    · have g1 : gN d p ≤ gN d m := by
        by_cases e : p = m
        · rw [e]; exact Int.le_refl _
        · exact h1 p p1 (by omega)
      have g2 : gN d m ≤ gN d q := by
        by_cases e : q = m
        · rw [e]; exact Int.le_refl _
        · exact h2 q (by omega) p3
      omega

theorem aCi {rec : PR} {N a b lim p : Nat} {d : List Int} (hrec : JU rec N) (hv : zU a b lim d) (h12 : 12 < b - a) (hp : a ≤ p ∧ p < b) (wb wp : Bool) (len : Int) :
    FK N a b d (iL rec d (a : Int) (b : Int) (lim : Int) wb wp len (p : Int)) := by
  have hb := hv.bl; have hl := hv.len
  -- with all equal ones on the left
  have eqc : 0 < a → ¬ gN d (a - 1) < gN d p → FK N a b d ((fG d (a : Int) (b : Int) (p : Int)).bind fun x20 => some (.inl (x20.2, x20.1, (b : Int), (lim : Int), wb, wp))) := by
    intro ha hn
    obtain ⟨m, d', e, m1, m2, r, q1, q2⟩ := SO (lo := a) (hi := b) (p := p) (d := d) (by omega) hb hl hp
    have hall : ∀ k, a ≤ k → k < b → gN d p ≤ gN d' k := by
      refine r.all (p := fun v => gN d p ≤ v) fun k k1 k2 => ?_
      rcases hv.bnd with h | h
      · omega
      · have := h k k1 k2; omega
    rw [e]
    refine .inr (.inr ⟨d', m, b, lim, wb, wp, rfl, by omega, ⟨m2, by rw [r.len]; exact hb, by rw [r.len]; exact hl, .inr fun k k1 k2 => ?_, hv.lim⟩, fun d'' hg => ⟨r.trans (hg.1.mono (by omega) (Nat.le_refl _)), fun x y x1 x2 x3 => ?_⟩⟩)
    · have := q1 (m - 1) (by omega) (by omega); have := q2 k k1 k2; omega
    · by_cases hx : m ≤ x
      · exact hg.2 x y hx x2 x3
      · rw [hg.1.out x (by omega)]
        have g1 := q1 x x1 (by omega)
        by_cases hy : y < m
        · rw [hg.1.out y (by omega)]
          have g2 := hall y (by omega) (by omega); omega
        · have g2 := hg.1.all (p := fun v => gN d p < v) q2 y (by omega) x3
          omega
  -- a partition, and the lesser part first
  have ptc : FK N a b d ((iA d (a : Int) (b : Int) (p : Int)).bind fun x23 =>
      bC ((8 : Int) ≠ 0) <|
      cond (decide ((IntKind.i64.wrap (x23.1.1 - (a : Int))) < (IntKind.i64.wrap ((b : Int) - x23.1.1))))
      ((rec x23.2 (a : Int) x23.1.1 (lim : Int)).bind fun x28 =>
      some (.inl (x28, IntKind.i64.wrap (x23.1.1 + (1 : Int)), (b : Int), (lim : Int), decide ((IntKind.i64.wrap (Int.tdiv len (8 : Int))) ≤ (IntKind.i64.wrap (x23.1.1 - (a : Int)))), x23.1.2)))
      ((rec x23.2 (IntKind.i64.wrap (x23.1.1 + (1 : Int))) (b : Int) (lim : Int)).bind fun x31 =>
      some (.inl (x31, (a : Int), x23.1.1, (lim : Int), decide ((IntKind.i64.wrap (Int.tdiv len (8 : Int))) ≤ (IntKind.i64.wrap ((b : Int) - x23.1.1))), x23.1.2)))) := by
    obtain ⟨m, fl, d1, e, m1, m2, r, q1, q2⟩ := WI (lo := a) (hi := b) (p := p) (d := d) (by omega) hb hl hp
    have hv1 := hv.rel r
    rw [e]
    simp only [Option.bind_some]
    rw [aP (by decide), wrN (x := (m : Int) + 1) (n := m + 1) (by omega) (by omega)]
    have vL : zU a m lim d1 := ⟨m1, by have := hv1.bl; omega, hv1.len, hv1.bnd.imp id fun h k k1 k2 => h k k1 (by omega), hv.lim⟩
    have vR : zU (m + 1) b lim d1 := ⟨by omega, hv1.bl, hv1.len, .inr fun k k1 k2 => by simpa using q2 k (by omega) k2, hv.lim⟩
    cases decide ((IntKind.i64.wrap ((m : Int) - (a : Int))) < (IntKind.i64.wrap ((b : Int) - (m : Int)))) with
    | true =>
      rw [cond_true]
      rcases hrec d1 a m lim vL with ⟨hn, hN⟩ | ⟨d2, e2, g2⟩
      · rw [hn]; exact .inl ⟨rfl, by omega⟩
      · rw [e2]
        simp only [Option.bind_some]
        have top : gN d2 m = gN d1 m := g2.1.out m (by omega)
        refine .inr (.inr ⟨d2, m + 1, b, lim, _, _, rfl, by omega, ⟨by omega, by rw [g2.1.len]; exact hv1.bl, by rw [g2.1.len]; exact hv1.len, .inr fun k k1 k2 => ?_, hv.lim⟩, fun d3 hg => ⟨(r.trans (g2.1.mono (Nat.le_refl _) (by omega))).trans (hg.1.mono (by omega) (Nat.le_refl _)), ?_⟩⟩)
        · rw [show m + 1 - 1 = m by omega, top, g2.1.out k (by omega)]; exact q2 k (by omega) k2
        · have o3 : ∀ k, k ≤ m → gN d3 k = gN d2 k := fun k hk => hg.1.out k (by omega)
          refine UH m2 (fun k k1 k2 => ?_) (fun k k1 k2 => ?_) (fun x y x1 x2 x3 => by rw [o3 x (by omega), o3 y (by omega)]; exact g2.2 x y x1 x2 x3) hg.2
          · rw [o3 k (by omega), o3 m (by omega), top]
            exact g2.1.all (p := fun v => v ≤ gN d1 m) q1 k k1 k2
          · rw [o3 m (by omega), top]
            exact hg.1.all (p := fun v => gN d1 m ≤ v) (fun k k1 k2 => by rw [g2.1.out k (by omega)]; exact q2 k (by omega) k2) k (by omega) k2
    | false =>
      rw [cond_false]
      rcases hrec d1 (m + 1) b lim vR with ⟨hn, hN⟩ | ⟨d2, e2, g2⟩
      · rw [hn]; exact .inl ⟨rfl, by omega⟩
      · rw [e2]
        simp only [Option.bind_some]
        have low : ∀ k, k ≤ m → gN d2 k = gN d1 k := fun k hk => g2.1.out k (by omega)
        refine .inr (.inr ⟨d2, a, m, lim, _, _, rfl, by omega, ⟨m1, by rw [g2.1.len]; have := hv1.bl; omega, by rw [g2.1.len]; exact hv1.len, ?_, hv.lim⟩, fun d3 hg => ⟨(r.trans (g2.1.mono (by omega) (Nat.le_refl _))).trans (hg.1.mono (Nat.le_refl _) (by omega)), ?_⟩⟩)
        · rcases hv1.bnd with h | h
          · exact .inl h
          · exact .inr fun k k1 k2 => by rw [low (a - 1) (by omega), low k (by omega)]; exact h k k1 (by omega)
        · have o3 : ∀ k, m ≤ k → gN d3 k = gN d2 k := fun k hk => hg.1.out k (by omega)
          refine UH m2 (fun k k1 k2 => ?_) (fun k k1 k2 => ?_) hg.2 (fun x y x1 x2 x3 => by rw [o3 x (by omega), o3 y (by omega)]; exact g2.2 x y x1 x2 x3)
          · rw [o3 m (Nat.le_refl _), low m (Nat.le_refl _)]
            exact hg.1.all (p := fun v => v ≤ gN d1 m) (fun k k1 k2 => by rw [low k (by omega)]; exact q1 k k1 k2) k k1 k2
          · rw [o3 m (Nat.le_refl _), low m (Nat.le_refl _), o3 k (by omega)]
            exact g2.1.all (p := fun v => gN d1 m ≤ v) (fun k k1 k2 => q2 k (by omega) k2) k (by omega) k2
  unfold iL
  by_cases ha : 0 < a
  · have hd : decide ((0 : Int) < (a : Int)) = true := by simp; omega
    rw [hd, wrN (x := (a : Int) - 1) (n := a - 1) (by omega) (by omega), aP fun _ => asN (by omega), aP fun _ => asN (by omega)]
    simp only [dL, cond_true, tH, Option.bind_some, Bool.true_and, Int.toNat_natCast]
    by_cases hlt : gN d (a - 1) < gN d p
    · simp only [gN] at hlt
      simp only [hlt, decide_true, Bool.not_true, cond_false]
      exact ptc
    · have := eqc ha hlt
      simp only [gN] at hlt
      simp only [hlt, decide_false, Bool.not_false, cond_true]
      exact this
  · have hd : decide ((0 : Int) < (a : Int)) = false := by simp; omega
    rw [hd, aP (fun h => by cases h), aP (fun h => by cases h)]
    simp only [dL, cond_false, Option.bind_some, Bool.false_and]
    exact ptc

theorem aCp {rec : PR} {N a b lim p : Nat} {d : List Int} (hrec : JU rec N) (hv : zU a b lim d) (h12 : 12 < b - a) (hp : a ≤ p ∧ p < b) (wb wp : Bool) (len hint : Int) :
    FK N a b d (iJ rec d (a : Int) (b : Int) (lim : Int) wb wp len (p : Int) hint) := by
  unfold iJ
  cases ((wb && wp) && (decide (hint = (1 : Int)))) with
  | false => exact aCi hrec hv h12 hp wb wp len
  | true =>
    rw [cond_true]
    obtain ⟨fl, d', e, r, s⟩ := aDn (lo := a) (hi := b) (d := d) (by omega) hv.bl hv.len hv.bnd
    rw [e]
    simp only [Option.bind_some]
    cases fl with
    | true => exact .inr (.inl ⟨d', rfl, r, s rfl⟩)
    | false => exact (aCi hrec (hv.rel r) h12 hp wb wp len).pre r

theorem aCk {rec : PR} {N a b lim : Nat} {d : List Int} (hrec : JU rec N) (hv : zU a b lim d) (h12 : 12 < b - a) (wb wp : Bool) (len : Int) :
    FK N a b d (iI rec d (a : Int) (b : Int) (lim : Int) wb wp len) := by
  have hb := hv.bl; have hl := hv.len
  unfold iI
  obtain ⟨p, h, e, p1, p2⟩ := aA6 (lo := a) (hi := b) (d := d) h12 hb hl
  rw [e]
  simp only [Option.bind_some]
  by_cases h2 : h = 2
  · simp only [h2, decide_true, cond_true]
    obtain ⟨d', e2, r⟩ := aBA (lo := a) (hi := b) (d := d) (by omega) hb (by omega)
    rw [e2]
    simp only [Option.bind_some]
    rw [wrN (x := (b : Int) - 1) (n := b - 1) (by omega) (by omega), wrN (x := (p : Int) - (a : Int)) (n := p - a) (by omega) (by omega), wrN (x := ((b - 1 : Nat) : Int) - ((p - a : Nat) : Int)) (n := b - 1 - (p - a)) (by omega) (by omega)]
    exact (aCp hrec (hv.rel r) h12 ⟨by omega, by omega⟩ wb wp len 1).pre r
  · simp only [h2, decide_false, cond_false]
    exact aCp hrec hv h12 ⟨p1, p2⟩ wb wp len h

theorem aE4 {rec : PR} {N a b lim : Nat} {d : List Int} (hrec : JU rec N) (hv : zU a b lim d) (wb wp : Bool) :
    FK N a b d (eN rec d (a : Int) (b : Int) (lim : Int) wb wp) := by
  have hb := hv.bl; have hl := hv.len; have hab := hv.ab
  unfold eN
  rw [wrN (x := (b : Int) - (a : Int)) (n := b - a) (by omega) (by omega)]
  by_cases h12 : ((b - a : Nat) : Int) ≤ 12
  · simp only [h12, decide_true, cond_true]
    obtain ⟨d', e, r, s⟩ := aDG (lo := a) (hi := b) (d := d) hb (by omega) hab
    rw [e]
    exact .inr (.inl ⟨d', rfl, r, s⟩)
  · simp only [h12, decide_false, cond_false]
    by_cases h0 : lim = 0
    · have : decide ((lim : Int) = 0) = true := by simp; exact h0
      rw [this, cond_true]
      obtain ⟨d', e, r, s⟩ := aBr (lo := a) (hi := b) (d := d) (by omega) hb hl
      rw [e]
      exact .inr (.inl ⟨d', rfl, r, s⟩)
    · have : decide ((lim : Int) = 0) = false := by simp; exact h0
      rw [this, cond_false]
      cases wb with
      | true => exact aCk hrec hv (by omega) true wp _
      | false =>
        simp only [Bool.not_false, cond_true]
        obtain ⟨d', e, r⟩ := aBK (lo := a) (hi := b) (d := d) (by omega) hb hl
        rw [e]
        simp only [Option.bind_some]
        have hlim := hv.lim
        rw [wrN (x := (lim : Int) - 1) (n := lim - 1) (by omega) (by omega)]
        have hv' := hv.rel r
        exact (aCk hrec ⟨hv'.ab, hv'.bl, hv'.len, hv'.bnd, by omega⟩ (by omega) false wp _).pre r

theorem aEF {S R : Type} {body : S → Option (S ⊕ R)} {s : S} (h : body s = none) : lp body s = none := by
  cases e : lp body s with
  | none => rfl
  | some r =>
    obtain ⟨k, hk⟩ := JS.1 e
    cases k with
    | zero => simp [iter] at hk
    | succ k => simp [iter, h] at hk

theorem aE9 {rec : PR} {N : Nat} (hrec : JU rec N) : ∀ (n a b lim : Nat) (d : List Int) (wb wp : Bool), b - a = n → zU a b lim d →
    (lp (fun s : PS => eN rec s.1 s.2.1 s.2.2.1 s.2.2.2.1 s.2.2.2.2.1 s.2.2.2.2.2) (d, (a : Int), (b : Int), (lim : Int), wb, wp) = none ∧ N + 1 ≤ b - a) ∨
    ∃ d', lp (fun s : PS => eN rec s.1 s.2.1 s.2.2.1 s.2.2.2.1 s.2.2.2.2.1 s.2.2.2.2.2) (d, (a : Int), (b : Int), (lim : Int), wb, wp) = some d' ∧ AG a b d d' := by
  intro n
  induction n using Nat.strongRecOn with
  | ind n ih =>
    intro a b lim d wb wp hn hv
    rcases aE4 hrec hv wb wp with ⟨h1, h2⟩ | ⟨d', h1, h2⟩ | ⟨d', a', b', lim', wb', wp', h1, h2, h3, h4⟩
    · exact .inl ⟨aEF h1, h2⟩
    · exact .inr ⟨d', cV h1, h2⟩
    · rw [fO (show (fun s : PS => eN rec s.1 s.2.1 s.2.2.1 s.2.2.2.1 s.2.2.2.2.1 s.2.2.2.2.2) (d, (a : Int), (b : Int), (lim : Int), wb, wp) = _ from h1)]
      rcases ih (b' - a') (by omega) a' b' lim' d' wb' wp' rfl h3 with ⟨g1, g2⟩ | ⟨d2, g1, g2⟩
      · exact .inl ⟨g1, by omega⟩
      · exact .inr ⟨d2, g1, h4 d2 g2⟩

theorem WH : ∀ k : Nat, JU (dP k) k
  | 0 => fun _ _ _ _ _ => .inl ⟨rfl, Nat.zero_le _⟩
  | k + 1 => fun d a b lim hv => by
    show (gO (dP k) d a b lim = none ∧ _) ∨ ∃ d', gO (dP k) d a b lim = some d' ∧ _
    unfold gO lX
    rcases aE9 (WH k) (b - a) a b lim d true true rfl hv with ⟨h1, h2⟩ | ⟨d', h1, h2⟩
    · rw [h1]; exact .inl ⟨rfl, h2⟩
    · rw [h1]; exact .inr ⟨d', rfl, h2⟩

theorem aEY {a b lim : Nat} {d : List Int} (hv : zU a b lim d) : ∃ d', kF d (a : Int) (b : Int) (lim : Int) = some d' ∧ AG a b d d' := by
  unfold kF
  obtain ⟨d', e, g⟩ : ∃ d', dP (b - a + 1) d (a : Int) (b : Int) (lim : Int) = some d' ∧ AG a b d d' := by
    rcases WH (b - a + 1) d a b lim hv with ⟨_, h⟩ | h
    · omega
    · exact h
  cases hf : TS (fun k => dP k d (a : Int) (b : Int) (lim : Int)) with
  | none =>
    exfalso
    unfold TS at hf
    have hex : ∃ k r, dP k d (a : Int) (b : Int) (lim : Int) = some r := ⟨_, d', e⟩
    rw [dif_pos hex] at hf
    obtain ⟨r, hr⟩ := Classical.choose_spec hex
    have hf' : dP (Classical.choose hex) d (a : Int) (b : Int) (lim : Int) = none := hf
    rw [hr] at hf'
    cases hf'
  | some r =>
    obtain ⟨k, hk⟩ := SA hf
    rcases WH k d a b lim hv with ⟨h, _⟩ | ⟨d2, h, g2⟩
    · rw [h] at hk; cases hk
    · rw [h] at hk; cases hk; exact ⟨_, rfl, g2⟩

theorem ZI {d : List Int} (hl : d.length < 2305843009213693951) : ∃ d', gQ d = some d' ∧ d'.Perm d ∧ d'.Pairwise (· ≤ ·) := by
  unfold gQ
  have hL : ∃ L : Nat, kV (IntKind.u64.wrap ((List.length d : Nat) : Int)) = some (L : Int) ∧ L ≤ 100 := by
    rw [IG (by omega) (by omega)]
    by_cases h0 : d.length = 0
    · rw [h0]; exact ⟨0, aCZ, by omega⟩
    · obtain ⟨k, e, h1, _⟩ := aCb (x := ((List.length d : Nat) : Int)) (by omega) (by omega)
      exact ⟨k + 1, by rw [e]; rfl, by omega⟩
  obtain ⟨L, eL, hL⟩ := hL
  rw [eL]
  simp only [Option.bind_some]
  obtain ⟨d', e, g⟩ := aEY (a := 0) (b := d.length) (lim := L) (d := d) ⟨Nat.zero_le _, Nat.le_refl _, hl, .inl rfl, hL⟩
  have e' : kF d 0 ((List.length d : Nat) : Int) (L : Int) = some d' := e
  rw [e']
  refine ⟨d', rfl, g.1.perm, List.pairwise_iff_getElem.2 fun i j hi hj hij => ?_⟩
  have := g.2 i j (Nat.zero_le _) (by omega) (by rw [g.1.len] at hj; exact hj)
  simp only [gN, List.getD_eq_getElem?_getD, List.getElem?_eq_getElem hi, List.getElem?_eq_getElem hj] at this
  exact this

theorem ZQ {d s : List Int} (hl : d.length < 2305843009213693951) (hp : s.Perm d) (hs : s.Pairwise (· ≤ ·)) : gQ d = some s := by
  obtain ⟨d', e, p, q⟩ := ZI hl
  rw [e]
  congr 1
  exact (p.trans hp.symm).eq_of_pairwise (le := (· ≤ ·)) (fun a b _ _ h1 h2 => Int.le_antisymm h1 h2) q hs

end Go.Abs
namespace Go.Abs
open Go
def oL (frm : Int) (l : List aG) (c : List Int) : List Int := l.foldl (fun c e => if frm < e.At then jY e.At c else c) c

def xQ (frm : Int) (l : List aG) (m : List (Int × Int)) : List (Int × Int) := l.foldl (fun m e => if frm < e.At then fB m e.At 1 else m) m

def rU (l : List aG) (frm : Int) : List Int × Int :=
  if !jI l then ([], 2) else if !nV l then ([], 20) else if frm < 0 ∨ 1125899906842624 < frm then ([], 13) else if frm = 1125899906842624 then ([], 0) else (oL frm l [frm], 0)

theorem HA {k v : Int} : ∀ {m : List (Int × Int)}, k ∈ m.map (·.1) → (fB m k v).map (·.1) = m.map (·.1)
  | [], h => by simp at h
  | p :: m, h => by
    by_cases hp : p.1 = k
    · simp [fB, hp]
    · simp only [List.map_cons, List.mem_cons] at h
      rcases h with h | h
      · exact absurd h.symm hp
      · simp only [fB, hp, if_false, List.map_cons, HA h]

theorem SU {k v : Int} {m : List (Int × Int)} (h : k ∉ m.map (·.1)) : (fB m k v).map (·.1) = m.map (·.1) ++ [k] := by
  rw [GC fun p hp e => h (List.mem_map.2 ⟨p, hp, e⟩)]; simp

theorem GF {t : Int} : ∀ {ps : List Int}, t ∉ ps → (jY t ps).Perm (t :: ps)
  | [], _ => List.Perm.refl _
  | p :: r, h => by
    simp only [List.mem_cons, not_or] at h
    unfold jY
    rw [if_neg (fun e => h.1 e.symm)]
    split
    · exact List.Perm.refl _
    · exact (List.Perm.cons p (GF h.2)).trans (List.Perm.swap ..)

theorem DN {frm : Int} : ∀ {l : List aG} {c : List Int} {m : List (Int × Int)}, (∀ e ∈ l, e.At < 1125899906842624) → Inc (frm - 1) c → (m.map (·.1)).Perm c →
    ((xQ frm l m).map (·.1)).Perm (oL frm l c) ∧ Inc (frm - 1) (oL frm l c)
  | [], _, _, _, hi, hp => ⟨hp, hi⟩
  | e :: l, c, m, he, hi, hp => by
    have hl : ∀ e ∈ l, e.At < 1125899906842624 := fun q hq => he q (List.mem_cons_of_mem _ hq)
    by_cases h : frm < e.At
    · have e1 : xQ frm (e :: l) m = xQ frm l (fB m e.At 1) := by simp [xQ, h]
      have e2 : oL frm (e :: l) c = oL frm l (jY e.At c) := by simp [oL, h]
      rw [e1, e2]
      refine DN hl (AT hi (by omega) (he e (by simp))) ?_
      by_cases hm : e.At ∈ m.map (·.1)
      · rw [HA hm, FX hi (hp.mem_iff.1 hm)]; exact hp
      · rw [SU hm]
        exact ((List.perm_append_comm).trans (List.Perm.cons _ hp)).trans (GF fun hc => hm (hp.mem_iff.2 hc)).symm
    · have e1 : xQ frm (e :: l) m = xQ frm l m := by simp [xQ, h]
      have e2 : oL frm (e :: l) c = oL frm l c := by simp [oL, h]
      rw [e1, e2]
      exact DN hl hi hp

theorem DL {frm : Int} : ∀ {l : List aG} {c : List Int}, (oL frm l c).length ≤ c.length + l.length
  | [], c => by simp [oL]
  | e :: l, c => by
    by_cases h : frm < e.At
    · have e2 : oL frm (e :: l) c = oL frm l (jY e.At c) := by simp [oL, h]
      rw [e2]
      have h1 := DL (frm := frm) (l := l) (c := jY e.At c)
      have h2 := IX (t := e.At) (ps := c)
      simp only [List.length_cons]; omega
    · have e2 : oL frm (e :: l) c = oL frm l c := by simp [oL, h]
      rw [e2]
      have h1 := DL (frm := frm) (l := l) (c := c)
      simp only [List.length_cons]; omega

theorem FQ : ∀ {ps : List Int} {last : Int}, Inc last ps → ps.Pairwise (· < ·)
  | [], _, _ => List.Pairwise.nil
  | p :: r, last, h => List.Pairwise.cons (fun x hx => (h.2.above x hx).1) (FQ h.2)

theorem PB {ps : List Int} {last : Int} (h : Inc last ps) : ps.Pairwise (· ≤ ·) := (FQ h).imp fun h => by omega

theorem YQ {frm : Int} {l : List aG} (hl : l.length ≤ 1000000) (m : List (Int × Int)) : lp (fun s : List (Int × Int) × Int => oO frm l ((l.length : Nat) : Int) s.1 s.2) (m, 0) = some (xQ frm l m) := by
  refine yL (l := l) (body := fun s : List (Int × Int) × Int => oO frm l ((l.length : Nat) : Int) s.1 s.2) (fun (s : List (Int × Int)) i => (s, i)) (fun s r => xQ frm r s) (fun _ _ => True) m ?_ ?_ trivial
  · intro i a r s ha _
    left
    obtain ⟨d1, d2, d3, d4⟩ := idx ha (by omega)
    by_cases h : frm < a.At
    · refine ⟨fB s a.At 1, ?_, trivial, by simp [xQ, h]⟩
      simp only [oO, sS, d1, cond_true, aP d2, d3, d4, h, decide_true]
    · refine ⟨s, ?_, trivial, by simp [xQ, h]⟩
      simp only [oO, sS, d1, cond_true, aP d2, d3, d4, h, decide_false, cond_false]
  · intro s _
    simp only [oO, kO, cond_false]; rfl

theorem SC {m : List (Int × Int)} : ∀ {q : List (Int × Int)} {out : List Int}, out.length + q.length ≤ 1000000 → dO (fun (s : List Int) (x : Int × Int) => sR m s x.1 x.2) out q = some (out ++ q.map (·.1))
  | [], out, _ => by simp [dO]
  | x :: q, out, h => by
    simp only [List.length_cons] at h
    have e1 : sR m out x.1 x.2 = some (out ++ [x.1]) := by
      unfold sR
      rw [aP (by simp only [List.length_cons, List.length_nil]; omega)]
    simp only [dO, e1, Option.bind_some]
    rw [SC (by simp only [List.length_append, List.length_cons, List.length_nil]; omega)]
    simp

theorem YG {l : List aG} (hl : okL l) (frm : Int) : xL l frm = some (rU l frm) := by
  unfold xL rU
  rw [BV hl, Option.bind_some]
  cases hm : jI l with
  | false => simp
  | true =>
    simp only [Bool.not_true, cond_false, Bool.false_eq_true, if_false, DQ hl, Option.bind_some]
    cases ht : nV l with
    | false => simp
    | true =>
      simp only [Bool.not_true, cond_false, Bool.false_eq_true, if_false]
      by_cases h1 : frm < 0 ∨ 1125899906842624 < frm
      · have : (decide (frm < 0) || decide (1125899906842624 < frm)) = true := by simpa using h1
        rw [this, cond_true, if_pos h1]
      · have : (decide (frm < 0) || decide (1125899906842624 < frm)) = false := by simpa using h1
        rw [this, cond_false, if_neg h1]
        by_cases h2 : frm = 1125899906842624
        · simp [h2]
        · rw [decide_eq_false h2, cond_false, if_neg h2]
          have hn := (mR hm).1
          have hat : ∀ e ∈ l, e.At < 1125899906842624 := fun e he => (wT hm he).2.2.1
          obtain ⟨p1, p2⟩ := DN (frm := frm) (l := l) (c := [frm]) (m := [(frm, 1)]) hat ⟨⟨by omega, by omega⟩, trivial⟩ (List.Perm.refl _)
          have hcl := DL (frm := frm) (l := l) (c := [frm])
          have hsl : (xQ frm l [(frm, 1)]).length = (oL frm l [frm]).length := by have := p1.length_eq; simpa using this
          simp only [List.length_cons, List.length_nil] at hcl
          have e0 : fB ([] : List (Int × Int)) frm 1 = [(frm, 1)] := rfl
          rw [e0]
          unfold zC
          rw [YQ (by omega), Option.bind_some]
          unfold wE
          rw [aP (by omega)]
          unfold zG
          refine HZ fun q hq => ?_
          rw [SC (by have := hq.length_eq; simp only [List.length_nil]; omega), Option.bind_some, List.nil_append]
          unfold zM yS
          have hp : (oL frm l [frm]).Perm (q.map (·.1)) := ((hq.map (·.1)).trans p1).symm
          rw [ZQ (s := oL frm l [frm]) (by have := hp.length_eq; omega) hp (PB p2)]
          rfl

theorem WW {l : List aG} {frm : Int} (h : (rU l frm).2 = 0) : jI l = true ∧ nV l = true ∧ 0 ≤ frm ∧ ((frm = 1125899906842624 ∧ (rU l frm).1 = []) ∨ (frm < 1125899906842624 ∧ (rU l frm).1 = oL frm l [frm])) := by
  unfold rU at h ⊢
  cases hm : jI l with
  | false => simp [hm] at h
  | true =>
    cases ht : nV l with
    | false => simp [hm, ht] at h
    | true =>
      by_cases h1 : frm < 0 ∨ 1125899906842624 < frm
      · simp [hm, ht, h1] at h
      · by_cases h2 : frm = 1125899906842624
        · subst h2; simp
        · simp only [hm, ht, h1, h2, Bool.not_true, Bool.false_eq_true, if_false, true_and, false_and, false_or, and_true]
          omega

theorem aBq {l : List aG} {frm : Int} (h : (rU l frm).2 ≠ 0) : (rU l frm).1 = [] := by
  unfold rU at h ⊢
  split
  · rfl
  · split
    · rfl
    · split
      · rfl
      · split
        · rfl
        · rename_i h1 h2 h3 h4; simp [h1, h2, h3, h4] at h

theorem aBU {l : List aG} {frm : Int} : Inc (frm - 1) (rU l frm).1 ∧ (rU l frm).1.length ≤ 4097 := by
  by_cases h : (rU l frm).2 = 0
  · obtain ⟨hm, _, _, ⟨_, h2⟩ | ⟨h1, h2⟩⟩ := WW h
    · rw [h2]; exact ⟨trivial, by simp⟩
    · rw [h2]
      refine ⟨(DN (frm := frm) (l := l) (c := [frm]) (m := [(frm, 1)]) (fun e he => (wT hm he).2.2.1) ⟨⟨by omega, h1⟩, trivial⟩ (List.Perm.refl _)).2, ?_⟩
      have h4 := (mR hm).1
      have h3 := DL (frm := frm) (l := l) (c := [frm])
      simp only [List.length_cons, List.length_nil] at h3
      omega
  · rw [aBq h]; exact ⟨trivial, by simp⟩

end Go.Abs
namespace Go.Abs
open Go
def tW (t : Int) (gs : List (List aI × List aC)) : List bG := gs.filterMap fun g => if 0 < val g.2 t then some ⟨g.1, val g.2 t⟩ else none

def xC (al : Int → List bG) : List Int → List aN
  | [] => []
  | t :: cs => (if al t = [] then [] else [⟨⟨t, cs.headD 1125899906842624⟩, al t⟩]) ++ xC al cs

def aFf (x : List aN) : List aN × Int := if 1024 < x.length then ([], 7) else (x, 0)

def VT (l : List aG) (frm : Int) : List aN × Int := if (rU l frm).2 ≠ 0 then ([], (rU l frm).2) else aFf (xC (fun t => tW t (groups l)) (rU l frm).1)

theorem XQ (t : Int) (g : List aI × List aC) (gs : List (List aI × List aC)) : tW t (g :: gs) = (if 0 < val g.2 t then [⟨g.1, val g.2 t⟩] else []) ++ tW t gs := by
  unfold tW
  rw [List.filterMap_cons]
  by_cases h : 0 < val g.2 t <;> simp [h]

theorem EA {r : List aI} (h : r.length ≤ 4398046510976) : fS r = some r := by
  unfold fS
  rw [aP (by omega)]

theorem VS {gs : List (List aI × List aC)} (hg : ∀ g ∈ gs, fI g.2 = true ∧ g.1.length ≤ 4398046510976) (hn : gs.length ≤ 1000000) (t : Int) : sI t (gs.map fun g => ⟨g.1, g.2⟩) = some (tW t gs) := by
  unfold sI vA
  rw [List.length_map]
  have key := yL (l := gs) (body := fun s : List bG × Int => nB t (gs.map fun g => ⟨g.1, g.2⟩) ((gs.length : Nat) : Int) s.1 s.2) (fun (s : List bG) i => (s, i)) (fun s r => s ++ tW t r)
    (fun s r => s.length + r.length ≤ 1000000 ∧ ∀ g ∈ r, fI g.2 = true ∧ g.1.length ≤ 4398046510976) [] ?_ ?_ ⟨by simpa using hn, hg⟩
  · rw [key]; rfl
  · rintro i a r s ha ⟨hs, hr⟩
    left
    simp only [List.length_cons] at hs
    have ha' : (gs.map fun g => (⟨g.1, g.2⟩ : cB))[i]? = some ⟨a.1, a.2⟩ := by rw [List.getElem?_map, ha]; rfl
    obtain ⟨d1, d2, d3, d4⟩ := idx ha' (by rw [List.length_map]; omega)
    rw [List.length_map] at d1
    obtain ⟨m1, m2⟩ := hr a (by simp)
    have hr' : ∀ g ∈ r, fI g.2 = true ∧ g.1.length ≤ 4398046510976 := fun g hg => hr g (by simp [hg])
    rw [XQ]
    by_cases h : 0 < val a.2 t
    · refine ⟨s ++ [⟨a.1, val a.2 t⟩], ?_, ⟨by simp only [List.length_append, List.length_cons, List.length_nil]; omega, hr'⟩, by simp [h]⟩
      simp only [nB, oS, d1, cond_true, aP d2, d3, d4, aAJ, m1, if_true, Option.bind_some, h, decide_true, EA m2]
      rw [aP (by simp only [List.length_cons, List.length_nil]; omega)]
    · refine ⟨s, ?_, ⟨by omega, hr'⟩, by simp [h]⟩
      simp only [nB, oS, d1, cond_true, aP d2, d3, d4, aAJ, m1, if_true, Option.bind_some, h, decide_false, cond_false]
  · rintro s _
    simp only [nB, kO, cond_false]
    simp [tW]

theorem aDA {cs r : List Int} {t : Int} {i : Nat} (hd : cs.drop i = t :: r) (d : Int) : (cs[i + 1]?).getD d = r.headD d := by
  have := (drop_cons hd).2
  rw [← List.head?_drop, this]
  cases r <;> rfl

theorem VQ {cuts : List Int} {gs : List (List aI × List aC)} (hc : cuts.length ≤ 1000000) (hg : ∀ g ∈ gs, fI g.2 = true ∧ g.1.length ≤ 4398046510976) (hn : gs.length ≤ 1000000) :
    lp (fun s : List aN × Int => nQ cuts (gs.map fun g => ⟨g.1, g.2⟩) cuts ((cuts.length : Nat) : Int) s.1 s.2) ([], 0) = some (if 1024 < (xC (fun t => tW t gs) cuts).length then .inr ([], 7) else .inl (xC (fun t => tW t gs) cuts)) := by
  let al := fun t => tW t gs
  have key : ∀ (r : List Int) (k : Nat) (s : List aN), cuts.drop k = r → k ≤ cuts.length → s.length ≤ 1024 →
      lp (fun s : List aN × Int => nQ cuts (gs.map fun g => ⟨g.1, g.2⟩) cuts ((cuts.length : Nat) : Int) s.1 s.2) (s, (k : Int)) = some (if 1024 < (s ++ xC al r).length then .inr ([], 7) else .inl (s ++ xC al r)) := by
    intro r
    induction r with
    | nil =>
      intro k s hd hk hs
      have : k = cuts.length := by
        have := congrArg List.length hd
        simp only [List.length_drop, List.length_nil] at this; omega
      subst this
      refine cV ?_
      simp only [nQ, kO, cond_false, xC, List.append_nil]
      rw [if_neg (by omega)]
    | cons t r ih =>
      intro k s hd hk hs
      obtain ⟨h1, h2⟩ := drop_cons hd
      obtain ⟨d1, d2, d3, d4⟩ := idx h1 (by omega)
      have hlt : k < cuts.length := (List.getElem?_eq_some_iff.1 h1).1
      have hb : nQ cuts (gs.map fun g => ⟨g.1, g.2⟩) cuts ((cuts.length : Nat) : Int) s (k : Int) =
          some (if al t = [] then .inl (s, ((k + 1 : Nat) : Int)) else if s.length = 1024 then .inr (.inr ([], 7)) else .inl (s ++ [⟨⟨t, r.headD 1125899906842624⟩, al t⟩], ((k + 1 : Nat) : Int))) := by
        simp only [nQ, uD, uK, d1, cond_true, aP d2, d3, d4, VS hg hn, Option.bind_some]
        by_cases ha : tW t gs = []
        · simp [al, ha]
        · have ha1 : decide (((tW t gs).length : Int) = 0) = false := by
            rw [decide_eq_false_iff_not]; intro e
            exact ha (List.length_eq_zero_iff.1 (by omega))
          rw [ha1, cond_false, if_neg (show ¬ al t = [] from ha)]
          by_cases hs1 : s.length = 1024
          · rw [if_pos hs1, decide_eq_true (by omega), cond_true]
          · rw [if_neg hs1, decide_eq_false (by omega), cond_false]
            have hh := aDA hd 1125899906842624
            by_cases hk1 : k + 1 < cuts.length
            · rw [decide_eq_true (by omega), cond_true, aP (by omega), aP (by simp only [List.length_cons, List.length_nil]; omega)]
              have : List.getD cuts (Int.toNat ((k + 1 : Nat) : Int)) default = r.headD 1125899906842624 := by
                rw [← hh, Int.toNat_natCast, List.getD_eq_getElem?_getD, List.getElem?_eq_getElem hk1]; rfl
              rw [this]
            · rw [decide_eq_false (by omega), cond_false, aP (by simp only [List.length_cons, List.length_nil]; omega)]
              have : r.headD 1125899906842624 = 1125899906842624 := by
                rw [← hh, List.getElem?_eq_none (by omega)]; rfl
              rw [this]
      by_cases ha : al t = []
      · rw [if_pos ha] at hb
        rw [fO hb, ih (k + 1) s h2 (by omega) hs]
        simp [xC, ha]
      · rw [if_neg ha] at hb
        by_cases hs1 : s.length = 1024
        · rw [if_pos hs1] at hb
          rw [cV hb, if_pos]
          simp [xC, ha]; omega
        · rw [if_neg hs1] at hb
          rw [fO hb, ih (k + 1) _ h2 (by omega) (by simp only [List.length_append, List.length_cons, List.length_nil]; omega)]
          simp [xC, ha]
  exact key cuts 0 [] rfl (by omega) (by simp)

theorem MU (c0 : List Int) (c : List aG) : ∀ (gs : List (List aI × List aC)) (out : List cB), out.length + gs.length ≤ 1000000 →
    itG (fun st t29 t30 => rnd (fun (s : List cB) => nT c0 c s t29 t30) st) gs (.inl out : List cB ⊕ List cB) = some (.inl (out ++ gs.map fun g => ⟨g.1, g.2⟩))
  | [], out, _ => by simp [itG]
  | g :: gs, out, h => by
    simp only [List.length_cons] at h
    have e1 : nT c0 c out g.1 g.2 = some (.inl (out ++ [⟨g.1, g.2⟩])) := by
      unfold nT
      rw [aP (by simp only [List.length_cons, List.length_nil]; omega)]
    have e2 : rnd (fun (s : List cB) => nT c0 c s g.1 g.2) (.inl out : List cB ⊕ List cB) = some (.inl (out ++ [⟨g.1, g.2⟩]), true) := by
      simp only [rnd, e1, Option.bind_some]; rfl
    unfold itG
    rw [e2]
    simp only [Option.bind_some, if_true]
    rw [MU c0 c gs _ (by simp only [List.length_append, List.length_cons, List.length_nil]; omega)]
    simp

theorem aAU {l : List aG} (hl : okL l) (hm : jI l = true) : (∀ g ∈ groups l, fI g.2 = true ∧ g.1.length ≤ 4398046510976) ∧ (groups l).length ≤ 4096 := by
  obtain ⟨h1, h2, _⟩ := mR hm
  exact ⟨fun g hg => ⟨(h2 g hg).2, DJ hl hg⟩, by have := NP l; omega⟩

theorem WU {l : List aG} (hl : okL l) (frm : Int) : wD l frm = some (VT l frm) := by
  unfold wD VT
  rw [YG hl, Option.bind_some]
  by_cases h : (rU l frm).2 = 0
  · rw [if_neg (by simpa using h), decide_eq_true h, Bool.not_true, cond_false]
    have hm := (WW h).1
    obtain ⟨g1, g2⟩ := aAU hl hm
    have hc := (aBU (l := l) (frm := frm)).2
    unfold qW
    rw [Option.bind_some]
    unfold xS
    rw [MF hl (s' := .inl ([] ++ (groups l).map fun g => (⟨g.1, g.2⟩ : cB))) (by rw [hm, if_pos rfl]; exact MU _ _ _ _ (by simp; omega)), Option.bind_some, Sum.elim_inl, List.nil_append]
    unfold uI
    rw [VQ (by omega) g1 (by omega)]
    unfold aFf
    split <;> rfl
  · rw [if_pos h, decide_eq_false h]; rfl

end Go.Abs
namespace Go.Abs
open Go
def iX (hop n : Int) : Int := if n < 0 then 0 else (n / hop + 1) * hop

def AA (size hop : Int) : Bool := (((decide ((1 : Int) ≤ size)) && (decide (size ≤ (1099511627776 : Int)))) && (decide ((1 : Int) ≤ hop))) && (decide (hop ≤ (1099511627776 : Int)))

def qR (t : Int) : Bool := (decide ((0 : Int) ≤ t)) && (decide (t ≤ (1125899906842624 : Int)))

def JZ (size hop t : Int) : Int × Int :=
  if !AA size hop then (0, 2) else if !qR t then (0, 13) else if t = 1125899906842624 then (1125899906842624, 0) else (min (iX hop (t - size)) 1125899906842624, 0)

theorem HY {size hop : Int} (h : AA size hop = true) : 1 ≤ size ∧ size ≤ 1099511627776 ∧ 1 ≤ hop ∧ hop ≤ 1099511627776 := by
  simp only [AA, Bool.and_eq_true, decide_eq_true_eq] at h; omega

theorem BL {t : Int} (h : qR t = true) : 0 ≤ t ∧ t ≤ 1125899906842624 := by
  simp only [qR, Bool.and_eq_true, decide_eq_true_eq] at h; omega

theorem aDq {n hop : Int} (h : 0 ≤ n) : Int.tdiv n hop = n / hop := Int.tdiv_eq_ediv_of_nonneg h

theorem JI {n hop : Int} (hh : 1 ≤ hop) : n / hop * hop ≤ n ∧ n < (n / hop + 1) * hop := by
  have h1 := Int.mul_ediv_add_emod n hop
  have h2 := Int.emod_nonneg n (show hop ≠ 0 by omega)
  have h3 := Int.emod_lt_of_pos n (show 0 < hop by omega)
  rw [Int.add_mul, Int.mul_comm (n / hop) hop]
  omega

theorem sP {hop n : Int} (hh : 1 ≤ hop) : 0 ≤ iX hop n ∧ n < iX hop n ∧ (0 ≤ n → iX hop n ≤ n + hop) ∧ (n < 0 → iX hop n = 0) ∧ ∃ k : Int, iX hop n = k * hop := by
  unfold iX
  split
  · exact ⟨Int.le_refl _, by omega, by omega, fun _ => rfl, 0, by simp⟩
  · rename_i h
    have := JI (n := n) hh
    rw [Int.add_mul] at this ⊢
    refine ⟨by omega, by omega, by omega, by omega, n / hop + 1, by rw [Int.add_mul]⟩

theorem JK {hop n : Int} (h1 : 1 ≤ hop) (h2 : hop ≤ 1099511627776) (h3 : n ≤ 4503599627370496) : qC hop n = some (iX hop n) := by
  unfold qC
  by_cases hn : n < 0
  · simp [hn, iX]
  · have hn0 : 0 ≤ n := by omega
    have hm : Int.tmod n hop = n % hop := Int.tmod_eq_emod_of_nonneg hn0
    have hr : ¬ n % hop < 0 := by have := Int.emod_nonneg n (show hop ≠ 0 by omega); omega
    have hd0 : 0 ≤ n / hop := Int.ediv_nonneg hn0 (by omega)
    have hd1 : n / hop ≤ n := Int.ediv_le_self _ hn0
    have hf := JI (n := n) h1
    have e1 : wR (Int.tdiv n hop) = n / hop := by rw [aDq hn0]; exact cT (by omega) (by omega)
    have e2 : IntKind.i64.wrap (n / hop + 1) = n / hop + 1 := cT (by omega) (by omega)
    have e3 : IntKind.i64.wrap ((n / hop + 1) * hop) = (n / hop + 1) * hop := cT (by omega) (by rw [Int.add_mul]; omega)
    have e0 : xF n hop = some (n / hop, n % hop, 0) := by
      unfold xF
      have hb : decide (hop < 1) = false := by simp; omega
      rw [hb, cond_false, aP (by omega), aP (by omega), hm, decide_eq_false hr, cond_false]
      unfold vV
      rw [show IntKind.i64.wrap (Int.tdiv n hop) = n / hop from e1]
    have hb : decide (n < (0 : Int)) = false := decide_eq_false hn
    rw [hb, cond_false, e0]
    simp only [Option.bind_some, e2, e3, iX, if_neg hn]

theorem aEn {size hop t : Int} : zJ size hop t = some (JZ size hop t) := by
  unfold zJ JZ
  simp only [yO, tI, Option.bind_some]
  rw [show ((((decide ((1 : Int) ≤ size)) && (decide (size ≤ (1099511627776 : Int)))) && (decide ((1 : Int) ≤ hop))) && (decide (hop ≤ (1099511627776 : Int)))) = AA size hop from rfl, show ((decide ((0 : Int) ≤ t)) && (decide (t ≤ (1125899906842624 : Int)))) = qR t from rfl]
  cases hm : AA size hop with
  | false => rfl
  | true =>
    cases ht : qR t with
    | false => rfl
    | true =>
      have hm' := HY hm; have ht' := BL ht
      by_cases hf : t = 1125899906842624
      · simp [hf]
      · have e1 : IntKind.i64.wrap (t - size) = t - size := cT (by omega) (by omega)
        simp only [Bool.not_true, cond_false, decide_eq_false hf, Bool.false_eq_true, if_false, if_neg hf, e1]
        rw [JK hm'.2.2.1 hm'.2.2.2 (by omega)]
        simp only [Option.bind_some]
        have : (if (1125899906842624 : Int) < iX hop (t - size) then (1125899906842624 : Int) else iX hop (t - size)) = min (iX hop (t - size)) 1125899906842624 := by
          rw [Int.min_def]; split <;> split <;> omega
        rw [this]

def aDT (hop : Int) : Nat → Int → List Int
  | 0, _ => []
  | n + 1, t => t :: aDT hop n (t + hop)

def CF (hop t b : Int) : List Int := aDT hop ((b - t + hop - 1) / hop).toNat t

theorem LA {hop t b : Int} (hh : 1 ≤ hop) (h : b ≤ t) : CF hop t b = [] := by
  unfold CF
  have : (b - t + hop - 1) / hop ≤ 0 := by
    have h1 : b - t + hop - 1 < 1 * hop := by omega
    have := Int.ediv_lt_of_lt_mul (by omega) h1
    omega
  rw [show ((b - t + hop - 1) / hop).toNat = 0 by omega]; rfl

theorem IY {hop t b : Int} (hh : 1 ≤ hop) (h : t < b) : CF hop t b = t :: CF hop (t + hop) b := by
  unfold CF
  have h1 : (b - t + hop - 1) / hop = (b - (t + hop) + hop - 1) / hop + 1 := by
    rw [show b - t + hop - 1 = (b - (t + hop) + hop - 1) + hop by omega, Int.add_ediv_of_dvd_right (Int.dvd_refl hop), Int.ediv_self (by omega)]
  have h2 : 0 ≤ (b - (t + hop) + hop - 1) / hop := Int.ediv_nonneg (by omega) (by omega)
  rw [h1, show ((b - (t + hop) + hop - 1) / hop + 1).toNat = ((b - (t + hop) + hop - 1) / hop).toNat + 1 by omega]
  rfl

theorem LC {hop b : Int} (hh : 1 ≤ hop) {C : Int → Prop} (h0 : ∀ t, b ≤ t → C t) (h1 : ∀ t, t < b → C (t + hop) → C t) (t : Int) : C t := by
  generalize hn : (b - t).toNat = n
  induction n using Nat.strongRecOn generalizing t with
  | ind n ih =>
    by_cases h : t < b
    · exact h1 t h (ih (b - (t + hop)).toNat (by omega) _ rfl)
    · exact h0 t (by omega)

theorem UW {hop b x : Int} (hh : 1 ≤ hop) : ∀ t, x ∈ CF hop t b ↔ ∃ k : Nat, x = t + k * hop ∧ x < b := by
  refine LC hh (b := b) (fun t h => ?_) (fun t h ih => ?_)
  · rw [LA hh h]
    simp only [List.not_mem_nil, false_iff, not_exists, not_and]
    intro k hk
    have : 0 ≤ (k : Int) * hop := Int.mul_nonneg (by omega) (by omega)
    omega
  · rw [IY hh h, List.mem_cons, ih]
    constructor
    · rintro (rfl | ⟨k, rfl, hk⟩)
      · exact ⟨0, by simp, h⟩
      · refine ⟨k + 1, ?_, hk⟩
        rw [Int.natCast_add, Int.add_mul]; omega
    · rintro ⟨k, hk1, hk2⟩
      match k with
      | 0 => left; simpa using hk1
      | k + 1 =>
        right
        refine ⟨k, ?_, hk2⟩
        rw [Int.natCast_add, Int.add_mul] at hk1; omega

theorem aBV {hop b : Int} (hh : 1 ≤ hop) : ∀ t, (CF hop t b).Pairwise (· < ·) ∧ ∀ x ∈ CF hop t b, t ≤ x := by
  refine LC hh (b := b) (fun t h => ?_) (fun t h ih => ?_)
  · rw [LA hh h]; simp
  · rw [IY hh h]
    refine ⟨List.pairwise_cons.2 ⟨fun x hx => ?_, ih.1⟩, fun x hx => ?_⟩
    · have := ih.2 x hx; omega
    · rcases List.mem_cons.1 hx with rfl | hx
      · exact Int.le_refl _
      · have := ih.2 x hx; omega

def xZ {σ α : Type} (y : σ → α → Option (σ × Bool)) : List α → σ → Option σ
  | [], s => some s
  | a :: r, s => (y s a).bind fun x => if x.2 then xZ y r x.1 else some x.1

def uG (size hop frm : Int) (s : bI) : Int := max (iX hop (s.From - size)) (iX hop (frm - 1))

def vX (front : Int) (s : bI) : Int := min (min s.To front) 1125899906842624

def sM (size hop frm front : Int) (s : bI) : List Int := CF hop (uG size hop frm s) (vX front s)

structure OkH (size hop frm front : Int) : Prop where
  s0 : 1 ≤ size
  s1 : size ≤ 1099511627776
  h0 : 1 ≤ hop
  h1 : hop ≤ 1099511627776
  f0 : 0 ≤ frm
  f1 : frm ≤ 1125899906842624
  r0 : 0 ≤ front
  r1 : front ≤ 1125899906842624

theorem VG {σ : Type} {y : σ → Int → Option (σ × Bool)} {hop front : Int} {sp : bI} (hh : 1 ≤ hop) (hh1 : hop ≤ 1099511627776) : ∀ (t : Int) (s s' : σ), 0 ≤ t → xZ y (CF hop t (vX front sp)) s = some s' → pM y s hop sp front t = some s' := by
  have main : ∀ (t : Int), ∀ (s s' : σ), 0 ≤ t → xZ y (CF hop t (vX front sp)) s = some s' → ∃ x, lp (fun s => jT y hop sp front s.1 s.2) (s, t) = some x ∧ Sum.elim id id x = s' := by
    have hbe : (if (1125899906842624 : Int) < (if front < sp.To then front else sp.To) then (1125899906842624 : Int) else (if front < sp.To then front else sp.To)) = vX front sp := by
      unfold vX; simp only [Int.min_def]; split <;> split <;> split <;> split <;> omega
    refine LC hh (b := vX front sp) (fun t h s s' ht hi => ?_) (fun t h ih s s' ht hi => ?_)
    · rw [LA hh h] at hi
      simp only [xZ, Option.some.injEq] at hi
      refine ⟨.inl s, cV ?_, hi⟩
      show jT _ _ _ _ _ _ = _
      simp only [jT, hbe]
      rw [decide_eq_false (by omega), cond_false]
    · rw [IY hh h] at hi
      simp only [xZ] at hi
      obtain ⟨x, hx, hi⟩ := aW hi
      have hb1 : vX front sp ≤ 1125899906842624 := Int.min_le_right _ _
      have hw : IntKind.i64.wrap (t + hop) = t + hop := cT (by omega) (by omega)
      have hb : (fun s : σ × Int => jT y hop sp front s.1 s.2) (s, t) = some (if x.2 then .inl (x.1, t + hop) else .inr (.inr x.1)) := by
        show jT _ _ _ _ _ _ = _
        simp only [jT, hbe]
        rw [decide_eq_true h, cond_true, hx]
        simp only [Option.bind_some, hw]
        cases x.2 <;> rfl
      cases hx2 : x.2
      · rw [hx2] at hb hi
        simp only [Bool.false_eq_true, if_false, Option.some.injEq] at hb hi
        exact ⟨_, cV hb, hi⟩
      · rw [hx2] at hb hi
        simp only [if_true] at hb hi
        obtain ⟨z, hz1, hz2⟩ := ih x.1 s' (by omega) hi
        exact ⟨z, by rw [fO hb]; exact hz1, hz2⟩
  intro t s s' ht hi
  obtain ⟨x, h1, h2⟩ := main t s s' ht hi
  unfold pM
  rw [h1]
  cases x <;> simpa using h2

theorem aAj {σ : Type} {y : σ → Int → Option (σ × Bool)} {size hop frm front : Int} {sp : bI} (ok : OkH size hop frm front) (h1 : -1 ≤ sp.From) (h2 : sp.From ≤ 1125899906842624) {s s' : σ} (h : xZ y (sM size hop frm front sp) s = some s') :
    qG y hop sp size frm front s = some s' := by
  obtain ⟨a1, a2, a3, a4, a5, a6, a7, a8⟩ := ok
  unfold qG
  have w1 : IntKind.i64.wrap (sp.From - size) = sp.From - size := cT (by omega) (by omega)
  have w2 : IntKind.i64.wrap (frm - 1) = frm - 1 := cT (by omega) (by omega)
  rw [w1, w2, JK a3 a4 (by omega), JK a3 a4 (by omega)]
  simp only [Option.bind_some]
  have e : (if iX hop (frm - 1) > iX hop (sp.From - size) then iX hop (frm - 1) else iX hop (sp.From - size)) = uG size hop frm sp := by
    unfold uG; rw [Int.max_def]; split <;> split <;> omega
  rw [e]
  refine VG a3 a4 _ _ _ ?_ h
  have := (sP (n := sp.From - size) a3).1
  unfold uG; omega

end Go.Abs
namespace Go.Abs
open Go
def TI : aI := ⟨1, 1, ByteArray.empty⟩

end Go.Abs
namespace Go.Abs
open Go
def oU (e : aG) : Bool := decide (0 < e.Net) && decide (-1 < e.At)

def dW (l : List aG) : List Int := (l.filter oU).foldl (fun c e => jY e.At c) []

theorem NI {S : Type} {body : S → aG → Option (S ⊕ S)} {l : List aG} (hl : l.length ≤ 1000000) (f : S → aG → S) (Inv : S → List aG → Prop)
    (h : ∀ s e r, Inv s (e :: r) → (oU e = true → body s e = some (.inl (f s e)) ∧ Inv (f s e) r) ∧ (oU e = false → Inv s r)) {s : S} (hi : Inv s l) :
    mQ (fun st e => rnd (fun s => body s e) st) l (.inl s : S ⊕ S) = some (.inl ((l.filter oU).foldl f s)) := by
  unfold mQ qO
  rw [yL (l := l) (body := fun s : (S ⊕ S) × Int => kT (fun st e => rnd (fun s => body s e) st) l ((l.length : Nat) : Int) s.1 s.2) (fun (s : S) i => (.inl s, i)) (fun s r => .inl (.inl ((r.filter oU).foldl f s))) Inv s ?_ ?_ hi]
  · rfl
  · intro i e r s he hI
    left
    obtain ⟨d1, d2, d3, d4⟩ := idx he (by omega)
    obtain ⟨h1, h2⟩ := h s e r hI
    cases hr : oU e with
    | true =>
      obtain ⟨b1, b2⟩ := h1 hr
      refine ⟨f s e, ?_, b2, by simp [hr]⟩
      have hc : (decide (0 < e.Net) && decide (-1 < e.At)) = true := hr
      simp only [kT, d1, cond_true, aP d2, d3, d4, hc, AX, rnd, b1, Option.bind_some, Bool.true_and]
      rfl
    | false =>
      refine ⟨s, ?_, h2 hr, by simp [hr]⟩
      have hc : (decide (0 < e.Net) && decide (-1 < e.At)) = false := hr
      simp only [kT, d1, cond_true, aP d2, d3, d4, hc, AX, cond_false, Option.bind_some, Bool.false_and]
  · intro s _
    simp only [kT, kO, cond_false]
    rfl

theorem JF : ∀ {a b : List Int}, a.Pairwise (· < ·) → b.Pairwise (· < ·) → (∀ x, x ∈ a ↔ x ∈ b) → a = b
  | [], [], _, _, _ => rfl
  | [], y :: b, _, _, h => by have := (h y).2 (by simp); simp at this
  | x :: a, [], _, _, h => by have := (h x).1 (by simp); simp at this
  | x :: a, y :: b, ha, hb, h => by
    obtain ⟨a1, a2⟩ := List.pairwise_cons.1 ha
    obtain ⟨b1, b2⟩ := List.pairwise_cons.1 hb
    have hxy : x = y := by
      rcases List.mem_cons.1 ((h x).1 (by simp)) with h1 | h1
      · exact h1
      · rcases List.mem_cons.1 ((h y).2 (by simp)) with h2 | h2
        · exact h2.symm
        · have := a1 y h2; have := b1 x h1; omega
    subst hxy
    rw [JF a2 b2 fun z => ?_]
    constructor
    · intro hz
      rcases List.mem_cons.1 ((h z).1 (by simp [hz])) with h1 | h1
      · have := a1 z hz; omega
      · exact h1
    · intro hz
      rcases List.mem_cons.1 ((h z).2 (by simp [hz])) with h1 | h1
      · have := b1 z hz; omega
      · exact h1

theorem NU {d : List Int} (hd : d.Pairwise (· ≤ ·)) {i j : Nat} (hij : i ≤ j) (hj : j < d.length) : d.getD i 0 ≤ d.getD j 0 := by
  rw [List.getD_eq_getElem?_getD, List.getD_eq_getElem?_getD, List.getElem?_eq_getElem (by omega), List.getElem?_eq_getElem hj]
  rcases Nat.lt_or_ge i j with h | h
  · exact List.pairwise_iff_getElem.1 hd i j (by omega) hj h
  · have : i = j := by omega
    subst this; exact Int.le_refl _

theorem HV {d : List Int} {p : Nat} (hp : p < d.length) : d.take (p + 1) = d.take p ++ [d.getD p 0] := by
  rw [List.take_add_one, List.getElem?_eq_getElem hp, List.getD_eq_getElem?_getD, List.getElem?_eq_getElem hp]; rfl

theorem YR {d : List Int} (hd : d.Pairwise (· ≤ ·)) {p : Nat} (hp : p < d.length) {x : Int} (hx : x ∈ d.take (p + 1)) : x ≤ d.getD p 0 := by
  obtain ⟨i, hi⟩ := List.getElem?_of_mem hx
  rw [List.getElem?_take] at hi
  split at hi
  · rename_i hlt
    have := NU hd (i := i) (j := p) (by omega) hp
    rw [List.getD_eq_getElem?_getD (i := i), hi] at this
    exact this
  · cases hi

def Kept (d c : List Int) (p : Nat) : Prop := c.Pairwise (· < ·) ∧ ∀ x, x ∈ c ↔ x ∈ d.take p

theorem Kept.same {d c : List Int} {p : Nat} (h : Kept d c p) (h0 : 0 < p) (hp : p < d.length) (e : d.getD p 0 = d.getD (p - 1) 0) : Kept d c (p + 1) := by
  refine ⟨h.1, fun x => ?_⟩
  rw [h.2 x, HV hp, List.mem_append]
  constructor
  · exact .inl
  · rintro (h1 | h1)
    · exact h1
    · rw [List.mem_singleton.1 h1, e]
      have : p - 1 < p := by omega
      refine List.mem_of_getElem? (i := p - 1) ?_
      rw [List.getElem?_take, if_pos this, List.getD_eq_getElem?_getD, List.getElem?_eq_getElem (by omega)]; rfl

theorem Kept.more {d c : List Int} {p : Nat} (hd : d.Pairwise (· ≤ ·)) (h : Kept d c p) (h0 : 0 < p) (hp : p < d.length) (e : d.getD p 0 ≠ d.getD (p - 1) 0) : Kept d (c ++ [d.getD p 0]) (p + 1) := by
  have hle := NU hd (i := p - 1) (j := p) (by omega) hp
  refine ⟨?_, fun x => by rw [HV hp, List.mem_append, List.mem_append, h.2 x]⟩
  rw [List.pairwise_append]
  refine ⟨h.1, by simp, fun a ha b hb => ?_⟩
  rw [List.mem_singleton.1 hb]
  have ha' := (h.2 a).1 ha
  have : a ≤ d.getD (p - 1) 0 := by
    refine YR hd (by omega) ?_
    rwa [show p - 1 + 1 = p by omega]
  omega

theorem tA (d : List Int) (i : Nat) : d.getD i default = d.getD i 0 := rfl

theorem UQ {d : List Int} (hd : d.Pairwise (· ≤ ·)) (hl : d.length ≤ 1000000) {k : Nat} (hk0 : 0 < k) (hk : k < d.length) {c : List Int} (hc : Kept d c (k + 1)) (hck : c = d.take k) :
    ∃ r, lp (fun s : List Int × Int × Int => fR (0 + Int.toNat ((k : Nat) : Int)) (d.length - Int.toNat ((k : Nat) : Int)) s.1 s.2.1 s.2.2) (d, ((k : Nat) : Int), 1) = some r ∧
      ∃ c' k3 : Nat → Nat, True ∧ ∃ (cc : List Int) (m : Nat), r.2 = ((m : Nat) : Int) ∧ r.1.length = d.length ∧ m ≤ d.length ∧ r.1.take m = cc ∧ Kept d cc d.length := by
  have key := XJ (body := fun s : List Int × Int × Int => fR (0 + Int.toNat ((k : Nat) : Int)) (d.length - Int.toNat ((k : Nat) : Int)) s.1 s.2.1 s.2.2)
    (I := fun s => ∃ (k2 m : Nat), s.2.2 = ((k2 : Nat) : Int) ∧ s.2.1 = ((m : Nat) : Int) ∧ 0 < k2 ∧ k + k2 ≤ d.length ∧ s.1.length = d.length ∧ m + 1 ≤ k + k2 ∧ (∀ j, m ≤ j → s.1[j]? = d[j]?) ∧ Kept d (s.1.take m) (k + k2))
    (m := fun s => d.length + 1 - s.2.2.toNat) (Post := fun r => ∃ m : Nat, r.2 = ((m : Nat) : Int) ∧ r.1.length = d.length ∧ m ≤ d.length ∧ Kept d (r.1.take m) d.length) ?_ (s := (d, ((k : Nat) : Int), 1)) ?_
  · obtain ⟨r, h1, m, h2, h3, h4, h5⟩ := key
    exact ⟨r, h1, id, id, trivial, _, m, h2, h3, h4, rfl, h5⟩
  · rintro ⟨s0, k3, k25⟩ ⟨k2, m, e1, e2, g1, g2, g3, g4, g5, g6⟩
    simp only at e1 e2 g3 g5 g6
    subst e1 e2
    by_cases hlt : k + k2 < d.length
    · left
      have hat : ∀ j, m ≤ j → s0.getD j 0 = d.getD j 0 := fun j hj => by
        rw [List.getD_eq_getElem?_getD, List.getD_eq_getElem?_getD, g5 j hj]
      have w1 : IntKind.i64.wrap (((k2 : Nat) : Int) - 1) = ((k2 - 1 : Nat) : Int) := by rw [cT (by omega) (by omega)]; omega
      have w2 : IntKind.i64.wrap (((k2 : Nat) : Int) + 1) = ((k2 + 1 : Nat) : Int) := by rw [cT (by omega) (by omega)]; omega
      have w3 : IntKind.i64.wrap (((m : Nat) : Int) + 1) = ((m + 1 : Nat) : Int) := by rw [cT (by omega) (by omega)]; omega
      have c1 : decide (((k2 : Nat) : Int) < ((d.length - Int.toNat ((k : Nat) : Int) : Nat) : Int)) = true := by
        rw [decide_eq_true_eq]; simp only [Int.toNat_natCast]; omega
      have c2 : (0 : Int) ≤ ((k2 : Nat) : Int) ∧ ((k2 : Nat) : Int) < ((d.length - Int.toNat ((k : Nat) : Int) : Nat) : Int) := ⟨by omega, by simp only [Int.toNat_natCast]; omega⟩
      have c3 : 0 + Int.toNat ((k : Nat) : Int) + Int.toNat ((k2 : Nat) : Int) < s0.length := by simp only [Int.toNat_natCast]; omega
      have c4 : (0 : Int) ≤ ((k2 - 1 : Nat) : Int) ∧ ((k2 - 1 : Nat) : Int) < ((d.length - Int.toNat ((k : Nat) : Int) : Nat) : Int) := ⟨by omega, by simp only [Int.toNat_natCast]; omega⟩
      have c5 : 0 + Int.toNat ((k : Nat) : Int) + Int.toNat ((k2 - 1 : Nat) : Int) < s0.length := by simp only [Int.toNat_natCast]; omega
      have c6 : (0 : Int) ≤ ((m : Nat) : Int) ∧ ((m : Nat) : Int) < ((s0.length : Nat) : Int) := ⟨by omega, by omega⟩
      have i1 : s0.getD (0 + Int.toNat ((k : Nat) : Int) + Int.toNat ((k2 : Nat) : Int)) default = d.getD (k + k2) 0 := by
        rw [tA, show 0 + Int.toNat ((k : Nat) : Int) + Int.toNat ((k2 : Nat) : Int) = k + k2 by simp only [Int.toNat_natCast]; omega]; exact hat _ (by omega)
      have i2 : s0.getD (0 + Int.toNat ((k : Nat) : Int) + Int.toNat ((k2 - 1 : Nat) : Int)) default = d.getD (k + k2 - 1) 0 := by
        rw [tA, show 0 + Int.toNat ((k : Nat) : Int) + Int.toNat ((k2 - 1 : Nat) : Int) = k + k2 - 1 by simp only [Int.toNat_natCast]; omega]; exact hat _ (by omega)
      by_cases he : d.getD (k + k2) 0 = d.getD (k + k2 - 1) 0
      · refine ⟨(s0, ((m : Nat) : Int), ((k2 + 1 : Nat) : Int)), ?_, ⟨k2 + 1, m, rfl, rfl, by omega, by omega, g3, by omega, g5, ?_⟩, by simp only [Int.toNat_natCast]; omega⟩
        · simp only [fR, jJ, c1, cond_true, aP c2, aP c3, w1, aP c4, aP c5, i1, i2, he, decide_true, Bool.not_true, cond_false, w2]
        · exact g6.same (by omega) hlt he
      · refine ⟨(s0.set m (d.getD (k + k2) 0), ((m + 1 : Nat) : Int), ((k2 + 1 : Nat) : Int)), ?_, ⟨k2 + 1, m + 1, rfl, rfl, by omega, by omega, by simpa using g3, by omega, fun j hj => ?_, ?_⟩, by simp only [Int.toNat_natCast]; omega⟩
        · simp only [fR, jJ, c1, cond_true, aP c2, aP c3, w1, aP c4, aP c5, i1, i2, decide_eq_false he, Bool.not_false, aP c6, w2, w3]
          rfl
        · simp only
          rw [List.getElem?_set_ne (by omega)]; exact g5 j (by omega)
        · have h1 := g6.more hd (by omega) hlt he
          have h2 : (s0.set m (d.getD (k + k2) 0)).take (m + 1) = s0.take m ++ [d.getD (k + k2) 0] := by
            rw [List.take_add_one, List.take_set_of_le (Nat.le_refl m), List.getElem?_set_self (by omega)]; rfl
          simp only
          rw [h2]; exact h1
    · right
      have hk2 : k + k2 = d.length := by omega
      refine ⟨(s0, ((m : Nat) : Int)), ?_, m, rfl, g3, by omega, by rw [← hk2]; exact g6⟩
      have c1 : decide (((k2 : Nat) : Int) < ((d.length - Int.toNat ((k : Nat) : Int) : Nat) : Int)) = false := by
        rw [decide_eq_false_iff_not]; simp only [Int.toNat_natCast]; omega
      simp only [fR, c1, cond_false]
  · refine ⟨1, k, rfl, rfl, by omega, by omega, rfl, by omega, fun _ _ => rfl, ?_⟩
    rw [← hck]; exact hc

theorem aAP {k : Nat} {d : List Int} : (kL k d).take k = d.take k := by
  unfold kL
  by_cases h : k ≤ d.length
  · rw [List.take_append_of_le_length (by simp; omega), List.take_take]; simp
  · have e1 : d.take k = d := List.take_of_length_le (by omega)
    rw [e1, show d.length - k = 0 by omega, List.replicate_zero, List.append_nil, e1]

theorem aBa {d : List Int} (hd : d.Pairwise (· ≤ ·)) (hl : d.length ≤ 1000000) : ∃ c, kA d = some c ∧ Kept d c d.length := by
  unfold kA
  by_cases h2 : d.length < 2
  · rw [decide_eq_true (by omega), cond_true]
    refine ⟨d, rfl, ?_, fun x => by rw [List.take_length]⟩
    match d, h2 with
    | [], _ => exact List.Pairwise.nil
    | [x], _ => exact List.pairwise_singleton ..
    | _ :: _ :: _, h => simp at h; omega
  · rw [decide_eq_false (by omega), cond_false]
    unfold mW
    have key := XJ (body := fun s : List Int × Int => iD s.1 s.2)
      (I := fun s => s.1 = d ∧ ∃ k : Nat, s.2 = ((k : Nat) : Int) ∧ 0 < k ∧ k ≤ d.length ∧ (d.take k).Pairwise (· < ·)) (m := fun s => d.length + 1 - s.2.toNat)
      (Post := fun r => ∃ c, Sum.elim (fun rr : List Int => lA rr) (fun rr => some rr) r = some c ∧ Kept d c d.length) ?_ (s := (d, 1)) ?_
    · obtain ⟨r, h3, c, h4, h5⟩ := key
      rw [h3, Option.bind_some]
      exact ⟨c, h4, h5⟩
    · rintro ⟨s0, k3⟩ ⟨e1, k, e2, g1, g2, g3⟩
      simp only at e1 e2
      subst e1 e2
      by_cases hlt : k < s0.length
      · have w1 : IntKind.i64.wrap (((k : Nat) : Int) - 1) = ((k - 1 : Nat) : Int) := by rw [cT (by omega) (by omega)]; omega
        have w2 : IntKind.i64.wrap (((k : Nat) : Int) + 1) = ((k + 1 : Nat) : Int) := by rw [cT (by omega) (by omega)]; omega
        have c1 : (0 : Int) ≤ ((k : Nat) : Int) ∧ ((k : Nat) : Int) < ((s0.length : Nat) : Int) := ⟨by omega, by omega⟩
        have c2 : (0 : Int) ≤ ((k - 1 : Nat) : Int) ∧ ((k - 1 : Nat) : Int) < ((s0.length : Nat) : Int) := ⟨by omega, by omega⟩
        have hK : Kept s0 (s0.take k) k := ⟨g3, fun _ => Iff.rfl⟩
        by_cases he : s0.getD k 0 = s0.getD (k - 1) 0
        · right
          obtain ⟨r, h3, _, _, _, cc, m, h4, h5, h6, h7, h8⟩ := UQ hd hl g1 hlt (hK.same g1 hlt he) rfl
          refine ⟨.inr cc, ?_, cc, rfl, h8⟩
          have c3 : (0 : Int) ≤ ((k : Nat) : Int) ∧ ((k : Nat) : Int) ≤ ((s0.length : Nat) : Int) := ⟨by omega, by omega⟩
          simp only [iD, decide_eq_true c1.2, cond_true, aP c1, w1, aP c2, Int.toNat_natCast, tA, he, decide_true, aP c3, mV]
          rw [Int.toNat_natCast] at h3
          rw [h3, Option.bind_some]
          unfold kZ
          rw [h4, aP (by omega), aP (by rw [clearL_len]; omega), aP (by rw [clearL_len, Int.toNat_natCast]; omega), Int.toNat_natCast, Nat.zero_add, aAP, h7]
        · left
          refine ⟨(s0, ((k + 1 : Nat) : Int)), ?_, ⟨rfl, k + 1, rfl, by omega, by omega, ?_⟩, by simp only [Int.toNat_natCast]; omega⟩
          · simp only [iD, mY, decide_eq_true c1.2, cond_true, aP c1, w1, aP c2, Int.toNat_natCast, tA, decide_eq_false he, cond_false, w2]
          · rw [HV hlt]
            exact (hK.more hd g1 hlt he).1
      · right
        have hk : k = s0.length := by omega
        subst hk
        refine ⟨.inl s0, ?_, s0, rfl, ?_, fun x => by rw [List.take_length]⟩
        · simp only [iD, kO, cond_false]
        · rwa [List.take_length] at g3
    · refine ⟨rfl, 1, rfl, by omega, by omega, ?_⟩
      match d, h2 with
      | x :: r, _ => simp
      | [], h => simp at h

theorem OM {l : List aG} : ∀ {c : List Int}, (∀ e ∈ l, oU e = true ∧ e.At < 1125899906842624) → Inc (-1) c → Inc (-1) (l.foldl (fun c e => jY e.At c) c) ∧ (∀ x, x ∈ l.foldl (fun c e => jY e.At c) c ↔ x ∈ c ∨ ∃ e ∈ l, e.At = x) := by
  induction l with
  | nil => intro c _ hi; exact ⟨hi, fun x => by simp⟩
  | cons e l ih =>
    intro c he hi
    have h1 := he e (by simp)
    have hr : -1 < e.At := by have := h1.1; simp [oU] at this; omega
    obtain ⟨i1, i2⟩ := ih (c := jY e.At c) (fun q hq => he q (by simp [hq])) (AT hi hr h1.2)
    refine ⟨i1, fun x => ?_⟩
    rw [List.foldl_cons, i2 x, JD]
    constructor
    · rintro ((h | h) | ⟨q, h, h'⟩)
      · exact .inr ⟨e, by simp, h.symm⟩
      · exact .inl h
      · exact .inr ⟨q, by simp [h], h'⟩
    · rintro (h | ⟨q, h, h'⟩)
      · exact .inl (.inr h)
      · rcases List.mem_cons.1 h with rfl | h
        · exact .inl (.inl h'.symm)
        · exact .inr ⟨q, h, h'⟩

theorem KK {l : List aG} (h : ∀ e ∈ l, e.At < 1125899906842624) : Inc (-1) (dW l) :=
  (OM (c := []) (fun e he => by have := List.mem_filter.1 he; exact ⟨this.2, h e this.1⟩) trivial).1

theorem EH {l : List aG} (h : ∀ e ∈ l, e.At < 1125899906842624) {x : Int} : x ∈ dW l ↔ ∃ e ∈ l, oU e = true ∧ e.At = x := by
  unfold dW
  rw [(OM (c := []) (fun e he => by have := List.mem_filter.1 he; exact ⟨this.2, h e this.1⟩) trivial).2 x]
  constructor
  · rintro (h1 | ⟨e, h1, h2⟩)
    · simp at h1
    · have := List.mem_filter.1 h1; exact ⟨e, this.1, this.2, h2⟩
  · rintro ⟨e, h1, h2, h3⟩
    exact .inr ⟨e, List.mem_filter.2 ⟨h1, h2⟩, h3⟩

theorem aCo {l : List aG} : ∀ {c : List Int}, l.foldl (fun c e => c ++ [e.At]) c = c ++ l.map (·.At) := by
  induction l with
  | nil => intro c; simp
  | cons e l ih => intro c; rw [List.foldl_cons, ih]; simp

theorem DO {l : List aG} (hn : l.length ≤ 4096) (hat : ∀ e ∈ l, e.At < 1125899906842624) : oT l = some (dW l) := by
  unfold oT pU
  rw [Option.bind_some]
  unfold tQ
  rw [NI (by omega) (fun s e => s ++ [e.At]) (fun s r => s.length + r.length ≤ 1000000) (fun s e r hI => ⟨fun _ => ⟨?_, ?_⟩, fun _ => ?_⟩) (by simp; omega), Option.bind_some, Sum.elim_inl, aCo, List.nil_append]
  · have hfl := List.length_filter_le oU l
    obtain ⟨d', h1, h2, h3⟩ := ZI (d := (l.filter oU).map (·.At)) (by simp; omega)
    have hdl : d'.length ≤ 4096 := by rw [h2.length_eq, List.length_map]; omega
    obtain ⟨c, h4, h5⟩ := aBa h3 (by omega)
    rw [h1, Option.bind_some, h4, Option.bind_some]
    congr 1
    refine JF h5.1 (FQ (KK hat)) fun x => ?_
    rw [h5.2 x, List.take_length, h2.mem_iff, EH hat, List.mem_map]
    constructor
    · rintro ⟨e, q1, q2⟩
      have := List.mem_filter.1 q1; exact ⟨e, this.1, this.2, q2⟩
    · rintro ⟨e, q1, q2, q3⟩
      exact ⟨e, List.mem_filter.2 ⟨q1, q2⟩, q3⟩
  · simp only [List.length_cons] at hI
    unfold qL
    rw [aP (by simp only [List.length_cons, List.length_nil]; omega)]
  · simp only [List.length_cons, List.length_append, List.length_nil] at hI ⊢; omega
  · simp only [List.length_cons] at hI; omega

theorem XY (l : List aG) : (dW l).length ≤ l.length := by
  have key : ∀ (l : List aG) (c : List Int), (l.foldl (fun c e => jY e.At c) c).length ≤ c.length + l.length := by
    intro l
    induction l with
    | nil => intro c; simp
    | cons e l ih => intro c; rw [List.foldl_cons]; have := ih (jY e.At c); have := IX (t := e.At) (ps := c); simp only [List.length_cons]; omega
  have h1 := key (l.filter oU) []
  have h2 := List.length_filter_le oU l
  simp only [List.length_nil] at h1
  unfold dW; omega

end Go.Abs
namespace Go.Abs
open Go
theorem aCH {a : List Int} {t : Int} {m : Nat} (h1 : ∀ x ∈ a.take m, x < t) (h2 : ∀ x ∈ a.drop m, t ≤ x) : (a.filter fun x => decide (x < t)) = a.take m ∧ (a.filter fun x => decide (t ≤ x)) = a.drop m := by
  have e : a = a.take m ++ a.drop m := (List.take_append_drop m a).symm
  have e1 : (a.take m).filter (fun x => decide (x < t)) = a.take m := List.filter_eq_self.2 fun x hx => by simpa using h1 x hx
  have e2 : (a.drop m).filter (fun x => decide (x < t)) = [] := List.filter_eq_nil_iff.2 fun x hx => by have := h2 x hx; simp; omega
  have e3 : (a.take m).filter (fun x => decide (t ≤ x)) = [] := List.filter_eq_nil_iff.2 fun x hx => by have := h1 x hx; simp; omega
  have e4 : (a.drop m).filter (fun x => decide (t ≤ x)) = a.drop m := List.filter_eq_self.2 fun x hx => by simpa using h2 x hx
  constructor
  · conv => lhs; rw [e]
    rw [List.filter_append, e1, e2, List.append_nil]
  · conv => lhs; rw [e]
    rw [List.filter_append, e3, e4, List.nil_append]

theorem ZM (x y : Int) : dA x y = some (decide (x < y)) := by simp [dA, kW, dL]

theorem aFp {a : List Int} (hd : a.Pairwise (· ≤ ·)) (hl : a.length ≤ 1000000) (t : Int) : ∃ (m : Nat) (b : Bool), fL a t = some (((m : Nat) : Int), b) ∧ m ≤ a.length ∧ (a.filter fun x => decide (x < t)) = a.take m ∧ (a.filter fun x => decide (t ≤ x)) = a.drop m := by
  unfold fL kX
  have key := XJ (body := fun s : Int × Int => fD a t ((a.length : Nat) : Int) s.1 s.2)
    (I := fun s => ∃ i j : Nat, s.1 = ((i : Nat) : Int) ∧ s.2 = ((j : Nat) : Int) ∧ i ≤ j ∧ j ≤ a.length ∧ (∀ k, k < i → a.getD k 0 < t) ∧ ∀ k, j ≤ k → k < a.length → t ≤ a.getD k 0)
    (m := fun s => s.2.toNat - s.1.toNat) (Post := fun r => ∃ m : Nat, r = ((m : Nat) : Int) ∧ m ≤ a.length ∧ (∀ k, k < m → a.getD k 0 < t) ∧ ∀ k, m ≤ k → k < a.length → t ≤ a.getD k 0) ?_ (s := (0, ((a.length : Nat) : Int))) ?_
  · obtain ⟨r, h1, m, rfl, h2, h3, h4⟩ := key
    rw [h1, Option.bind_some]
    have hs := aCH (a := a) (t := t) (m := m) (fun x hx => by
      obtain ⟨k, hk⟩ := List.getElem?_of_mem hx
      rw [List.getElem?_take] at hk
      split at hk
      · rename_i hlt
        have := h3 k hlt
        rwa [List.getD_eq_getElem?_getD, hk] at this
      · cases hk) (fun x hx => by
      obtain ⟨k, hk⟩ := List.getElem?_of_mem hx
      rw [List.getElem?_drop] at hk
      have hlt := (List.getElem?_eq_some_iff.1 hk).1
      have := h4 (m + k) (by omega) hlt
      rwa [List.getD_eq_getElem?_getD, hk] at this)
    unfold jB
    have c1 : ∀ b : Bool, (b && decide (((m : Nat) : Int) < ((a.length : Nat) : Int))) = true → (0 : Int) ≤ ((m : Nat) : Int) ∧ ((m : Nat) : Int) < ((a.length : Nat) : Int) := fun b hb => by
      simp only [Bool.and_eq_true, decide_eq_true_eq] at hb; omega
    rw [aP (fun hb => by have := of_decide_eq_true hb; omega), aP (c1 _)]
    simp only [oM, dL]
    cases (!decide (a.getD (Int.toNat ((m : Nat) : Int)) default = t) && decide (((m : Nat) : Int) < ((a.length : Nat) : Int))) <;> simp only [cond_true, cond_false, Option.bind_some, Bool.and_true, Bool.and_false, decide_true, Bool.not_true]
    · exact ⟨m, _, rfl, h2, hs.1, hs.2⟩
    · exact ⟨m, _, rfl, h2, hs.1, hs.2⟩
  · rintro ⟨x, y⟩ ⟨i, j, e1, e2, g1, g2, g3, g4⟩
    simp only at e1 e2
    subst e1 e2
    by_cases hij : i < j
    · left
      have hm : IntKind.i64.wrap (Int.fdiv (IntKind.u64.wrap (IntKind.i64.wrap (((i : Nat) : Int) + ((j : Nat) : Int)))) (2 ^ (min (Int.toNat (1 : Int)) 64))) = (((i + j) / 2 : Nat) : Int) := by
        rw [← Int.natCast_add]; exact half (by omega)
      have c1 : (0 : Int) ≤ (((i + j) / 2 : Nat) : Int) ∧ (((i + j) / 2 : Nat) : Int) < ((a.length : Nat) : Int) := ⟨by omega, by omega⟩
      have w1 : IntKind.i64.wrap ((((i + j) / 2 : Nat) : Int) + 1) = (((i + j) / 2 + 1 : Nat) : Int) := by rw [cT (by omega) (by omega)]; omega
      by_cases hc : a.getD ((i + j) / 2) 0 < t
      · refine ⟨((((i + j) / 2 + 1 : Nat) : Int), ((j : Nat) : Int)), ?_, ⟨(i + j) / 2 + 1, j, rfl, rfl, by omega, g2, fun k hk => ?_, g4⟩, by simp only [Int.toNat_natCast]; omega⟩
        · simp only [fD, decide_eq_true (show ((i : Nat) : Int) < ((j : Nat) : Int) by omega), cond_true, aP (show (0 : Int) ≤ 1 by decide), hm, aP c1, Int.toNat_natCast, tA, ZM, Option.bind_some, w1]
          rw [decide_eq_true hc, cond_true]
        · have := NU hd (i := k) (j := (i + j) / 2) (by omega) (by omega); omega
      · refine ⟨(((i : Nat) : Int), (((i + j) / 2 : Nat) : Int)), ?_, ⟨i, (i + j) / 2, rfl, rfl, by omega, by omega, g3, fun k hk hkl => ?_⟩, by simp only [Int.toNat_natCast]; omega⟩
        · simp only [fD, decide_eq_true (show ((i : Nat) : Int) < ((j : Nat) : Int) by omega), cond_true, aP (show (0 : Int) ≤ 1 by decide), hm, aP c1, Int.toNat_natCast, tA, ZM, Option.bind_some, w1]
          rw [decide_eq_false hc, cond_false]
        · have := NU hd (i := (i + j) / 2) (j := k) (by omega) hkl; omega
    · right
      refine ⟨((i : Nat) : Int), ?_, i, rfl, by omega, g3, fun k hk hkl => g4 k (by omega) hkl⟩
      simp only [fD, decide_eq_false (show ¬ ((i : Nat) : Int) < ((j : Nat) : Int) by omega), cond_false]
  · exact ⟨0, a.length, rfl, rfl, by omega, Nat.le_refl _, fun k hk => by omega, fun k h1 h2 => by omega⟩

def uJ (l : List aG) (n : Int) : Int := if !jI l || decide (n < 1) || decide (64 < n) then 2 else if !nV l then 20 else 0

theorem IJ {l : List aG} (hl : okL l) (n : Int) : rZ l n = some (uJ l n) := by
  unfold rZ uJ
  rw [BV hl, Option.bind_some]
  cases (!jI l || decide (n < 1) || decide (64 < n)) with
  | true => rfl
  | false =>
    rw [cond_false, DQ hl, Option.bind_some]
    cases nV l <;> rfl

theorem SD {l : List aG} {n : Int} (h : uJ l n = 0) : jI l = true ∧ nV l = true ∧ 1 ≤ n ∧ n ≤ 64 := by
  unfold uJ at h
  cases hm : jI l with
  | false => simp [hm] at h
  | true =>
    cases ht : nV l with
    | false => rw [hm, ht] at h; split at h <;> simp at h
    | true =>
      rw [hm, ht] at h
      split at h
      · simp at h
      · rename_i c; simp at c; exact ⟨rfl, rfl, by omega, by omega⟩

theorem IL {l : List aG} (hm : jI l = true) : ∀ e ∈ l, e.At < 1125899906842624 := fun e he => (wT hm he).2.2.1

def eO (a : List Int) (t : Int) : Nat := (a.filter fun x => decide (x < t)).length

def firstM (a : List Int) (n t : Int) : Nat := ((eO a t : Int) - n + 1).toNat

def qS (a : List Int) (n t : Int) : Int := if firstM a n t = eO a t then t else a.getD (firstM a n t) 0

def DI (l : List aG) (n t : Int) : Int × Int :=
  if uJ l n ≠ 0 then (0, uJ l n) else if t < 0 ∨ 1125899906842624 < t then (0, 13) else if t = 1125899906842624 then (t, 0) else (qS (dW l) n t, 0)

theorem zV (a : List Int) (t : Int) : eO a t ≤ a.length := List.length_filter_le ..

theorem OT {a : List Int} (hd : a.Pairwise (· ≤ ·)) (hl : a.length ≤ 1000000) (t : Int) : (∃ b : Bool, fL a t = some (((eO a t : Nat) : Int), b)) ∧ (a.filter fun x => decide (x < t)) = a.take (eO a t) ∧ (a.filter fun x => decide (t ≤ x)) = a.drop (eO a t) := by
  obtain ⟨m, b, h1, h2, h3, h4⟩ := aFp hd hl t
  have hm : eO a t = m := by unfold eO; rw [h3, List.length_take]; omega
  rw [hm]; exact ⟨⟨b, h1⟩, h3, h4⟩

theorem sF {l : List aG} (hm : jI l = true) : (dW l).Pairwise (· < ·) ∧ (dW l).Pairwise (· ≤ ·) ∧ (dW l).length ≤ 4096 ∧ ∀ x ∈ dW l, 0 ≤ x ∧ x < 1125899906842624 := by
  have hi := KK (IL hm)
  refine ⟨FQ hi, PB hi, by have := XY l; have := (mR hm).1; omega, fun x hx => by have := hi.above x hx; omega⟩

theorem SP {l : List aG} (hl : okL l) (n t : Int) : tX l n t = some (DI l n t) := by
  unfold tX DI
  rw [IJ hl, Option.bind_some]
  by_cases h : uJ l n = 0
  · obtain ⟨hm, _, n1, n2⟩ := SD h
    obtain ⟨f1, f2, f3, f4⟩ := sF hm
    rw [decide_eq_true h, Bool.not_true, cond_false, if_neg (by simpa using h)]
    by_cases h1 : t < 0 ∨ 1125899906842624 < t
    · have : (decide (t < 0) || decide (1125899906842624 < t)) = true := by simpa using h1
      rw [this, cond_true, if_pos h1]
    · have : (decide (t < 0) || decide (1125899906842624 < t)) = false := by simpa using h1
      rw [this, cond_false, if_neg h1]
      by_cases h2 : t = 1125899906842624
      · rw [decide_eq_true h2, cond_true, if_pos h2]
      · rw [decide_eq_false h2, cond_false, if_neg h2, DO (mR hm).1 (IL hm), Option.bind_some]
        obtain ⟨⟨b, hb⟩, hs1, hs2⟩ := OT f2 (by omega) t
        have hle := zV (dW l) t
        rw [hb, Option.bind_some]
        have w1 : IntKind.i64.wrap (IntKind.i64.wrap (((eO (dW l) t : Nat) : Int) - n) + 1) = ((eO (dW l) t : Nat) : Int) - n + 1 := by
          rw [cT (n := ((eO (dW l) t : Nat) : Int) - n) (by omega) (by omega), cT (by omega) (by omega)]
        have e1 : (if IntKind.i64.wrap (IntKind.i64.wrap (((eO (dW l) t : Nat) : Int) - n) + 1) > 0 then IntKind.i64.wrap (IntKind.i64.wrap (((eO (dW l) t : Nat) : Int) - n) + 1) else 0) = ((firstM (dW l) n t : Nat) : Int) := by
          rw [w1]; unfold firstM
          split <;> omega
        simp only [e1]
        unfold qS
        by_cases hf : firstM (dW l) n t = eO (dW l) t
        · rw [decide_eq_true (by omega), cond_true, if_pos hf]
        · have hlt : firstM (dW l) n t < eO (dW l) t := by unfold firstM at hf ⊢; omega
          rw [decide_eq_false (by omega), cond_false, if_neg hf, aP (by omega), Int.toNat_natCast]; rfl
  · rw [decide_eq_false h, Bool.not_false, cond_true, if_pos h]

end Go.Abs
namespace Go.Abs
open Go
theorem aAl (a b : List aI) (hl : a.length ≤ 17592186044416) : fW a b = some (decide (a = b)) := by
  have := FO a b hl
  unfold rD at this
  simpa using this

def inW (a b : Int) (j : aC) : Bool := decide (0 < j.Net) && (decide (a ≤ j.At) && decide (j.At < b))

def oY (a b : Int) (f : List aC) : Int := ((f.filter (inW a b)).map aC.Net).sum

def JR (a b : Int) (gs : List (List aI × List aC)) : List bG := gs.filterMap fun g => if 0 < oY a b g.2 then some ⟨g.1, oY a b g.2⟩ else none

def mX (rs : List bG) : bG := rs.getD (rs.length - 1) default

def BE (rs : List bG) (e : aG) : List bG := if 0 < rs.length ∧ (mX rs).Row = e.Row then rs.set (rs.length - 1) ⟨(mX rs).Row, (mX rs).N + e.Net⟩ else rs ++ [⟨e.Row, e.Net⟩]

def CU (p : aN) (e : aG) : aN := if e.At < p.Span.From ∨ p.Span.To ≤ e.At then p else ⟨p.Span, BE p.Rows e⟩

def qQ (a b : Int) (rs : List bG) (e : aG) : List bG := if inW a b (jE e) then BE rs e else rs

theorem yI (a b : Int) (j : aC) (f : List aC) : oY a b (j :: f) = (if inW a b j then j.Net else 0) + oY a b f := by
  unfold oY
  by_cases h : inW a b j <;> simp [h]

theorem KT (a b : Int) : ∀ f : List aC, 0 ≤ oY a b f ∧ (oY a b f = 0 ↔ f.filter (inW a b) = [])
  | [] => by simp [oY]
  | j :: f => by
    obtain ⟨h1, h2⟩ := KT a b f
    rw [yI]
    by_cases h : inW a b j
    · have : 0 < j.Net := by simp [inW] at h; omega
      rw [if_pos h]
      refine ⟨by omega, ?_⟩
      constructor
      · intro e; omega
      · intro e; simp [h] at e
    · rw [if_neg h, Int.zero_add]
      refine ⟨h1, ?_⟩
      rw [h2]; simp [h]

theorem aA2 (a b : Int) (g : List aI × List aC) (gs : List (List aI × List aC)) : JR a b (g :: gs) = (if 0 < oY a b g.2 then [⟨g.1, oY a b g.2⟩] else []) ++ JR a b gs := by
  unfold JR
  rw [List.filterMap_cons]
  by_cases h : 0 < oY a b g.2 <;> simp [h]

theorem aAR (R : List bG) (c : bG) : mX (R ++ [c]) = c := by
  unfold mX
  simp [List.getD_eq_getElem?_getD]

theorem aCP (R : List bG) (c d : bG) : (R ++ [c]).set ((R ++ [c]).length - 1) d = R ++ [d] := by
  simp [List.set_append_right]

theorem PV (a b : Int) (r : List aI) : ∀ (f : List aC) (R : List bG) (v : Int), (iQ r f).foldl (qQ a b) (R ++ [⟨r, v⟩]) = R ++ [⟨r, v + oY a b f⟩]
  | [], R, v => by simp [iQ, oY]
  | j :: f, R, v => by
    have e : iQ r (j :: f) = ⟨r, j.At, j.Net⟩ :: iQ r f := rfl
    rw [e, List.foldl_cons, yI]
    have ej : jE ⟨r, j.At, j.Net⟩ = j := rfl
    by_cases h : inW a b j
    · have e1 : qQ a b (R ++ [⟨r, v⟩]) ⟨r, j.At, j.Net⟩ = R ++ [⟨r, v + j.Net⟩] := by
        unfold qQ BE
        rw [ej, if_pos h, aAR, if_pos ⟨by simp, rfl⟩, aCP]
      rw [e1, PV a b r f, if_pos h, Int.add_assoc]
    · have e1 : qQ a b (R ++ [⟨r, v⟩]) ⟨r, j.At, j.Net⟩ = R ++ [⟨r, v⟩] := by
        unfold qQ
        rw [ej, if_neg h]
      rw [e1, PV a b r f, if_neg h, Int.zero_add]

theorem HW {rs : List bG} (h : 0 < rs.length) : mX rs ∈ rs := by
  unfold mX
  rw [List.getD_eq_getElem?_getD, List.getElem?_eq_getElem (by omega)]
  exact List.getElem_mem _

theorem TQ (a b : Int) (r : List aI) : ∀ (f : List aC) (rs : List bG), (∀ c ∈ rs, c.Row ≠ r) → (iQ r f).foldl (qQ a b) rs = rs ++ (if 0 < oY a b f then [⟨r, oY a b f⟩] else [])
  | [], rs, _ => by simp [iQ, oY]
  | j :: f, rs, hr => by
    have e : iQ r (j :: f) = ⟨r, j.At, j.Net⟩ :: iQ r f := rfl
    have ej : jE ⟨r, j.At, j.Net⟩ = j := rfl
    rw [e, List.foldl_cons, yI]
    have hg := (KT a b f).1
    by_cases h : inW a b j
    · have hj : 0 < j.Net := by simp [inW] at h; omega
      have e1 : qQ a b rs ⟨r, j.At, j.Net⟩ = rs ++ [⟨r, j.Net⟩] := by
        unfold qQ BE
        rw [ej, if_pos h, if_neg fun hc => hr _ (HW hc.1) hc.2]
      rw [e1, PV, if_pos h, if_pos (by omega)]
    · have e1 : qQ a b rs ⟨r, j.At, j.Net⟩ = rs := by
        unfold qQ
        rw [ej, if_neg h]
      rw [e1, TQ a b r f rs hr, if_neg h, Int.zero_add]

theorem KR (a b : Int) : ∀ {gs : List (List aI × List aC)} {rs : List bG}, wY gs → (∀ c ∈ rs, ∀ g ∈ gs, c.Row ≠ g.1) → (flat gs).foldl (qQ a b) rs = rs ++ JR a b gs
  | [], rs, _, _ => by simp [flat, JR]
  | g :: gs, rs, hs, hr => by
    obtain ⟨h1, h2⟩ := List.pairwise_cons.1 hs
    rw [sZ, List.foldl_append, TQ a b g.1 g.2 rs fun c hc => hr c hc g (by simp), KR a b h2 fun c hc q hq => ?_, aA2, List.append_assoc]
    rcases List.mem_append.1 hc with hc | hc
    · exact hr c hc q (by simp [hq])
    · split at hc
      · simp at hc; subst hc
        intro e
        have : wF g.1 q.1 < 0 := h1 q hq
        simp only at e
        rw [e] at this
        exact zR this
      · simp at hc

theorem QB {a b : Int} {e : aG} : inW a b (jE e) = true ↔ 0 < e.Net ∧ a ≤ e.At ∧ e.At < b := by
  unfold inW jE
  simp only [Bool.and_eq_true, decide_eq_true_eq]

theorem GO {a b : Int} (ha : 0 ≤ a) : ∀ (l : List aG) (rs : List bG), (l.filter oU).foldl CU ⟨⟨a, b⟩, rs⟩ = ⟨⟨a, b⟩, l.foldl (qQ a b) rs⟩
  | [], rs => rfl
  | e :: l, rs => by
    cases h : oU e with
    | true =>
      have hp : 0 < e.Net ∧ -1 < e.At := by simpa [oU] using h
      simp only [List.filter_cons, h, if_true, List.foldl_cons]
      by_cases hw : e.At < a ∨ b ≤ e.At
      · have e1 : CU ⟨⟨a, b⟩, rs⟩ e = ⟨⟨a, b⟩, rs⟩ := by unfold CU; rw [if_pos hw]
        have e2 : qQ a b rs e = rs := by
          unfold qQ
          have : inW a b (jE e) = false := by
            cases hq : inW a b (jE e) with
            | false => rfl
            | true => have := QB.1 hq; omega
          rw [this]; rfl
        rw [e1, e2, GO ha l rs]
      · have e1 : CU ⟨⟨a, b⟩, rs⟩ e = ⟨⟨a, b⟩, BE rs e⟩ := by unfold CU; rw [if_neg hw]
        have e2 : qQ a b rs e = BE rs e := by
          unfold qQ
          have : inW a b (jE e) = true := QB.2 ⟨hp.1, by omega, by omega⟩
          rw [this]; rfl
        rw [e1, e2, GO ha l (BE rs e)]
    | false =>
      have hp : ¬ (0 < e.Net ∧ -1 < e.At) := by simpa [oU] using h
      have e2 : qQ a b rs e = rs := by
        unfold qQ
        have : inW a b (jE e) = false := by
          cases hq : inW a b (jE e) with
          | false => rfl
          | true => have := QB.1 hq; omega
        rw [this]; rfl
      simp only [List.filter_cons, h, Bool.false_eq_true, if_false, List.foldl_cons, e2]
      exact GO ha l rs

def aAL (l : List aG) (run : List Int) : aN := ⟨⟨run.getD 0 0, run.getD (run.length - 1) 0 + 1⟩, JR (run.getD 0 0) (run.getD (run.length - 1) 0 + 1) (groups l)⟩

def PT (rs : List bG) (r : List aG) : Prop := rs.length + r.length ≤ 1000000 ∧ (∀ c ∈ rs, c.Row.length ≤ 17592186044416 ∧ 0 ≤ c.N ∧ c.N + 1048576 * r.length ≤ 4503599627370496) ∧ ∀ e ∈ r, e.Row.length ≤ 4398046510976 ∧ e.Net ≤ 1048576

theorem RM {rs : List bG} {e : aG} {r : List aG} (h : PT rs (e :: r)) : PT rs r := by
  obtain ⟨h1, h2, h3⟩ := h
  simp only [List.length_cons] at h1 h2
  exact ⟨by omega, fun c hc => by have := h2 c hc; omega, fun q hq => h3 q (by simp [hq])⟩

theorem aCM {rs : List bG} {e : aG} {r : List aG} (h : PT rs (e :: r)) (hn : 0 < e.Net) : PT (BE rs e) r := by
  obtain ⟨h1, h2, h3⟩ := h
  have he := h3 e (by simp)
  simp only [List.length_cons] at h1 h2
  unfold BE
  split
  · rename_i hc
    have hm := h2 _ (HW hc.1)
    refine ⟨by rw [List.length_set]; omega, fun c hcm => ?_, fun q hq => h3 q (by simp [hq])⟩
    rcases List.mem_or_eq_of_mem_set hcm with hcm | rfl
    · have := h2 c hcm; omega
    · refine ⟨hm.1, ?_⟩; simp only; omega
  · refine ⟨by simp only [List.length_append, List.length_cons, List.length_nil]; omega, fun c hcm => ?_, fun q hq => h3 q (by simp [hq])⟩
    rcases List.mem_append.1 hcm with hcm | hcm
    · have := h2 c hcm; omega
    · simp at hcm; subst hcm; simp only; omega

theorem aA7 {l : List aG} {t p : aN} {e : aG} {r : List aG} (h : PT p.Rows (e :: r)) (hr : oU e = true) : oB l t p e = some (.inl (t, CU p e)) := by
  obtain ⟨h1, h2, h3⟩ := h
  have he := h3 e (by simp)
  have hn : 0 < e.Net := by simp [oU] at hr; omega
  simp only [List.length_cons] at h1 h2
  unfold oB CU
  by_cases hw : e.At < p.Span.From ∨ p.Span.To ≤ e.At
  · have : (decide (e.At < p.Span.From) || decide (p.Span.To ≤ e.At)) = true := by simpa using hw
    rw [this, cond_true, if_pos hw]
  · have : (decide (e.At < p.Span.From) || decide (p.Span.To ≤ e.At)) = false := by simpa using hw
    rw [this, cond_false, if_neg hw]
    have w1 : IntKind.i64.wrap (((p.Rows.length : Nat) : Int) - 1) = ((p.Rows.length : Nat) : Int) - 1 := cT (by omega) (by omega)
    rw [w1]
    by_cases h0 : 0 < p.Rows.length
    · have c1 : (0 : Int) ≤ ((p.Rows.length : Nat) : Int) - 1 ∧ ((p.Rows.length : Nat) : Int) - 1 < ((p.Rows.length : Nat) : Int) := ⟨by omega, by omega⟩
      have e1 : Int.toNat (((p.Rows.length : Nat) : Int) - 1) = p.Rows.length - 1 := by omega
      have e2 : p.Rows.getD (p.Rows.length - 1) default = mX p.Rows := rfl
      have hm := h2 _ (HW h0)
      rw [aP (fun _ => c1), decide_eq_true c1.1]
      simp only [dL, cond_true, e1, e2, aAl _ e.Row hm.1, Option.bind_some, Bool.true_and]
      by_cases hq : (mX p.Rows).Row = e.Row
      · rw [decide_eq_true hq, cond_true, aP c1, aP c1]
        unfold BE
        rw [if_pos ⟨h0, hq⟩, cT (by omega) (by omega)]
      · rw [decide_eq_false hq, cond_false, EA he.1, Option.bind_some, aP (by simp only [List.length_cons, List.length_nil]; omega)]
        unfold BE
        rw [if_neg fun hc => hq hc.2]
    · have c0 : decide ((0 : Int) ≤ ((p.Rows.length : Nat) : Int) - 1) = false := by rw [decide_eq_false_iff_not]; omega
      rw [aP (fun hc => by rw [c0] at hc; cases hc), c0]
      simp only [dL, cond_false, Option.bind_some, Bool.false_and]
      rw [EA he.1, Option.bind_some, aP (by simp only [List.length_cons, List.length_nil]; omega)]
      unfold BE
      rw [if_neg fun hc => h0 hc.1]

theorem MX {l : List aG} (hl : okL l) (hm : jI l = true) {run : List Int} (h0 : 0 < run.length) (h1 : run.length ≤ 1000000) (hr : ∀ x ∈ run, 0 ≤ x ∧ x < 1125899906842624) : rM l run = some (aAL l run) := by
  unfold rM pU tP
  have w1 : IntKind.i64.wrap (((run.length : Nat) : Int) - 1) = ((run.length : Nat) : Int) - 1 := cT (by omega) (by omega)
  have e1 : Int.toNat (((run.length : Nat) : Int) - 1) = run.length - 1 := by omega
  have hg : ∀ i, i < run.length → 0 ≤ run.getD i 0 ∧ run.getD i 0 < 1125899906842624 := fun i hi => by
    rw [List.getD_eq_getElem?_getD, List.getElem?_eq_getElem hi]; exact hr _ (List.getElem_mem _)
  have ha := hg 0 h0
  have hb := hg (run.length - 1) (by omega)
  rw [aP (by omega), w1, aP (by omega), Option.bind_some, e1, tA, tA, show Int.toNat (0 : Int) = 0 from rfl, cT (by omega) (by omega)]
  have hn := (mR hm).1
  rw [NI (by omega) (fun (s : aN × aN) e => (s.1, CU s.2 e)) (fun s r => PT s.2.Rows r) (fun s e r hI => ⟨fun hrise => ⟨aA7 hI hrise, ?_⟩, fun _ => RM hI⟩)
    ⟨by simp; omega, by simp, fun e he => ⟨hl.2 e he, (wT hm he).2.2.2.2.1⟩⟩, Option.bind_some, Sum.elim_inl]
  · have key : ∀ (es : List aG) (s : aN × aN), (es.foldl (fun (s : aN × aN) e => (s.1, CU s.2 e)) s).2 = es.foldl CU s.2 := by
      intro es
      induction es with
      | nil => intro s; rfl
      | cons e es ih => intro s; rw [List.foldl_cons, List.foldl_cons, ih]
    rw [key]
    simp only
    rw [GO ha.1]
    have hfl := EI l
    have hsg := KR (run.getD 0 0) (run.getD (run.length - 1) 0 + 1) (gs := groups l) (rs := []) (mR hm).2.2 (by simp)
    rw [hfl] at hsg
    rw [hsg, List.nil_append]
    rfl
  · simp only
    unfold CU
    split
    · exact RM hI
    · exact aCM hI (by simp [oU] at hrise; omega)

def FJ (n : Nat) (mk : List Int → aN) : List Int → List aN
  | [] => []
  | x :: r => (if n ≤ r.length + 1 then [mk ((x :: r).take n)] else []) ++ FJ n mk r

theorem KL {n : Nat} {mk : List Int → aN} : ∀ {r : List Int}, r.length < n → FJ n mk r = []
  | [], _ => rfl
  | x :: r, h => by
    simp only [List.length_cons] at h
    unfold FJ
    rw [if_neg (by omega), KL (by omega)]; rfl

theorem EM {l : List aG} (hl : okL l) (hm : jI l = true) {n : Int} (h1 : 1 ≤ n) (h2 : n ≤ 64) : ∀ (rest : List Int) (out : List aN), (∀ x ∈ rest, 0 ≤ x ∧ x < 1125899906842624) → out.length + rest.length ≤ 1000000 →
    lp (fun s : List Int × List aN => mE l n s.1 s.2) (rest, out) = some (out ++ FJ n.toNat (aAL l) rest)
  | [], out, _, _ => by
    refine cV ?_
    simp only [mE, decide_eq_false (show ¬ n ≤ ((([] : List Int).length : Nat) : Int) by simp; omega), cond_false]
    simp [FJ]
  | x :: r, out, hr, ho => by
    simp only [List.length_cons] at ho
    by_cases hc : n ≤ (((x :: r).length : Nat) : Int)
    · have hlen : n.toNat ≤ (x :: r).length := by omega
      have ht : ((x :: r).take n.toNat).length = n.toNat := by rw [List.length_take]; omega
      have hw := MX hl hm (run := (x :: r).take n.toNat) (by omega) (by omega) (fun y hy => hr y (List.mem_of_mem_take hy))
      have hb : mE l n (x :: r) out = some (.inl (r, out ++ [aAL l ((x :: r).take n.toNat)])) := by
        simp only [mE, decide_eq_true hc, cond_true]
        rw [aP ⟨by omega, Int.le_refl _, hc⟩, hw, Option.bind_some, aP (by simp only [List.length_cons, List.length_nil]; omega), aP ⟨by omega, by simp only [List.length_cons]; omega⟩]
        rfl
      rw [fO hb, EM hl hm h1 h2 r _ (fun y hy => hr y (by simp [hy])) (by simp only [List.length_append, List.length_cons, List.length_nil]; omega)]
      conv => rhs; unfold FJ
      simp only [List.length_cons] at hlen
      rw [if_pos hlen, List.append_assoc]
    · have hlen : (x :: r).length < n.toNat := by omega
      rw [KL hlen]
      refine cV ?_
      simp only [mE, decide_eq_false hc, cond_false, List.append_nil]

def UG (l : List aG) (n frm : Int) : List aN × Int :=
  if uJ l n ≠ 0 then ([], uJ l n) else if frm < 0 ∨ 1125899906842624 < frm then ([], 13) else
  if 1024 < (((dW l).drop (eO (dW l) frm)).length : Int) - n + 1 then ([], 7) else (FJ n.toNat (aAL l) ((dW l).drop (eO (dW l) frm)), 0)

theorem OU {l : List aG} (hl : okL l) (n frm : Int) : sA l n frm = some (UG l n frm) := by
  unfold sA UG
  rw [IJ hl, Option.bind_some]
  by_cases h : uJ l n = 0
  · obtain ⟨hm, ht, n1, n2⟩ := SD h
    obtain ⟨f1, f2, f3, f4⟩ := sF hm
    rw [decide_eq_true h, Bool.not_true, cond_false, if_neg (by simpa using h)]
    by_cases h1 : frm < 0 ∨ 1125899906842624 < frm
    · have : (decide (frm < 0) || decide (1125899906842624 < frm)) = true := by simpa using h1
      rw [this, cond_true, if_pos h1]
    · have : (decide (frm < 0) || decide (1125899906842624 < frm)) = false := by simpa using h1
      rw [this, cond_false, if_neg h1, DO (mR hm).1 (IL hm), Option.bind_some]
      obtain ⟨⟨b, hb⟩, _, _⟩ := OT f2 (by omega) frm
      have hle := zV (dW l) frm
      rw [hb, Option.bind_some, aP ⟨by omega, by omega, Int.le_refl _, Int.le_refl _⟩]
      simp only [Int.toNat_natCast, List.take_length]
      have hdl : ((dW l).drop (eO (dW l) frm)).length ≤ 4096 := by rw [List.length_drop]; omega
      have w1 : IntKind.i64.wrap (IntKind.i64.wrap (((((dW l).drop (eO (dW l) frm)).length : Nat) : Int) - n) + 1) = ((((dW l).drop (eO (dW l) frm)).length : Nat) : Int) - n + 1 := by
        rw [cT (n := ((((dW l).drop (eO (dW l) frm)).length : Nat) : Int) - n) (by omega) (by omega), cT (by omega) (by omega)]
      rw [w1]
      by_cases h3 : 1024 < ((((dW l).drop (eO (dW l) frm)).length : Nat) : Int) - n + 1
      · rw [decide_eq_true h3, cond_true, if_pos h3]
      · rw [decide_eq_false h3, cond_false, if_neg h3]
        unfold uY
        rw [EM hl hm n1 n2 _ [] (fun x hx => f4 x (List.mem_of_mem_drop hx)) (by simp only [List.length_nil]; omega)]
        rfl
  · rw [decide_eq_false h, Bool.not_false, cond_true, if_pos h]

end Go.Abs
namespace Go.Abs
open Go
theorem w00 : IntKind.i64.wrap 0 = 0 := cT (by omega) (by omega)

def pL : Int → Int → List aC → List bI
  | n, fr, [] => if 0 < n then [⟨fr, 1125899906842624⟩] else []
  | n, fr, j :: r => if n + j.Net = 0 then ⟨if n = 0 then j.At else fr, j.At⟩ :: pL 0 (if n = 0 then j.At else fr) r else pL (n + j.Net) (if n = 0 then j.At else fr) r

def DE (f : List aC) : List bI := pL 0 0 f

def BR (n : Int) (f : List aC) : Prop := n ≤ 1048576 * (2048 - f.length) ∧ -(1048576 * (2048 - f.length)) ≤ n ∧ f.length ≤ 1024

theorem BR.next {n : Int} {j : aC} {r : List aC} (h : BR n (j :: r)) (hj : j.Net ≤ 1048576 ∧ -1048576 ≤ j.Net) : BR (n + j.Net) r := by
  obtain ⟨h1, h2, h3⟩ := h
  simp only [List.length_cons] at h1 h2 h3
  exact ⟨by omega, by omega, by omega⟩

theorem BR.small {n : Int} {f : List aC} (h : BR n f) : n ≤ 4294967296 ∧ -4294967296 ≤ n := by
  obtain ⟨h1, h2, h3⟩ := h
  omega

theorem BR.zero {n : Int} {f : List aC} (h : BR n f) : BR 0 f := by
  obtain ⟨h1, h2, h3⟩ := h
  exact ⟨by omega, by omega, h3⟩

theorem WB {σ : Type} {y : σ → bI → Option (σ × Bool)} {f : List aC} (hl : f.length ≤ 1024) : ∀ (r : List aC) (k : Nat) (last n fr : Int) (s s' : σ), f.drop k = r → k ≤ f.length → rR last r → BR n r → xZ y (pL n fr r) s = some s' →
    ∃ x, lp (fun s : σ × Int × Int × Int => gT y f ((f.length : Nat) : Int) s.1 s.2.1 s.2.2.1 s.2.2.2) (s, n, fr, (k : Int)) = some x ∧ Sum.elim (fun rr => nX y rr.1 rr.2.1 rr.2.2) (fun rr => some rr) x = some s' := by
  intro r
  induction r with
  | nil =>
    intro k last n fr s s' hd hk _ _ h
    have hk' : k = f.length := by
      have := congrArg List.length hd
      simp at this; omega
    subst hk'
    refine ⟨.inl (s, n, fr), cV ?_, ?_⟩
    · show gT _ _ _ _ _ _ _ = _
      simp only [gT, kO, cond_false]
    · simp only [Sum.elim_inl, nX]
      by_cases hn : 0 < n
      · simp only [pL, hn, if_true, xZ] at h
        obtain ⟨x, hx, h⟩ := aW h
        rw [decide_eq_true hn, cond_true, hx]
        simp only [Option.bind_some]
        cases hx2 : x.2 <;> rw [hx2] at h <;> simpa using h
      · simp only [pL, hn, if_false, xZ] at h
        rw [decide_eq_false hn, cond_false]; exact h
  | cons j r ih =>
    intro k last n fr s s' hd hk hr hroom h
    obtain ⟨hget, hd'⟩ := drop_cons hd
    have hlt : k < f.length := (List.getElem?_eq_some_iff.1 hget).1
    obtain ⟨d1, d2, d3, d4⟩ := idx hget (by omega)
    have hj := hr.1
    have hnx := hroom.next ⟨hj.2.2.2.1, hj.2.2.2.2⟩
    have hsm := hnx.small
    have hw : IntKind.i64.wrap (n + j.Net) = n + j.Net := cT (by omega) (by omega)
    -- what the body does
    have body : gT y f ((f.length : Nat) : Int) s n fr (k : Int) = mN y s n (if n = 0 then j.At else fr) j f ((f.length : Nat) : Int) (k : Int) := by
      simp only [gT, d1, cond_true, aP d2, d3]
      by_cases hn : n = 0 <;> simp [hn]
    by_cases hz : n + j.Net = 0
    · simp only [pL, hz, if_true, xZ] at h
      obtain ⟨x, hx, h⟩ := aW h
      have hb : (fun s : σ × Int × Int × Int => gT y f ((f.length : Nat) : Int) s.1 s.2.1 s.2.2.1 s.2.2.2) (s, n, fr, (k : Int)) = some (if x.2 then .inl (x.1, 0, (if n = 0 then j.At else fr), ((k + 1 : Nat) : Int)) else .inr (.inr x.1)) := by
        show gT _ _ _ _ _ _ _ = _
        rw [body]
        simp only [mN, hw, d4, hz, w00, decide_true, AX, cond_true, hx, Option.bind_some, Bool.true_and]
        cases x.2 <;> rfl
      cases hx2 : x.2
      · rw [hx2] at hb h
        simp only [Bool.false_eq_true, if_false, Option.some.injEq] at hb h
        exact ⟨_, cV hb, by simpa using h⟩
      · rw [hx2] at hb h
        simp only [if_true] at hb h
        obtain ⟨z, hz1, hz2⟩ := ih (k + 1) j.At 0 _ x.1 s' hd' (by omega) hr.2 hnx.zero h
        exact ⟨z, by rw [fO hb]; exact hz1, hz2⟩
    · simp only [pL, hz, if_false] at h
      have hb : (fun s : σ × Int × Int × Int => gT y f ((f.length : Nat) : Int) s.1 s.2.1 s.2.2.1 s.2.2.2) (s, n, fr, (k : Int)) = some (.inl (s, n + j.Net, (if n = 0 then j.At else fr), ((k + 1 : Nat) : Int))) := by
        show gT _ _ _ _ _ _ _ = _
        rw [body]
        simp only [mN, hw, d4, decide_eq_false hz, AX, cond_false, Option.bind_some, Bool.false_and]
      obtain ⟨z, hz1, hz2⟩ := ih (k + 1) j.At (n + j.Net) _ s s' hd' (by omega) hr.2 hnx h
      exact ⟨z, by rw [fO hb]; exact hz1, hz2⟩

theorem aAT {σ : Type} {y : σ → bI → Option (σ × Bool)} {f : List aC} (hf : fI f = true) {s s' : σ} (h : xZ y (DE f) s = some s') : rG y f s = some s' := by
  obtain ⟨hl, hr⟩ := mS.1 hf
  obtain ⟨x, h1, h2⟩ := WB (y := y) hl f 0 (-2) 0 0 s s' rfl (by omega) hr ⟨by omega, by omega, hl⟩ h
  unfold rG tJ
  simp only [Int.natCast_zero] at h1
  rw [h1]
  exact h2

theorem GK {x : Int} (hx : x < 1125899906842624) : ∀ {f : List aC} {last n fr : Int}, rR last f → (∀ t, 0 ≤ n + val f t) → (n ≠ 0 → fr ≤ last) →
    ((∃ s ∈ pL n fr f, s.From ≤ x ∧ x < s.To) ↔ (n ≠ 0 → fr ≤ x) ∧ 0 < n + val f x)
  | [], last, n, fr, _, hn, _ => by
    have h0 := hn 0
    simp only [ZV, Int.add_zero] at h0 ⊢
    unfold pL
    by_cases h : 0 < n
    · rw [if_pos h]
      simp only [List.mem_singleton]
      constructor
      · rintro ⟨s, rfl, h1, h2⟩; exact ⟨fun _ => h1, h⟩
      · rintro ⟨h1, _⟩; exact ⟨_, rfl, h1 (by omega), hx⟩
    · rw [if_neg h]
      simp [h]
  | j :: r, last, n, fr, hr, hn, hf => by
    have hj := hr.1
    have hab := hr.2.above
    have hv : ∀ t, t ≤ j.At → val r t = 0 := fun t ht => wA fun k hk => by have := (hab k hk).1; omega
    have hn0 : 0 ≤ n := by
      have := hn (j.At - 1)
      rw [mC, if_neg (by omega), hv _ (by omega)] at this; omega
    have hn1 : 0 ≤ n + j.Net := by
      have := hn j.At
      rw [mC, if_pos (by omega), hv _ (by omega)] at this; omega
    have hn2 : ∀ t, 0 ≤ (n + j.Net) + val r t := fun t => by
      by_cases ht : j.At ≤ t
      · have := hn t
        rw [mC, if_pos ht] at this; omega
      · rw [hv t (by omega)]; omega
    rw [mC]
    unfold pL
    by_cases hz : n + j.Net = 0
    · rw [if_pos hz]
      have ih := GK hx (f := r) (last := j.At) (n := 0) (fr := if n = 0 then j.At else fr) hr.2 (fun t => by have := hn2 t; omega) (by simp)
      have e : (∃ s ∈ (⟨if n = 0 then j.At else fr, j.At⟩ : bI) :: pL 0 (if n = 0 then j.At else fr) r, s.From ≤ x ∧ x < s.To) ↔ ((if n = 0 then j.At else fr) ≤ x ∧ x < j.At) ∨ (∃ s ∈ pL 0 (if n = 0 then j.At else fr) r, s.From ≤ x ∧ x < s.To) := by
        simp only [List.mem_cons, or_and_right, exists_or, exists_eq_left]
      rw [e, ih]
      by_cases hnz : n = 0
      · omega
      · rw [if_neg hnz]
        have hfl := hf hnz
        by_cases hxj : j.At ≤ x
        · rw [if_pos hxj]
          constructor
          · rintro (h | h)
            · omega
            · exact ⟨fun _ => by omega, by have := h.2; omega⟩
          · rintro ⟨_, h⟩; right; exact ⟨by simp, by omega⟩
        · rw [if_neg hxj, hv x (by omega)]
          constructor
          · rintro (h | h)
            · exact ⟨fun _ => h.1, by omega⟩
            · have := h.2; omega
          · rintro ⟨h, _⟩; left; exact ⟨h hnz, by omega⟩
    · rw [if_neg hz, GK hx (f := r) (last := j.At) (n := n + j.Net) (fr := if n = 0 then j.At else fr) hr.2 hn2 (fun _ => by
        split
        · exact Int.le_refl _
        · rename_i h; have := hf h; omega)]
      by_cases hnz : n = 0
      · simp only [hnz, if_true]
        by_cases hxj : j.At ≤ x
        · rw [if_pos hxj]
          constructor
          · rintro ⟨_, h⟩; exact ⟨by simp, by omega⟩
          · rintro ⟨_, h⟩; exact ⟨fun _ => hxj, by omega⟩
        · rw [if_neg hxj, hv x (by omega)]
          constructor
          · rintro ⟨h, _⟩; exact absurd (h (by omega)) hxj
          · rintro ⟨_, h⟩; omega
      · rw [if_neg hnz]
        by_cases hxj : j.At ≤ x
        · rw [if_pos hxj]
          constructor
          · rintro ⟨h, h2⟩; exact ⟨fun _ => h hz, by omega⟩
          · rintro ⟨h, h2⟩; exact ⟨fun _ => h hnz, by omega⟩
        · rw [if_neg hxj, hv x (by omega)]
          constructor
          · rintro ⟨h, h2⟩; exact ⟨fun _ => h hz, by omega⟩
          · rintro ⟨h, h2⟩; exact ⟨fun _ => h hnz, by omega⟩

theorem EK : ∀ {f : List aC} {last n fr : Int}, rR last f → -2 ≤ last → last < 1125899906842624 → (n ≠ 0 → fr ≤ last ∧ -1 ≤ fr) → ∀ s ∈ pL n fr f, -1 ≤ s.From ∧ s.From < s.To ∧ s.To ≤ 1125899906842624
  | [], last, n, fr, _, h1, h2, hf, s, hs => by
    unfold pL at hs
    split at hs
    · simp only [List.mem_singleton] at hs; subst hs
      have := hf (by omega)
      exact ⟨this.2, by show fr < 1125899906842624; omega, Int.le_refl _⟩
    · simp at hs
  | j :: r, last, n, fr, hr, h1, h2, hf, s, hs => by
    have hj := hr.1
    have key : (if n = 0 then j.At else fr) ≤ j.At ∧ -1 ≤ (if n = 0 then j.At else fr) := by
      split
      · omega
      · rename_i h; have := hf h; omega
    unfold pL at hs
    split at hs
    · rcases List.mem_cons.1 hs with rfl | hs
      · rename_i hz
        have hnz : n ≠ 0 := by omega
        have := hf hnz
        refine ⟨key.2, ?_, by show j.At ≤ _; omega⟩
        show (if n = 0 then j.At else fr) < j.At
        rw [if_neg hnz]; omega
      · exact EK hr.2 (by omega) (by omega) (by simp) s hs
    · exact EK hr.2 (by omega) (by omega) (fun _ => key) s hs

theorem ME {f : List aC} (hf : fI f = true) (hv : ∀ t, 0 ≤ val f t) {x : Int} (hx : x < 1125899906842624) : (∃ s ∈ DE f, s.From ≤ x ∧ x < s.To) ↔ 0 < val f x := by
  rw [DE, GK hx (mS.1 hf).2 (fun t => by have := hv t; omega) (by simp)]
  simp

theorem KW {f : List aC} (hf : fI f = true) : ∀ s ∈ DE f, -1 ≤ s.From ∧ s.From < s.To ∧ s.To ≤ 1125899906842624 :=
  EK (mS.1 hf).2 (by omega) (by omega) (by simp)

def nF (f : List aC) (a b : Int) : Int := val f a + oY (a + 1) b f

theorem MN (a b : Int) : ∀ {f : List aC}, (∀ j ∈ f, j.Net ≤ 1048576) → 0 ≤ oY a b f ∧ oY a b f ≤ 1048576 * f.length
  | [], _ => by simp [oY]
  | j :: r, h => by
    have ih := MN a b (f := r) fun k hk => h k (List.mem_cons_of_mem _ hk)
    have hj := h j (by simp)
    rw [yI]
    simp only [List.length_cons, Int.natCast_add, Int.natCast_one, Int.mul_add, Int.mul_one]
    by_cases hi : inW a b j = true
    · rw [if_pos hi]
      simp only [inW, Bool.and_eq_true, decide_eq_true_eq] at hi
      omega
    · rw [if_neg hi]; omega

theorem NR {f : List aC} (hf : fI f = true) {w : bI} : uE f w = some (nF f w.From w.To) := by
  obtain ⟨hl, hr⟩ := mS.1 hf
  have hb := hr.above
  have hv := IU (f := f) w.From (show (0 : Int) ≤ 1048576 by omega) fun j hj => ⟨(hb j hj).2.2.2.1, (hb j hj).2.2.2.2⟩
  unfold uE
  rw [aAJ, hf]
  simp only [if_true, Option.bind_some]
  unfold wU
  have key := yL (l := f) (body := fun s : Int × Int => pW w f ((f.length : Nat) : Int) s.1 s.2) (fun (n : Int) i => (n, i)) (fun n r => n + oY (w.From + 1) w.To r)
    (fun n r => n ≤ 1048576 * (2048 - r.length) ∧ -(1048576 * (2048 - r.length)) ≤ n ∧ r.length ≤ 1024 ∧ ∀ j ∈ r, j.Net ≤ 1048576 ∧ -1048576 ≤ j.Net) (val f w.From) ?_ ?_ ⟨by omega, by omega, hl, fun j hj => ⟨(hb j hj).2.2.2.1, (hb j hj).2.2.2.2⟩⟩
  · rw [key]
    rfl
  · intro i j r n hj hI
    left
    obtain ⟨d1, d2, d3, d4⟩ := idx hj (by omega)
    obtain ⟨i1, i2, i3, i4⟩ := hI
    simp only [List.length_cons] at i1 i2 i3
    have i5 := i4 j (by simp)
    have hmx : (if (0 : Int) > j.Net then (0 : Int) else j.Net) = if 0 < j.Net then j.Net else 0 := by split <;> split <;> omega
    refine ⟨n + (if inW (w.From + 1) w.To j then j.Net else 0), ?_, ⟨?_, ?_, by omega, fun k hk => i4 k (List.mem_cons_of_mem _ hk)⟩, by rw [yI]; omega⟩
    · have e1 : inW (w.From + 1) w.To j = (decide (0 < j.Net) && ((decide (w.From < j.At)) && (decide (j.At < w.To)))) := by
        unfold inW
        have : decide (w.From + 1 ≤ j.At) = decide (w.From < j.At) := decide_eq_decide.2 (by omega)
        rw [this]
      simp only [pW, d1, cond_true, aP d2, d3, hmx, e1]
      cases hw : (decide (w.From < j.At)) && (decide (j.At < w.To)) with
      | false =>
        simp only [cond_false, pY, d4, Bool.and_false, Bool.false_eq_true, if_false, Int.add_zero]
      | true =>
        have : IntKind.i64.wrap (n + (if 0 < j.Net then j.Net else 0)) = n + (if 0 < j.Net then j.Net else 0) := cT (by split <;> omega) (by split <;> omega)
        simp only [cond_true, pY, d4, this, Bool.and_true, decide_eq_true_eq]
    · split <;> omega
    · split <;> omega
  · intro n _
    simp only [pW, kO, cond_false]
    simp [oY]

theorem XB {a b x : Int} (h1 : a ≤ x) (h2 : x < b) : ∀ f : List aC, val f x ≤ val f a + oY (a + 1) b f
  | [] => by simp [oY, ZV]
  | j :: r => by
    have ih := XB h1 h2 r
    rw [mC, mC, yI]
    by_cases hi : inW (a + 1) b j = true
    · rw [if_pos hi]
      simp only [inW, Bool.and_eq_true, decide_eq_true_eq] at hi
      split <;> split <;> omega
    · rw [if_neg hi]
      have hi : ¬ (0 < j.Net ∧ a + 1 ≤ j.At ∧ j.At < b) := by simpa [inW] using hi
      split <;> split <;> omega

theorem VK : ∀ {f : List aC} {last : Int}, rR last f → ∀ j ∈ f, val f j.At = val f (j.At - 1) + j.Net
  | [], _, _, j, hj => by simp at hj
  | k :: r, last, hr, j, hj => by
    have hab := hr.2.above
    rw [mC, mC]
    rcases List.mem_cons.1 hj with rfl | hj
    · rw [if_pos (by omega), if_neg (by omega), wA (f := r) fun q hq => (hab q hq).1, wA (f := r) fun q hq => by have := (hab q hq).1; omega]
      omega
    · have := (hab j hj).1
      rw [if_pos (by omega), if_pos (by omega), VK hr.2 j hj]
      omega

theorem KI {f : List aC} (hf : fI f = true) (hv : ∀ t, 0 ≤ val f t) {a b : Int} (hab : a < b) : 0 < nF f a b ↔ ∃ x, a ≤ x ∧ x < b ∧ 0 < val f x := by
  obtain ⟨hl, hr⟩ := mS.1 hf
  have hb := hr.above
  have hg := MN (a + 1) b (f := f) fun j hj => (hb j hj).2.2.2.1
  unfold nF
  constructor
  · intro h
    by_cases h0 : 0 < val f a
    · exact ⟨a, Int.le_refl _, hab, h0⟩
    · have hva := hv a
      have hne : f.filter (inW (a + 1) b) ≠ [] := by
        intro hc
        unfold oY at h
        rw [hc] at h
        simp at h; omega
      obtain ⟨j, hj⟩ := List.exists_mem_of_ne_nil _ hne
      obtain ⟨hj1, hj2⟩ := List.mem_filter.1 hj
      simp only [inW, Bool.and_eq_true, decide_eq_true_eq] at hj2
      have := VK hr j hj1
      have := hv (j.At - 1)
      exact ⟨j.At, by omega, by omega, by omega⟩
  · rintro ⟨x, h1, h2, h3⟩
    have := XB h1 h2 f
    omega

end Go.Abs
namespace Go.Abs
open Go
theorem RO {β : Type} {k : Int} {v : β} : ∀ {m : List (Int × β)}, k ∈ m.map (·.1) → (fB m k v).map (·.1) = m.map (·.1)
  | [], h => by simp at h
  | p :: m, h => by
    by_cases hp : p.1 = k
    · simp [fB, hp]
    · simp only [List.map_cons, List.mem_cons] at h
      rcases h with h | h
      · exact absurd h.symm hp
      · simp only [fB, hp, if_false, List.map_cons, RO h]

theorem RK {β : Type} {k : Int} {v : β} {m : List (Int × β)} (h : k ∉ m.map (·.1)) : (fB m k v).map (·.1) = m.map (·.1) ++ [k] := by
  rw [GC fun p hp e => h (List.mem_map.2 ⟨p, hp, e⟩)]; simp

theorem JM {β : Type} {k : Int} : ∀ {m : List (Int × β)}, gH m k = none ↔ k ∉ m.map (·.1)
  | [] => by simp [gH]
  | p :: m => by
    rw [gH]
    by_cases hp : p.1 = k
    · simp [hp]
    · rw [if_neg hp, JM (m := m)]
      simp only [List.map_cons, List.mem_cons, not_or]
      exact ⟨fun h => ⟨fun e => hp e.symm, h⟩, fun h => h.2⟩

theorem HK {β : Type} {k x : Int} {v : β} : ∀ {m : List (Int × β)}, gH (fB m k v) x = if x = k then some v else gH m x
  | [] => by
    simp only [fB, gH]
    by_cases h : k = x
    · simp [h]
    · rw [if_neg h, if_neg (fun e => h e.symm)]
  | p :: m => by
    by_cases hp : p.1 = k
    · simp only [fB, if_pos hp, gH]
      by_cases h : k = x
      · simp [h]
      · rw [if_neg h, if_neg (fun e => h e.symm), if_neg (by rw [hp]; exact h)]
    · simp only [fB, if_neg hp, gH]
      by_cases h : p.1 = x
      · rw [if_pos h, if_pos h, if_neg (fun e => hp (h.trans e))]
      · rw [if_neg h, if_neg h, HK (m := m)]

theorem HM {S α : Type} {f : S → α → Option S} : ∀ {a b : List α} {s : S}, dO f s (a ++ b) = (dO f s a).bind fun s' => dO f s' b
  | [], b, s => rfl
  | x :: a, b, s => by
    simp only [List.cons_append, dO]
    cases f s x with
    | none => rfl
    | some s' => exact HM (a := a)

def mkW (size t : Int) : aN := ⟨⟨t, min (t + size) 1125899906842624⟩, []⟩

def jQ (g : List aI × List aC) (p : aN) : aN :=
  if p.Rows = [] ∨ (mX p.Rows).Row ≠ g.1 then ⟨p.Span, p.Rows ++ [⟨g.1, nF g.2 p.Span.From p.Span.To⟩]⟩ else p

def mL (size : Int) (g : List aI × List aC) (m : List (Int × aN)) (t : Int) : Option (List (Int × aN)) :=
  match gH m t with
  | none => if m.length = 1024 then none else some (fB m t (jQ g (mkW size t)))
  | some p => some (fB m t (jQ g p))

theorem zE (rs : List bG) (c : bG) : mX (rs ++ [c]) = c := by
  unfold mX
  have : (rs ++ [c]).length - 1 = rs.length := by simp
  rw [this, List.getD_eq_getElem?_getD, List.getElem?_append_right (Nat.le_refl _)]
  simp

theorem YU (g : List aI × List aC) (p : aN) : (jQ g p).Rows ≠ [] ∧ (mX (jQ g p).Rows).Row = g.1 := by
  unfold jQ
  split
  · exact ⟨by simp, by rw [zE]⟩
  · rename_i h
    simp only [not_or, Decidable.not_not] at h
    exact h

theorem VZ (g : List aI × List aC) (p : aN) : jQ g (jQ g p) = jQ g p := by
  obtain ⟨h1, h2⟩ := YU g p
  have key : ∀ q : aN, q.Rows ≠ [] → (mX q.Rows).Row = g.1 → jQ g q = q := fun q a b => by
    unfold jQ
    rw [if_neg (by simp [a, b])]
  exact key _ h1 h2

theorem JP {g : List aI × List aC} (hg : fI g.2 = true) (hr : g.1.length ≤ 4398046510976) {p : aN} (hp : p.Rows.length ≤ 1000000) (hlr : p.Rows ≠ [] → (mX p.Rows).Row.length ≤ 4398046510976) : pH g.1 g.2 p = some (jQ g p) := by
  unfold pH
  have hlen : IntKind.i64.wrap (((List.length p.Rows : Nat) : Int) - 1) = ((List.length p.Rows : Nat) : Int) - 1 := cT (by omega) (by omega)
  simp only [wR, lN, gD, hlen]
  cases hR : p.Rows with
  | nil =>
    have h0 : decide ((((List.length ([] : List bG) : Nat) : Int) - 1) < 0) = true := by decide
    simp only [h0, Bool.not_true, Bool.true_or, cond_true, dL, cond_false, Option.bind_some]
    rw [aP (by simp)]
    rw [BM hr, Option.bind_some, NR hg, Option.bind_some, aP (by simp)]
    unfold jQ
    rw [if_pos (.inl hR), hR]
  | cons c rs =>
    have hl2 : (c :: rs).length ≤ 1000000 := by rw [← hR]; exact hp
    have hge : 0 ≤ (((List.length (c :: rs) : Nat) : Int) - 1) ∧ (((List.length (c :: rs) : Nat) : Int) - 1) < ((List.length (c :: rs) : Nat) : Int) := by simp only [List.length_cons]; omega
    have h0 : decide ((((List.length (c :: rs) : Nat) : Int) - 1) < 0) = false := decide_eq_false (by omega)
    have hlast : List.getD (c :: rs) (Int.toNat (((List.length (c :: rs) : Nat) : Int) - 1)) default = mX (c :: rs) := by
      unfold mX
      congr 1
      omega
    rw [h0]
    simp only [Bool.not_false, Bool.false_or, dL, cond_true]
    rw [aP (fun _ => hge), hlast]
    have hsame : rD (mX (c :: rs)).Row g.1 = some (decide ((mX (c :: rs)).Row = g.1)) := by
      have := hlr (by rw [hR]; simp)
      rw [hR] at this
      exact FO _ _ (by omega)
    rw [hsame, Option.bind_some]
    unfold jQ
    rw [hR]
    by_cases hq : (mX (c :: rs)).Row = g.1
    · rw [decide_eq_true hq, if_neg (by simp [hq])]; rfl
    · rw [decide_eq_false hq, if_pos (.inr hq)]
      simp only [Bool.not_false, cond_true]
      rw [BM hr, Option.bind_some, NR hg, Option.bind_some, aP (by simp only [List.length_cons, List.length_nil] at hl2 ⊢; omega)]

def LX (n : Nat) (r : List aI) (p : aN) : Prop := (p.Rows.length ≤ n ∨ (p.Rows ≠ [] ∧ (mX p.Rows).Row = r ∧ p.Rows.length ≤ n + 1)) ∧ (p.Rows ≠ [] → (mX p.Rows).Row.length ≤ 4398046510976)

theorem LX.add {n : Nat} {g : List aI × List aC} (hr : g.1.length ≤ 4398046510976) {p : aN} (h : LX n g.1 p) : LX n g.1 (jQ g p) := by
  obtain ⟨h, h'⟩ := h
  unfold jQ
  split
  · rename_i hc
    refine ⟨.inr ⟨by simp, by rw [zE], ?_⟩, fun _ => by rw [zE]; exact hr⟩
    rcases h with h | ⟨h1, h2, h3⟩
    · simp; omega
    · rcases hc with hc | hc
      · exact absurd hc h1
      · exact absurd h2 hc
  · exact ⟨h, h'⟩

def GL (n : Nat) (r : List aI) (m : List (Int × aN)) : Prop := ∀ t p, gH m t = some p → LX n r p

theorem aCG {size : Int} {g : List aI × List aC} (hg : fI g.2 = true) (hr : g.1.length ≤ 4398046510976) {n : Nat} (hn : n ≤ 900000) {m : List (Int × aN)} (hm : GL n g.1 m) {t : Int} (h0 : 0 ≤ t) (h1 : t < 1125899906842624) (hs0 : 0 ≤ size) (hs : size ≤ 1099511627776) (b : Bool) :
    (∀ m', mL size g m t = some m' → nR g.1 g.2 size b m t = some (.inl (b, m')) ∧ GL n g.1 m') ∧ (mL size g m t = none → nR g.1 g.2 size b m t = some (.inr (false, m))) := by
  unfold mL nR
  have small : ∀ p, LX n g.1 p → p.Rows.length ≤ 1000000 := fun p hp => by rcases hp.1 with h | ⟨_, _, h⟩ <;> omega
  have put : ∀ p, LX n g.1 p → GL n g.1 (fB m t (jQ g p)) := by
    intro p hp t' p' h
    rw [HK] at h
    split at h
    · cases h; exact hp.add hr
    · exact hm t' p' h
  cases hgt : gH m t with
  | none =>
    simp only
    have hw : IntKind.i64.wrap (t + size) = t + size := cT (by omega) (by omega)
    have hmk : (aN.mk (bI.mk t (if (1125899906842624 : Int) < (wR (t + size)) then (1125899906842624 : Int) else (wR (t + size)))) []) = mkW size t := by
      unfold mkW
      simp only [wR, hw]
      congr 2
      rw [Int.min_def]; split <;> split <;> omega
    have hf : LX n g.1 (mkW size t) := ⟨.inl (by simp [mkW]), fun h => absurd rfl h⟩
    rw [hmk, JP hg hr (small _ hf) hf.2]
    by_cases hl : m.length = 1024
    · have : decide ((lN m) = (1024 : Int)) = true := decide_eq_true (by simp only [lN]; omega)
      rw [this, if_pos hl]
      exact ⟨fun m' h => (by cases h), fun _ => rfl⟩
    · have : decide ((lN m) = (1024 : Int)) = false := decide_eq_false (by simp only [lN]; omega)
      rw [this, if_neg hl]
      refine ⟨fun m' h => ?_, fun h => (by cases h)⟩
      cases h
      exact ⟨rfl, put _ hf⟩
  | some p =>
    simp only
    have hf := hm t p hgt
    rw [JP hg hr (small _ hf) hf.2]
    refine ⟨fun m' h => ?_, fun h => (by cases h)⟩
    cases h
    exact ⟨rfl, put _ hf⟩

theorem WQ {size : Int} {g : List aI × List aC} (hg : fI g.2 = true) (hr : g.1.length ≤ 4398046510976) {n : Nat} (hn : n ≤ 900000) (hs0 : 0 ≤ size) (hs : size ≤ 1099511627776) (b : Bool) : ∀ (ts : List Int) (m : List (Int × aN)), GL n g.1 m → (∀ t ∈ ts, 0 ≤ t ∧ t < 1125899906842624) →
    ∃ x, xZ (fun st t => rnd (fun (q : Bool × List (Int × aN)) => nR g.1 g.2 size q.1 q.2 t) st) ts (.inl (b, m)) = some x ∧ (∀ m', dO (mL size g) m ts = some m' → x = .inl (b, m') ∧ GL n g.1 m') ∧ (dO (mL size g) m ts = none → ∃ q, q.1 = false ∧ x = .inr q)
  | [], m, hm, _ => ⟨_, rfl, fun m' h => by simp only [dO, Option.some.injEq] at h; subst h; exact ⟨rfl, hm⟩, fun h => by simp [dO] at h⟩
  | t :: ts, m, hm, ht => by
    obtain ⟨h0, h1⟩ := ht t (by simp)
    obtain ⟨a1, a2⟩ := aCG hg hr hn hm h0 h1 hs0 hs b
    simp only [xZ, dO]
    cases hst : mL size g m t with
    | none =>
      have e := a2 hst
      refine ⟨.inr (false, m), ?_, fun m' h => (by simp at h), fun _ => ⟨_, rfl, rfl⟩⟩
      simp only [rnd, e, Option.bind_some, Sum.isLeft_inr, Bool.false_eq_true, if_false]
    | some m1 =>
      obtain ⟨e, hm1⟩ := a1 m1 hst
      obtain ⟨x, e1, e2, e3⟩ := WQ hg hr hn hs0 hs b ts m1 hm1 fun t' h' => ht t' (by simp [h'])
      refine ⟨x, ?_, e2, e3⟩
      simp only [rnd, e, Option.bind_some, Sum.isLeft_inl, if_true]
      exact e1

def oQ (size hop frm front : Int) (f : List aC) : List Int := (DE f).flatMap (sM size hop frm front)

theorem HC {size hop frm front : Int} (ok : OkH size hop frm front) (s : bI) : ∀ t ∈ sM size hop frm front s, 0 ≤ t ∧ t < 1125899906842624 := by
  intro t ht
  unfold sM at ht
  have h1 := (aBV (b := vX front s) ok.h0 (uG size hop frm s)).2 t ht
  obtain ⟨k, _, h2⟩ := (UW ok.h0 _).1 ht
  have h3 := (sP (n := s.From - size) ok.h0).1
  have h4 : iX hop (s.From - size) ≤ uG size hop frm s := Int.le_max_left _ _
  have h5 : vX front s ≤ 1125899906842624 := Int.min_le_right _ _
  omega

theorem UO {size hop frm front : Int} (ok : OkH size hop frm front) {g : List aI × List aC} (hg : fI g.2 = true) (hr : g.1.length ≤ 4398046510976) {n : Nat} (hn : n ≤ 900000) (b : Bool) : ∀ (ss : List bI) (m : List (Int × aN)), GL n g.1 m → (∀ s ∈ ss, -1 ≤ s.From ∧ s.From < s.To ∧ s.To ≤ 1125899906842624) →
    ∃ x, xZ (fun st s => rnd (fun (q : Bool × List (Int × aN)) => pG g.1 g.2 size hop frm front q.1 q.2 s) st) ss (.inl (b, m)) = some x ∧ (∀ m', dO (mL size g) m (ss.flatMap (sM size hop frm front)) = some m' → x = .inl (b, m') ∧ GL n g.1 m') ∧ (dO (mL size g) m (ss.flatMap (sM size hop frm front)) = none → ∃ q, q.1 = false ∧ x = .inr q)
  | [], m, hm, _ => ⟨_, rfl, fun m' h => by simp only [List.flatMap_nil, dO, Option.some.injEq] at h; subst h; exact ⟨rfl, hm⟩, fun h => by simp [dO] at h⟩
  | s :: ss, m, hm, hs => by
    have hsp := hs s (by simp)
    obtain ⟨x, e1, e2, e3⟩ := WQ hg hr hn (size := size) (by have := ok.s0; omega) ok.s1 b (sM size hop frm front s) m hm (HC ok s)
    have hl : pG g.1 g.2 size hop frm front b m s = (Sum.elim (fun q => some (.inl q)) (fun q => some (.inr q)) x : Option ((Bool × List (Int × aN)) ⊕ (Bool × List (Int × aN)))) := by
      unfold pG
      simp only [zD, Option.bind_some]
      rw [aAj ok hsp.1 (by omega) e1]
      rfl
    simp only [xZ, List.flatMap_cons, HM]
    cases hst : dO (mL size g) m (sM size hop frm front s) with
    | none =>
      obtain ⟨q, hq, rfl⟩ := e3 hst
      refine ⟨.inr q, ?_, fun m' h => (by simp at h), fun _ => ⟨_, hq, rfl⟩⟩
      simp only [rnd, hl, Sum.elim_inr, Option.bind_some, Sum.isLeft_inr, Bool.false_eq_true, if_false]
    | some m1 =>
      obtain ⟨rfl, hm1⟩ := e2 m1 hst
      obtain ⟨x, f1, f2, f3⟩ := UO ok hg hr hn b ss m1 hm1 fun s' h' => hs s' (by simp [h'])
      refine ⟨x, ?_, f2, f3⟩
      simp only [rnd, hl, Sum.elim_inl, Option.bind_some, Sum.isLeft_inl, if_true]
      exact f1

theorem aBl {size hop frm front : Int} (ok : OkH size hop frm front) {g : List aI × List aC} (hg : fI g.2 = true) (hr : g.1.length ≤ 4398046510976) {n : Nat} (hn : n ≤ 900000) {m : List (Int × aN)} (hm : GL n g.1 m) :
    ∃ x, vO m g.1 g.2 size hop frm front = some x ∧ (∀ m', dO (mL size g) m (oQ size hop frm front g.2) = some m' → x = (true, m') ∧ GL n g.1 m') ∧ (dO (mL size g) m (oQ size hop frm front g.2) = none → x.1 = false) := by
  obtain ⟨x, e1, e2, e3⟩ := UO ok hg hr hn false (DE g.2) m hm (KW hg)
  unfold vO
  simp only [AF, Option.bind_some]
  rw [aAT hg e1, Option.bind_some]
  unfold oQ
  cases hst : dO (mL size g) m ((DE g.2).flatMap (sM size hop frm front)) with
  | none =>
    obtain ⟨q, hq, rfl⟩ := e3 hst
    exact ⟨_, rfl, fun m' h => (by cases h), fun _ => hq⟩
  | some m1 =>
    obtain ⟨rfl, hm1⟩ := e2 m1 hst
    exact ⟨_, rfl, fun m' h => (by cases h; exact ⟨rfl, hm1⟩), fun h => (by cases h)⟩

end Go.Abs
namespace Go.Abs
open Go
theorem BF {hop n x : Int} (hh : 1 ≤ hop) (h0 : 0 ≤ x) (hx : ∃ k : Int, x = k * hop) (h : n < x) : iX hop n ≤ x := by
  unfold iX
  split
  · exact h0
  · obtain ⟨k, rfl⟩ := hx
    have hf := JI (n := n) hh
    have : n / hop < k := by
      rcases Int.lt_or_le (n / hop) k with h1 | h1
      · exact h1
      · have := Int.mul_le_mul_of_nonneg_right h1 (show 0 ≤ hop by omega)
        omega
    exact Int.mul_le_mul_of_nonneg_right (show n / hop + 1 ≤ k by omega) (by omega)

theorem YA {size hop frm : Int} {s : bI} (hh : 1 ≤ hop) (hf : 0 ≤ frm) : 0 ≤ uG size hop frm s ∧ (∃ k : Int, uG size hop frm s = k * hop) ∧ s.From - size < uG size hop frm s ∧ frm ≤ uG size hop frm s ∧
    ∀ x : Int, 0 ≤ x → (∃ k : Int, x = k * hop) → s.From - size < x → frm ≤ x → uG size hop frm s ≤ x := by
  obtain ⟨a1, a2, _, _, a5⟩ := sP (n := s.From - size) hh
  obtain ⟨b1, b2, _, _, b5⟩ := sP (n := frm - 1) hh
  unfold uG
  refine ⟨by omega, ?_, by omega, by omega, fun x x0 xk x1 x2 => ?_⟩
  · rcases Int.le_total (iX hop (s.From - size)) (iX hop (frm - 1)) with h | h
    · rw [Int.max_eq_right h]; exact b5
    · rw [Int.max_eq_left h]; exact a5
  · have c1 := BF hh x0 xk x1
    have c2 := BF hh x0 xk (show frm - 1 < x by omega)
    omega

theorem KM {size hop frm front : Int} (ok : OkH size hop frm front) {s : bI} {x : Int} : x ∈ sM size hop frm front s ↔ 0 ≤ x ∧ (∃ k : Int, x = k * hop) ∧ frm ≤ x ∧ x < front ∧ x < 1125899906842624 ∧ s.From - size < x ∧ x < s.To := by
  obtain ⟨f1, ⟨q, f2⟩, f3, f4, f5⟩ := YA (size := size) (s := s) ok.h0 ok.f0
  have hb : x < vX front s ↔ x < s.To ∧ x < front ∧ x < 1125899906842624 := by unfold vX; omega
  unfold sM
  rw [UW ok.h0]
  constructor
  · rintro ⟨k, h1, h2⟩
    have h3 := hb.1 h2
    have h4 : 0 ≤ (k : Int) * hop := Int.mul_nonneg (by omega) (by have := ok.h0; omega)
    refine ⟨by omega, ⟨q + k, ?_⟩, by omega, h3.2.1, h3.2.2, by omega, h3.1⟩
    rw [Int.add_mul]; omega
  · rintro ⟨h1, ⟨k, hk⟩, h2, h3, h4, h5, h6⟩
    have h7 := f5 x h1 ⟨k, hk⟩ h5 h2
    have h8 : q ≤ k := by
      rcases Int.lt_or_le k q with hlt | hle
      · have u := Int.mul_le_mul_of_nonneg_right (show k + 1 ≤ q by omega) (show 0 ≤ hop by have := ok.h0; omega)
        have u0 := ok.h0
        rw [Int.add_mul] at u
        omega
      · exact hle
    refine ⟨(k - q).toNat, ?_, hb.2 ⟨h6, h3, h4⟩⟩
    rw [Int.toNat_of_nonneg (by omega), Int.sub_mul]; omega

theorem aFB {size hop frm front : Int} (hm : AA size hop = true) (h1 : qR frm = true) (h2 : qR front = true) : OkH size hop frm front := by
  have a := HY hm; have b := BL h1; have c := BL h2
  exact ⟨a.1, a.2.1, a.2.2.1, a.2.2.2, b.1, b.2, c.1, c.2⟩

end Go.Abs
namespace Go.Abs
open Go
abbrev G1 := List aI × List aC

def qT (size t : Int) : Int := min (t + size) 1125899906842624

def TM (size t : Int) (gs : List G1) : List bG := gs.filterMap fun g => if 0 < nF g.2 t (qT size t) then some ⟨g.1, nF g.2 t (qT size t)⟩ else none

def rW (size hop frm front : Int) (gs : List G1) (m : List (Int × aN)) : Option (List (Int × aN)) := dO (fun m g => dO (mL size g) m (oQ size hop frm front g.2)) m gs

def xE (size hop frm front : Int) (gs : List G1) : List Int := gs.flatMap fun g => oQ size hop frm front g.2

def FH (size hop frm front : Int) (gs : List G1) : List Int := (xE size hop frm front gs).foldl (fun c t => jY t c) []

def wX (c : List Int) (ts : List Int) : List Int := ts.foldl (fun c t => jY t c) c

theorem DU (c : List Int) (t : Int) (ts : List Int) : wX c (t :: ts) = wX (jY t c) ts := rfl

theorem YB (c a b : List Int) : wX c (a ++ b) = wX (wX c a) b := List.foldl_append ..

theorem LF {last : Int} : ∀ {ts c : List Int}, Inc last c → (∀ t ∈ ts, last < t ∧ t < 1125899906842624) → Inc last (wX c ts)
  | [], c, h, _ => h
  | t :: ts, c, h, ht => by
    rw [DU]
    exact LF (AT h (ht t (by simp)).1 (ht t (by simp)).2) fun x hx => ht x (by simp [hx])

theorem XI {x : Int} : ∀ {ts c : List Int}, x ∈ wX c ts ↔ x ∈ ts ∨ x ∈ c
  | [], c => by simp [wX]
  | t :: ts, c => by
    rw [DU, XI, JD]
    simp only [List.mem_cons]
    constructor
    · rintro (h | h | h)
      · exact .inl (.inr h)
      · exact .inl (.inl h)
      · exact .inr h
    · rintro ((h | h) | h)
      · exact .inr (.inl h)
      · exact .inl h
      · exact .inr (.inr h)

theorem MW {t : Int} : ∀ {ps : List Int}, ps.length ≤ (jY t ps).length
  | [] => by simp [jY]
  | p :: r => by
    unfold jY
    split
    · exact Nat.le_refl _
    · split
      · simp
      · simp only [List.length_cons]
        have := MW (t := t) (ps := r)
        omega

theorem JO : ∀ {ts c : List Int}, c.length ≤ (wX c ts).length
  | [], c => Nat.le_refl _
  | t :: ts, c => by
    rw [DU]
    exact Nat.le_trans MW JO

theorem NZ {size : Int} {g : G1} {last : Int} : ∀ {ts : List Int} {m : List (Int × aN)} {c : List Int}, Inc last c → (∀ t ∈ ts, last < t ∧ t < 1125899906842624) → (m.map (·.1)).Perm c → m.length ≤ 1024 →
    (∀ m', dO (mL size g) m ts = some m' → (m'.map (·.1)).Perm (wX c ts) ∧ m'.length ≤ 1024) ∧ (dO (mL size g) m ts = none → 1024 < (wX c ts).length)
  | [], m, c, _, _, hp, hl => ⟨fun m' h => by simp only [dO, Option.some.injEq] at h; subst h; exact ⟨hp, hl⟩, fun h => by simp [dO] at h⟩
  | t :: ts, m, c, hi, ht, hp, hl => by
    have ht0 := ht t (by simp)
    have hi' := AT hi ht0.1 ht0.2
    have rec1 := fun (m1 : List (Int × aN)) => NZ (size := size) (g := g) (last := last) (ts := ts) (m := m1) (c := jY t c) hi' (fun x hx => ht x (by simp [hx]))
    simp only [dO, DU]
    cases hg : gH m t with
    | none =>
      have hk : t ∉ m.map (·.1) := JM.1 hg
      have hk' : t ∉ c := fun h => hk (hp.mem_iff.2 h)
      have hw := GF hk'
      by_cases hf : m.length = 1024
      · have e : mL size g m t = none := by unfold mL; rw [hg]; simp [hf]
        rw [e]
        refine ⟨fun m' h => (by simp at h), fun _ => ?_⟩
        have h1 := hw.length_eq
        have h2 := hp.length_eq
        have h3 := JO (ts := ts) (c := jY t c)
        simp only [List.length_map, List.length_cons] at h1 h2
        omega
      · have e : mL size g m t = some (fB m t (jQ g (mkW size t))) := by unfold mL; rw [hg]; simp [hf]
        rw [e]
        have hp' : ((fB m t (jQ g (mkW size t))).map (·.1)).Perm (jY t c) := by
          rw [RK hk]
          exact (List.perm_append_comm.trans (List.Perm.cons _ hp)).trans hw.symm
        refine rec1 _ hp' ?_
        have h1 := congrArg List.length (RK (v := jQ g (mkW size t)) hk)
        simp only [List.length_map, List.length_append, List.length_cons, List.length_nil] at h1
        omega
    | some p =>
      have e : mL size g m t = some (fB m t (jQ g p)) := by unfold mL; rw [hg]
      rw [e]
      have hk : t ∈ m.map (·.1) := by
        refine Decidable.byContradiction fun h => ?_
        rw [JM.2 h] at hg; cases hg
      have hw : jY t c = c := FX hi (hp.mem_iff.1 hk)
      have hk2 := RO (v := jQ g p) hk
      refine rec1 _ (by rw [hk2, hw]; exact hp) ?_
      have h1 := congrArg List.length hk2
      simp only [List.length_map] at h1
      omega

theorem BZ {size hop frm front : Int} (ok : OkH size hop frm front) (f : List aC) : ∀ t ∈ oQ size hop frm front f, -1 < t ∧ t < 1125899906842624 := by
  intro t ht
  obtain ⟨s, _, hs⟩ := List.mem_flatMap.1 ht
  have := HC ok s t hs
  omega

theorem MY {size hop frm front : Int} (ok : OkH size hop frm front) : ∀ {gs : List G1} {m : List (Int × aN)} {c : List Int}, Inc (-1) c → (m.map (·.1)).Perm c → m.length ≤ 1024 →
    (∀ m', rW size hop frm front gs m = some m' → (m'.map (·.1)).Perm (wX c (xE size hop frm front gs)) ∧ m'.length ≤ 1024) ∧ (rW size hop frm front gs m = none → 1024 < (wX c (xE size hop frm front gs)).length)
  | [], m, c, _, hp, hl => ⟨fun m' h => by simp only [rW, dO, Option.some.injEq] at h; subst h; exact ⟨hp, hl⟩, fun h => by simp [rW, dO] at h⟩
  | g :: gs, m, c, hi, hp, hl => by
    obtain ⟨k1, k2⟩ := NZ (size := size) (g := g) hi (BZ ok g.2) hp hl
    have e : xE size hop frm front (g :: gs) = oQ size hop frm front g.2 ++ xE size hop frm front gs := rfl
    rw [e, YB]
    simp only [rW, dO]
    cases hs : dO (mL size g) m (oQ size hop frm front g.2) with
    | none =>
      refine ⟨fun m' h => (by simp at h), fun _ => ?_⟩
      have := k2 hs
      have := JO (ts := xE size hop frm front gs) (c := wX c (oQ size hop frm front g.2))
      omega
    | some m1 =>
      obtain ⟨p1, p2⟩ := k1 m1 hs
      exact MY ok (gs := gs) (m := m1) (LF hi (BZ ok g.2)) p1 p2

theorem RQ {size : Int} {g : G1} (x : Int) : ∀ {ts : List Int} {m m' : List (Int × aN)}, dO (mL size g) m ts = some m' → gH m' x = if x ∈ ts then some (jQ g ((gH m x).getD (mkW size x))) else gH m x
  | [], m, m', h => by simp only [dO, Option.some.injEq] at h; subst h; simp
  | t :: ts, m, m', h => by
    simp only [dO] at h
    obtain ⟨m1, h1, h2⟩ := aW h
    have e : ∃ p, m1 = fB m t (jQ g p) ∧ p = (gH m t).getD (mkW size t) := by
      unfold mL at h1
      cases hg : gH m t with
      | none =>
        rw [hg] at h1
        simp only at h1
        split at h1
        · cases h1
        · cases h1; exact ⟨_, rfl, rfl⟩
      | some p => rw [hg] at h1; cases h1; exact ⟨_, rfl, rfl⟩
    obtain ⟨p, rfl, rfl⟩ := e
    rw [RQ x h2, HK]
    by_cases hx : x = t
    · subst hx
      simp only [if_true, List.mem_cons, true_or, Option.getD_some, VZ, ite_self]
    · simp only [hx, if_false, List.mem_cons, false_or]

def zF (size hop frm front x : Int) (o : Option aN) (gs : List G1) : Option aN :=
  gs.foldl (fun o g => if x ∈ oQ size hop frm front g.2 then some (jQ g (o.getD (mkW size x))) else o) o

theorem SB {size hop frm front : Int} (x : Int) : ∀ {gs : List G1} {m m' : List (Int × aN)}, rW size hop frm front gs m = some m' → gH m' x = zF size hop frm front x (gH m x) gs
  | [], m, m', h => by simp only [rW, dO, Option.some.injEq] at h; subst h; rfl
  | g :: gs, m, m', h => by
    simp only [rW, dO] at h
    obtain ⟨m1, h1, h2⟩ := aW h
    have := SB x (gs := gs) h2
    rw [this, RQ x h1]
    rfl

def uW (size hop frm front x : Int) (gs : List G1) : List bG := gs.filterMap fun g => if x ∈ oQ size hop frm front g.2 then some ⟨g.1, nF g.2 x (qT size x)⟩ else none

theorem GJ {size hop frm front x : Int} : ∀ {gs : List G1} {rs : List bG}, wY gs → rs ≠ [] → (∀ g ∈ gs, (mX rs).Row ≠ g.1) → zF size hop frm front x (some ⟨⟨x, qT size x⟩, rs⟩) gs = some ⟨⟨x, qT size x⟩, rs ++ uW size hop frm front x gs⟩
  | [], rs, _, _, _ => by simp [zF, uW]
  | g :: gs, rs, hs, hn, hl => by
    have hs' := List.pairwise_cons.1 hs
    have hg := hl g (by simp)
    simp only [zF, List.foldl_cons, Option.getD_some]
    by_cases hx : x ∈ oQ size hop frm front g.2
    · rw [if_pos hx]
      have e : jQ g ⟨⟨x, qT size x⟩, rs⟩ = ⟨⟨x, qT size x⟩, rs ++ [⟨g.1, nF g.2 x (qT size x)⟩]⟩ := by
        unfold jQ
        rw [if_pos (.inr hg)]
      rw [e]
      have := GJ (size := size) (hop := hop) (frm := frm) (front := front) (x := x) (gs := gs) (rs := rs ++ [⟨g.1, nF g.2 x (qT size x)⟩]) hs'.2 (by simp) (fun q hq => by
        rw [zE]
        intro h
        have := hs'.1 q hq
        unfold ltG at this
        rw [show g.1 = q.1 from h] at this
        exact zR this)
      unfold zF at this
      rw [this]
      simp [uW, hx]
    · rw [if_neg hx]
      have := GJ (size := size) (hop := hop) (frm := frm) (front := front) (x := x) (gs := gs) (rs := rs) hs'.2 hn (fun q hq => hl q (by simp [hq]))
      unfold zF at this
      rw [this]
      simp [uW, hx]

theorem NW {size hop frm front x : Int} : ∀ {gs : List G1}, wY gs → zF size hop frm front x none gs = if uW size hop frm front x gs = [] then none else some ⟨⟨x, qT size x⟩, uW size hop frm front x gs⟩
  | [], _ => by simp [zF, uW]
  | g :: gs, hs => by
    have hs' := List.pairwise_cons.1 hs
    simp only [zF, List.foldl_cons, Option.getD_none]
    by_cases hx : x ∈ oQ size hop frm front g.2
    · rw [if_pos hx]
      have e : jQ g (mkW size x) = ⟨⟨x, qT size x⟩, [⟨g.1, nF g.2 x (qT size x)⟩]⟩ := by
        unfold jQ mkW
        rw [if_pos (.inl rfl)]; rfl
      rw [e]
      have := GJ (size := size) (hop := hop) (frm := frm) (front := front) (x := x) (gs := gs) (rs := [⟨g.1, nF g.2 x (qT size x)⟩]) hs'.2 (by simp) (fun q hq h => by
        have h1 := hs'.1 q hq
        unfold ltG at h1
        have h2 : g.1 = q.1 := h
        rw [h2] at h1
        exact zR h1)
      unfold zF at this
      rw [this]
      simp [uW, hx]
    · rw [if_neg hx]
      have := NW (size := size) (hop := hop) (frm := frm) (front := front) (x := x) (gs := gs) hs'.2
      unfold zF at this
      rw [this]
      have e : uW size hop frm front x (g :: gs) = uW size hop frm front x gs := by simp [uW, hx]
      rw [e]

theorem ON {size hop frm front : Int} (ok : OkH size hop frm front) {f : List aC} (hf : fI f = true) (hv : ∀ t, 0 ≤ val f t) {x : Int} : x ∈ oQ size hop frm front f ↔ (0 ≤ x ∧ (∃ k : Int, x = k * hop) ∧ frm ≤ x ∧ x < front ∧ x < 1125899906842624) ∧ 0 < nF f x (qT size x) := by
  have hs0 := ok.s0
  unfold oQ
  rw [List.mem_flatMap]
  constructor
  · rintro ⟨s, h1, h2⟩
    obtain ⟨a1, a2, a3, a4, a5, a6, a7⟩ := (KM ok).1 h2
    have hsp := KW hf s h1
    refine ⟨⟨a1, a2, a3, a4, a5⟩, (KI hf hv (by unfold qT; omega)).2 ⟨max x s.From, by omega, by unfold qT; omega, ?_⟩⟩
    exact (ME hf hv (by omega)).1 ⟨s, h1, by omega, by omega⟩
  · rintro ⟨⟨a1, a2, a3, a4, a5⟩, h⟩
    obtain ⟨y, y1, y2, y3⟩ := (KI hf hv (by unfold qT; omega)).1 h
    unfold qT at y2
    obtain ⟨s, h1, h2, h3⟩ := (ME hf hv (by omega)).2 y3
    exact ⟨s, h1, (KM ok).2 ⟨a1, a2, a3, a4, a5, by omega, by omega⟩⟩

theorem filterMap_eq {α β : Type} {f h : α → Option β} : ∀ {l : List α}, (∀ a ∈ l, f a = h a) → l.filterMap f = l.filterMap h
  | [], _ => rfl
  | a :: l, H => by
    rw [List.filterMap_cons, List.filterMap_cons, H a (by simp), filterMap_eq fun b hb => H b (by simp [hb])]

theorem aBv {size hop frm front x : Int} (ok : OkH size hop frm front) (hx : 0 ≤ x ∧ (∃ k : Int, x = k * hop) ∧ frm ≤ x ∧ x < front ∧ x < 1125899906842624) {gs : List G1} (hg : ∀ g ∈ gs, fI g.2 = true ∧ ∀ t, 0 ≤ val g.2 t) : uW size hop frm front x gs = TM size x gs := by
  unfold uW TM
  refine filterMap_eq fun g h => ?_
  have := ON ok (hg g h).1 (hg g h).2 (x := x)
  by_cases hb : 0 < nF g.2 x (qT size x)
  · rw [if_pos (this.2 ⟨hx, hb⟩), if_pos hb]
  · rw [if_neg (fun q => hb (this.1 q).2), if_neg hb]

def aE7 (size hop frm front : Int) (gs : List G1) : List aN := (FH size hop frm front gs).map fun t => ⟨⟨t, qT size t⟩, TM size t gs⟩

theorem aDe {size hop frm front x : Int} {gs : List G1} : x ∈ FH size hop frm front gs ↔ ∃ g ∈ gs, x ∈ oQ size hop frm front g.2 := by
  have : FH size hop frm front gs = wX [] (xE size hop frm front gs) := rfl
  rw [this, XI]
  simp [xE, List.mem_flatMap]

theorem aDD {size hop frm front : Int} (ok : OkH size hop frm front) (gs : List G1) : Inc (-1) (FH size hop frm front gs) := by
  refine LF (ts := xE size hop frm front gs) (c := []) trivial fun t ht => ?_
  obtain ⟨g, _, h⟩ := List.mem_flatMap.1 ht
  exact BZ ok g.2 t h

theorem aCI {size hop frm front : Int} (ok : OkH size hop frm front) {gs : List G1} (hs : wY gs) (hg : ∀ g ∈ gs, fI g.2 = true ∧ ∀ t, 0 ≤ val g.2 t) :
    (∀ m', rW size hop frm front gs [] = some m' → (FH size hop frm front gs).length ≤ 1024 ∧ (m'.map (·.1)).Perm (FH size hop frm front gs) ∧ ∀ x ∈ FH size hop frm front gs, gH m' x = some ⟨⟨x, qT size x⟩, TM size x gs⟩) ∧
    (rW size hop frm front gs [] = none → 1024 < (FH size hop frm front gs).length) := by
  obtain ⟨k1, k2⟩ := MY ok (gs := gs) (m := []) (c := []) trivial (List.Perm.refl _) (by simp)
  refine ⟨fun m' h => ?_, k2⟩
  obtain ⟨p1, p2⟩ := k1 m' h
  refine ⟨?_, p1, fun x hx => ?_⟩
  · have := p1.length_eq
    simp only [List.length_map] at this
    show (wX [] (xE size hop frm front gs)).length ≤ 1024
    omega
  · rw [SB x h]
    obtain ⟨g, hgm, hxg⟩ := aDe.1 hx
    have hxx := (ON ok (hg g hgm).1 (hg g hgm).2).1 hxg
    have e : gH ([] : List (Int × aN)) x = none := rfl
    rw [e, NW hs, ← aBv ok hxx.1 hg, if_neg]
    intro hc
    have : (⟨g.1, nF g.2 x (qT size x)⟩ : bG) ∈ uW size hop frm front x gs := List.mem_filterMap.2 ⟨g, hgm, by rw [if_pos hxg]⟩
    rw [hc] at this
    simp at this

end Go.Abs
namespace Go.Abs
open Go
def OY (l : List aG) (size hop frm front : Int) : List aN × Int :=
  if !(AA size hop && jI l) then ([], 2) else if !nV l then ([], 20) else if !(qR frm && qR front) then ([], 13)
  else if 1024 < (FH size hop frm front (groups l)).length then ([], 7) else (aE7 size hop frm front (groups l), 0)

def aEU (n : Nat) (m : List (Int × aN)) : Prop := ∀ t p, gH m t = some p → p.Rows.length ≤ n ∧ (p.Rows ≠ [] → (mX p.Rows).Row.length ≤ 4398046510976)

theorem OK {size hop frm front : Int} (ok : OkH size hop frm front) (a : List aN) (b : Int) : ∀ (gs : List G1) (n : Nat) (m : List (Int × aN)), (∀ g ∈ gs, fI g.2 = true ∧ g.1.length ≤ 4398046510976) → n + gs.length ≤ 900000 → aEU n m →
    ∃ x, itG (fun st r f => rnd (fun (q : List aN × Int × List (Int × aN)) => nH size hop frm front q.1 q.2.1 q.2.2 r f) st) gs (.inl (a, b, m)) = some x ∧ (∀ m', rW size hop frm front gs m = some m' → x = .inl (a, b, m')) ∧ (rW size hop frm front gs m = none → ∃ q, x = .inr ([], 7, q))
  | [], n, m, _, _, _ => ⟨_, rfl, fun m' h => by simp only [rW, dO, Option.some.injEq] at h; subst h; rfl, fun h => by simp [rW, dO] at h⟩
  | g :: gs, n, m, hg, hn, hm => by
    obtain ⟨h1, h2⟩ := hg g (by simp)
    simp only [List.length_cons] at hn
    obtain ⟨y, e1, e2, e3⟩ := aBl ok (g := g) h1 h2 (n := n) (by omega) (m := m) (fun t p h => ⟨.inl (hm t p h).1, (hm t p h).2⟩)
    simp only [itG, rW, dO]
    cases hs : dO (mL size g) m (oQ size hop frm front g.2) with
    | none =>
      have e4 := e3 hs
      refine ⟨.inr ([], 7, y.2), ?_, fun m' h => (by simp at h), fun _ => ⟨_, rfl⟩⟩
      have hb : nH size hop frm front a b m g.1 g.2 = some (.inr ([], 7, y.2)) := by
        unfold nH
        rw [e1, Option.bind_some, e4]; rfl
      simp only [rnd, hb, Option.bind_some, Sum.isLeft_inr, Bool.false_eq_true, if_false]
    | some m1 =>
      obtain ⟨rfl, hf⟩ := e2 m1 hs
      have hm1 : aEU (n + 1) m1 := fun t p h => by
        obtain ⟨q1, q2⟩ := hf t p h
        refine ⟨?_, q2⟩
        rcases q1 with q | ⟨_, _, q⟩ <;> omega
      obtain ⟨x, f1, f2, f3⟩ := OK ok a b gs (n + 1) m1 (fun q hq => hg q (by simp [hq])) (by omega) hm1
      refine ⟨x, ?_, f2, f3⟩
      have hb : nH size hop frm front a b m g.1 g.2 = some (.inl (a, b, m1)) := by
        unfold nH
        rw [e1, Option.bind_some]; rfl
      simp only [rnd, hb, Option.bind_some, Sum.isLeft_inl, if_true]
      exact f1

theorem NG : ∀ (q s : List Int), s.length + q.length ≤ 100000 → dO sN s q = some (s ++ q)
  | [], s, _ => by simp [dO]
  | t :: q, s, h => by
    simp only [List.length_cons] at h
    have e : sN s t = some (s ++ [t]) := by
      unfold sN
      rw [aP (by simp only [List.length_cons, List.length_nil]; omega)]
    simp only [dO, e, Option.bind_some]
    rw [NG q (s ++ [t]) (by simp; omega)]
    simp

theorem aFx {m : List (Int × aN)} {B : List Int} {mk : Int → aN} (hp : (m.map (·.1)).Perm B) (hs : B.Pairwise (· ≤ ·)) (hl : B.length ≤ 1024) (hg : ∀ x ∈ B, gH m x = some (mk x)) : vW m = some (B.map mk, 0) := by
  have hml : m.length = B.length := by simpa using hp.length_eq
  unfold vW
  rw [aP (by simp only [lN]; omega)]
  refine HZ fun q hq => ?_
  have hqB : q.Perm B := hq.trans hp
  have hql := hqB.length_eq
  rw [NG q [] (by simp only [List.length_nil]; omega), Option.bind_some, List.nil_append]
  unfold DC
  rw [ZQ (by omega) hqB.symm hs, Option.bind_some, aP (by simp only [lN]; omega)]
  have key := yL (l := B) (body := fun s : List aN × Int => sD m B (lN B) s.1 s.2) (fun (s : List aN) i => (s, i)) (fun s r => s ++ r.map mk)
    (fun s r => s.length + r.length ≤ 100000 ∧ ∀ x ∈ r, x ∈ B) [] ?_ ?_ ⟨by simp only [List.length_nil]; omega, fun x hx => hx⟩
  · rw [key]
    simp
  · rintro i x r s hx ⟨h1, h2⟩
    left
    simp only [List.length_cons] at h1
    obtain ⟨d1, d2, d3, d4⟩ := idx hx (by omega)
    refine ⟨s ++ [mk x], ?_, ⟨by simp; omega, fun y hy => h2 y (by simp [hy])⟩, by simp⟩
    simp only [sD, lN, gD, wR, d1, cond_true, aP d2, d3, d4, hg x (h2 x (by simp))]
    rw [aP (by simp only [List.length_cons, List.length_nil]; omega)]
  · rintro s _
    simp only [sD, lN, kO, cond_false]
    simp

theorem YK {l : List aG} (hl : okL l) (size hop frm front : Int) : xI l size hop frm front = some (OY l size hop frm front) := by
  unfold xI OY
  simp only [yO, tI, Option.bind_some]
  rw [show ((((decide ((1 : Int) ≤ size)) && (decide (size ≤ (1099511627776 : Int)))) && (decide ((1 : Int) ≤ hop))) && (decide (hop ≤ (1099511627776 : Int)))) = AA size hop from rfl, show ((decide ((0 : Int) ≤ frm)) && (decide (frm ≤ (1125899906842624 : Int)))) = qR frm from rfl, show ((decide ((0 : Int) ≤ front)) && (decide (front ≤ (1125899906842624 : Int)))) = qR front from rfl]
  rw [BV hl, DQ hl]
  cases hm : AA size hop with
  | false => rfl
  | true =>
    cases he : jI l with
    | false => rfl
    | true =>
      simp only [Bool.not_true, Bool.not_false, dL, cond_true, Option.bind_some, Bool.or_self, cond_false, Bool.and_self, Bool.false_eq_true, if_false]
      cases ht : nV l with
      | false => rfl
      | true =>
        simp only [Bool.not_true, cond_false, Bool.false_eq_true, if_false]
        cases h1 : qR frm with
        | false => rfl
        | true =>
          cases h2 : qR front with
          | false => rfl
          | true =>
            simp only [Bool.not_true, Bool.not_false, cond_true, Option.bind_some, Bool.or_self, cond_false, Bool.and_self, Bool.false_eq_true, if_false]
            have ok := aFB hm h1 h2
            obtain ⟨e1, e2, e3⟩ := mR he
            have hn := NP l
            have hv : ∀ g ∈ groups l, fI g.2 = true ∧ ∀ t, 0 ≤ val g.2 t := fun g hg => by
              refine ⟨(e2 g hg).2, fun t => ?_⟩
              have := (aAE.1 ht).2 g.1 t
              rwa [← yX e3, VO e3 hg] at this
            have hrow : ∀ g ∈ groups l, fI g.2 = true ∧ g.1.length ≤ 4398046510976 := fun g hg => ⟨(e2 g hg).2, DJ hl hg⟩
            unfold CH
            simp only [qW, Option.bind_some]
            obtain ⟨x, f1, f2, f3⟩ := OK ok [] 0 (groups l) 0 [] hrow (by omega) (fun t p h => by simp [gH] at h)
            rw [MF hl (s' := x) (by rw [he]; exact f1), Option.bind_some]
            obtain ⟨k1, k2⟩ := aCI ok e3 hv
            cases hs : rW size hop frm front (groups l) [] with
            | none =>
              obtain ⟨q, rfl⟩ := f3 hs
              rw [if_pos (k2 hs)]; rfl
            | some m1 =>
              obtain rfl := f2 m1 hs
              obtain ⟨p1, p2, p3⟩ := k1 m1 hs
              rw [if_neg (by omega)]
              simp only [Sum.elim_inl]
              exact aFx p2 (PB (aDD ok _)) p1 p3

end Go.Abs
namespace Go.Abs
open Go
theorem OC {t : Int} (f : List aC) : jR t (EY t f) = jR t f := by
  have key : ∀ (a b : List aC), (∀ j ∈ a, j.At < t) → (∀ j ∈ b, t ≤ j.At) → jR t (a ++ b) = a := by
    intro a
    induction a with
    | nil =>
      intro b _ hb
      cases b with
      | nil => rfl
      | cons k b => simp only [List.nil_append, jR]; rw [if_pos (hb k (by simp))]
    | cons k a ih =>
      intro b ha hb
      have := ha k (by simp)
      simp only [List.cons_append, jR]
      rw [if_neg (by omega), ih b (fun j hj => ha j (by simp [hj])) hb]
  unfold EY
  refine key _ _ (fun j hj => PL j hj) fun j hj => ?_
  split at hj
  · simp at hj
  · simp only [List.mem_singleton] at hj
    subst hj
    exact Int.le_refl _

theorem aDJ {f : List aC} {t : Int} (hf : fI f = true) (ht : t < 1125899906842624) (h : (ahead f t).2 = 0) : (ahead f t).1 = EY t f := by
  unfold ahead at h ⊢
  rw [if_pos hf, if_neg (by omega)] at h ⊢
  unfold told at h ⊢
  split at h
  · rename_i c; rw [if_pos c]
  · simp at h

theorem DM {l : List aG} (h : jI l = true) (r : List aI) : look (groups l) r = gS l r := yX (mR h).2.2 r

theorem aC6 {by1 : List aC → List aC × Int} {l : List aG} (hb : ∀ f, fI f = true → (by1 f).2 = 0 → fI (by1 f).1 = true) (h : (yE by1 l).2 = 0) : jI (yE by1 l).1 = true := by
  obtain ⟨h1, h2, h3, h4⟩ := FB h
  obtain ⟨_, g1, g2⟩ := mR h1
  rw [h3] at h4 ⊢
  refine aBk (UU g2) (fun g hg => ?_) h4
  obtain ⟨q, hq, rfl⟩ := List.mem_map.1 hg
  exact ⟨(g1 q hq).1, hb _ (g1 q hq).2 (h2 q hq)⟩

theorem aD9 {f : List aC} (h : (told f).2 = 0) : fI (told f).1 = true := by
  unfold told at h ⊢
  split at h
  · rename_i c; rw [if_pos c]; exact c
  · simp at h

theorem aBR {f : List aC} {t : Int} (hf : fI f = true) (h : (ahead f t).2 = 0) : fI (ahead f t).1 = true := by
  unfold ahead at h ⊢
  rw [if_pos hf] at h ⊢
  split
  · exact hf
  · rename_i c; rw [if_neg c] at h; exact aD9 h

theorem aAC {l : List aG} {t : Int} (h : (pI l t).2 = 0) : jI (pI l t).1 = true := aC6 (fun _ a b => aBR a b) h

theorem HT {l : List aG} {t : Int} (h0 : 0 ≤ t) (ht : t < 1125899906842624) (h : (pI l t).2 = 0) (r : List aI) : gS (pI l t).1 r = EY t (gS l r) := by
  have hm := (FB h).1
  have h1 := aCD (by1 := fun f => ahead f t) (by rw [RR h0]) h r
  have h2 := aCF (by1 := fun f => ahead f t) (by rw [RR h0]) h r
  rw [DM hm] at h1 h2
  have := DM (aAC h) r
  unfold pI at this ⊢
  rw [← this, h1, aDJ (OJ hm r) ht h2]

end Go.Abs
namespace Go.Abs
open Go
theorem RU {l : List aG} {e : aG} : jE e ∈ gS l e.Row ↔ e ∈ l := by
  unfold gS
  rw [List.mem_map]
  constructor
  · rintro ⟨q, h1, h2⟩
    obtain ⟨h3, h4⟩ := List.mem_filter.1 h1
    have h5 : q.Row = e.Row := by simpa using h4
    obtain ⟨r, a, n⟩ := q; obtain ⟨r', a', n'⟩ := e
    simp only [jE, aC.mk.injEq] at h2 h5
    subst h5
    rw [← h2.1, ← h2.2]; exact h3
  · intro h
    exact ⟨e, List.mem_filter.2 ⟨h, by simp⟩, rfl⟩

theorem aEx {S : List Int} (hS : S.Pairwise (· < ·)) {i j : Nat} (hij : i < j) (hj : j < S.length) : S.getD i 0 < S.getD j 0 := by
  rw [List.getD_eq_getElem?_getD, List.getD_eq_getElem?_getD, List.getElem?_eq_getElem (by omega), List.getElem?_eq_getElem hj]
  exact List.pairwise_iff_getElem.1 hS i j (by omega) hj hij

theorem GG {S : List Int} (hS : S.Pairwise (· < ·)) (hl : S.length ≤ 1000000) (t : Int) : (∀ i, i < eO S t → S.getD i 0 < t) ∧ (∀ i, eO S t ≤ i → i < S.length → t ≤ S.getD i 0) := by
  have hle := zV S t
  obtain ⟨_, hs1, hs2⟩ := OT (hS.imp fun h => by omega) hl t
  refine ⟨fun i hi => ?_, fun i hi hil => ?_⟩
  · have hm1 : S.getD i 0 ∈ S.take (eO S t) := by
      refine List.mem_of_getElem? (i := i) ?_
      rw [List.getElem?_take, if_pos hi, List.getD_eq_getElem?_getD, List.getElem?_eq_getElem (by omega)]; rfl
    rw [← hs1] at hm1
    simpa using (List.mem_filter.1 hm1).2
  · have hm1 : S.getD i 0 ∈ S.drop (eO S t) := by
      refine List.mem_of_getElem? (i := i - eO S t) ?_
      rw [List.getElem?_drop, show eO S t + (i - eO S t) = i by omega, List.getD_eq_getElem?_getD, List.getElem?_eq_getElem hil]; rfl
    rw [← hs2] at hm1
    simpa using (List.mem_filter.1 hm1).2

theorem UF {S : List Int} (hS : S.Pairwise (· < ·)) (hl : S.length ≤ 1000000) {n : Int} (hn : 1 ≤ n) (t : Int) : qS S n t ≤ t ∧ (qS S n t = t ∨ qS S n t ∈ S) := by
  obtain ⟨g1, g2⟩ := GG hS hl t
  have hle := zV S t
  unfold qS
  by_cases hfm : firstM S n t = eO S t
  · rw [if_pos hfm]; exact ⟨Int.le_refl _, .inl rfl⟩
  · rw [if_neg hfm]
    have hf : firstM S n t < eO S t := by unfold firstM at hfm ⊢; omega
    refine ⟨by have := g1 _ hf; omega, .inr ?_⟩
    rw [List.getD_eq_getElem?_getD, List.getElem?_eq_getElem (by omega)]
    exact List.getElem_mem _

theorem XR {l m : List aG} {t : Int} (hl : jI l = true) (hm : jI m = true) (h : ∀ r, jR t (gS l r) = jR t (gS m r)) : (dW l).filter (fun x => decide (x < t)) = (dW m).filter (fun x => decide (x < t)) := by
  have one : ∀ {a b : List aG}, jI a = true → (∀ r, jR t (gS a r) = jR t (gS b r)) → ∀ e ∈ a, e.At < t → e ∈ b := by
    intro a b ha hab e he hat
    have h1 := RU.2 he
    have h2 : jE e ∈ jR t (gS a e.Row) := by
      have h3 := GN t (gS a e.Row)
      rw [← h3] at h1
      rcases List.mem_append.1 h1 with h4 | h4
      · exact h4
      · have := WV (mS.1 (OJ ha e.Row)).2 _ h4
        simp only [jE] at this; omega
    rw [hab e.Row] at h2
    refine RU.1 ?_
    rw [← GN t (gS b e.Row)]
    exact List.mem_append.2 (.inl h2)
  refine JF ((sF hl).1.filter _) ((sF hm).1.filter _) fun x => ?_
  rw [List.mem_filter, List.mem_filter, EH (IL hl), EH (IL hm)]
  constructor
  · rintro ⟨⟨e, h1, h2, h3⟩, h4⟩
    have h5 : x < t := by simpa using h4
    exact ⟨⟨e, one hl h e h1 (by omega), h2, h3⟩, h4⟩
  · rintro ⟨⟨e, h1, h2, h3⟩, h4⟩
    have h5 : x < t := by simpa using h4
    exact ⟨⟨e, one hm (fun r => (h r).symm) e h1 (by omega), h2, h3⟩, h4⟩

theorem aAr {S S' : List Int} (hS : S.Pairwise (· < ·)) (hS' : S'.Pairwise (· < ·)) (hl : S.length ≤ 1000000) (hl' : S'.length ≤ 1000000) {t : Int} (h : S.filter (fun x => decide (x < t)) = S'.filter fun x => decide (x < t)) {n : Int} (hn : 1 ≤ n) :
    eO S t = eO S' t ∧ S.take (eO S t) = S'.take (eO S t) ∧ qS S n t = qS S' n t := by
  have e1 : eO S t = eO S' t := by unfold eO; rw [h]
  obtain ⟨_, a1, _⟩ := OT (hS.imp fun h => by omega) hl t
  obtain ⟨_, b1, _⟩ := OT (hS'.imp fun h => by omega) hl' t
  have e2 : S.take (eO S t) = S'.take (eO S t) := by rw [← a1, h, b1, e1]
  refine ⟨e1, e2, ?_⟩
  have ef : firstM S n t = firstM S' n t := by unfold firstM; rw [e1]
  unfold qS
  rw [← ef, ← e1]
  by_cases hf : firstM S n t = eO S t
  · rw [if_pos hf, if_pos hf]
  · rw [if_neg hf, if_neg hf]
    have hlt : firstM S n t < eO S t := by unfold firstM at hf ⊢; omega
    have := congrArg (fun L : List Int => L[firstM S n t]?) e2
    simp only [List.getElem?_take, if_pos hlt] at this
    rw [List.getD_eq_getElem?_getD, List.getD_eq_getElem?_getD, this]

theorem XN {l : List aG} {n t : Int} (h : (DI l n t).2 = 0) : uJ l n = 0 ∧ 0 ≤ t ∧ t ≤ 1125899906842624 ∧ (t < 1125899906842624 → (DI l n t).1 = qS (dW l) n t) ∧ (t = 1125899906842624 → (DI l n t).1 = t) := by
  unfold DI at h ⊢
  by_cases hc : uJ l n = 0
  · rw [if_neg (by simpa using hc)] at h ⊢
    by_cases h1 : t < 0 ∨ 1125899906842624 < t
    · rw [if_pos h1] at h; simp at h
    · rw [if_neg h1]
      refine ⟨hc, by omega, by omega, fun h2 => by rw [if_neg (by omega)], fun h2 => by rw [if_pos h2]⟩
  · rw [if_pos hc] at h; exact absurd h hc

end Go.Abs
namespace Go.Abs
open Go
def l28 : List aG := [⟨[TI], 3, 1⟩, ⟨[TI], 7, -1⟩]

theorem aBt : okL l28 := ⟨by decide, by decide⟩

end Go.Abs
namespace Go.Abs
open Go
theorem aB3 {l : List aG} (m : ∀ a ∈ l, rP a) (y : List.length l * 40 ≤ 140737488351232) : okL l :=
  ⟨by omega, fun e he => by have := (m e he).1.2; omega⟩

end Go.Abs
namespace Go.Abs
open Go
def AI (w : bY) : Bool :=
  if w.Kind = 1 then decide (w.Size = 0) && decide (w.Hop = 0) else if w.Kind = 2 then AA w.Size w.Hop
  else if w.Kind = 3 then (decide (1 ≤ w.Size) && decide (w.Size ≤ 64)) && decide (w.Hop = 0) else false

def pX (w : bY) (l : List aG) (t : Int) : Int := if !AI w || !jI l then 2 else if !nV l then 20 else if !qR t then 13 else 0

theorem ER (w : bY) : pS w = some (if AI w then 0 else 2) := by
  unfold pS AI
  by_cases h1 : w.Kind = 1
  · rw [decide_eq_true h1, cond_true, if_pos h1]
    unfold lB
    cases decide (w.Size = 0) && decide (w.Hop = 0) <;> rfl
  · by_cases h2 : w.Kind = 2
    · rw [decide_eq_false h1, cond_false, decide_eq_true h2, cond_true, if_neg h1, if_pos h2]
      unfold qF lB AA
      cases decide (1 ≤ w.Size) <;> cases decide (w.Size ≤ 1099511627776) <;> cases decide (1 ≤ w.Hop) <;> cases decide (w.Hop ≤ 1099511627776) <;> rfl
    · rw [decide_eq_false h1, cond_false, decide_eq_false h2, cond_false, if_neg h1, if_neg h2]
      by_cases h3 : w.Kind = 3
      · rw [decide_eq_true h3, cond_true, if_pos h3]
        unfold lB
        cases (decide (1 ≤ w.Size) && decide (w.Size ≤ 64)) && decide (w.Hop = 0) <;> rfl
      · rw [decide_eq_false h3, cond_false, if_neg h3]
        rfl

theorem FE {l : List aG} (hl : okL l) (w : bY) (t : Int) : pT w l t = some (pX w l t) := by
  unfold pT pX
  rw [ER, Option.bind_some]
  cases hk : AI w with
  | false => rfl
  | true =>
    simp only [if_true, decide_true, Bool.not_true, Bool.not_false, Bool.false_or, dL, cond_true, BV hl, Option.bind_some, DQ hl]
    cases jI l with
    | false => rfl
    | true =>
      cases nV l with
      | false => rfl
      | true =>
        simp only [Bool.not_true, cond_false, Bool.false_eq_true, if_false]
        unfold qR
        by_cases h1 : t < 0
        · have h2 : ¬ (0 : Int) ≤ t := by omega
          simp [h1, h2]
        · have h2 : (0 : Int) ≤ t := by omega
          by_cases h3 : (1125899906842624 : Int) < t
          · have h4 : ¬ t ≤ (1125899906842624 : Int) := by omega
            simp [h2, h3, h4]
          · have h4 : t ≤ (1125899906842624 : Int) := by omega
            simp [h1, h2, h3, h4]

theorem yW {w : bY} {l : List aG} {t : Int} (h : pX w l t = 0) : AI w = true ∧ jI l = true ∧ nV l = true ∧ 0 ≤ t ∧ t ≤ 1125899906842624 := by
  unfold pX at h
  cases h1 : AI w <;> cases h2 : jI l <;> cases h3 : nV l <;> cases h4 : qR t <;> simp [h1, h2, h3, h4] at h
  exact ⟨rfl, rfl, rfl, BL h4⟩

theorem aDK {w : bY} (h : AI w = true) (h2 : w.Kind = 2) : AA w.Size w.Hop = true := by
  unfold AI at h
  rw [if_neg (by omega), if_pos h2] at h; exact h

theorem aFn {w : bY} (h : AI w = true) (h3 : w.Kind = 3) : 1 ≤ w.Size ∧ w.Size ≤ 64 := by
  unfold AI at h
  rw [if_neg (by omega), if_neg (by omega), if_pos h3] at h
  simp only [Bool.and_eq_true, decide_eq_true_eq] at h; omega

def sO (w : bY) (l : List aG) (t : Int) : Int × Int :=
  if pX w l t ≠ 0 then (0, pX w l t) else if w.Kind = 2 then (min (JZ w.Size w.Hop t).1 t, 0) else if w.Kind = 3 then DI l w.Size t else (t, 0)

theorem MB {size hop t : Int} (hm : AA size hop = true) (h0 : 0 ≤ t) (h1 : t ≤ 1125899906842624) : JZ size hop t = (if t = 1125899906842624 then 1125899906842624 else min (iX hop (t - size)) 1125899906842624, 0) := by
  unfold JZ
  have : qR t = true := by unfold qR; simp [h0, h1]
  rw [hm, this]
  simp only [Bool.not_true, Bool.false_eq_true, if_false]
  split <;> rfl

theorem zY {l : List aG} (hl : okL l) (w : bY) (t : Int) : nZ w l t = some (sO w l t) := by
  unfold nZ sO
  rw [FE hl, Option.bind_some]
  by_cases hc : pX w l t = 0
  · obtain ⟨hk, _, _, t0, t1⟩ := yW hc
    rw [if_neg (by simpa using hc), hc, decide_eq_true rfl, Bool.not_true, cond_false]
    by_cases h2 : w.Kind = 2
    · rw [decide_eq_true h2, cond_true, if_pos h2, aEn, Option.bind_some, MB (aDK hk h2) t0 t1]
      simp only [Int.min_def]
      congr 2
      split <;> split <;> (try split) <;> omega
    · rw [decide_eq_false h2, cond_false, if_neg h2]
      by_cases h3 : w.Kind = 3
      · rw [decide_eq_true h3, cond_true, if_pos h3, SP hl, Option.bind_some]
      · rw [decide_eq_false h3, cond_false, if_neg h3]
  · rw [if_pos hc, decide_eq_false hc]; rfl

def NS (t : Int) (e : aG) : Int := if 0 < e.Net then max t (e.At + 1) else t

def aCc (l : List aG) (t : Int) : Int := l.foldl NS t

theorem front_eq {l : List aG} (hn : l.length ≤ 1000000) (ha : ∀ e ∈ l, -1 ≤ e.At ∧ e.At < 1125899906842624) (t : Int) : sK l t = some (aCc l t) := by
  unfold sK uV
  have := yL (l := l) (body := fun s : Int × Int => oX l ((l.length : Nat) : Int) s.1 s.2) (fun (s : Int) i => (s, i)) (fun s r => r.foldl NS s) (fun _ r => ∀ e ∈ r, -1 ≤ e.At ∧ e.At < 1125899906842624) t ?_ ?_ ha
  · rw [this]; rfl
  · intro i e r s he hI
    left
    have hb := hI e (by simp)
    refine ⟨NS s e, ?_, fun q hq => hI q (by simp [hq]), rfl⟩
    obtain ⟨d1, d2, d3, d4⟩ := idx he (by omega)
    have w1 : IntKind.i64.wrap (e.At + 1) = e.At + 1 := cT (by omega) (by omega)
    simp only [oX, rH, d1, cond_true, aP d2, d3, d4, w1]
    unfold NS
    by_cases h : 0 < e.Net
    · rw [decide_eq_true h, cond_true, if_pos h]
      congr 3
      rw [Int.max_def]; split <;> split <;> omega
    · rw [decide_eq_false h, cond_false, if_neg h]
  · intro s _
    simp only [oX, kO, cond_false]; simp

def XD (w : bY) (l : List aG) (frm t : Int) : List aN × Int :=
  if pX w l t ≠ 0 then ([], pX w l t) else if w.Kind = 2 then OY l w.Size w.Hop frm (aCc l t) else if w.Kind = 3 then UG l w.Size frm else VT l frm

theorem aD4 {l : List aG} (hm : jI l = true) : l.length ≤ 1000000 ∧ ∀ e ∈ l, -1 ≤ e.At ∧ e.At < 1125899906842624 := by
  have := (mR hm).1
  exact ⟨by omega, fun e he => ⟨by have := (wT hm he).2.1; omega, (wT hm he).2.2.1⟩⟩

theorem PD {l : List aG} (hl : okL l) (w : bY) (frm t : Int) : sJ w l frm t = some (XD w l frm t) := by
  unfold sJ XD
  rw [FE hl, Option.bind_some]
  by_cases hc : pX w l t = 0
  · obtain ⟨hk, hm, _, t0, t1⟩ := yW hc
    obtain ⟨a1, a2⟩ := aD4 hm
    rw [if_neg (by simpa using hc), hc, decide_eq_true rfl, Bool.not_true, cond_false]
    by_cases h2 : w.Kind = 2
    · rw [decide_eq_true h2, cond_true, if_pos h2, front_eq a1 a2, Option.bind_some, YK hl, Option.bind_some]
    · rw [decide_eq_false h2, cond_false, if_neg h2]
      by_cases h3 : w.Kind = 3
      · rw [decide_eq_true h3, cond_true, if_pos h3, OU hl, Option.bind_some]
      · rw [decide_eq_false h3, cond_false, if_neg h3, WU hl, Option.bind_some]
  · rw [if_pos hc, decide_eq_false hc]; rfl

theorem RL {w : bY} {l : List aG} {t : Int} (h : pX w l t = 0) : sO w l t = if w.Kind = 2 then (min (JZ w.Size w.Hop t).1 t, 0) else if w.Kind = 3 then DI l w.Size t else (t, 0) := by
  unfold sO; rw [h]; rfl

theorem HX {l : List aG} {w : bY} {t : Int} (h : (sO w l t).2 = 0) : pX w l t = 0 := by
  unfold sO at h
  by_cases c1 : pX w l t = 0
  · exact c1
  · rw [if_pos c1] at h; exact absurd h c1

def w30 : bY := ⟨2, 10, 5⟩

theorem aEB : sO w30 l28 12 = (5, 0) := by decide +kernel

theorem aEJ : XD w30 l28 0 2 = ([⟨⟨0, 10⟩, [⟨[TI], 1⟩]⟩], 0) := by decide +kernel

theorem yJ : sL = some true := by
  unfold sL
  have h1 := PD aBt w30 0 2
  have h2 := zY aBt w30 12
  rw [aEJ] at h1
  rw [aEB] at h2
  simp only [l28, TI, w30] at h1 h2
  rw [h2, Option.bind_some, h1, Option.bind_some, ER, aP (fun _ => by decide)]
  rfl

end Go.Abs
namespace Go.Abs
open Go
theorem aAm {S : List Int} (hS : S.Pairwise (· < ·)) (hl : S.length ≤ 1000000) {n t u : Int} (hn : 1 ≤ n) (h : t ≤ u) : qS S n t ≤ qS S n u := by
  obtain ⟨g1, g2⟩ := GG hS hl t
  obtain ⟨k1, k2⟩ := GG hS hl u
  have hle := zV S t
  have hle' := zV S u
  have hmm : eO S t ≤ eO S u := by
    rcases Nat.lt_or_ge (eO S u) (eO S t) with h1 | h1
    · have a := g1 _ h1
      have b := k2 _ (Nat.le_refl _) (by omega)
      omega
    · exact h1
  have hf : firstM S n t ≤ firstM S n u := by unfold firstM; omega
  have ht := (UF hS hl hn t).1
  by_cases hu : firstM S n u = eO S u
  · have : qS S n u = u := by unfold qS; rw [if_pos hu]
    omega
  · have hlt : firstM S n u < eO S u := by unfold firstM at hu ⊢; omega
    have eu : qS S n u = S.getD (firstM S n u) 0 := by unfold qS; rw [if_neg hu]
    rw [eu]
    by_cases ht2 : firstM S n t = eO S t
    · have := g2 (firstM S n u) (by omega) (by omega)
      omega
    · have et : qS S n t = S.getD (firstM S n t) 0 := by unfold qS; rw [if_neg ht2]
      rw [et]
      rcases Nat.lt_or_ge (firstM S n t) (firstM S n u) with h1 | h1
      · have := aEx hS h1 (by omega); omega
      · rw [show firstM S n t = firstM S n u by omega]; exact Int.le_refl _

end Go.Abs
namespace Go.Abs
open Go
theorem YD {l m : List aG} {w : bY} {t u : Int} (ht : t < 1125899906842624) (htu : t ≤ u) (hfore : ∀ r, jR t (gS l r) = jR t (gS m r)) (h1 : (sO w l t).2 = 0) (h2 : (sO w m u).2 = 0) : (sO w l t).1 ≤ (sO w m u).1 := by
  have c1 := HX h1
  have c2 := HX h2
  obtain ⟨hk, ml, tl, t0, t1⟩ := yW c1
  obtain ⟨_, mm, tm, u0, u1⟩ := yW c2
  rw [RL c1] at h1 ⊢
  rw [RL c2] at h2 ⊢
  by_cases k2 : w.Kind = 2
  · rw [if_pos k2, if_pos k2]
    have hm := aDK hk k2
    have hh := (HY hm).2.2.1
    rw [MB hm t0 t1, MB hm u0 u1]
    obtain ⟨b1, b2, b3, b4, b5⟩ := sP (n := t - w.Size) hh
    obtain ⟨d1, d2, d3, d4, d5⟩ := sP (n := u - w.Size) hh
    have := BF (n := t - w.Size) hh d1 d5 (by omega)
    simp only
    rw [if_neg (by omega)]
    split <;> omega
  · rw [if_neg k2] at h1 h2 ⊢
    rw [if_neg k2]
    by_cases k3 : w.Kind = 3
    · rw [if_pos k3] at h1 h2 ⊢
      rw [if_pos k3]
      obtain ⟨n1, _⟩ := aFn hk k3
      obtain ⟨_, _, _, q1, _⟩ := XN h1
      obtain ⟨_, _, _, q2, q3⟩ := XN h2
      obtain ⟨f1, _, f3, f4⟩ := sF ml
      obtain ⟨g1, _, g3, g4⟩ := sF mm
      rw [q1 ht]
      have hle := (UF f1 (by omega) n1 t).1
      by_cases hu : u = 1125899906842624
      · rw [q3 hu]; omega
      · rw [q2 (by omega)]
        obtain ⟨_, _, e3⟩ := aAr f1 g1 (by omega) (by omega) (XR ml mm hfore) n1
        rw [e3]
        exact aAm g1 (by omega) n1 htu
    · rw [if_neg k3, if_neg k3]; exact htu

theorem SM {l m : List aG} {t : Int} (t0 : 0 ≤ t) (t1 : t < 1125899906842624) (e1 : (pI l t).2 = 0) (e2 : (pI m t).2 = 0) (e3 : (pI l t).1 = (pI m t).1) : ∀ r, jR t (gS l r) = jR t (gS m r) := fun r => by
  rw [← OC, ← OC (gS m r), ← HT t0 t1 e1, ← HT t0 t1 e2, e3]

end Go.Abs
namespace Go.Abs
open Go
theorem LL (l0 : bY) (m0 : xV l0) (l1 : (List aG)) (m1 : ∀ a ∈ l1, rP a) (y1 : List.length l1 * 40 ≤ 140737488351232) (l2 : (List aG)) (m2 : ∀ a ∈ l2, rP a) (y2 : List.length l2 * 40 ≤ 140737488351232) (a3 : Int) (w3 : tL a3) (a4 : Int) (w4 : tL a4) : qM l0 l1 l2 a3 a4 = some true := by
  have k1 := aB3 m1 y1
  have k2 := aB3 m2 y2
  unfold qM
  rw [RG k1, RG k2]
  simp only [Option.bind_some]
  by_cases e1 : (pI l1 a3).2 = 0
  · by_cases e2 : (pI l2 a3).2 = 0
    · simp only [e1, e2, decide_true, Bool.not_true, Bool.or_self, Bool.not_false, dL, cond_true, XT (aAY k1 a3), Option.bind_some, Bool.false_or]
      by_cases e3 : (pI l1 a3).1 = (pI l2 a3).1
      · by_cases u1 : a4 < a3
        · simp [e3, u1, yJ]
        · by_cases t1 : a3 < 1125899906842624
          · have b1 : decide ((1125899906842624 : Int) ≤ a3) = false := by simp; omega
            have b2 : decide (a4 < a3) = false := by simp; omega
            simp only [e3, decide_true, Bool.not_true, b1, b2, Bool.or_self, cond_false, zY k1, zY k2, Option.bind_some, yJ, Bool.true_and]
            by_cases h1 : (sO l0 l1 a3).2 = 0
            · by_cases h2 : (sO l0 l2 a4).2 = 0
              · have t0 := (yW (HX h1)).2.2.2.1
                have := YD t1 (by omega) (SM t0 t1 e1 e2 e3) h1 h2
                simp [h1, h2, this]
              · simp [h2]
            · simp [h1]
          · have b1 : decide ((1125899906842624 : Int) ≤ a3) = true := by simp; omega
            simp [b1, yJ]
      · simp [e3, yJ]
    · simp [e2, dL, yJ]
  · simp [e1, dL, yJ]

end Go.Abs
