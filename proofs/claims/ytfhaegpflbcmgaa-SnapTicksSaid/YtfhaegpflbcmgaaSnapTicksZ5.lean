/- What the law SnapTicks stands on: the framework, the given functions as plain functions, their walks, and the plain laws; part 5. -/
import Derived.Test.YtfhaegpflbcmgaaSnapTicksZ4
set_option linter.unusedSimpArgs false
set_option linter.unusedVariables false
namespace Go.Abs
open Go
theorem AH.next {a j i : Nat} {d : List Int} (h : AH a j i d) (hj : a < j) (hji : j ≤ i) (hi : i < d.length) (hlt : gN d j < gN d (j - 1)) : AH a (j - 1) i (swp d j (j - 1)) := by
  have g := qF (d := d) (i := j) (j := j - 1) (by omega) (by omega)
  refine ⟨fun p q h1 h2 h3 hp hq => ?_, fun q h1 h2 => ?_⟩
  · rw [g, g, if_neg hp, if_neg hq]
    by_cases hpj : p = j
    · rw [if_pos hpj]
      by_cases hqj : q = j
      · rw [if_pos hqj]; exact Int.le_refl _
      · rw [if_neg hqj]; exact h.oth (j - 1) q (by omega) (by omega) h3 (by omega) hqj
    · rw [if_neg hpj]
      by_cases hqj : q = j
      · rw [if_pos hqj]; exact h.oth p (j - 1) h1 (by omega) (by omega) hpj (by omega)
      · rw [if_neg hqj]; exact h.oth p q h1 h2 h3 hpj hqj
  · rw [g, g, if_pos rfl, if_neg (by omega)]
    by_cases hqj : q = j
    · rw [if_pos hqj]; omega
    · rw [if_neg hqj]; exact h.up q (by omega) h2

theorem XP {a b i : Int} {lo hi : Nat} (ha : a = (lo : Nat)) : ∀ (j : Nat) (d : List Int), lo ≤ j → j ≤ hi → hi < d.length → d.length < 4611686018427387904 → AH lo j hi d →
    ∃ d', lp (fun s : List Int × Int => eK a b i s.1 s.2) (d, (j : Int)) = some d' ∧ Rel lo (hi + 1) d d' ∧ nM lo (hi + 1) d' := by
  intro j
  induction j with
  | zero =>
    intro d h1 h2 h3 h4 h5
    have hs := JS (a := a) (b := b) (i := i) ha h1 (by omega) h4 (d := d)
    rw [if_neg (by omega)] at hs
    exact ⟨d, cS hs, Rel.refl .., h5.done h1 (by omega)⟩
  | succ j ih =>
    intro d h1 h2 h3 h4 h5
    have hs := JS (a := a) (b := b) (i := i) ha h1 (by omega) h4 (d := d)
    by_cases h : lo < j + 1 ∧ gN d (j + 1) < gN d (j + 1 - 1)
    · rw [if_pos h] at hs
      obtain ⟨d', e, r, s⟩ := ih (swp d (j + 1) (j + 1 - 1)) (by omega) (by omega) (by rw [fZ]; omega) (by rw [fZ]; omega) (h5.next h.1 h2 h3 h.2)
      exact ⟨d', (fH hs).trans e, (Rel.swp (by omega) (by omega) (by omega) (by omega)).trans r, s⟩
    · rw [if_neg h] at hs
      exact ⟨d, cS hs, Rel.refl .., h5.done h1 h⟩

theorem ML {a b : Int} {lo hi : Nat} (ha : a = (lo : Nat)) (hb : b = (hi : Nat)) : ∀ (n i : Nat) (d : List Int), hi - i = n → lo < i → hi ≤ d.length → d.length < 4611686018427387904 → nM lo i d → (i ≤ hi ∨ hi ≤ i) →
    ∃ d', lp (fun s : List Int × Int => cY a b s.1 s.2) (d, (i : Int)) = some d' ∧ Rel lo hi d d' ∧ nM lo hi d' := by
  intro n
  induction n with
  | zero =>
    intro i d h1 h2 h3 h4 h5 _
    refine ⟨d, cS ?_, Rel.refl .., fun p q p1 p2 p3 => h5 p q p1 p2 (by omega)⟩
    show cY _ _ _ _ = _
    have : decide (((i : Nat) : Int) < b) = false := by simp; omega
    simp only [cY, this, cond_false]
  | succ n ih =>
    intro i d h1 h2 h3 h4 h5 _
    obtain ⟨d1, e, r, s⟩ := XP (a := a) (b := b) (i := (i : Int)) (hi := i) ha i d (by omega) (Nat.le_refl _) (by omega) h4 ⟨fun p q p1 p2 p3 p4 p5 => h5 p q p1 p2 (by omega), fun q q1 q2 => by omega⟩
    obtain ⟨d2, e2, r2, s2⟩ := ih (i + 1) d1 (by omega) (by omega) (by rw [r.len]; exact h3) (by rw [r.len]; exact h4) s (by omega)
    refine ⟨d2, ?_, (r.mono (Nat.le_refl _) (by omega)).trans r2, s2⟩
    rw [fH (s' := (d1, ((i + 1 : Nat) : Int))) ?_, e2]
    show cY _ _ _ _ = _
    have : decide (((i : Nat) : Int) < b) = true := by simp; omega
    simp only [cY, this, cond_true, iM]
    rw [e]
    simp only [Option.bind_some, fO]
    rw [wrN (n := i + 1) (by omega) (by omega)]

theorem DH (lo : Nat) (d : List Int) : nM lo (lo + 1) d := fun p q p1 p2 p3 => by
  have : p = q := by omega
  subst this
  exact Int.le_refl _

theorem TQ {lo hi : Nat} {d : List Int} (h3 : hi ≤ d.length) (h4 : d.length < 4611686018427387904) (h0 : lo ≤ hi) : ∃ d', fX d (lo : Int) (hi : Int) = some d' ∧ Rel lo hi d d' ∧ nM lo hi d' := by
  unfold fX iL
  obtain ⟨d', e, r, s⟩ := ML (a := (lo : Int)) (b := (hi : Int)) (lo := lo) (hi := hi) rfl rfl (hi - (lo + 1)) (lo + 1) d rfl (by omega) h3 h4 (DH lo d) (by omega)
  rw [wrN (n := lo + 1) (by omega) (by omega), e]
  exact ⟨d', rfl, r, s⟩

theorem YL {lo hi : Nat} : ∀ (n i j : Nat) (d : List Int), j + 1 - i = n → lo ≤ i → j + 1 ≤ hi ∨ j ≤ i → hi ≤ d.length → d.length < 4611686018427387904 → i < 4611686018427387904 → j < 4611686018427387904 →
    ∃ d', lp (fun s : List Int × Int × Int => dB s.1 s.2.1 s.2.2) (d, (i : Int), (j : Int)) = some d' ∧ Rel lo hi d d' := by
  intro n
  induction n using Nat.strongRecOn with
  | ind n ih =>
    intro i j d h1 h2 h3 h4 h5 h6 h7
    by_cases h : i < j
    · obtain ⟨d', e, r⟩ := ih (j - 1 + 1 - (i + 1)) (by omega) (i + 1) (j - 1) (swp d i j) rfl (by omega) (by omega) (by rw [fZ]; exact h4) (by rw [fZ]; exact h5) (by omega) (by omega)
      refine ⟨d', ?_, (Rel.swp (by omega) (by omega) (by omega) (by omega)).trans r⟩
      rw [fH (s' := (swp d i j, ((i + 1 : Nat) : Int), ((j - 1 : Nat) : Int))) ?_, e]
      show dB _ _ _ = _
      have : decide (((i : Nat) : Int) < ((j : Nat) : Int)) = true := by simp; omega
      simp only [dB, this, cond_true, Int.toNat_natCast]
      rw [aK (asN (by omega)), aK (asN (by omega)), aK (asN (by omega)), aK (asN (by omega)), wrN (n := i + 1) (by omega) (by omega), wrN (n := j - 1) (by omega) (by omega)]
      rfl
    · refine ⟨d, cS ?_, Rel.refl ..⟩
      show dB _ _ _ = _
      have : decide (((i : Nat) : Int) < ((j : Nat) : Int)) = false := by simp; omega
      simp only [dB, this, cond_false]

theorem TF {lo hi : Nat} {d : List Int} (h0 : lo < hi) (h3 : hi ≤ d.length) (h4 : d.length < 4611686018427387904) : ∃ d', gI d (lo : Int) (hi : Int) = some d' ∧ Rel lo hi d d' := by
  unfold gI iQ
  obtain ⟨d', e, r⟩ := YL (lo := lo) (hi := hi) (hi - 1 + 1 - lo) lo (hi - 1) d rfl (Nat.le_refl _) (by omega) h3 h4 (by omega) (by omega)
  rw [wrN (n := hi - 1) (by omega) (by omega), e]
  exact ⟨d', rfl, r⟩

end Go.Abs
namespace Go.Abs
open Go
def tS (f hi : Nat) (d : List Int) (r : Nat) : Nat := if 2 * r + 2 < hi ∧ gN d (f + (2 * r + 1)) < gN d (f + (2 * r + 2)) then 2 * r + 2 else 2 * r + 1

theorem GW {f hi r c : Nat} {d : List Int} (hf : f + hi ≤ d.length) (hr : r < hi) (hc : c < hi) (hl : d.length < 2305843009213693951) :
    fP d (hi : Nat) (f : Nat) (r : Nat) (c : Nat) = if gN d (f + r) < gN d (f + c) then some (.inl (swp d (f + r) (f + c), (c : Int))) else some (.inr (.inr d)) := by
  unfold fP
  have e1 : IntKind.i64.wrap ((f : Int) + (r : Int)) = ((f + r : Nat) : Int) := wrN (by omega) (by omega)
  have e2 : IntKind.i64.wrap ((f : Int) + (c : Int)) = ((f + c : Nat) : Int) := wrN (by omega) (by omega)
  rw [e1, e2]
  simp only [Int.toNat_natCast, pL, Option.bind_some]
  rw [aK (asN (by omega)), aK (asN (by omega))]
  by_cases h : gN d (f + r) < gN d (f + c)
  · rw [if_pos h]
    simp only [gN] at h
    simp only [h, decide_true, Bool.not_true, cond_false]
    rw [aK (asN (by omega)), aK (asN (by omega)), aK (asN (by omega)), aK (asN (by omega))]
    rfl
  · rw [if_neg h]
    simp only [gN] at h
    simp only [h, decide_false, Bool.not_false, cond_true]

theorem QN {f hi r : Nat} {d : List Int} (hf : f + hi ≤ d.length) (hr : r < hi) (hl : d.length < 2305843009213693951) :
    cV (hi : Nat) (f : Nat) d (r : Nat) = if hi ≤ 2 * r + 1 then some (.inr (.inl d)) else if gN d (f + r) < gN d (f + tS f hi d r) then some (.inl (swp d (f + r) (f + tS f hi d r), (tS f hi d r : Int))) else some (.inr (.inr d)) := by
  unfold cV
  have e1 : IntKind.i64.wrap (IntKind.i64.wrap ((2 : Int) * (r : Int)) + 1) = ((2 * r + 1 : Nat) : Int) := by
    rw [wrN (x := (2 : Int) * (r : Int)) (n := 2 * r) (by omega) (by omega)]; exact wrN (by omega) (by omega)
  have e2 : IntKind.i64.wrap (((2 * r + 1 : Nat) : Int) + 1) = ((2 * r + 2 : Nat) : Int) := wrN (by omega) (by omega)
  simp only [e1, e2]
  by_cases h : hi ≤ 2 * r + 1
  · rw [if_pos h]
    have : decide (((hi : Nat) : Int) ≤ ((2 * r + 1 : Nat) : Int)) = true := by simp; omega
    rw [this, cond_true]
  · rw [if_neg h]
    have d1 : decide (((hi : Nat) : Int) ≤ ((2 * r + 1 : Nat) : Int)) = false := by simp; omega
    rw [d1, cond_false]
    by_cases h2 : 2 * r + 2 < hi
    · have d2 : decide (((2 * r + 2 : Nat) : Int) < ((hi : Nat) : Int)) = true := by simp; omega
      have e3 : IntKind.i64.wrap ((f : Int) + ((2 * r + 1 : Nat) : Int)) = ((f + (2 * r + 1) : Nat) : Int) := wrN (by omega) (by omega)
      have e4 : IntKind.i64.wrap (((f + (2 * r + 1) : Nat) : Int) + 1) = ((f + (2 * r + 2) : Nat) : Int) := wrN (by omega) (by omega)
      simp only [d2, e3, e4, Int.toNat_natCast, pL, dD, cond_true, Option.bind_some, Bool.true_and]
      rw [aK fun _ => asN (by omega), aK fun _ => asN (by omega)]
      by_cases h3 : gN d (f + (2 * r + 1)) < gN d (f + (2 * r + 2))
      · have hb : tS f hi d r = 2 * r + 2 := if_pos ⟨h2, h3⟩
        simp only [gN] at h3
        simp only [h3, decide_true, cond_true]
        rw [GW hf hr h2 hl, hb]
      · have hb : tS f hi d r = 2 * r + 1 := if_neg fun hh => h3 hh.2
        simp only [gN] at h3
        simp only [h3, decide_false, cond_false]
        rw [GW hf hr (by omega) hl, hb]
    · have d2 : decide (((2 * r + 2 : Nat) : Int) < ((hi : Nat) : Int)) = false := by simp; omega
      have hb : tS f hi d r = 2 * r + 1 := if_neg fun hh => h2 hh.1
      simp only [d2, Bool.false_eq_true, false_implies, dD, cond_false, Option.bind_some, Bool.false_and]
      rw [aK trivial, aK trivial, GW hf hr (by omega) hl, hb]

def chd (c p : Nat) : Prop := c = 2 * p + 1 ∨ c = 2 * p + 2

def Hp (f lo hi : Nat) (d : List Int) : Prop := ∀ i c, lo ≤ i → chd c i → c < hi → gN d (f + c) ≤ gN d (f + i)

structure HpX (f lo hi r : Nat) (d : List Int) : Prop where
  oth : ∀ i c, lo ≤ i → i ≠ r → chd c i → c < hi → gN d (f + c) ≤ gN d (f + i)
  up : ∀ p c, lo ≤ p → chd r p → chd c r → c < hi → gN d (f + c) ≤ gN d (f + p)

theorem QM {f hi r : Nat} {d : List Int} (h : ¬ hi ≤ 2 * r + 1) : chd (tS f hi d r) r ∧ tS f hi d r < hi ∧ ∀ c, chd c r → c < hi → gN d (f + c) ≤ gN d (f + tS f hi d r) := by
  unfold tS
  split
  · rename_i h1
    refine ⟨.inr rfl, h1.1, fun c hc hlt => ?_⟩
    rcases hc with rfl | rfl
    · omega
    · exact Int.le_refl _
  · rename_i h1
    refine ⟨.inl rfl, by omega, fun c hc hlt => ?_⟩
    rcases hc with rfl | rfl
    · exact Int.le_refl _
    · have : ¬ gN d (f + (2 * r + 1)) < gN d (f + (2 * r + 2)) := fun hh => h1 ⟨hlt, hh⟩
      omega

theorem HpX.done {f lo hi r : Nat} {d : List Int} (h : HpX f lo hi r d) (hr : ∀ c, chd c r → c < hi → gN d (f + c) ≤ gN d (f + r)) : Hp f lo hi d := by
  intro i c h1 h2 h3
  by_cases e : i = r
  · subst e; exact hr c h2 h3
  · exact h.oth i c h1 e h2 h3

theorem HpX.next {f lo hi r c : Nat} {d : List Int} (h : HpX f lo hi r d) (hf : f + hi ≤ d.length) (hlo : lo ≤ r) (hrh : r < hi) (hc : chd c r) (hch : c < hi) (hbig : ∀ k, chd k r → k < hi → gN d (f + k) ≤ gN d (f + c)) (hlt : gN d (f + r) < gN d (f + c)) : HpX f lo hi c (swp d (f + r) (f + c)) := by
  have g := qF (d := d) (i := f + r) (j := f + c) (by omega) (by omega)
  have hcr : r < c := by unfold chd at hc; omega
  refine ⟨fun i k h1 h2 h3 h4 => ?_, fun p k h1 h2 h3 h4 => ?_⟩
  · rw [g, g, if_neg (show ¬ f + i = f + c by omega)]
    by_cases hir : i = r
    · subst hir
      rw [if_pos (show f + i = f + i from rfl)]
      by_cases hkc : k = c
      · subst hkc; rw [if_pos rfl]; omega
      · rw [if_neg (by omega), if_neg (by unfold chd at h3; omega)]
        exact hbig k h3 h4
    · rw [if_neg (show ¬ f + i = f + r by omega)]
      have hkc : k ≠ c := by intro e; subst e; unfold chd at h3 hc; omega
      rw [if_neg (by omega)]
      by_cases hkr : k = r
      · subst hkr
        rw [if_pos rfl]
        exact h.up i c h1 h3 hc hch
      · rw [if_neg (by omega)]
        exact h.oth i k h1 hir h3 h4
  · have hp : p = r := by unfold chd at h2 hc; omega
    subst hp
    have hk : c < k := by unfold chd at h3; omega
    rw [g, g, if_neg (by omega), if_neg (by omega), if_neg (by omega), if_pos rfl]
    exact h.oth c k (by omega) (by omega) h3 h4

theorem WD {f lo hi : Nat} : ∀ (n r : Nat) (d : List Int), hi - r = n → f + hi ≤ d.length → lo ≤ r → r < hi → d.length < 2305843009213693951 → HpX f lo hi r d →
    ∃ d', (lp (fun s : List Int × Int => cV (hi : Nat) (f : Nat) s.1 s.2) (d, (r : Int)) = some (.inl d') ∨ lp (fun s : List Int × Int => cV (hi : Nat) (f : Nat) s.1 s.2) (d, (r : Int)) = some (.inr d')) ∧ Rel f (f + hi) d d' ∧ Hp f lo hi d' := by
  intro n
  induction n using Nat.strongRecOn with
  | ind n ih =>
    intro r d h1 h2 h3 h4 h5 h6
    have hs := QN h2 h4 h5
    by_cases h : hi ≤ 2 * r + 1
    · rw [if_pos h] at hs
      exact ⟨d, .inl (cS hs), Rel.refl .., h6.done fun c hc hlt => by unfold chd at hc; omega⟩
    · rw [if_neg h] at hs
      obtain ⟨b1, b2, b3⟩ := QM (f := f) (d := d) h
      by_cases hlt : gN d (f + r) < gN d (f + tS f hi d r)
      · rw [if_pos hlt] at hs
        have hb : r < tS f hi d r := by unfold chd at b1; omega
        obtain ⟨d', e, rl, hp⟩ := ih (hi - tS f hi d r) (by omega) (tS f hi d r) _ rfl (by rw [fZ]; exact h2) (by omega) b2 (by rw [fZ]; exact h5) (h6.next h2 h3 h4 b1 b2 b3 hlt)
        exact ⟨d', e.imp (fun e => (fH hs).trans e) (fun e => (fH hs).trans e), (Rel.swp (by omega) (by omega) (by omega) (by omega)).trans rl, hp⟩
      · rw [if_neg hlt] at hs
        exact ⟨d, .inr (cS hs), Rel.refl .., h6.done fun c hc hc2 => by have := b3 c hc hc2; omega⟩

theorem NW {f lo hi : Nat} {d : List Int} (h2 : f + hi ≤ d.length) (h5 : d.length < 2305843009213693951) (hlo : lo < 2305843009213693951) (h6 : HpX f lo hi lo d) :
    ∃ d', eU d (lo : Nat) (hi : Nat) (f : Nat) = some d' ∧ Rel f (f + hi) d d' ∧ Hp f lo hi d' := by
  unfold eU jV
  by_cases h : lo < hi
  · obtain ⟨d', e, r, p⟩ := WD (hi - lo) lo d rfl h2 (Nat.le_refl _) h h5 h6
    rcases e with e | e <;> rw [e] <;> exact ⟨d', rfl, r, p⟩
  · refine ⟨d, ?_, Rel.refl .., fun i c h1 hc hlt => by unfold chd at hc; omega⟩
    have hs : cV (hi : Nat) (f : Nat) d (lo : Nat) = some (.inr (.inl d)) := by
      unfold cV
      have e1 : IntKind.i64.wrap (IntKind.i64.wrap ((2 : Int) * (lo : Int)) + 1) = ((2 * lo + 1 : Nat) : Int) := by
        rw [wrN (x := (2 : Int) * (lo : Int)) (n := 2 * lo) (by omega) (by omega)]; exact wrN (by omega) (by omega)
      have : decide (((hi : Nat) : Int) ≤ ((2 * lo + 1 : Nat) : Int)) = true := by simp; omega
      simp only [e1, this, cond_true]
    rw [cS (show (fun s : List Int × Int => cV (hi : Nat) (f : Nat) s.1 s.2) (d, (lo : Int)) = _ from hs)]
    rfl

theorem QG {f k : Nat} {d : List Int} (h : Hp f 0 k d) : ∀ i, i < k → gN d (f + i) ≤ gN d f := by
  intro i
  induction i using Nat.strongRecOn with
  | ind i ih =>
    intro hi
    by_cases h0 : i = 0
    · subst h0; exact Int.le_refl _
    · have h1 := h ((i - 1) / 2) i (Nat.zero_le _) (by unfold chd; omega) hi
      have h2 := ih ((i - 1) / 2) (by omega) (by omega)
      omega

theorem NF {f hi : Nat} : ∀ (k : Nat) (d : List Int), f + hi ≤ d.length → k < 2305843009213693951 → d.length < 2305843009213693951 → Hp f k hi d →
    ∃ d', lp (fun s : List Int × Int => dQ (f : Nat) 0 (hi : Nat) s.1 s.2) (d, (k : Int) - 1) = some d' ∧ Rel f (f + hi) d d' ∧ Hp f 0 hi d'
  | 0, d, _, _, _, h => by
    refine ⟨d, cS ?_, Rel.refl .., h⟩
    show dQ _ _ _ _ _ = _
    have : decide ((0 : Int) ≤ ((0 : Nat) : Int) - 1) = false := by simp
    simp only [dQ, this, cond_false]
  | k + 1, d, h1, h2, h3, h => by
    obtain ⟨d1, e, r, p⟩ := NW (f := f) (lo := k) (hi := hi) h1 h3 (by omega) ⟨fun i c a1 a2 a3 a4 => h i c (by omega) a3 a4, fun p c a1 a2 => by unfold chd at a2; omega⟩
    obtain ⟨d2, e2, r2, p2⟩ := NF (f := f) (hi := hi) k d1 (by rw [r.len]; exact h1) (by omega) (by rw [r.len]; exact h3) p
    refine ⟨d2, ?_, r.trans r2, p2⟩
    rw [fH (s' := (d1, (k : Int) - 1)) ?_, e2]
    show dQ _ _ _ _ _ = _
    have g1 : (((k + 1 : Nat) : Int) - 1) = (k : Int) := by omega
    have g2 : decide ((0 : Int) ≤ (k : Int)) = true := by simp
    simp only [dQ, g1, g2, cond_true, e, Option.bind_some]
    rw [iG (by omega) (by omega)]

theorem QV {f n : Nat} : ∀ (k : Nat) (d : List Int), k ≤ n → f + n ≤ d.length → d.length < 2305843009213693951 → Hp f 0 k d → nM (f + k) (f + n) d → (∀ p q, f ≤ p → p < f + k → f + k ≤ q → q < f + n → gN d p ≤ gN d q) →
    ∃ d', lp (fun s : List Int × Int => dP (f : Nat) 0 s.1 s.2) (d, (k : Int) - 1) = some d' ∧ Rel f (f + n) d d' ∧ nM f (f + n) d'
  | 0, d, _, _, _, _, hs, _ => by
    refine ⟨d, cS ?_, Rel.refl .., hs⟩
    show dP _ _ _ _ = _
    have : decide ((0 : Int) ≤ ((0 : Nat) : Int) - 1) = false := by simp
    simp only [dP, this, cond_false]
  | k + 1, d, h1, h2, h3, h, hs, hb => by
    have g := qF (d := d) (i := f) (j := f + k) (by omega) (by omega)
    have hroot := QG h
    obtain ⟨d1, e, r, p⟩ := NW (f := f) (lo := 0) (hi := k) (d := swp d f (f + k)) (by rw [fZ]; omega) (by rw [fZ]; exact h3) (by omega) ⟨fun i c a1 a2 a3 a4 => by
      rw [g, g, if_neg (by unfold chd at a3; omega), if_neg (by unfold chd at a3; omega), if_neg (by unfold chd at a3; omega), if_neg (by omega)]
      exact h i c (by omega) a3 (by omega), fun p c a1 a2 => by unfold chd at a2; omega⟩
    have rs : Rel f (f + n) d (swp d f (f + k)) := Rel.swp (i := f) (j := f + k) (by omega) (by omega) (by omega) (by omega)
    have top : gN d1 (f + k) = gN d f := by rw [r.out _ (by omega), g, if_pos rfl]
    have tail : ∀ q, f + k < q → gN d1 q = gN d q := fun q hq => by rw [r.out _ (by omega), g, if_neg (by omega), if_neg (by omega)]
    have low : ∀ p, f ≤ p → p < f + k → ∃ p', f ≤ p' ∧ p' < f + (k + 1) ∧ gN d1 p = gN d p' := fun p p1 p2 => by
      obtain ⟨p', a1, a2, a3⟩ := r.src p p1 p2
      rw [g, if_neg (by omega)] at a3
      by_cases hp : p' = f
      · rw [if_pos hp] at a3; exact ⟨f + k, by omega, by omega, a3⟩
      · rw [if_neg hp] at a3; exact ⟨p', a1, by omega, a3⟩
    obtain ⟨d2, e2, r2, s2⟩ := QV (f := f) (n := n) k d1 (by omega) (by rw [r.len, fZ]; exact h2) (by rw [r.len, fZ]; exact h3) p (fun p q p1 p2 p3 => by
      by_cases hq : q = f + k
      · have : p = f + k := by omega
        rw [hq, this]; exact Int.le_refl _
      · rw [tail q (by omega)]
        by_cases hp : p = f + k
        · rw [hp, top]; exact hb f q (Nat.le_refl _) (by omega) (by omega) p3
        · rw [tail p (by omega)]; exact hs p q (by omega) p2 p3) (fun p q p1 p2 p3 p4 => by
      obtain ⟨p', a1, a2, a3⟩ := low p p1 p2
      rw [a3]
      by_cases hq : q = f + k
      · rw [hq, top]
        have := hroot (p' - f) (by omega)
        rw [show f + (p' - f) = p' by omega] at this
        exact this
      · rw [tail q (by omega)]; exact hb p' q a1 a2 (by omega) p4)
    refine ⟨d2, ?_, (rs.trans (r.mono (Nat.le_refl _) (by omega))).trans r2, s2⟩
    rw [fH (s' := (d1, (k : Int) - 1)) ?_, e2]
    show dP _ _ _ _ = _
    have g1 : (((k + 1 : Nat) : Int) - 1) = (k : Int) := by omega
    have g2 : decide ((0 : Int) ≤ (k : Int)) = true := by simp
    have g3 : IntKind.i64.wrap ((f : Int) + (k : Int)) = ((f + k : Nat) : Int) := wrN (by omega) (by omega)
    simp only [dP, g1, g2, g3, cond_true, Int.toNat_natCast]
    rw [aK (asN (by omega)), aK (asN (by omega)), aK (asN (by omega)), aK (asN (by omega))]
    have e' : eU (List.set (List.set d f (List.getD d (f + k) default)) (f + k) (List.getD d f default)) 0 (k : Int) (f : Int) = some d1 := e
    rw [e']
    simp only [Option.bind_some]
    rw [iG (by omega) (by omega)]

theorem RQ {lo hi : Nat} {d : List Int} (h0 : lo < hi) (h1 : hi ≤ d.length) (h3 : d.length < 2305843009213693951) : ∃ d', iO d (lo : Int) (hi : Int) = some d' ∧ Rel lo hi d d' ∧ nM lo hi d' := by
  unfold iO
  rw [aK (by decide)]
  have e1 : IntKind.i64.wrap ((hi : Int) - (lo : Int)) = ((hi - lo : Nat) : Int) := wrN (by omega) (by omega)
  have e2 : IntKind.i64.wrap (((hi - lo : Nat) : Int) - 1) = ((hi - lo - 1 : Nat) : Int) := wrN (by omega) (by omega)
  have e3 : IntKind.i64.wrap (Int.tdiv ((hi - lo - 1 : Nat) : Int) 2) = (((hi - lo - 1) / 2 + 1 : Nat) : Int) - 1 := by
    have : Int.tdiv ((hi - lo - 1 : Nat) : Int) 2 = (((hi - lo - 1) / 2 : Nat) : Int) := by rw [Int.tdiv_eq_ediv_of_nonneg (by omega)]; omega
    rw [this, wrN (n := (hi - lo - 1) / 2) rfl (by omega)]; omega
  rw [e1, e2, e3]
  unfold jW
  obtain ⟨d1, a1, r1, p1⟩ := NF (f := lo) (hi := hi - lo) ((hi - lo - 1) / 2 + 1) d (by omega) (by omega) h3 (fun i c b1 b2 b3 => by unfold chd at b2; omega)
  rw [a1]
  simp only [Option.bind_some, iH, jU]
  obtain ⟨d2, a2, r2, s2⟩ := QV (f := lo) (n := hi - lo) (hi - lo) d1 (Nat.le_refl _) (by rw [r1.len]; omega) (by rw [r1.len]; exact h3) p1 (fun p q b1 b2 b3 => by omega) (fun p q b1 b2 b3 b4 => by omega)
  have e4 : IntKind.i64.wrap (((hi - lo : Nat) : Int) - 1) = ((hi - lo : Nat) : Int) - 1 := iG (by omega) (by omega)
  rw [e4, a2]
  have : lo + (hi - lo) = hi := by omega
  rw [this] at r1 r2 s2
  exact ⟨d2, rfl, r1.trans r2, s2⟩

end Go.Abs
namespace Go.Abs
open Go
def DL : ByteArray := ⟨#[0, 1, 2, 2, 3, 3, 3, 3, 4, 4, 4, 4, 4, 4, 4, 4, 5, 5, 5, 5, 5, 5, 5, 5, 5, 5, 5, 5, 5, 5, 5, 5, 6, 6, 6, 6, 6, 6, 6, 6, 6, 6, 6, 6, 6, 6, 6, 6, 6, 6, 6, 6, 6, 6, 6, 6, 6, 6, 6, 6, 6, 6, 6, 6, 7, 7, 7, 7, 7, 7, 7, 7, 7, 7, 7, 7, 7, 7, 7, 7, 7, 7, 7, 7, 7, 7, 7, 7, 7, 7, 7, 7, 7, 7, 7, 7, 7, 7, 7, 7, 7, 7, 7, 7, 7, 7, 7, 7, 7, 7, 7, 7, 7, 7, 7, 7, 7, 7, 7, 7, 7, 7, 7, 7, 7, 7, 7, 7, 8, 8, 8, 8, 8, 8, 8, 8, 8, 8, 8, 8, 8, 8, 8, 8, 8, 8, 8, 8, 8, 8, 8, 8, 8, 8, 8, 8, 8, 8, 8, 8, 8, 8, 8, 8, 8, 8, 8, 8, 8, 8, 8, 8, 8, 8, 8, 8, 8, 8, 8, 8, 8, 8, 8, 8, 8, 8, 8, 8, 8, 8, 8, 8, 8, 8, 8, 8, 8, 8, 8, 8, 8, 8, 8, 8, 8, 8, 8, 8, 8, 8, 8, 8, 8, 8, 8, 8, 8, 8, 8, 8, 8, 8, 8, 8, 8, 8, 8, 8, 8, 8, 8, 8, 8, 8, 8, 8, 8, 8, 8, 8, 8, 8, 8, 8, 8, 8, 8, 8, 8, 8, 8, 8, 8, 8, 8, 8]⟩

theorem SV : ∀ i : Fin 256, i.val ≠ 0 → ∃ k : Fin 8, bt DL (i.val : Int) = (k.val : Int) + 1 ∧ 2 ^ k.val ≤ i.val := by decide +kernel

theorem HK : ByteArray.size DL = 256 := by decide +kernel

theorem VQ {x : Int} (h : 0 ≤ x) (h2 : x ≤ 255) : IntKind.u8.wrap x = x := by
  simp only [IntKind.wrap, IntKind.bits, IntKind.signed]
  simp
  omega

theorem BM {x : Int} (h : 0 ≤ x) (h2 : x ≤ 9223372036854775807) : IntKind.u64.wrap x = x := by
  simp only [IntKind.wrap, IntKind.bits, IntKind.signed]
  simp
  omega

theorem RJ {x n : Int} (h1 : 1 ≤ x) (h2 : x ≤ 255) (hn : 0 ≤ n ∧ n ≤ 100) : ∃ k : Nat, kR x n = some (n + k + 1) ∧ k ≤ 7 ∧ (2 : Int) ^ k ≤ x := by
  obtain ⟨k, e, hk⟩ := SV ⟨x.toNat, by omega⟩ (by simp; omega)
  refine ⟨k.val, ?_, by omega, ?_⟩
  · show (aZ (0 ≤ (IntKind.u8.wrap x) ∧ (IntKind.u8.wrap x) < ((ByteArray.size DL : Nat) : Int)) <| some (IntKind.i64.wrap (n + (IntKind.i64.wrap (bt DL (IntKind.u8.wrap x)))))) = _
    rw [VQ (by omega) h2, aK (by rw [HK]; omega)]
    simp only at e
    rw [Int.toNat_of_nonneg (by omega)] at e
    rw [e, iG (n := (k.val : Int) + 1) (by omega) (by omega), iG (by omega) (by omega)]
    congr 1
    omega
  · simp only at hk
    have : ((2 ^ k.val : Nat) : Int) ≤ ((x.toNat : Nat) : Int) := by exact_mod_cast hk
    rw [Int.toNat_of_nonneg (by omega)] at this
    simpa using this

theorem DO {x m : Int} (hm : 0 < m) : Int.fdiv x m = x / m := Int.fdiv_eq_ediv_of_nonneg _ (by omega)

theorem TL {x n : Int} (h1 : 1 ≤ x) (h2 : x ≤ 65535) (hn : 0 ≤ n ∧ n ≤ 90) : ∃ k : Nat, kE x n = some (n + k + 1) ∧ k ≤ 15 ∧ (2 : Int) ^ k ≤ x := by
  unfold kE
  by_cases h : 256 ≤ x
  · have hd : Int.fdiv x (2 ^ (min (Int.toNat (8 : Int)) 64)) = x / 256 := by rw [show (2 ^ (min (Int.toNat (8 : Int)) 64) : Int) = 256 from by decide]; exact DO (by omega)
    obtain ⟨k, e, h3, h4⟩ := RJ (x := x / 256) (n := n + 8) (by omega) (by omega) (by omega)
    refine ⟨k + 8, ?_, by omega, ?_⟩
    · simp only [h, decide_true, cond_true]
      rw [aK (by decide), hd, iG (n := n + 8) (by omega) (by omega), e]
      congr 1; omega
    · rw [Int.pow_add]; have : (2 : Int) ^ 8 = 256 := by decide
      rw [this]; omega
  · obtain ⟨k, e, h3, h4⟩ := RJ (x := x) (n := n) h1 (by omega) (by omega)
    exact ⟨k, by simp only [h, decide_false, cond_false, e], by omega, h4⟩

theorem RP {x n : Int} (h1 : 1 ≤ x) (h2 : x ≤ 4294967295) (hn : 0 ≤ n ∧ n ≤ 70) : ∃ k : Nat, kD x n = some (n + k + 1) ∧ k ≤ 31 ∧ (2 : Int) ^ k ≤ x := by
  unfold kD
  by_cases h : 65536 ≤ x
  · have hd : Int.fdiv x (2 ^ (min (Int.toNat (16 : Int)) 64)) = x / 65536 := by rw [show (2 ^ (min (Int.toNat (16 : Int)) 64) : Int) = 65536 from by decide]; exact DO (by omega)
    obtain ⟨k, e, h3, h4⟩ := TL (x := x / 65536) (n := n + 16) (by omega) (by omega) (by omega)
    refine ⟨k + 16, ?_, by omega, ?_⟩
    · simp only [h, decide_true, cond_true]
      rw [aK (by decide), hd, iG (n := n + 16) (by omega) (by omega), e]
      congr 1; omega
    · rw [Int.pow_add]; have : (2 : Int) ^ 16 = 65536 := by decide
      rw [this]; omega
  · obtain ⟨k, e, h3, h4⟩ := TL (x := x) (n := n) h1 (by omega) (by omega)
    exact ⟨k, by simp only [h, decide_false, cond_false, e], by omega, h4⟩

theorem RO {x : Int} (h1 : 1 ≤ x) (h2 : x ≤ 9223372036854775807) : ∃ k : Nat, jL x = some ((k : Int) + 1) ∧ k ≤ 63 ∧ (2 : Int) ^ k ≤ x := by
  unfold jL mK
  by_cases h : 4294967296 ≤ x
  · have hd : Int.fdiv x (2 ^ (min (Int.toNat (32 : Int)) 64)) = x / 4294967296 := by rw [show (2 ^ (min (Int.toNat (32 : Int)) 64) : Int) = 4294967296 from by decide]; exact DO (by omega)
    obtain ⟨k, e, h3, h4⟩ := RP (x := x / 4294967296) (n := 32) (by omega) (by omega) (by omega)
    refine ⟨k + 32, ?_, by omega, ?_⟩
    · simp only [h, decide_true, cond_true]
      rw [aK (by decide), hd, e]
      simp only [Option.bind_some]
      congr 1; omega
    · rw [Int.pow_add]; have : (2 : Int) ^ 32 = 4294967296 := by decide
      rw [this]; omega
  · obtain ⟨k, e, h3, h4⟩ := RP (x := x) (n := 0) h1 (by omega) (by omega)
    refine ⟨k, ?_, by omega, h4⟩
    simp only [h, decide_false, cond_false, e, Option.bind_some]
    congr 1; omega

theorem QL : bt DL 0 = 0 := by decide +kernel

theorem UB : jL 0 = some 0 := by
  have h3 : kR 0 0 = some 0 := by
    show (aZ (0 ≤ (IntKind.u8.wrap 0) ∧ (IntKind.u8.wrap 0) < ((ByteArray.size DL : Nat) : Int)) <| some (IntKind.i64.wrap (0 + (IntKind.i64.wrap (bt DL (IntKind.u8.wrap 0)))))) = _
    rw [VQ (by omega) (by omega), aK (by rw [HK]; omega), QL, iG (n := 0) (by omega) (by omega), iG (by omega) (by omega)]
    rfl
  have h2 : kE 0 0 = some 0 := h3
  have h1 : kD 0 0 = some 0 := h2
  unfold jL mK
  have : decide ((4294967296 : Int) ≤ 0) = false := by decide
  rw [this, cond_false, h1]
  rfl

theorem TV {n : Nat} (h1 : 1 ≤ n) (h2 : n < 2305843009213693951) : ∃ m : Int, kG (n : Int) = some m ∧ 1 ≤ m ∧ m ≤ 2 * n := by
  unfold kG
  rw [BM (by omega) (by omega)]
  obtain ⟨k, e, h3, h4⟩ := RO (x := (n : Int)) (by omega) (by omega)
  have hk : (2 : Int) ^ (k + 1) = 2 * 2 ^ k := by rw [Int.pow_succ]; omega
  have hp : (1 : Int) ≤ 2 ^ k := by
    have : (0 : Int) < 2 ^ k := Int.pow_pos (by decide)
    omega
  rw [e]
  simp only [Option.bind_some]
  rw [aK (by omega), show min (Int.toNat ((k : Int) + 1)) 64 = k + 1 by omega, Int.one_mul, hk, BM (by omega) (by omega)]
  exact ⟨_, rfl, by omega, by omega⟩

theorem XX (x : Int) {m : Int} (h0 : 0 ≤ m) (hm : m ≤ 9223372036854775807) : 0 ≤ bJ .and .u64 x m ∧ bJ .and .u64 x m ≤ m := by
  have h1 : (BitVec.ofInt IntKind.u64.bits x &&& BitVec.ofInt IntKind.u64.bits m).toNat ≤ m.toNat := by
    rw [BitVec.toNat_and]
    refine Nat.le_trans Nat.and_le_right ?_
    rw [BitVec.toNat_ofInt]
    have : IntKind.u64.bits = 64 := rfl
    rw [this]
    omega
  have h2 : bJ .and .u64 x m = ((BitVec.ofInt IntKind.u64.bits x &&& BitVec.ofInt IntKind.u64.bits m).toNat : Int) := BM (by omega) (by omega)
  rw [h2]
  omega

theorem PJ (r : Int) : ∃ x, kN r = some x := by
  unfold kN
  rw [aK (by decide), aK (by decide), aK (by decide)]
  exact ⟨_, rfl⟩

theorem RB {lo i o : Nat} {d : List Int} (l r m : Int) (hi : i < d.length) (ho : lo + o < d.length) (hl : d.length < 2305843009213693951) :
    eM d (lo : Nat) l r m (i : Nat) (o : Nat) = some (.inl (swp d i (lo + o), r, ((i + 1 : Nat) : Int))) := by
  unfold eM
  rw [wrN (x := (lo : Int) + (o : Int)) (n := lo + o) (by omega) (by omega), wrN (n := i + 1) (by omega) (by omega)]
  simp only [Int.toNat_natCast]
  rw [aK (asN (by omega)), aK (asN (by omega)), aK (asN (by omega)), aK (asN (by omega))]
  rfl

theorem YC {lo n : Nat} {m : Int} (hm : 1 ≤ m ∧ m ≤ 2 * n) (h8 : 8 ≤ n) : ∀ (q i : Nat) (r : Int) (d : List Int), lo + n / 4 * 2 + 2 - i = q → lo ≤ i → i ≤ lo + n / 4 * 2 + 2 → lo + n ≤ d.length → d.length < 2305843009213693951 →
    ∃ d', lp (fun s : List Int × Int × Int => cR (lo : Nat) (n : Nat) m s.1 s.2.1 s.2.2) (d, r, (i : Int)) = some d' ∧ Rel lo (lo + n) d d' := by
  have t4 : IntKind.i64.wrap (Int.tdiv (n : Int) 4) = ((n / 4 : Nat) : Int) ∨ 2305843009213693951 ≤ n := by
    by_cases h : n < 2305843009213693951
    · left
      have : Int.tdiv (n : Int) 4 = ((n / 4 : Nat) : Int) := by rw [Int.tdiv_eq_ediv_of_nonneg (by omega)]; omega
      rw [this]; exact wrN rfl (by omega)
    · right; omega
  intro q
  induction q with
  | zero =>
    intro i r d h1 h2 h3 h4 h5
    have t4 := t4.resolve_right (by omega)
    refine ⟨d, cS ?_, Rel.refl ..⟩
    show cR _ _ _ _ _ _ = _
    unfold cR
    rw [aK (by decide), t4, wrN (x := ((n / 4 : Nat) : Int) * 2) (n := n / 4 * 2) (by omega) (by omega), wrN (x := (lo : Int) + ((n / 4 * 2 : Nat) : Int)) (n := lo + n / 4 * 2) (by omega) (by omega), wrN (x := ((lo + n / 4 * 2 : Nat) : Int) + 1) (n := lo + n / 4 * 2 + 1) (by omega) (by omega)]
    have : decide (((i : Nat) : Int) ≤ ((lo + n / 4 * 2 + 1 : Nat) : Int)) = false := by simp; omega
    rw [this, cond_false]
  | succ q ih =>
    intro i r d h1 h2 h3 h4 h5
    have t4 := t4.resolve_right (by omega)
    obtain ⟨x, hx⟩ := PJ r
    obtain ⟨a1, a2⟩ := XX x.1 (m := m - 1) (by omega) (by omega)
    have hd : decide (((i : Nat) : Int) ≤ ((lo + n / 4 * 2 + 1 : Nat) : Int)) = true := by simp; omega
    have step : ∃ o, o < n ∧ cR (lo : Nat) (n : Nat) m d r (i : Nat) = some (.inl (swp d i (lo + o), x.2, ((i + 1 : Nat) : Int))) := by
      unfold cR
      rw [aK (by decide), t4, wrN (x := ((n / 4 : Nat) : Int) * 2) (n := n / 4 * 2) (by omega) (by omega), wrN (x := (lo : Int) + ((n / 4 * 2 : Nat) : Int)) (n := lo + n / 4 * 2) (by omega) (by omega), wrN (x := ((lo + n / 4 * 2 : Nat) : Int) + 1) (n := lo + n / 4 * 2 + 1) (by omega) (by omega), hd, cond_true, hx]
      simp only [Option.bind_some]
      rw [BM (x := m - 1) (by omega) (by omega)]
      have e1 : IntKind.i64.wrap (bJ .and .u64 x.1 (m - 1)) = (((bJ .and .u64 x.1 (m - 1)).toNat : Nat) : Int) := wrN (by omega) (by omega)
      rw [e1]
      by_cases h : (n : Int) ≤ (((bJ .and .u64 x.1 (m - 1)).toNat : Nat) : Int)
      · refine ⟨(bJ .and .u64 x.1 (m - 1)).toNat - n, by omega, ?_⟩
        simp only [h, decide_true, cond_true]
        rw [wrN (x := (((bJ .and .u64 x.1 (m - 1)).toNat : Nat) : Int) - (n : Int)) (n := (bJ .and .u64 x.1 (m - 1)).toNat - n) (by omega) (by omega)]
        exact RB _ _ _ (by omega) (by omega) h5
      · refine ⟨(bJ .and .u64 x.1 (m - 1)).toNat, by omega, ?_⟩
        simp only [h, decide_false, cond_false]
        exact RB _ _ _ (by omega) (by omega) h5
    obtain ⟨o, ho, hs⟩ := step
    obtain ⟨d', e, rl⟩ := ih (i + 1) x.2 (swp d i (lo + o)) (by omega) (by omega) (by omega) (by rw [fZ]; exact h4) (by rw [fZ]; exact h5)
    exact ⟨d', (fH (show (fun s : List Int × Int × Int => cR (lo : Nat) (n : Nat) m s.1 s.2.1 s.2.2) (d, r, (i : Int)) = _ from hs)).trans e, (Rel.swp (i := i) (j := lo + o) (by omega) (by omega) (by omega) (by omega)).trans rl⟩

theorem SA {lo hi : Nat} {d : List Int} (h8 : 8 ≤ hi - lo) (h1 : hi ≤ d.length) (h2 : d.length < 2305843009213693951) : ∃ d', fU d (lo : Int) (hi : Int) = some d' ∧ Rel lo hi d d' := by
  unfold fU
  have e1 : IntKind.i64.wrap ((hi : Int) - (lo : Int)) = ((hi - lo : Nat) : Int) := wrN (by omega) (by omega)
  have d1 : decide ((8 : Int) ≤ ((hi - lo : Nat) : Int)) = true := by simp; omega
  obtain ⟨m, em, m1, m2⟩ := TV (n := hi - lo) (by omega) (by omega)
  have t4 : IntKind.i64.wrap (Int.tdiv ((hi - lo : Nat) : Int) 4) = (((hi - lo) / 4 : Nat) : Int) := by
    have : Int.tdiv ((hi - lo : Nat) : Int) 4 = (((hi - lo) / 4 : Nat) : Int) := by rw [Int.tdiv_eq_ediv_of_nonneg (by omega)]; omega
    rw [this]; exact wrN rfl (by omega)
  rw [e1, d1, cond_true, em]
  simp only [Option.bind_some]
  rw [aK (by decide), t4, wrN (x := (((hi - lo) / 4 : Nat) : Int) * 2) (n := (hi - lo) / 4 * 2) (by omega) (by omega), wrN (x := (lo : Int) + (((hi - lo) / 4 * 2 : Nat) : Int)) (n := lo + (hi - lo) / 4 * 2) (by omega) (by omega), wrN (x := ((lo + (hi - lo) / 4 * 2 : Nat) : Int) - 1) (n := lo + (hi - lo) / 4 * 2 - 1) (by omega) (by omega)]
  unfold iN
  obtain ⟨d', e, r⟩ := YC (lo := lo) (n := hi - lo) (m := m) ⟨m1, m2⟩ h8 (lo + (hi - lo) / 4 * 2 + 2 - (lo + (hi - lo) / 4 * 2 - 1)) (lo + (hi - lo) / 4 * 2 - 1) (IntKind.u64.wrap ((hi - lo : Nat) : Int)) d rfl (by omega) (by omega) (by omega) h2
  rw [e]
  have : lo + (hi - lo) = hi := by omega
  rw [this] at r
  exact ⟨d', rfl, r⟩

theorem VF {a b : Nat} {d : List Int} (s : Int) (ha : a < d.length) (hb : b < d.length) : ∃ (p q : Nat) (s' : Int), fI d (a : Int) (b : Int) s = some (((p : Int), (q : Int)), s') ∧ ((p = a ∧ q = b) ∨ (p = b ∧ q = a)) := by
  unfold fI
  rw [aK (asN hb), aK (asN ha), pL]
  simp only [Option.bind_some]
  cases decide (d.getD (Int.toNat (b : Int)) default < d.getD (Int.toNat (a : Int)) default)
  · exact ⟨a, b, _, rfl, .inl ⟨rfl, rfl⟩⟩
  · exact ⟨b, a, _, rfl, .inr ⟨rfl, rfl⟩⟩

theorem med {a b c : Nat} {d : List Int} (s : Int) (ha : a < d.length) (hb : b < d.length) (hc : c < d.length) : ∃ (p : Nat) (s' : Int), gU d (a : Int) (b : Int) (c : Int) s = some ((p : Int), s') ∧ (p = a ∨ p = b ∨ p = c) := by
  unfold gU
  obtain ⟨p1, q1, s1, e1, h1⟩ := VF s ha hb
  obtain ⟨p2, q2, s2, e2, h2⟩ := VF (a := q1) (b := c) (d := d) s1 (by omega) hc
  obtain ⟨p3, q3, s3, e3, h3⟩ := VF (a := p1) (b := p2) (d := d) s2 (by omega) (by omega)
  rw [e1]; simp only [Option.bind_some]
  rw [e2]; simp only [Option.bind_some]
  rw [e3]
  exact ⟨q3, s3, rfl, by omega⟩

theorem TU {a : Nat} {d : List Int} (s : Int) (h1 : 1 ≤ a) (ha : a + 1 < d.length) (hl : d.length < 2305843009213693951) : ∃ (p : Nat) (s' : Int), dM d (a : Int) s = some ((p : Int), s') ∧ a - 1 ≤ p ∧ p ≤ a + 1 := by
  unfold dM
  rw [wrN (x := (a : Int) - 1) (n := a - 1) (by omega) (by omega), wrN (x := (a : Int) + 1) (n := a + 1) (by omega) (by omega)]
  obtain ⟨p, s', e, h⟩ := med (a := a - 1) (b := a) (c := a + 1) (d := d) s (by omega) (by omega) (by omega)
  rw [e]
  exact ⟨p, s', rfl, by omega, by omega⟩

theorem VN (d : List Int) (s : Int) (j : Int) : ∃ h, eW d s j = some (j, h) := by
  unfold eW
  cases decide (s = 0) <;> cases decide (s = 12) <;> exact ⟨_, rfl⟩

theorem PY {lo hi : Nat} {d : List Int} (h8 : 12 < hi - lo) (h1 : hi ≤ d.length) (h2 : d.length < 2305843009213693951) : ∃ (p : Nat) (h : Int), gO d (lo : Int) (hi : Int) = some ((p : Int), h) ∧ lo ≤ p ∧ p < hi := by
  unfold gO
  have e1 : IntKind.i64.wrap ((hi : Int) - (lo : Int)) = ((hi - lo : Nat) : Int) := wrN (by omega) (by omega)
  have t4 : IntKind.i64.wrap (Int.tdiv ((hi - lo : Nat) : Int) 4) = (((hi - lo) / 4 : Nat) : Int) := by
    have : Int.tdiv ((hi - lo : Nat) : Int) 4 = (((hi - lo) / 4 : Nat) : Int) := by rw [Int.tdiv_eq_ediv_of_nonneg (by omega)]; omega
    rw [this]; exact wrN rfl (by omega)
  have d1 : decide ((8 : Int) ≤ ((hi - lo : Nat) : Int)) = true := by simp; omega
  have q1 : IntKind.i64.wrap ((lo : Int) + IntKind.i64.wrap ((((hi - lo) / 4 : Nat) : Int) * 1)) = ((lo + (hi - lo) / 4 : Nat) : Int) := by
    rw [wrN (x := (((hi - lo) / 4 : Nat) : Int) * 1) (n := (hi - lo) / 4) (by omega) (by omega)]; exact wrN (by omega) (by omega)
  have q2 : IntKind.i64.wrap ((lo : Int) + IntKind.i64.wrap ((((hi - lo) / 4 : Nat) : Int) * 2)) = ((lo + (hi - lo) / 4 * 2 : Nat) : Int) := by
    rw [wrN (x := (((hi - lo) / 4 : Nat) : Int) * 2) (n := (hi - lo) / 4 * 2) (by omega) (by omega)]; exact wrN (by omega) (by omega)
  have q3 : IntKind.i64.wrap ((lo : Int) + IntKind.i64.wrap ((((hi - lo) / 4 : Nat) : Int) * 3)) = ((lo + (hi - lo) / 4 * 3 : Nat) : Int) := by
    rw [wrN (x := (((hi - lo) / 4 : Nat) : Int) * 3) (n := (hi - lo) / 4 * 3) (by omega) (by omega)]; exact wrN (by omega) (by omega)
  rw [aK (by decide), aK (by decide), aK (by decide)]
  simp only [e1, t4, d1, q1, q2, q3, cond_true]
  by_cases h50 : (50 : Int) ≤ ((hi - lo : Nat) : Int)
  · simp only [h50, decide_true, cond_true]
    obtain ⟨p1, s1, f1, g1, g2⟩ := TU (a := lo + (hi - lo) / 4) (d := d) 0 (by omega) (by omega) h2
    obtain ⟨p2, s2, f2, g3, g4⟩ := TU (a := lo + (hi - lo) / 4 * 2) (d := d) s1 (by omega) (by omega) h2
    obtain ⟨p3, s3, f3, g5, g6⟩ := TU (a := lo + (hi - lo) / 4 * 3) (d := d) s2 (by omega) (by omega) h2
    obtain ⟨p4, s4, f4, g7⟩ := med (a := p1) (b := p2) (c := p3) (d := d) s3 (by omega) (by omega) (by omega)
    obtain ⟨h, f5⟩ := VN d s4 p4
    rw [f1]; simp only [Option.bind_some]
    rw [f2]; simp only [Option.bind_some]
    rw [f3]; simp only [Option.bind_some, eV]
    rw [f4]; simp only [Option.bind_some]
    exact ⟨p4, h, f5, by omega, by omega⟩
  · simp only [h50, decide_false, cond_false, eV]
    obtain ⟨p4, s4, f4, g7⟩ := med (a := lo + (hi - lo) / 4) (b := lo + (hi - lo) / 4 * 2) (c := lo + (hi - lo) / 4 * 3) (d := d) 0 (by omega) (by omega) (by omega)
    obtain ⟨h, f5⟩ := VN d s4 p4
    rw [f4]; simp only [Option.bind_some]
    exact ⟨p4, h, f5, by omega, by omega⟩

end Go.Abs
namespace Go.Abs
open Go
theorem GF {body : List Int × Int → Option ((List Int × Int) ⊕ (List Int × Int))} {d : List Int} {p : Nat → Prop} [DecidablePred p] {j : Nat}
    (hs : ∀ i, i ≤ j + 1 → body (d, (i : Int)) = if i ≤ j ∧ p i then some (.inl (d, ((i + 1 : Nat) : Int))) else some (.inr (d, (i : Int)))) :
    ∀ (n i : Nat), j + 1 - i = n → i ≤ j + 1 → ∃ i' : Nat, lp body (d, (i : Int)) = some (d, (i' : Int)) ∧ i ≤ i' ∧ i' ≤ j + 1 ∧ (∀ k, i ≤ k → k < i' → p k) ∧ (i' ≤ j → ¬ p i') := by
  intro n
  induction n with
  | zero =>
    intro i h1 h2
    have := hs i h2
    rw [if_neg (by omega)] at this
    exact ⟨i, cS this, Nat.le_refl _, h2, fun k a b => by omega, fun h => by omega⟩
  | succ n ih =>
    intro i h1 h2
    have h := hs i h2
    by_cases hp : p i
    · rw [if_pos ⟨by omega, hp⟩] at h
      obtain ⟨i', e, a1, a2, a3, a4⟩ := ih (i + 1) (by omega) (by omega)
      refine ⟨i', (fH h).trans e, by omega, a2, fun k b1 b2 => ?_, a4⟩
      by_cases hk : k = i
      · rw [hk]; exact hp
      · exact a3 k (by omega) b2
    · rw [if_neg fun hh => hp hh.2] at h
      exact ⟨i, cS h, Nat.le_refl _, h2, fun k a b => by omega, fun _ => hp⟩

theorem AY {body : List Int × Int → Option ((List Int × Int) ⊕ (List Int × Int))} {d : List Int} {p : Nat → Prop} [DecidablePred p] {i m : Nat} (hi : 1 ≤ i)
    (hs : ∀ j, j ≤ m → body (d, (j : Int)) = if i ≤ j ∧ p j then some (.inl (d, ((j - 1 : Nat) : Int))) else some (.inr (d, (j : Int)))) :
    ∀ (j : Nat), j ≤ m → i ≤ j + 1 → ∃ j' : Nat, lp body (d, (j : Int)) = some (d, (j' : Int)) ∧ i ≤ j' + 1 ∧ j' ≤ j ∧ (∀ k, j' < k → k ≤ j → p k) ∧ (i ≤ j' → ¬ p j') := by
  intro j
  induction j with
  | zero =>
    intro h1 h2
    have := hs 0 h1
    rw [if_neg (by omega)] at this
    exact ⟨0, cS this, by omega, Nat.le_refl _, fun k a b => by omega, fun h => by omega⟩
  | succ j ih =>
    intro h1 h2
    have h := hs (j + 1) h1
    by_cases hp : i ≤ j + 1 ∧ p (j + 1)
    · rw [if_pos hp] at h
      obtain ⟨j', e, a1, a2, a3, a4⟩ := ih (by omega) (by omega)
      refine ⟨j', (fH h).trans e, a1, by omega, fun k b1 b2 => ?_, a4⟩
      by_cases hk : k = j + 1
      · rw [hk]; exact hp.2
      · exact a3 k b1 (by omega)
    · rw [if_neg hp] at h
      exact ⟨j + 1, cS h, by omega, Nat.le_refl _, fun k a b => by omega, fun h1 h2 => hp ⟨h1, h2⟩⟩

theorem NT {α : Type} {i j u v : Nat} {d : List Int} {n : Bool} {x y : Option α} (hu : i ≤ j → u < d.length) (hv : i ≤ j → v < d.length) :
    (aZ ((decide ((i : Int) ≤ (j : Int))) = true → 0 ≤ (u : Int) ∧ (u : Int) < ((List.length d : Nat) : Int)) <|
    aZ ((decide ((i : Int) ≤ (j : Int))) = true → 0 ≤ (v : Int) ∧ (v : Int) < ((List.length d : Nat) : Int)) <|
    (dD (decide ((i : Int) ≤ (j : Int))) (cW (List.getD d (Int.toNat (u : Int)) default) (List.getD d (Int.toNat (v : Int)) default))).bind fun z =>
    cond ((decide ((i : Int) ≤ (j : Int))) && (Bool.xor n z)) x y) = if i ≤ j ∧ (Bool.xor n (decide (gN d u < gN d v))) = true then x else y := by
  by_cases h : i ≤ j
  · have hd : decide ((i : Int) ≤ (j : Int)) = true := by simp; omega
    rw [hd]
    rw [aK fun _ => asN (hu h), aK fun _ => asN (hv h)]
    simp only [dD, cond_true, pL, Option.bind_some, Bool.true_and, Int.toNat_natCast, h, true_and, gN]
    cases Bool.xor n (decide (d.getD u default < d.getD v default)) <;> simp
  · have hd : decide ((i : Int) ≤ (j : Int)) = false := by simp; omega
    rw [hd, aK (fun h => by cases h), aK (fun h => by cases h)]
    simp [dD, h]

theorem DG {α : Type} {i j u v : Nat} {d : List Int} {x y : Option α} (hu : i ≤ j → u < d.length) (hv : i ≤ j → v < d.length) :
    (aZ ((decide ((i : Int) ≤ (j : Int))) = true → 0 ≤ (u : Int) ∧ (u : Int) < ((List.length d : Nat) : Int)) <|
    aZ ((decide ((i : Int) ≤ (j : Int))) = true → 0 ≤ (v : Int) ∧ (v : Int) < ((List.length d : Nat) : Int)) <|
    (dD (decide ((i : Int) ≤ (j : Int))) (cW (List.getD d (Int.toNat (u : Int)) default) (List.getD d (Int.toNat (v : Int)) default))).bind fun z =>
    cond ((decide ((i : Int) ≤ (j : Int))) && z) x y) = if i ≤ j ∧ gN d u < gN d v then x else y := by
  have := NT (n := false) (x := x) (y := y) hu hv
  simp only [Bool.false_xor] at this
  exact this.trans (by simp)

theorem DW {α : Type} {i j u v : Nat} {d : List Int} {x y : Option α} (hu : i ≤ j → u < d.length) (hv : i ≤ j → v < d.length) :
    (aZ ((decide ((i : Int) ≤ (j : Int))) = true → 0 ≤ (u : Int) ∧ (u : Int) < ((List.length d : Nat) : Int)) <|
    aZ ((decide ((i : Int) ≤ (j : Int))) = true → 0 ≤ (v : Int) ∧ (v : Int) < ((List.length d : Nat) : Int)) <|
    (dD (decide ((i : Int) ≤ (j : Int))) (cW (List.getD d (Int.toNat (u : Int)) default) (List.getD d (Int.toNat (v : Int)) default))).bind fun z =>
    cond ((decide ((i : Int) ≤ (j : Int))) && (!z)) x y) = if i ≤ j ∧ ¬ gN d u < gN d v then x else y := by
  have := NT (n := true) (x := x) (y := y) hu hv
  simp only [Bool.true_xor] at this
  exact this.trans (by simp)

theorem WM {a j : Nat} {d : List Int} (ha : a < d.length) (hj : j < d.length) (hl : d.length < 2305843009213693951) : ∀ i, i ≤ j + 1 → dW (a : Nat) (j : Nat) d (i : Nat) = if i ≤ j ∧ gN d i < gN d a then some (.inl (d, ((i + 1 : Nat) : Int))) else some (.inr (d, (i : Int))) := by
  intro i hi
  unfold dW
  rw [wrN (x := (i : Int) + 1) (n := i + 1) (by omega) (by omega)]
  exact DG (u := i) (v := a) (by omega) (by omega)

theorem UI {a j : Nat} {d : List Int} (ha : a < d.length) (hj : j < d.length) (hl : d.length < 2305843009213693951) : ∀ i, i ≤ j + 1 → eG (a : Nat) (j : Nat) d (i : Nat) = if i ≤ j ∧ gN d i < gN d a then some (.inl (d, ((i + 1 : Nat) : Int))) else some (.inr (d, (i : Int))) := by
  intro i hi
  unfold eG
  rw [wrN (x := (i : Int) + 1) (n := i + 1) (by omega) (by omega)]
  exact DG (u := i) (v := a) (by omega) (by omega)

theorem SQ {a i m : Nat} {d : List Int} (hi : 1 ≤ i) (ha : a < d.length) (hm : m < d.length) (hl : d.length < 2305843009213693951) : ∀ j, j ≤ m → eE (a : Nat) (i : Nat) d (j : Nat) = if i ≤ j ∧ ¬ gN d j < gN d a then some (.inl (d, ((j - 1 : Nat) : Int))) else some (.inr (d, (j : Int))) := by
  intro j hj
  unfold eE
  refine (DW (i := i) (j := j) (d := d) (α := (List Int × Int) ⊕ (List Int × Int)) (u := j) (v := a) (x := some (.inl (d, IntKind.i64.wrap ((j : Int) - 1)))) (y := some (.inr (d, (j : Int)))) (by omega) (by omega)).trans ?_
  by_cases h : i ≤ j ∧ ¬ gN d j < gN d a
  · rw [if_pos h, if_pos h, wrN (x := (j : Int) - 1) (n := j - 1) (by omega) (by omega)]
  · rw [if_neg h, if_neg h]

theorem OI {a i m : Nat} {d : List Int} (hi : 1 ≤ i) (ha : a < d.length) (hm : m < d.length) (hl : d.length < 2305843009213693951) : ∀ j, j ≤ m → eF (a : Nat) (i : Nat) d (j : Nat) = if i ≤ j ∧ ¬ gN d j < gN d a then some (.inl (d, ((j - 1 : Nat) : Int))) else some (.inr (d, (j : Int))) := by
  intro j hj
  unfold eF
  refine (DW (i := i) (j := j) (d := d) (α := (List Int × Int) ⊕ (List Int × Int)) (u := j) (v := a) (x := some (.inl (d, IntKind.i64.wrap ((j : Int) - 1)))) (y := some (.inr (d, (j : Int)))) (by omega) (by omega)).trans ?_
  by_cases h : i ≤ j ∧ ¬ gN d j < gN d a
  · rw [if_pos h, if_pos h, wrN (x := (j : Int) - 1) (n := j - 1) (by omega) (by omega)]
  · rw [if_neg h, if_neg h]

theorem TX {a j : Nat} {d : List Int} (ha : a < d.length) (hj : j < d.length) (hl : d.length < 2305843009213693951) : ∀ i, i ≤ j + 1 → dJ (a : Nat) (j : Nat) d (i : Nat) = if i ≤ j ∧ ¬ gN d a < gN d i then some (.inl (d, ((i + 1 : Nat) : Int))) else some (.inr (d, (i : Int))) := by
  intro i hi
  unfold dJ
  rw [wrN (x := (i : Int) + 1) (n := i + 1) (by omega) (by omega)]
  exact DW (u := a) (v := i) (by omega) (by omega)

theorem OT {a i m : Nat} {d : List Int} (hi : 1 ≤ i) (ha : a < d.length) (hm : m < d.length) (hl : d.length < 2305843009213693951) : ∀ j, j ≤ m → dH (a : Nat) (i : Nat) d (j : Nat) = if i ≤ j ∧ gN d a < gN d j then some (.inl (d, ((j - 1 : Nat) : Int))) else some (.inr (d, (j : Int))) := by
  intro j hj
  unfold dH
  refine (DG (i := i) (j := j) (d := d) (α := (List Int × Int) ⊕ (List Int × Int)) (u := a) (v := j) (x := some (.inl (d, IntKind.i64.wrap ((j : Int) - 1)))) (y := some (.inr (d, (j : Int)))) (by omega) (by omega)).trans ?_
  by_cases h : i ≤ j ∧ gN d a < gN d j
  · rw [if_pos h, if_pos h, wrN (x := (j : Int) - 1) (n := j - 1) (by omega) (by omega)]
  · rw [if_neg h, if_neg h]

structure vQ (a b i j : Nat) (d : List Int) : Prop where
  hi : a < i
  hij : i ≤ j + 1
  hj : j < b
  lo : ∀ k, a < k → k < i → gN d k < gN d a
  up : ∀ k, j < k → k < b → gN d a ≤ gN d k

theorem vQ.swap {a b i j : Nat} {d : List Int} (h : vQ a b i j d) (hb : b ≤ d.length) (hij : i < j) (h1 : gN d a ≤ gN d i) (h2 : gN d j < gN d a) : vQ a b (i + 1) (j - 1) (swp d i j) := by
  have := h.hi; have := h.hj
  have g := qF (d := d) (i := i) (j := j) (by omega) (by omega)
  have ga : gN (swp d i j) a = gN d a := by rw [g, if_neg (by omega), if_neg (by omega)]
  refine ⟨by omega, by omega, by omega, fun k k1 k2 => ?_, fun k k1 k2 => ?_⟩
  · rw [ga, g, if_neg (by omega)]
    by_cases hk : k = i
    · rw [if_pos hk]; exact h2
    · rw [if_neg hk]; exact h.lo k k1 (by omega)
  · rw [ga, g]
    by_cases hk : k = j
    · rw [if_pos hk]; exact h1
    · rw [if_neg hk, if_neg (by omega)]; exact h.up k (by omega) k2

theorem ET {a b i j : Nat} {d : List Int} (h : vQ a b i j d) (hb : b ≤ d.length) (hl : d.length < 2305843009213693951) : ∃ i' j' : Nat, vQ a b i' j' d ∧ i ≤ i' ∧ j' ≤ j ∧ (j' < i' → j' + 1 = i') ∧ (i' ≤ j' → i' < j' ∧ gN d a ≤ gN d i' ∧ gN d j' < gN d a) ∧
    dA (a : Nat) d (i : Nat) (j : Nat) = eH d (a : Nat) (i' : Nat) (j' : Nat) ∧ fA d (a : Nat) (i : Nat) (j : Nat) = eD d (a : Nat) (i' : Nat) (j' : Nat) := by
  have h1 := h.hi; have h2 := h.hij; have h3 := h.hj
  obtain ⟨i', e1, a1, a2, a3, a4⟩ := GF (body := fun s => eG (a : Nat) (j : Nat) s.1 s.2) (d := d) (p := fun k => gN d k < gN d a) (j := j) (UI (a := a) (j := j) (d := d) (by omega) (by omega) hl) (j + 1 - i) i rfl h2
  obtain ⟨i2, e1', b1, b2, b3, b4⟩ := GF (body := fun s => dW (a : Nat) (j : Nat) s.1 s.2) (d := d) (p := fun k => gN d k < gN d a) (j := j) (WM (a := a) (j := j) (d := d) (by omega) (by omega) hl) (j + 1 - i) i rfl h2
  have hii : i2 = i' := by
    rcases Nat.lt_trichotomy i2 i' with hh | hh | hh
    · exact absurd (a3 i2 b1 hh) (b4 (by omega))
    · exact hh
    · exact absurd (b3 i' a1 hh) (a4 (by omega))
  subst hii
  obtain ⟨j', f1, c1, c2, c3, c4⟩ := AY (body := fun s => eF (a : Nat) (i2 : Nat) s.1 s.2) (d := d) (p := fun k => ¬ gN d k < gN d a) (i := i2) (m := j) (by omega) (OI (a := a) (i := i2) (m := j) (d := d) (by omega) (by omega) (by omega) hl) j (Nat.le_refl _) a2
  obtain ⟨j2, f1', g1, g2, g3, g4⟩ := AY (body := fun s => eE (a : Nat) (i2 : Nat) s.1 s.2) (d := d) (p := fun k => ¬ gN d k < gN d a) (i := i2) (m := j) (by omega) (SQ (a := a) (i := i2) (m := j) (d := d) (by omega) (by omega) (by omega) hl) j (Nat.le_refl _) a2
  have hjj : j2 = j' := by
    rcases Nat.lt_trichotomy j2 j' with hh | hh | hh
    · exact absurd (g3 j' hh c2) (c4 (by omega))
    · exact hh
    · exact absurd (c3 j2 hh g2) (g4 (by omega))
  subst hjj
  have hend : i2 ≤ j2 → i2 < j2 ∧ gN d a ≤ gN d i2 ∧ gN d j2 < gN d a := fun hh => by
    have k1 : ¬ gN d i2 < gN d a := a4 (by omega)
    have k2 : gN d j2 < gN d a := Classical.byContradiction fun hn => c4 hh hn
    refine ⟨?_, by omega, k2⟩
    rcases Nat.lt_or_ge i2 j2 with h | h
    · exact h
    · have : i2 = j2 := by omega
      rw [this] at k1; exact absurd k2 k1
  refine ⟨i2, j2, ⟨by omega, by omega, by omega, fun k k1 k2 => ?_, fun k k1 k2 => ?_⟩, a1, c2, fun hh => by omega, hend, ?_, ?_⟩
  · by_cases hk : k < i
    · exact h.lo k k1 hk
    · exact a3 k (by omega) k2
  · by_cases hk : j < k
    · exact h.up k hk k2
    · have := c3 k k1 (by omega); omega
  · unfold dA jN
    rw [show lp (fun s : List Int × Int => eG (a : Nat) (j : Nat) s.1 s.2) (d, (i : Int)) = some (d, (i2 : Int)) from e1]
    simp only [Option.bind_some]
    unfold gY jP
    rw [show lp (fun s : List Int × Int => eF (a : Nat) (i2 : Nat) s.1 s.2) (d, (j : Int)) = some (d, (j2 : Int)) from f1]
    rfl
  · unfold fA
    rw [show lp (fun s : List Int × Int => dW (a : Nat) (j : Nat) s.1 s.2) (d, (i : Int)) = some (d, (i2 : Int)) from e1']
    simp only [Option.bind_some]
    unfold gW jO
    rw [show lp (fun s : List Int × Int => eE (a : Nat) (i2 : Nat) s.1 s.2) (d, (j : Int)) = some (d, (j2 : Int)) from f1']
    rfl

theorem vQ.rel {a b i j : Nat} {d : List Int} (h : vQ a b i j d) (hb : b ≤ d.length) (hij : i ≤ j) : Rel (a + 1) b d (swp d i j) := by
  have := h.hi; have := h.hj
  exact Rel.swp (i := i) (j := j) (by omega) (by omega) (by omega) (by omega)

theorem WZ {a b : Nat} : ∀ (n i j : Nat) (d : List Int), j + 1 - i = n → b ≤ d.length → d.length < 2305843009213693951 → vQ a b i j d →
    ∃ (d' : List Int) (j' : Nat), lp (fun s : List Int × Int × Int => dA (a : Nat) s.1 s.2.1 s.2.2) (d, (i : Int), (j : Int)) = some (d', (j' : Int)) ∧ Rel (a + 1) b d d' ∧ vQ a b (j' + 1) j' d' := by
  intro n
  induction n using Nat.strongRecOn with
  | ind n ih =>
    intro i j d h1 h2 h3 h
    obtain ⟨i', j', p1, p2, p3, p4, p5, p6, _⟩ := ET h h2 h3
    have q1 := p1.hi; have q2 := p1.hj; have q3 := p1.hij
    by_cases hlt : j' < i'
    · have hs : dA (a : Nat) d (i : Nat) (j : Nat) = some (.inr (d, (j' : Int))) := by
        rw [p6]
        unfold eH
        have : decide ((j' : Int) < (i' : Int)) = true := by simp; omega
        rw [this, cond_true]
      have := p4 hlt
      exact ⟨d, j', cS hs, Rel.refl .., by rw [this]; exact p1⟩
    · obtain ⟨k1, k2, k3⟩ := p5 (by omega)
      have hs : dA (a : Nat) d (i : Nat) (j : Nat) = some (.inl (swp d i' j', ((i' + 1 : Nat) : Int), ((j' - 1 : Nat) : Int))) := by
        rw [p6]
        unfold eH
        have : decide ((j' : Int) < (i' : Int)) = false := by simp; omega
        rw [this, cond_false]
        simp only [Int.toNat_natCast]
        rw [aK (asN (by omega)), aK (asN (by omega)), aK (asN (by omega)), aK (asN (by omega)), wrN (x := (i' : Int) + 1) (n := i' + 1) (by omega) (by omega), wrN (x := (j' : Int) - 1) (n := j' - 1) (by omega) (by omega)]
        rfl
      obtain ⟨d', j2, e, r, p⟩ := ih (j' - 1 + 1 - (i' + 1)) (by omega) (i' + 1) (j' - 1) (swp d i' j') rfl (by rw [fZ]; exact h2) (by rw [fZ]; exact h3) (p1.swap h2 k1 k2 k3)
      exact ⟨d', j2, (fH hs).trans e, (p1.rel h2 (by omega)).trans r, p⟩

theorem KS {a b j : Nat} {d : List Int} (h : vQ a b (j + 1) j d) (hb : b ≤ d.length) : Rel a b d (swp d j a) ∧ (∀ k, a ≤ k → k < j → gN (swp d j a) k ≤ gN (swp d j a) j) ∧ (∀ k, j < k → k < b → gN (swp d j a) j ≤ gN (swp d j a) k) := by
  have h1 := h.hi; have h3 := h.hj
  have g := qF (d := d) (i := j) (j := a) (by omega) (by omega)
  have gj : gN (swp d j a) j = gN d a := by
    rw [g]
    by_cases hh : j = a
    · rw [if_pos hh, hh]
    · rw [if_neg hh, if_pos rfl]
  refine ⟨Rel.swp (i := j) (j := a) (by omega) (by omega) (by omega) (by omega), fun k k1 k2 => ?_, fun k k1 k2 => ?_⟩
  · rw [gj, g]
    by_cases hk : k = a
    · rw [if_pos hk]
      have := h.lo j (by omega) (by omega); omega
    · rw [if_neg hk, if_neg (by omega)]
      have := h.lo k (by omega) (by omega); omega
  · rw [gj, g, if_neg (by omega), if_neg (by omega)]
    exact h.up k k1 k2

theorem JT {lo hi p : Nat} {d : List Int} (h0 : lo < hi) (hb : hi ≤ d.length) (hl : d.length < 2305843009213693951) (hp : lo ≤ p ∧ p < hi) :
    ∃ (m : Nat) (fl : Bool) (d' : List Int), fQ d (lo : Int) (hi : Int) (p : Int) = some (((m : Int), fl), d') ∧ lo ≤ m ∧ m < hi ∧ Rel lo hi d d' ∧ (∀ k, lo ≤ k → k < m → gN d' k ≤ gN d' m) ∧ (∀ k, m < k → k < hi → gN d' m ≤ gN d' k) := by
  unfold fQ
  rw [aK (asN (by omega)), aK (asN (by omega)), aK (asN (by omega)), aK (asN (by omega)), wrN (x := (lo : Int) + 1) (n := lo + 1) (by omega) (by omega), wrN (x := (hi : Int) - 1) (n := hi - 1) (by omega) (by omega)]
  simp only [Int.toNat_natCast]
  have r0 : Rel lo hi d (swp d lo p) := Rel.swp (i := lo) (j := p) (by omega) (by omega) (by omega) (by omega)
  have l0 : (swp d lo p).length = d.length := fZ ..
  have inv : vQ lo hi (lo + 1) (hi - 1) (swp d lo p) := ⟨by omega, by omega, by omega, fun k k1 k2 => by omega, fun k k1 k2 => by omega⟩
  obtain ⟨i', j', p1, p2, p3, p4, p5, _, p6⟩ := ET inv (by rw [l0]; exact hb) (by rw [l0]; exact hl)
  have e0 : fA (List.set (List.set d lo (List.getD d p default)) p (List.getD d lo default)) (lo : Int) ((lo + 1 : Nat) : Int) ((hi - 1 : Nat) : Int) = eD (swp d lo p) (lo : Nat) (i' : Nat) (j' : Nat) := p6
  rw [e0]
  have q1 := p1.hi; have q2 := p1.hj; have q3 := p1.hij
  generalize hg : swp d lo p = d1 at *
  unfold eD
  by_cases hlt : j' < i'
  · have : decide ((j' : Int) < (i' : Int)) = true := by simp; omega
    rw [this, cond_true]
    simp only [Int.toNat_natCast]
    rw [aK (asN (by omega)), aK (asN (by omega)), aK (asN (by omega)), aK (asN (by omega))]
    have hp1 : vQ lo hi (j' + 1) j' d1 := by rw [p4 hlt]; exact p1
    obtain ⟨r, a1, a2⟩ := KS hp1 (by omega)
    exact ⟨j', true, swp d1 j' lo, rfl, by omega, by omega, r0.trans r, a1, a2⟩
  · obtain ⟨k1, k2, k3⟩ := p5 (by omega)
    have : decide ((j' : Int) < (i' : Int)) = false := by simp; omega
    rw [this, cond_false]
    simp only [Int.toNat_natCast]
    rw [aK (asN (by omega)), aK (asN (by omega)), aK (asN (by omega)), aK (asN (by omega)), wrN (x := (i' : Int) + 1) (n := i' + 1) (by omega) (by omega), wrN (x := (j' : Int) - 1) (n := j' - 1) (by omega) (by omega)]
    obtain ⟨d2, j2, e, r, pp⟩ := WZ (a := lo) (b := hi) (j' - 1 + 1 - (i' + 1)) (i' + 1) (j' - 1) (swp d1 i' j') rfl (by rw [fZ]; omega) (by rw [fZ]; omega) (p1.swap (by omega) k1 k2 k3)
    have w1 := pp.hi; have w2 := pp.hj
    have l2 : d2.length = d1.length := by rw [r.len, fZ]
    unfold jJ
    rw [show lp (fun s : List Int × Int × Int => dA (lo : Int) s.1 s.2.1 s.2.2) ((List.set (List.set d1 i' (List.getD d1 j' default)) j' (List.getD d1 i' default)), ((i' + 1 : Nat) : Int), ((j' - 1 : Nat) : Int)) = some (d2, (j2 : Int)) from e]
    simp only [Option.bind_some, gX, Int.toNat_natCast]
    rw [aK (asN (by omega)), aK (asN (by omega)), aK (asN (by omega)), aK (asN (by omega))]
    obtain ⟨rr, a1, a2⟩ := KS pp (by omega)
    exact ⟨j2, false, swp d2 j2 lo, rfl, by omega, by omega, ((r0.trans ((p1.rel (by omega) (by omega)).mono (by omega) (Nat.le_refl _))).trans (r.mono (by omega) (Nat.le_refl _))).trans rr, a1, a2⟩

end Go.Abs
namespace Go.Abs
open Go
structure BQ (a b i j : Nat) (d : List Int) : Prop where
  hi : a < i
  hij : i ≤ j + 1
  hj : j < b
  lo : ∀ k, a < k → k < i → gN d k ≤ gN d a
  up : ∀ k, j < k → k < b → gN d a < gN d k

theorem BQ.swap {a b i j : Nat} {d : List Int} (h : BQ a b i j d) (hb : b ≤ d.length) (hij : i < j) (h1 : gN d a < gN d i) (h2 : gN d j ≤ gN d a) : BQ a b (i + 1) (j - 1) (swp d i j) := by
  have := h.hi; have := h.hj
  have g := qF (d := d) (i := i) (j := j) (by omega) (by omega)
  have ga : gN (swp d i j) a = gN d a := by rw [g, if_neg (by omega), if_neg (by omega)]
  refine ⟨by omega, by omega, by omega, fun k k1 k2 => ?_, fun k k1 k2 => ?_⟩
  · rw [ga, g, if_neg (by omega)]
    by_cases hk : k = i
    · rw [if_pos hk]; exact h2
    · rw [if_neg hk]; exact h.lo k k1 (by omega)
  · rw [ga, g]
    by_cases hk : k = j
    · rw [if_pos hk]; exact h1
    · rw [if_neg hk, if_neg (by omega)]; exact h.up k (by omega) k2

theorem MC {a b i j : Nat} {d : List Int} (h : BQ a b i j d) (hb : b ≤ d.length) (hl : d.length < 2305843009213693951) : ∃ i' j' : Nat, BQ a b i' j' d ∧ i ≤ i' ∧ j' ≤ j ∧ (j' < i' → j' + 1 = i') ∧ (i' ≤ j' → i' < j' ∧ gN d a < gN d i' ∧ gN d j' ≤ gN d a) ∧
    cN (a : Nat) d (i : Nat) (j : Nat) = dK d (a : Nat) (i' : Nat) (j' : Nat) := by
  have h1 := h.hi; have h2 := h.hij; have h3 := h.hj
  obtain ⟨i', e1, a1, a2, a3, a4⟩ := GF (body := fun s => dJ (a : Nat) (j : Nat) s.1 s.2) (d := d) (p := fun k => ¬ gN d a < gN d k) (j := j) (TX (a := a) (j := j) (d := d) (by omega) (by omega) hl) (j + 1 - i) i rfl h2
  obtain ⟨j', f1, c1, c2, c3, c4⟩ := AY (body := fun s => dH (a : Nat) (i' : Nat) s.1 s.2) (d := d) (p := fun k => gN d a < gN d k) (i := i') (m := j) (by omega) (OT (a := a) (i := i') (m := j) (d := d) (by omega) (by omega) (by omega) hl) j (Nat.le_refl _) a2
  have hend : i' ≤ j' → i' < j' ∧ gN d a < gN d i' ∧ gN d j' ≤ gN d a := fun hh => by
    have k1 : gN d a < gN d i' := Classical.byContradiction fun hn => a4 (by omega) hn
    have k2 : ¬ gN d a < gN d j' := c4 hh
    refine ⟨?_, k1, by omega⟩
    rcases Nat.lt_or_ge i' j' with h | h
    · exact h
    · have : i' = j' := by omega
      rw [this] at k1; exact absurd k1 k2
  refine ⟨i', j', ⟨by omega, by omega, by omega, fun k k1 k2 => ?_, fun k k1 k2 => ?_⟩, a1, c2, fun hh => by omega, hend, ?_⟩
  · by_cases hk : k < i
    · exact h.lo k k1 hk
    · have := a3 k (by omega) k2; omega
  · by_cases hk : j < k
    · exact h.up k hk k2
    · exact c3 k k1 (by omega)
  · unfold cN iF
    rw [show lp (fun s : List Int × Int => dJ (a : Nat) (j : Nat) s.1 s.2) (d, (i : Int)) = some (d, (i' : Int)) from e1]
    simp only [Option.bind_some]
    unfold fF iB
    rw [show lp (fun s : List Int × Int => dH (a : Nat) (i' : Nat) s.1 s.2) (d, (j : Int)) = some (d, (j' : Int)) from f1]
    rfl

theorem UP {a b : Nat} : ∀ (n i j : Nat) (d : List Int), j + 1 - i = n → b ≤ d.length → d.length < 2305843009213693951 → BQ a b i j d →
    ∃ (d' : List Int) (j' : Nat), lp (fun s : List Int × Int × Int => cN (a : Nat) s.1 s.2.1 s.2.2) (d, (i : Int), (j : Int)) = some (d', ((j' + 1 : Nat) : Int)) ∧ Rel (a + 1) b d d' ∧ BQ a b (j' + 1) j' d' := by
  intro n
  induction n using Nat.strongRecOn with
  | ind n ih =>
    intro i j d h1 h2 h3 h
    obtain ⟨i', j', p1, p2, p3, p4, p5, p6⟩ := MC h h2 h3
    have q1 := p1.hi; have q2 := p1.hj; have q3 := p1.hij
    by_cases hlt : j' < i'
    · have hs : cN (a : Nat) d (i : Nat) (j : Nat) = some (.inr (d, (i' : Int))) := by
        rw [p6]
        unfold dK
        have : decide ((j' : Int) < (i' : Int)) = true := by simp; omega
        rw [this, cond_true]
      have := p4 hlt
      exact ⟨d, j', by rw [this]; exact cS hs, Rel.refl .., by rw [this]; exact p1⟩
    · obtain ⟨k1, k2, k3⟩ := p5 (by omega)
      have hs : cN (a : Nat) d (i : Nat) (j : Nat) = some (.inl (swp d i' j', ((i' + 1 : Nat) : Int), ((j' - 1 : Nat) : Int))) := by
        rw [p6]
        unfold dK
        have : decide ((j' : Int) < (i' : Int)) = false := by simp; omega
        rw [this, cond_false]
        simp only [Int.toNat_natCast]
        rw [aK (asN (by omega)), aK (asN (by omega)), aK (asN (by omega)), aK (asN (by omega)), wrN (x := (i' : Int) + 1) (n := i' + 1) (by omega) (by omega), wrN (x := (j' : Int) - 1) (n := j' - 1) (by omega) (by omega)]
        rfl
      obtain ⟨d', j2, e, r, p⟩ := ih (j' - 1 + 1 - (i' + 1)) (by omega) (i' + 1) (j' - 1) (swp d i' j') rfl (by rw [fZ]; exact h2) (by rw [fZ]; exact h3) (p1.swap h2 k1 k2 k3)
      exact ⟨d', j2, (fH hs).trans e, (Rel.swp (i := i') (j := j') (by omega) (by omega) (by omega) (by omega)).trans r, p⟩

theorem ID {lo hi p : Nat} {d : List Int} (h0 : lo < hi) (hb : hi ≤ d.length) (hl : d.length < 2305843009213693951) (hp : lo ≤ p ∧ p < hi) :
    ∃ (m : Nat) (d' : List Int), eJ d (lo : Int) (hi : Int) (p : Int) = some ((m : Int), d') ∧ lo < m ∧ m ≤ hi ∧ Rel lo hi d d' ∧ (∀ k, lo ≤ k → k < m → gN d' k ≤ gN d p) ∧ (∀ k, m ≤ k → k < hi → gN d p < gN d' k) := by
  unfold eJ
  rw [aK (asN (by omega)), aK (asN (by omega)), aK (asN (by omega)), aK (asN (by omega)), wrN (x := (lo : Int) + 1) (n := lo + 1) (by omega) (by omega), wrN (x := (hi : Int) - 1) (n := hi - 1) (by omega) (by omega)]
  simp only [Int.toNat_natCast]
  have r0 : Rel lo hi d (swp d lo p) := Rel.swp (i := lo) (j := p) (by omega) (by omega) (by omega) (by omega)
  have l0 : (swp d lo p).length = d.length := fZ ..
  have g := qF (d := d) (i := lo) (j := p) (by omega) (by omega)
  have g0 : gN (swp d lo p) lo = gN d p := by
    rw [g]
    by_cases hh : lo = p
    · rw [if_pos hh, hh]
    · rw [if_neg hh, if_pos rfl]
  have inv : BQ lo hi (lo + 1) (hi - 1) (swp d lo p) := ⟨by omega, by omega, by omega, fun k k1 k2 => by omega, fun k k1 k2 => by omega⟩
  obtain ⟨d', j', e, r, pp⟩ := UP (a := lo) (b := hi) (hi - 1 + 1 - (lo + 1)) (lo + 1) (hi - 1) (swp d lo p) rfl (by rw [l0]; exact hb) (by rw [l0]; exact hl) inv
  have w1 := pp.hi; have w2 := pp.hj
  have ga : gN d' lo = gN d p := by rw [r.out lo (by omega), g0]
  unfold iE
  rw [show lp (fun s : List Int × Int × Int => cN (lo : Int) s.1 s.2.1 s.2.2) ((List.set (List.set d lo (List.getD d p default)) p (List.getD d lo default)), ((lo + 1 : Nat) : Int), ((hi - 1 : Nat) : Int)) = some (d', ((j' + 1 : Nat) : Int)) from e]
  refine ⟨j' + 1, d', rfl, by omega, by omega, r0.trans (r.mono (by omega) (Nat.le_refl _)), fun k k1 k2 => ?_, fun k k1 k2 => ?_⟩
  · rw [← ga]
    by_cases hk : k = lo
    · rw [hk]; exact Int.le_refl _
    · exact pp.lo k (by omega) k2
  · rw [← ga]; exact pp.up k (by omega) k2

theorem NR {lo i : Nat} {d : List Int} : ∀ (n i' : Nat), i' - i = n → nM lo i d → lo < i → (∀ k, i ≤ k → k < i' → gN d (k - 1) ≤ gN d k) → nM lo i' d
  | 0, i', h, hs, _, _ => fun p q p1 p2 p3 => hs p q p1 p2 (by omega)
  | n + 1, i', h, hs, hl, hk => by
    have ih := NR (d := d) n (i' - 1) (by omega) hs hl fun k k1 k2 => hk k k1 (by omega)
    intro p q p1 p2 p3
    by_cases hq : q = i' - 1
    · by_cases hp : p = q
      · rw [hp]; exact Int.le_refl _
      · have h1 := hk q (by omega) (by omega)
        have h2 := ih p (q - 1) p1 (by omega) (by omega)
        omega
    · exact ih p q p1 p2 (by omega)

theorem VE {lo hi : Nat} {d : List Int} (x : Int) (hb : hi ≤ d.length) (hl : d.length < 2305843009213693951) : ∀ (n i : Nat), hi - i = n → 1 ≤ i → i ≤ hi →
    ∃ i' : Nat, lp (fun s : List Int × Int => cK (lo : Nat) (hi : Nat) x s.1 s.2) (d, (i : Int)) = some (d, (i' : Int)) ∧ i ≤ i' ∧ i' ≤ hi ∧ (∀ k, i ≤ k → k < i' → gN d (k - 1) ≤ gN d k) := by
  intro n
  induction n with
  | zero =>
    intro i h1 h2 h3
    refine ⟨i, cS ?_, Nat.le_refl _, h3, fun k k1 k2 => by omega⟩
    show cK _ _ _ _ _ = _
    have : decide ((i : Int) < (hi : Int)) = false := by simp; omega
    simp only [cK, this]
    rw [aK (fun h => by cases h), aK (fun h => by cases h)]
    rfl
  | succ n ih =>
    intro i h1 h2 h3
    have hd : decide ((i : Int) < (hi : Int)) = true := by simp; omega
    have hs : cK (lo : Nat) (hi : Nat) x d (i : Nat) = if gN d i < gN d (i - 1) then some (.inr (d, (i : Int))) else some (.inl (d, ((i + 1 : Nat) : Int))) := by
      unfold cK
      rw [hd, wrN (x := (i : Int) - 1) (n := i - 1) (by omega) (by omega), wrN (x := (i : Int) + 1) (n := i + 1) (by omega) (by omega), aK fun _ => asN (by omega), aK fun _ => asN (by omega)]
      simp only [dD, cond_true, pL, Option.bind_some, Bool.true_and, Int.toNat_natCast, gN]
      by_cases h : d.getD i default < d.getD (i - 1) default <;> simp [h]
    by_cases h : gN d i < gN d (i - 1)
    · rw [if_pos h] at hs
      exact ⟨i, cS hs, Nat.le_refl _, h3, fun k k1 k2 => by omega⟩
    · rw [if_neg h] at hs
      obtain ⟨i', e, a1, a2, a3⟩ := ih (i + 1) (by omega) (by omega) (by omega)
      refine ⟨i', (fH hs).trans e, by omega, a2, fun k k1 k2 => ?_⟩
      by_cases hk : k = i
      · rw [hk]; omega
      · exact a3 k (by omega) k2

theorem BR {lo hi : Nat} {d d' : List Int} (r : Rel lo hi d d') (h : lo = 0 ∨ ∀ k, lo ≤ k → k < hi → gN d (lo - 1) ≤ gN d k) : lo = 0 ∨ ∀ k, lo ≤ k → k < hi → gN d' (lo - 1) ≤ gN d' k := by
  by_cases h0 : lo = 0
  · exact .inl h0
  · rcases h with h | h
    · exact .inl h
    · exact .inr fun k k1 k2 => by
        rw [r.out (lo - 1) (by omega)]
        exact r.all (p := fun v => gN d (lo - 1) ≤ v) h k k1 k2

theorem UR {lo hi i : Nat} (x y : Int) : ∀ (j : Nat) (d : List Int), lo ≤ j → j ≤ i → i < d.length → d.length < 2305843009213693951 → AH lo j i d → (lo = 0 ∨ ∀ k, lo ≤ k → k ≤ i → gN d (lo - 1) ≤ gN d k) →
    ∃ d', lp (fun s : List Int × Int => cH (lo : Nat) (hi : Nat) x y s.1 s.2) (d, (j : Int)) = some d' ∧ Rel lo (i + 1) d d' ∧ nM lo (i + 1) d' := by
  intro j
  induction j with
  | zero =>
    intro d h1 h2 h3 h4 h5 h6
    refine ⟨d, cS ?_, Rel.refl .., h5.done h1 (by omega)⟩
    show cH _ _ _ _ _ _ = _
    have : decide ((1 : Int) ≤ ((0 : Nat) : Int)) = false := by simp
    simp only [cH, this, cond_false]
  | succ j ih =>
    intro d h1 h2 h3 h4 h5 h6
    have hd : decide ((1 : Int) ≤ ((j + 1 : Nat) : Int)) = true := by simp; omega
    have hs : cH (lo : Nat) (hi : Nat) x y d ((j + 1 : Nat) : Int) = if gN d (j + 1) < gN d j then some (.inl (swp d (j + 1) j, (j : Int))) else some (.inr d) := by
      unfold cH
      rw [hd, cond_true, wrN (x := ((j + 1 : Nat) : Int) - 1) (n := j) (by omega) (by omega), aK (asN (by omega)), aK (asN (by omega))]
      simp only [pL, Option.bind_some, Int.toNat_natCast, gN]
      by_cases h : d.getD (j + 1) default < d.getD j default
      · simp only [h, decide_true, Bool.not_true, cond_false, if_true]
        rw [aK (asN (by omega)), aK (asN (by omega)), aK (asN (by omega)), aK (asN (by omega))]
        rfl
      · simp only [h, decide_false, Bool.not_false, cond_true, if_false]
    by_cases h : gN d (j + 1) < gN d j
    · rw [if_pos h] at hs
      have hlo : lo < j + 1 := by
        rcases h6 with h6 | h6
        · omega
        · rcases Nat.lt_or_ge lo (j + 1) with hh | hh
          · exact hh
          · have : lo = j + 1 := by omega
            have h7 := h6 (j + 1) (by omega) h2
            rw [this] at h7
            simp only [Nat.add_sub_cancel] at h7
            omega
      have r1 : Rel lo (i + 1) d (swp d (j + 1) j) := Rel.swp (i := j + 1) (j := j) (by omega) (by omega) (by omega) (by omega)
      obtain ⟨d', e, r, s⟩ := ih (swp d (j + 1) j) (by omega) (by omega) (by rw [fZ]; exact h3) (by rw [fZ]; exact h4) (h5.next hlo h2 h3 h) ((BR r1 (h6.imp id fun h k a b => h k a (by omega))).imp id fun h k a b => h k a (by omega))
      exact ⟨d', (fH hs).trans e, r1.trans r, s⟩
    · rw [if_neg h] at hs
      exact ⟨d, cS hs, Rel.refl .., h5.done h1 fun hh => h hh.2⟩

theorem YH {lo hi i : Nat} (x y : Int) : ∀ (n j : Nat) (d : List Int), hi - j = n → i < j → hi ≤ d.length → d.length < 2305843009213693951 →
    ∃ d', lp (fun s : List Int × Int => cL (lo : Nat) (hi : Nat) x y s.1 s.2) (d, (j : Int)) = some d' ∧ Rel i hi d d' := by
  intro n
  induction n with
  | zero =>
    intro j d h1 h2 h3 h4
    refine ⟨d, cS ?_, Rel.refl ..⟩
    show cL _ _ _ _ _ _ = _
    have : decide ((j : Int) < (hi : Int)) = false := by simp; omega
    simp only [cL, this, cond_false]
  | succ n ih =>
    intro j d h1 h2 h3 h4
    have hd : decide ((j : Int) < (hi : Int)) = true := by simp; omega
    have hs : cL (lo : Nat) (hi : Nat) x y d (j : Nat) = if gN d j < gN d (j - 1) then some (.inl (swp d j (j - 1), ((j + 1 : Nat) : Int))) else some (.inr d) := by
      unfold cL
      rw [hd, cond_true, wrN (x := (j : Int) - 1) (n := j - 1) (by omega) (by omega), wrN (x := (j : Int) + 1) (n := j + 1) (by omega) (by omega), aK (asN (by omega)), aK (asN (by omega))]
      simp only [pL, Option.bind_some, Int.toNat_natCast, gN]
      by_cases h : d.getD j default < d.getD (j - 1) default
      · simp only [h, decide_true, Bool.not_true, cond_false, if_true]
        rw [aK (asN (by omega)), aK (asN (by omega)), aK (asN (by omega)), aK (asN (by omega))]
        rfl
      · simp only [h, decide_false, Bool.not_false, cond_true, if_false]
    by_cases h : gN d j < gN d (j - 1)
    · rw [if_pos h] at hs
      obtain ⟨d', e, r⟩ := ih (j + 1) (swp d j (j - 1)) (by omega) (by omega) (by rw [fZ]; exact h3) (by rw [fZ]; exact h4)
      exact ⟨d', (fH hs).trans e, (Rel.swp (i := j) (j := j - 1) (by omega) (by omega) (by omega) (by omega)).trans r⟩
    · rw [if_neg h] at hs
      exact ⟨d, cS hs, Rel.refl ..⟩

theorem TC {lo hi i : Nat} (x : Int) {d : List Int} (h1 : lo < i) (h2 : i < hi) (h3 : hi ≤ d.length) (h4 : d.length < 2305843009213693951) :
    ∃ d', cG d (lo : Nat) (hi : Nat) (i : Nat) x = some (.inl (d', (i : Int), IntKind.i64.wrap (x + 1))) ∧ Rel i hi d d' := by
  unfold cG
  rw [wrN (x := (hi : Int) - (i : Int)) (n := hi - i) (by omega) (by omega)]
  by_cases h : (2 : Int) ≤ ((hi - i : Nat) : Int)
  · simp only [h, decide_true, cond_true]
    unfold fN
    rw [wrN (x := (i : Int) + 1) (n := i + 1) (by omega) (by omega)]
    obtain ⟨d', e, r⟩ := YH (lo := lo) (hi := hi) (i := i) (i : Int) x (hi - (i + 1)) (i + 1) d rfl (by omega) h3 h4
    rw [e]
    exact ⟨d', rfl, r⟩
  · simp only [h, decide_false, cond_false]
    exact ⟨d, rfl, Rel.refl ..⟩

theorem VL {lo hi i : Nat} (x : Int) {d : List Int} (h1 : lo < i) (h2 : i ≤ hi) (h3 : hi ≤ d.length) (h4 : d.length < 2305843009213693951) (hs : nM lo i d) (hb : lo = 0 ∨ ∀ k, lo ≤ k → k < hi → gN d (lo - 1) ≤ gN d k) :
    (∃ (fl : Bool) (d' : List Int), cT d (lo : Nat) (hi : Nat) (i : Nat) x = some (.inr (.inr (fl, d'))) ∧ Rel lo hi d d' ∧ (fl = true → nM lo hi d')) ∨
    (∃ (d' : List Int) (i' : Nat), cT d (lo : Nat) (hi : Nat) (i : Nat) x = some (.inl (d', (i' : Int), IntKind.i64.wrap (x + 1))) ∧ Rel lo hi d d' ∧ lo < i' ∧ i' ≤ hi ∧ nM lo i' d') := by
  unfold cT
  obtain ⟨i', e, a1, a2, a3⟩ := VE (lo := lo) (hi := hi) x h3 h4 (hi - i) i rfl (by omega) h2
  rw [e]
  simp only [Option.bind_some]
  have hs' := NR (i' - i) i' rfl hs h1 a3
  unfold dZ
  by_cases hi' : i' = hi
  · have : decide ((i' : Int) = (hi : Int)) = true := by simp; omega
    rw [this, cond_true]
    left
    exact ⟨true, d, rfl, Rel.refl .., fun _ => hi' ▸ hs'⟩
  · have hne : decide ((i' : Int) = (hi : Int)) = false := by simp; omega
    rw [hne, cond_false, wrN (x := (hi : Int) - (lo : Int)) (n := hi - lo) (by omega) (by omega)]
    by_cases h50 : ((hi - lo : Nat) : Int) < 50
    · simp only [h50, decide_true, cond_true]
      left
      exact ⟨false, d, rfl, Rel.refl .., fun h => by cases h⟩
    · simp only [h50, decide_false, cond_false]
      rw [wrN (x := (i' : Int) - 1) (n := i' - 1) (by omega) (by omega), wrN (x := (i' : Int) - (lo : Int)) (n := i' - lo) (by omega) (by omega)]
      simp only [Int.toNat_natCast]
      rw [aK (asN (by omega)), aK (asN (by omega)), aK (asN (by omega)), aK (asN (by omega))]
      have r1 : Rel lo hi d (swp d i' (i' - 1)) := Rel.swp (i := i') (j := i' - 1) (by omega) (by omega) (by omega) (by omega)
      have l1 : (swp d i' (i' - 1)).length = d.length := fZ ..
      have g := qF (d := d) (i := i') (j := i' - 1) (by omega) (by omega)
      right
      by_cases hge : (2 : Int) ≤ ((i' - lo : Nat) : Int)
      · simp only [hge, decide_true, cond_true]
        unfold fM
        have ins : AH lo (i' - 1) (i' - 1) (swp d i' (i' - 1)) := ⟨fun p q p1 p2 p3 p4 p5 => by
          rw [g, g, if_neg p4, if_neg p5, if_neg (by omega), if_neg (by omega)]
          exact hs' p q p1 p2 (by omega), fun q q1 q2 => by omega⟩
        obtain ⟨d2, e2, r2, s2⟩ := UR (lo := lo) (hi := hi) (i := i' - 1) (i' : Int) x (i' - 1) (swp d i' (i' - 1)) (by omega) (Nat.le_refl _) (by rw [l1]; omega) (by rw [l1]; exact h4) ins ((BR r1 hb).imp id fun h k a b => h k a (by omega))
        have e2' : lp (fun s : List Int × Int => cH (lo : Int) (hi : Int) (i' : Int) x s.1 s.2) ((List.set (List.set d i' (List.getD d (i' - 1) default)) (i' - 1) (List.getD d i' default)), ((i' - 1 : Nat) : Int)) = some d2 := e2
        rw [e2']
        simp only [Option.bind_some]
        rw [show i' - 1 + 1 = i' by omega] at r2 s2
        have l2 : d2.length = d.length := by rw [r2.len, l1]
        obtain ⟨d3, e3, r3⟩ := TC (lo := lo) (hi := hi) (i := i') x (d := d2) (by omega) (by omega) (by omega) (by omega)
        rw [e3]
        refine ⟨d3, i', rfl, (r1.trans (r2.mono (Nat.le_refl _) (by omega))).trans (r3.mono (by omega) (Nat.le_refl _)), by omega, a2, fun p q p1 p2 p3 => ?_⟩
        rw [r3.out p (by omega), r3.out q (by omega)]
        exact s2 p q p1 p2 p3
      · simp only [hge, decide_false, cond_false]
        obtain ⟨d3, e3, r3⟩ := TC (lo := lo) (hi := hi) (i := i') x (d := swp d i' (i' - 1)) (by omega) (by omega) (by omega) (by omega)
        have e3' : cG (List.set (List.set d i' (List.getD d (i' - 1) default)) (i' - 1) (List.getD d i' default)) (lo : Int) (hi : Int) (i' : Int) x = _ := e3
        rw [e3']
        refine ⟨d3, i', rfl, r1.trans (r3.mono (by omega) (Nat.le_refl _)), by omega, a2, ?_⟩
        have : i' = lo + 1 := by omega
        rw [this]; exact DH lo d3

theorem YM {lo hi : Nat} : ∀ (n x i : Nat) (d : List Int), 5 - x = n → lo < i → i ≤ hi → hi ≤ d.length → d.length < 2305843009213693951 → nM lo i d → (lo = 0 ∨ ∀ k, lo ≤ k → k < hi → gN d (lo - 1) ≤ gN d k) → x ≤ 5 →
    ∃ (fl : Bool) (d' : List Int), (lp (fun s : List Int × Int × Int => bR (lo : Nat) (hi : Nat) s.1 s.2.1 s.2.2) (d, (i : Int), (x : Int))).bind (Sum.elim (fun rr => eA rr) (fun rr => some (rr.1, rr.2))) = some (fl, d') ∧ Rel lo hi d d' ∧ (fl = true → nM lo hi d') := by
  intro n
  induction n with
  | zero =>
    intro x i d h1 h2 h3 h4 h5 h6 h7 h8
    have hs : bR (lo : Nat) (hi : Nat) d (i : Nat) (x : Nat) = some (.inr (.inl d)) := by
      have : decide ((x : Int) < 5) = false := by simp; omega
      simp only [bR, this, cond_false]
    rw [cS (show (fun s : List Int × Int × Int => bR (lo : Nat) (hi : Nat) s.1 s.2.1 s.2.2) (d, (i : Int), (x : Int)) = _ from hs)]
    exact ⟨false, d, rfl, Rel.refl .., fun h => by cases h⟩
  | succ n ih =>
    intro x i d h1 h2 h3 h4 h5 h6 h7 h8
    have hl2 : bR (lo : Nat) (hi : Nat) d (i : Nat) (x : Nat) = cT d (lo : Nat) (hi : Nat) (i : Nat) (x : Nat) := by
      have : decide ((x : Int) < 5) = true := by simp; omega
      simp only [bR, this, cond_true]
    rcases VL (lo := lo) (hi := hi) (x : Int) h2 h3 h4 h5 h6 h7 with ⟨fl, d', e, r, s⟩ | ⟨d', i', e, r, k1, k2, s⟩
    · rw [cS (show (fun s : List Int × Int × Int => bR (lo : Nat) (hi : Nat) s.1 s.2.1 s.2.2) (d, (i : Int), (x : Int)) = _ from hl2.trans e)]
      exact ⟨fl, d', rfl, r, s⟩
    · rw [wrN (x := (x : Int) + 1) (n := x + 1) (by omega) (by omega)] at e
      obtain ⟨fl, d2, e2, r2, s2⟩ := ih (x + 1) i' d' (by omega) k1 k2 (by rw [r.len]; exact h4) (by rw [r.len]; exact h5) s (BR r h7) (by omega)
      rw [fH (show (fun s : List Int × Int × Int => bR (lo : Nat) (hi : Nat) s.1 s.2.1 s.2.2) (d, (i : Int), (x : Int)) = _ from hl2.trans e)]
      exact ⟨fl, d2, e2, r.trans r2, s2⟩

theorem UA {lo hi : Nat} {d : List Int} (h0 : lo < hi) (h1 : hi ≤ d.length) (h2 : d.length < 2305843009213693951) (hb : lo = 0 ∨ ∀ k, lo ≤ k → k < hi → gN d (lo - 1) ≤ gN d k) :
    ∃ (fl : Bool) (d' : List Int), eC d (lo : Int) (hi : Int) = some (fl, d') ∧ Rel lo hi d d' ∧ (fl = true → nM lo hi d') := by
  unfold eC fL
  rw [wrN (x := (lo : Int) + 1) (n := lo + 1) (by omega) (by omega)]
  exact YM (lo := lo) (hi := hi) (5 - 0) 0 (lo + 1) d rfl (by omega) (by omega) h1 h2 (DH lo d) hb (by omega)

end Go.Abs
namespace Go.Abs
open Go
abbrev PS := List Int × Int × Int × Int × Bool × Bool

abbrev PR := List Int → Int → Int → Int → Option (List Int)

def vD (a b : Nat) (d d' : List Int) : Prop := Rel a b d d' ∧ nM a b d'

structure vB (a b lim : Nat) (d : List Int) : Prop where
  ab : a ≤ b
  bl : b ≤ d.length
  len : d.length < 2305843009213693951
  bnd : a = 0 ∨ ∀ k, a ≤ k → k < b → gN d (a - 1) ≤ gN d k
  lim : lim ≤ 100

def BU (rec : PR) (N : Nat) : Prop := ∀ (d : List Int) (a b lim : Nat), vB a b lim d → (rec d (a : Int) (b : Int) (lim : Int) = none ∧ N ≤ b - a) ∨ ∃ d', rec d (a : Int) (b : Int) (lim : Int) = some d' ∧ vD a b d d'

def zT (N a b : Nat) (d : List Int) (F : Option (PS ⊕ List Int)) : Prop :=
  (F = none ∧ N + 1 ≤ b - a) ∨ (∃ d', F = some (.inr d') ∧ vD a b d d') ∨
  ∃ (d' : List Int) (a' b' lim' : Nat) (wb wp : Bool), F = some (.inl (d', (a' : Int), (b' : Int), (lim' : Int), wb, wp)) ∧ b' - a' < b - a ∧ vB a' b' lim' d' ∧ ∀ d'', vD a' b' d' d'' → vD a b d d''

theorem vD.pre {a b : Nat} {d d1 d' : List Int} (r : Rel a b d d1) (h : vD a b d1 d') : vD a b d d' := ⟨r.trans h.1, h.2⟩

theorem zT.pre {N a b : Nat} {d d1 : List Int} {F : Option (PS ⊕ List Int)} (r : Rel a b d d1) (h : zT N a b d1 F) : zT N a b d F := by
  rcases h with h | ⟨d', h1, h2⟩ | ⟨d', a', b', lim', wb, wp, h1, h2, h3, h4⟩
  · exact .inl h
  · exact .inr (.inl ⟨d', h1, h2.pre r⟩)
  · exact .inr (.inr ⟨d', a', b', lim', wb, wp, h1, h2, h3, fun d'' hg => (h4 d'' hg).pre r⟩)

theorem vB.rel {a b lim : Nat} {d d1 : List Int} (h : vB a b lim d) (r : Rel a b d d1) : vB a b lim d1 :=
  ⟨h.ab, by rw [r.len]; exact h.bl, by rw [r.len]; exact h.len, BR r h.bnd, h.lim⟩

theorem KN {a m b : Nat} {d : List Int} (hm : m < b) (h1 : ∀ k, a ≤ k → k < m → gN d k ≤ gN d m) (h2 : ∀ k, m < k → k < b → gN d m ≤ gN d k) (s1 : nM a m d) (s2 : nM (m + 1) b d) : nM a b d := by
  intro p q p1 p2 p3
  by_cases hq : q < m
  · exact s1 p q p1 p2 hq
  · by_cases hp : m < p
    · exact s2 p q hp p2 p3
    · have g1 : gN d p ≤ gN d m := by
        by_cases e : p = m
        · rw [e]; exact Int.le_refl _
        · exact h1 p p1 (by omega)
      have g2 : gN d m ≤ gN d q := by
        by_cases e : q = m
        · rw [e]; exact Int.le_refl _
        · exact h2 q (by omega) p3
      omega

theorem SI {rec : PR} {N a b lim p : Nat} {d : List Int} (hrec : BU rec N) (hv : vB a b lim d) (h12 : 12 < b - a) (hp : a ≤ p ∧ p < b) (wb wp : Bool) (len : Int) :
    zT N a b d (fY rec d (a : Int) (b : Int) (lim : Int) wb wp len (p : Int)) := by
  have hb := hv.bl; have hl := hv.len
  -- with all equal ones on the left
  have eqc : 0 < a → ¬ gN d (a - 1) < gN d p → zT N a b d ((eJ d (a : Int) (b : Int) (p : Int)).bind fun x20 => some (.inl (x20.2, x20.1, (b : Int), (lim : Int), wb, wp))) := by
    intro ha hn
    obtain ⟨m, d', e, m1, m2, r, q1, q2⟩ := ID (lo := a) (hi := b) (p := p) (d := d) (by omega) hb hl hp
    have hall : ∀ k, a ≤ k → k < b → gN d p ≤ gN d' k := by
      refine r.all (p := fun v => gN d p ≤ v) fun k k1 k2 => ?_
      rcases hv.bnd with h | h
      · omega
      · have := h k k1 k2; omega
    rw [e]
    refine .inr (.inr ⟨d', m, b, lim, wb, wp, rfl, by omega, ⟨m2, by rw [r.len]; exact hb, by rw [r.len]; exact hl, .inr fun k k1 k2 => ?_, hv.lim⟩, fun d'' hg => ⟨r.trans (hg.1.mono (by omega) (Nat.le_refl _)), fun x y x1 x2 x3 => ?_⟩⟩)
    · have := q1 (m - 1) (by omega) (by omega); have := q2 k k1 k2; omega
    · by_cases hx : m ≤ x
      · exact hg.2 x y hx x2 x3
      · rw [hg.1.out x (by omega)]
        have g1 := q1 x x1 (by omega)
        by_cases hy : y < m
        · rw [hg.1.out y (by omega)]
          have g2 := hall y (by omega) (by omega); omega
        · have g2 := hg.1.all (p := fun v => gN d p < v) q2 y (by omega) x3
          omega
  -- a partition, and the lesser part first
  have ptc : zT N a b d ((fQ d (a : Int) (b : Int) (p : Int)).bind fun x23 =>
      aZ ((8 : Int) ≠ 0) <|
      cond (decide ((IntKind.i64.wrap (x23.1.1 - (a : Int))) < (IntKind.i64.wrap ((b : Int) - x23.1.1))))
      ((rec x23.2 (a : Int) x23.1.1 (lim : Int)).bind fun x28 =>
      some (.inl (x28, IntKind.i64.wrap (x23.1.1 + (1 : Int)), (b : Int), (lim : Int), decide ((IntKind.i64.wrap (Int.tdiv len (8 : Int))) ≤ (IntKind.i64.wrap (x23.1.1 - (a : Int)))), x23.1.2)))
      ((rec x23.2 (IntKind.i64.wrap (x23.1.1 + (1 : Int))) (b : Int) (lim : Int)).bind fun x31 =>
      some (.inl (x31, (a : Int), x23.1.1, (lim : Int), decide ((IntKind.i64.wrap (Int.tdiv len (8 : Int))) ≤ (IntKind.i64.wrap ((b : Int) - x23.1.1))), x23.1.2)))) := by
    obtain ⟨m, fl, d1, e, m1, m2, r, q1, q2⟩ := JT (lo := a) (hi := b) (p := p) (d := d) (by omega) hb hl hp
    have hv1 := hv.rel r
    rw [e]
    simp only [Option.bind_some]
    rw [aK (by decide), wrN (x := (m : Int) + 1) (n := m + 1) (by omega) (by omega)]
    have vL : vB a m lim d1 := ⟨m1, by have := hv1.bl; omega, hv1.len, hv1.bnd.imp id fun h k k1 k2 => h k k1 (by omega), hv.lim⟩
    have vR : vB (m + 1) b lim d1 := ⟨by omega, hv1.bl, hv1.len, .inr fun k k1 k2 => by simpa using q2 k (by omega) k2, hv.lim⟩
    cases decide ((IntKind.i64.wrap ((m : Int) - (a : Int))) < (IntKind.i64.wrap ((b : Int) - (m : Int)))) with
    | true =>
      rw [cond_true]
      rcases hrec d1 a m lim vL with ⟨hn, hN⟩ | ⟨d2, e2, g2⟩
      · rw [hn]; exact .inl ⟨rfl, by omega⟩
      · rw [e2]
        simp only [Option.bind_some]
        have top : gN d2 m = gN d1 m := g2.1.out m (by omega)
        refine .inr (.inr ⟨d2, m + 1, b, lim, _, _, rfl, by omega, ⟨by omega, by rw [g2.1.len]; exact hv1.bl, by rw [g2.1.len]; exact hv1.len, .inr fun k k1 k2 => ?_, hv.lim⟩, fun d3 hg => ⟨(r.trans (g2.1.mono (Nat.le_refl _) (by omega))).trans (hg.1.mono (by omega) (Nat.le_refl _)), ?_⟩⟩)
        · rw [show m + 1 - 1 = m by omega, top, g2.1.out k (by omega)]; exact q2 k (by omega) k2
        · have o3 : ∀ k, k ≤ m → gN d3 k = gN d2 k := fun k hk => hg.1.out k (by omega)
          refine KN m2 (fun k k1 k2 => ?_) (fun k k1 k2 => ?_) (fun x y x1 x2 x3 => by rw [o3 x (by omega), o3 y (by omega)]; exact g2.2 x y x1 x2 x3) hg.2
          · rw [o3 k (by omega), o3 m (by omega), top]
            exact g2.1.all (p := fun v => v ≤ gN d1 m) q1 k k1 k2
          · rw [o3 m (by omega), top]
            exact hg.1.all (p := fun v => gN d1 m ≤ v) (fun k k1 k2 => by rw [g2.1.out k (by omega)]; exact q2 k (by omega) k2) k (by omega) k2
    | false =>
      rw [cond_false]
      rcases hrec d1 (m + 1) b lim vR with ⟨hn, hN⟩ | ⟨d2, e2, g2⟩
      · rw [hn]; exact .inl ⟨rfl, by omega⟩
      · rw [e2]
        simp only [Option.bind_some]
        have low : ∀ k, k ≤ m → gN d2 k = gN d1 k := fun k hk => g2.1.out k (by omega)
        refine .inr (.inr ⟨d2, a, m, lim, _, _, rfl, by omega, ⟨m1, by rw [g2.1.len]; have := hv1.bl; omega, by rw [g2.1.len]; exact hv1.len, ?_, hv.lim⟩, fun d3 hg => ⟨(r.trans (g2.1.mono (by omega) (Nat.le_refl _))).trans (hg.1.mono (Nat.le_refl _) (by omega)), ?_⟩⟩)
        · rcases hv1.bnd with h | h
          · exact .inl h
          · exact .inr fun k k1 k2 => by rw [low (a - 1) (by omega), low k (by omega)]; exact h k k1 (by omega)
        · have o3 : ∀ k, m ≤ k → gN d3 k = gN d2 k := fun k hk => hg.1.out k (by omega)
          refine KN m2 (fun k k1 k2 => ?_) (fun k k1 k2 => ?_) hg.2 (fun x y x1 x2 x3 => by rw [o3 x (by omega), o3 y (by omega)]; exact g2.2 x y x1 x2 x3)
          · rw [o3 m (Nat.le_refl _), low m (Nat.le_refl _)]
            exact hg.1.all (p := fun v => v ≤ gN d1 m) (fun k k1 k2 => by rw [low k (by omega)]; exact q1 k k1 k2) k k1 k2
          · rw [o3 m (Nat.le_refl _), low m (Nat.le_refl _), o3 k (by omega)]
            exact g2.1.all (p := fun v => gN d1 m ≤ v) (fun k k1 k2 => q2 k (by omega) k2) k (by omega) k2
  unfold fY
  by_cases ha : 0 < a
  · have hd : decide ((0 : Int) < (a : Int)) = true := by simp; omega
    rw [hd, wrN (x := (a : Int) - 1) (n := a - 1) (by omega) (by omega), aK fun _ => asN (by omega), aK fun _ => asN (by omega)]
    simp only [dD, cond_true, pL, Option.bind_some, Bool.true_and, Int.toNat_natCast]
    by_cases hlt : gN d (a - 1) < gN d p
    · simp only [gN] at hlt
      simp only [hlt, decide_true, Bool.not_true, cond_false]
      exact ptc
    · have := eqc ha hlt
      simp only [gN] at hlt
      simp only [hlt, decide_false, Bool.not_false, cond_true]
      exact this
  · have hd : decide ((0 : Int) < (a : Int)) = false := by simp; omega
    rw [hd, aK (fun h => by cases h), aK (fun h => by cases h)]
    simp only [dD, cond_false, Option.bind_some, Bool.false_and]
    exact ptc

theorem QU {rec : PR} {N a b lim p : Nat} {d : List Int} (hrec : BU rec N) (hv : vB a b lim d) (h12 : 12 < b - a) (hp : a ≤ p ∧ p < b) (wb wp : Bool) (len hint : Int) :
    zT N a b d (gF rec d (a : Int) (b : Int) (lim : Int) wb wp len (p : Int) hint) := by
  unfold gF
  cases ((wb && wp) && (decide (hint = (1 : Int)))) with
  | false => exact SI hrec hv h12 hp wb wp len
  | true =>
    rw [cond_true]
    obtain ⟨fl, d', e, r, s⟩ := UA (lo := a) (hi := b) (d := d) (by omega) hv.bl hv.len hv.bnd
    rw [e]
    simp only [Option.bind_some]
    cases fl with
    | true => exact .inr (.inl ⟨d', rfl, r, s rfl⟩)
    | false => exact (SI hrec (hv.rel r) h12 hp wb wp len).pre r

theorem TM {rec : PR} {N a b lim : Nat} {d : List Int} (hrec : BU rec N) (hv : vB a b lim d) (h12 : 12 < b - a) (wb wp : Bool) (len : Int) :
    zT N a b d (gE rec d (a : Int) (b : Int) (lim : Int) wb wp len) := by
  have hb := hv.bl; have hl := hv.len
  unfold gE
  obtain ⟨p, h, e, p1, p2⟩ := PY (lo := a) (hi := b) (d := d) h12 hb hl
  rw [e]
  simp only [Option.bind_some]
  by_cases h2 : h = 2
  · simp only [h2, decide_true, cond_true]
    obtain ⟨d', e2, r⟩ := TF (lo := a) (hi := b) (d := d) (by omega) hb (by omega)
    rw [e2]
    simp only [Option.bind_some]
    rw [wrN (x := (b : Int) - 1) (n := b - 1) (by omega) (by omega), wrN (x := (p : Int) - (a : Int)) (n := p - a) (by omega) (by omega), wrN (x := ((b - 1 : Nat) : Int) - ((p - a : Nat) : Int)) (n := b - 1 - (p - a)) (by omega) (by omega)]
    exact (QU hrec (hv.rel r) h12 ⟨by omega, by omega⟩ wb wp len 1).pre r
  · simp only [h2, decide_false, cond_false]
    exact QU hrec hv h12 ⟨p1, p2⟩ wb wp len h

theorem XV {rec : PR} {N a b lim : Nat} {d : List Int} (hrec : BU rec N) (hv : vB a b lim d) (wb wp : Bool) :
    zT N a b d (dV rec d (a : Int) (b : Int) (lim : Int) wb wp) := by
  have hb := hv.bl; have hl := hv.len; have hab := hv.ab
  unfold dV
  rw [wrN (x := (b : Int) - (a : Int)) (n := b - a) (by omega) (by omega)]
  by_cases h12 : ((b - a : Nat) : Int) ≤ 12
  · simp only [h12, decide_true, cond_true]
    obtain ⟨d', e, r, s⟩ := TQ (lo := a) (hi := b) (d := d) hb (by omega) hab
    rw [e]
    exact .inr (.inl ⟨d', rfl, r, s⟩)
  · simp only [h12, decide_false, cond_false]
    by_cases h0 : lim = 0
    · have : decide ((lim : Int) = 0) = true := by simp; exact h0
      rw [this, cond_true]
      obtain ⟨d', e, r, s⟩ := RQ (lo := a) (hi := b) (d := d) (by omega) hb hl
      rw [e]
      exact .inr (.inl ⟨d', rfl, r, s⟩)
    · have : decide ((lim : Int) = 0) = false := by simp; exact h0
      rw [this, cond_false]
      cases wb with
      | true => exact TM hrec hv (by omega) true wp _
      | false =>
        simp only [Bool.not_false, cond_true]
        obtain ⟨d', e, r⟩ := SA (lo := a) (hi := b) (d := d) (by omega) hb hl
        rw [e]
        simp only [Option.bind_some]
        have hlim := hv.lim
        rw [wrN (x := (lim : Int) - 1) (n := lim - 1) (by omega) (by omega)]
        have hv' := hv.rel r
        exact (TM hrec ⟨hv'.ab, hv'.bl, hv'.len, hv'.bnd, by omega⟩ (by omega) false wp _).pre r

theorem XD {S R : Type} {body : S → Option (S ⊕ R)} {s : S} (h : body s = none) : lp body s = none := by
  cases e : lp body s with
  | none => rfl
  | some r =>
    obtain ⟨k, hk⟩ := BW.1 e
    cases k with
    | zero => simp [iter] at hk
    | succ k => simp [iter, h] at hk

theorem XR {rec : PR} {N : Nat} (hrec : BU rec N) : ∀ (n a b lim : Nat) (d : List Int) (wb wp : Bool), b - a = n → vB a b lim d →
    (lp (fun s : PS => dV rec s.1 s.2.1 s.2.2.1 s.2.2.2.1 s.2.2.2.2.1 s.2.2.2.2.2) (d, (a : Int), (b : Int), (lim : Int), wb, wp) = none ∧ N + 1 ≤ b - a) ∨
    ∃ d', lp (fun s : PS => dV rec s.1 s.2.1 s.2.2.1 s.2.2.2.1 s.2.2.2.2.1 s.2.2.2.2.2) (d, (a : Int), (b : Int), (lim : Int), wb, wp) = some d' ∧ vD a b d d' := by
  intro n
  induction n using Nat.strongRecOn with
  | ind n ih =>
    intro a b lim d wb wp hn hv
    rcases XV hrec hv wb wp with ⟨h1, h2⟩ | ⟨d', h1, h2⟩ | ⟨d', a', b', lim', wb', wp', h1, h2, h3, h4⟩
    · exact .inl ⟨XD h1, h2⟩
    · exact .inr ⟨d', cS h1, h2⟩
    · rw [fH (show (fun s : PS => dV rec s.1 s.2.1 s.2.2.1 s.2.2.2.1 s.2.2.2.2.1 s.2.2.2.2.2) (d, (a : Int), (b : Int), (lim : Int), wb, wp) = _ from h1)]
      rcases ih (b' - a') (by omega) a' b' lim' d' wb' wp' rfl h3 with ⟨g1, g2⟩ | ⟨d2, g1, g2⟩
      · exact .inl ⟨g1, by omega⟩
      · exact .inr ⟨d2, g1, h4 d2 g2⟩

theorem KX : ∀ k : Nat, BU (cX k) k
  | 0 => fun _ _ _ _ _ => .inl ⟨rfl, Nat.zero_le _⟩
  | k + 1 => fun d a b lim hv => by
    show (fE (cX k) d a b lim = none ∧ _) ∨ ∃ d', fE (cX k) d a b lim = some d' ∧ _
    unfold fE kF
    rcases XR (KX k) (b - a) a b lim d true true rfl hv with ⟨h1, h2⟩ | ⟨d', h1, h2⟩
    · rw [h1]; exact .inl ⟨rfl, h2⟩
    · rw [h1]; exact .inr ⟨d', rfl, h2⟩

theorem XW {a b lim : Nat} {d : List Int} (hv : vB a b lim d) : ∃ d', iU d (a : Int) (b : Int) (lim : Int) = some d' ∧ vD a b d d' := by
  unfold iU
  obtain ⟨d', e, g⟩ : ∃ d', cX (b - a + 1) d (a : Int) (b : Int) (lim : Int) = some d' ∧ vD a b d d' := by
    rcases KX (b - a + 1) d a b lim hv with ⟨_, h⟩ | h
    · omega
    · exact h
  cases hf : JW (fun k => cX k d (a : Int) (b : Int) (lim : Int)) with
  | none =>
    exfalso
    unfold JW at hf
    have hex : ∃ k r, cX k d (a : Int) (b : Int) (lim : Int) = some r := ⟨_, d', e⟩
    rw [dif_pos hex] at hf
    obtain ⟨r, hr⟩ := Classical.choose_spec hex
    have hf' : cX (Classical.choose hex) d (a : Int) (b : Int) (lim : Int) = none := hf
    rw [hr] at hf'
    cases hf'
  | some r =>
    obtain ⟨k, hk⟩ := HV hf
    rcases KX k d a b lim hv with ⟨h, _⟩ | ⟨d2, h, g2⟩
    · rw [h] at hk; cases hk
    · rw [h] at hk; cases hk; exact ⟨_, rfl, g2⟩

theorem WY {d : List Int} (hl : d.length < 2305843009213693951) : ∃ d', jS d = some d' ∧ d'.Perm d ∧ d'.Pairwise (· ≤ ·) := by
  unfold jS
  have hL : ∃ L : Nat, jL (IntKind.u64.wrap ((List.length d : Nat) : Int)) = some (L : Int) ∧ L ≤ 100 := by
    rw [BM (by omega) (by omega)]
    by_cases h0 : d.length = 0
    · rw [h0]; exact ⟨0, UB, by omega⟩
    · obtain ⟨k, e, h1, _⟩ := RO (x := ((List.length d : Nat) : Int)) (by omega) (by omega)
      exact ⟨k + 1, by rw [e]; rfl, by omega⟩
  obtain ⟨L, eL, hL⟩ := hL
  rw [eL]
  simp only [Option.bind_some]
  obtain ⟨d', e, g⟩ := XW (a := 0) (b := d.length) (lim := L) (d := d) ⟨Nat.zero_le _, Nat.le_refl _, hl, .inl rfl, hL⟩
  have e' : iU d 0 ((List.length d : Nat) : Int) (L : Int) = some d' := e
  rw [e']
  refine ⟨d', rfl, g.1.perm, List.pairwise_iff_getElem.2 fun i j hi hj hij => ?_⟩
  have := g.2 i j (Nat.zero_le _) (by omega) (by rw [g.1.len] at hj; exact hj)
  simp only [gN, List.getD_eq_getElem?_getD, List.getElem?_eq_getElem hi, List.getElem?_eq_getElem hj] at this
  exact this

theorem WE {d s : List Int} (hl : d.length < 2305843009213693951) (hp : s.Perm d) (hs : s.Pairwise (· ≤ ·)) : jS d = some s := by
  obtain ⟨d', e, p, q⟩ := WY hl
  rw [e]
  congr 1
  exact (p.trans hp.symm).eq_of_pairwise (le := (· ≤ ·)) (fun a b _ _ h1 h2 => Int.le_antisymm h1 h2) q hs

end Go.Abs
namespace Go.Abs
open Go
def iK (frm : Int) (l : List aL) (c : List Int) : List Int := l.foldl (fun c e => if frm < e.At then nH e.At c else c) c

def sY (frm : Int) (l : List aL) (m : List (Int × Int)) : List (Int × Int) := l.foldl (fun m e => if frm < e.At then oW m e.At 1 else m) m

def lT (l : List aL) (frm : Int) : List Int × Int :=
  if !qY l then ([], 2) else if !BN l then ([], 20) else if frm < 0 ∨ 1125899906842624 < frm then ([], 13) else if frm = 1125899906842624 then ([], 0) else (iK frm l [frm], 0)

theorem zZ {k v : Int} : ∀ {m : List (Int × Int)}, k ∈ m.map (·.1) → (oW m k v).map (·.1) = m.map (·.1)
  | [], h => by simp at h
  | p :: m, h => by
    by_cases hp : p.1 = k
    · simp [oW, hp]
    · simp only [List.map_cons, List.mem_cons] at h
      rcases h with h | h
      · exact absurd h.symm hp
      · simp only [oW, hp, if_false, List.map_cons, zZ h]

theorem IL {k v : Int} {m : List (Int × Int)} (h : k ∉ m.map (·.1)) : (oW m k v).map (·.1) = m.map (·.1) ++ [k] := by
  rw [DM fun p hp e => h (List.mem_map.2 ⟨p, hp, e⟩)]; simp

theorem EB {t : Int} : ∀ {ps : List Int}, t ∉ ps → (nH t ps).Perm (t :: ps)
  | [], _ => List.Perm.refl _
  | p :: r, h => by
    simp only [List.mem_cons, not_or] at h
    unfold nH
    rw [if_neg (fun e => h.1 e.symm)]
    split
    · exact List.Perm.refl _
    · exact (List.Perm.cons p (EB h.2)).trans (List.Perm.swap ..)

theorem xU {frm : Int} : ∀ {l : List aL} {c : List Int} {m : List (Int × Int)}, (∀ e ∈ l, e.At < 1125899906842624) → Inc (frm - 1) c → (m.map (·.1)).Perm c →
    ((sY frm l m).map (·.1)).Perm (iK frm l c) ∧ Inc (frm - 1) (iK frm l c)
  | [], _, _, _, hi, hp => ⟨hp, hi⟩
  | e :: l, c, m, he, hi, hp => by
    have hl : ∀ e ∈ l, e.At < 1125899906842624 := fun q hq => he q (List.mem_cons_of_mem _ hq)
    by_cases h : frm < e.At
    · have e1 : sY frm (e :: l) m = sY frm l (oW m e.At 1) := by simp [sY, h]
      have e2 : iK frm (e :: l) c = iK frm l (nH e.At c) := by simp [iK, h]
      rw [e1, e2]
      refine xU hl (HQ hi (by omega) (he e (by simp))) ?_
      by_cases hm : e.At ∈ m.map (·.1)
      · rw [zZ hm, FE hi (hp.mem_iff.1 hm)]; exact hp
      · rw [IL hm]
        exact ((List.perm_append_comm).trans (List.Perm.cons _ hp)).trans (EB fun hc => hm (hp.mem_iff.2 hc)).symm
    · have e1 : sY frm (e :: l) m = sY frm l m := by simp [sY, h]
      have e2 : iK frm (e :: l) c = iK frm l c := by simp [iK, h]
      rw [e1, e2]
      exact xU hl hi hp

theorem xO {frm : Int} : ∀ {l : List aL} {c : List Int}, (iK frm l c).length ≤ c.length + l.length
  | [], c => by simp [iK]
  | e :: l, c => by
    by_cases h : frm < e.At
    · have e2 : iK frm (e :: l) c = iK frm l (nH e.At c) := by simp [iK, h]
      rw [e2]
      have h1 := xO (frm := frm) (l := l) (c := nH e.At c)
      have h2 := HZ (t := e.At) (ps := c)
      simp only [List.length_cons]; omega
    · have e2 : iK frm (e :: l) c = iK frm l c := by simp [iK, h]
      rw [e2]
      have h1 := xO (frm := frm) (l := l) (c := c)
      simp only [List.length_cons]; omega

theorem xM {frm x : Int} : ∀ {l : List aL} {c : List Int}, x ∈ iK frm l c ↔ x ∈ c ∨ ∃ e ∈ l, e.At = x ∧ frm < x
  | [], c => by simp [iK]
  | e :: l, c => by
    by_cases h : frm < e.At
    · have e2 : iK frm (e :: l) c = iK frm l (nH e.At c) := by simp [iK, h]
      rw [e2, xM, HB]
      constructor
      · rintro ((h1 | h1) | ⟨q, h1, h2⟩)
        · exact .inr ⟨e, by simp, h1.symm, by omega⟩
        · exact .inl h1
        · exact .inr ⟨q, by simp [h1], h2⟩
      · rintro (h1 | ⟨q, h1, h2, h3⟩)
        · exact .inl (.inr h1)
        · rcases List.mem_cons.1 h1 with rfl | h1
          · exact .inl (.inl h2.symm)
          · exact .inr ⟨q, h1, h2, h3⟩
    · have e2 : iK frm (e :: l) c = iK frm l c := by simp [iK, h]
      rw [e2, xM]
      constructor
      · rintro (h1 | ⟨q, h1, h2⟩)
        · exact .inl h1
        · exact .inr ⟨q, by simp [h1], h2⟩
      · rintro (h1 | ⟨q, h1, h2, h3⟩)
        · exact .inl h1
        · rcases List.mem_cons.1 h1 with rfl | h1
          · exact absurd (h2 ▸ h3) h
          · exact .inr ⟨q, h1, h2, h3⟩

theorem DI : ∀ {ps : List Int} {last : Int}, Inc last ps → ps.Pairwise (· < ·)
  | [], _, _ => List.Pairwise.nil
  | p :: r, last, h => List.Pairwise.cons (fun x hx => (h.2.above x hx).1) (DI h.2)

theorem XO {ps : List Int} {last : Int} (h : Inc last ps) : ps.Pairwise (· ≤ ·) := (DI h).imp fun h => by omega

theorem LW {frm : Int} {l : List aL} (hl : l.length ≤ 1000000) (m : List (Int × Int)) : lp (fun s : List (Int × Int) × Int => lY frm l ((l.length : Nat) : Int) s.1 s.2) (m, 0) = some (sY frm l m) := by
  refine rX (l := l) (body := fun s : List (Int × Int) × Int => lY frm l ((l.length : Nat) : Int) s.1 s.2) (fun (s : List (Int × Int)) i => (s, i)) (fun s r => sY frm r s) (fun _ _ => True) m ?_ ?_ trivial
  · intro i a r s ha _
    left
    obtain ⟨d1, d2, d3, d4⟩ := idx ha (by omega)
    by_cases h : frm < a.At
    · refine ⟨oW s a.At 1, ?_, trivial, by simp [sY, h]⟩
      simp only [lY, oU, d1, cond_true, aK d2, d3, d4, h, decide_true]
    · refine ⟨s, ?_, trivial, by simp [sY, h]⟩
      simp only [lY, oU, d1, cond_true, aK d2, d3, d4, h, decide_false, cond_false]
  · intro s _
    simp only [lY, jT, cond_false]; rfl

theorem HY {m : List (Int × Int)} : ∀ {q : List (Int × Int)} {out : List Int}, out.length + q.length ≤ 1000000 → oF (fun (s : List Int) (x : Int × Int) => oJ m s x.1 x.2) out q = some (out ++ q.map (·.1))
  | [], out, _ => by simp [oF]
  | x :: q, out, h => by
    simp only [List.length_cons] at h
    have e1 : oJ m out x.1 x.2 = some (out ++ [x.1]) := by
      unfold oJ
      rw [aK (by simp only [List.length_cons, List.length_nil]; omega)]
    simp only [oF, e1, Option.bind_some]
    rw [HY (by simp only [List.length_append, List.length_cons, List.length_nil]; omega)]
    simp

theorem CJ {l : List aL} (hl : okL l) (frm : Int) : qI l frm = some (lT l frm) := by
  unfold qI lT
  rw [NQ hl, Option.bind_some]
  cases hm : qY l with
  | false => simp
  | true =>
    simp only [Bool.not_true, cond_false, Bool.false_eq_true, if_false, QX hl, Option.bind_some]
    cases ht : BN l with
    | false => simp
    | true =>
      simp only [Bool.not_true, cond_false, Bool.false_eq_true, if_false]
      by_cases h1 : frm < 0 ∨ 1125899906842624 < frm
      · have : (decide (frm < 0) || decide (1125899906842624 < frm)) = true := by simpa using h1
        rw [this, cond_true, if_pos h1]
      · have : (decide (frm < 0) || decide (1125899906842624 < frm)) = false := by simpa using h1
        rw [this, cond_false, if_neg h1]
        by_cases h2 : frm = 1125899906842624
        · simp [h2]
        · rw [decide_eq_false h2, cond_false, if_neg h2]
          have hn := (tP hm).1
          have hat : ∀ e ∈ l, e.At < 1125899906842624 := fun e he => (vZ hm he).2.2.1
          obtain ⟨p1, p2⟩ := xU (frm := frm) (l := l) (c := [frm]) (m := [(frm, 1)]) hat ⟨⟨by omega, by omega⟩, trivial⟩ (List.Perm.refl _)
          have hcl := xO (frm := frm) (l := l) (c := [frm])
          have hsl : (sY frm l [(frm, 1)]).length = (iK frm l [frm]).length := by have := p1.length_eq; simpa using this
          simp only [List.length_cons, List.length_nil] at hcl
          have e0 : oW ([] : List (Int × Int)) frm 1 = [(frm, 1)] := rfl
          rw [e0]
          unfold uK
          rw [LW (by omega), Option.bind_some]
          unfold rM
          rw [aK (by omega)]
          unfold uD
          refine RE fun q hq => ?_
          rw [HY (by have := hq.length_eq; simp only [List.length_nil]; omega), Option.bind_some, List.nil_append]
          unfold uJ tU
          have hp : (iK frm l [frm]).Perm (q.map (·.1)) := ((hq.map (·.1)).trans p1).symm
          rw [WE (s := iK frm l [frm]) (by have := hp.length_eq; omega) hp (XO p2)]
          rfl

theorem DP {l : List aL} {frm : Int} (h : (lT l frm).2 = 0) : qY l = true ∧ BN l = true ∧ 0 ≤ frm ∧ ((frm = 1125899906842624 ∧ (lT l frm).1 = []) ∨ (frm < 1125899906842624 ∧ (lT l frm).1 = iK frm l [frm])) := by
  unfold lT at h ⊢
  cases hm : qY l with
  | false => simp [hm] at h
  | true =>
    cases ht : BN l with
    | false => simp [hm, ht] at h
    | true =>
      by_cases h1 : frm < 0 ∨ 1125899906842624 < frm
      · simp [hm, ht, h1] at h
      · by_cases h2 : frm = 1125899906842624
        · subst h2; simp
        · simp only [hm, ht, h1, h2, Bool.not_true, Bool.false_eq_true, if_false, true_and, false_and, false_or, and_true]
          omega

theorem QS {l : List aL} {frm : Int} (h : (lT l frm).2 ≠ 0) : (lT l frm).1 = [] := by
  unfold lT at h ⊢
  split
  · rfl
  · split
    · rfl
    · split
      · rfl
      · split
        · rfl
        · rename_i h1 h2 h3 h4; simp [h1, h2, h3, h4] at h

theorem IA {l : List aL} {frm : Int} : Inc (frm - 1) (lT l frm).1 ∧ (lT l frm).1.length ≤ 4097 := by
  by_cases h : (lT l frm).2 = 0
  · obtain ⟨hm, _, _, ⟨_, h2⟩ | ⟨h1, h2⟩⟩ := DP h
    · rw [h2]; exact ⟨trivial, by simp⟩
    · rw [h2]
      refine ⟨(xU (frm := frm) (l := l) (c := [frm]) (m := [(frm, 1)]) (fun e he => (vZ hm he).2.2.1) ⟨⟨by omega, h1⟩, trivial⟩ (List.Perm.refl _)).2, ?_⟩
      have h4 := (tP hm).1
      have h3 := xO (frm := frm) (l := l) (c := [frm])
      simp only [List.length_cons, List.length_nil] at h3
      omega
  · rw [QS h]; exact ⟨trivial, by simp⟩

end Go.Abs
namespace Go.Abs
open Go
def iT (t : Int) (gs : List (List aB × List aI)) : List aY := gs.filterMap fun g => if 0 < val g.2 t then some ⟨g.1, val g.2 t⟩ else none

def kB (al : Int → List aY) : List Int → List cD
  | [] => []
  | t :: cs => (if al t = [] then [] else [⟨⟨t, cs.headD 1125899906842624⟩, al t⟩]) ++ kB al cs

def PB (x : List cD) : List cD × Int := if 1024 < x.length then ([], 7) else (x, 0)

def qV (l : List aL) (frm : Int) : List cD × Int := if (lT l frm).2 ≠ 0 then ([], (lT l frm).2) else PB (kB (fun t => iT t (groups l)) (lT l frm).1)

theorem CP (t : Int) (g : List aB × List aI) (gs : List (List aB × List aI)) : iT t (g :: gs) = (if 0 < val g.2 t then [⟨g.1, val g.2 t⟩] else []) ++ iT t gs := by
  unfold iT
  rw [List.filterMap_cons]
  by_cases h : 0 < val g.2 t <;> simp [h]

theorem OB (t : Int) (gs : List (List aB × List aI)) : (iT t gs).length ≤ gs.length := List.length_filterMap_le ..

theorem MT {r : List aB} (h : r.length ≤ 4398046510976) : gJ r = some r := by
  unfold gJ
  rw [aK (by omega)]

theorem LL {gs : List (List aB × List aI)} (hg : ∀ g ∈ gs, lE g.2 = true ∧ g.1.length ≤ 4398046510976) (hn : gs.length ≤ 1000000) (t : Int) : oM t (gs.map fun g => ⟨g.1, g.2⟩) = some (iT t gs) := by
  unfold oM qQ
  rw [List.length_map]
  have key := rX (l := gs) (body := fun s : List aY × Int => lA t (gs.map fun g => ⟨g.1, g.2⟩) ((gs.length : Nat) : Int) s.1 s.2) (fun (s : List aY) i => (s, i)) (fun s r => s ++ iT t r)
    (fun s r => s.length + r.length ≤ 1000000 ∧ ∀ g ∈ r, lE g.2 = true ∧ g.1.length ≤ 4398046510976) [] ?_ ?_ ⟨by simpa using hn, hg⟩
  · rw [key]; rfl
  · rintro i a r s ha ⟨hs, hr⟩
    left
    simp only [List.length_cons] at hs
    have ha' : (gs.map fun g => (⟨g.1, g.2⟩ : bT))[i]? = some ⟨a.1, a.2⟩ := by rw [List.getElem?_map, ha]; rfl
    obtain ⟨d1, d2, d3, d4⟩ := idx ha' (by rw [List.length_map]; omega)
    rw [List.length_map] at d1
    obtain ⟨m1, m2⟩ := hr a (by simp)
    have hr' : ∀ g ∈ r, lE g.2 = true ∧ g.1.length ≤ 4398046510976 := fun g hg => hr g (by simp [hg])
    rw [CP]
    by_cases h : 0 < val a.2 t
    · refine ⟨s ++ [⟨a.1, val a.2 t⟩], ?_, ⟨by simp only [List.length_append, List.length_cons, List.length_nil]; omega, hr'⟩, by simp [h]⟩
      simp only [lA, mF, d1, cond_true, aK d2, d3, d4, VR, m1, if_true, Option.bind_some, h, decide_true, MT m2]
      rw [aK (by simp only [List.length_cons, List.length_nil]; omega)]
    · refine ⟨s, ?_, ⟨by omega, hr'⟩, by simp [h]⟩
      simp only [lA, mF, d1, cond_true, aK d2, d3, d4, VR, m1, if_true, Option.bind_some, h, decide_false, cond_false]
  · rintro s _
    simp only [lA, jT, cond_false]
    simp [iT]

theorem VJ {cs r : List Int} {t : Int} {i : Nat} (hd : cs.drop i = t :: r) (d : Int) : (cs[i + 1]?).getD d = r.headD d := by
  have := (drop_cons hd).2
  rw [← List.head?_drop, this]
  cases r <;> rfl

theorem KY {cuts : List Int} {gs : List (List aB × List aI)} (hc : cuts.length ≤ 1000000) (hg : ∀ g ∈ gs, lE g.2 = true ∧ g.1.length ≤ 4398046510976) (hn : gs.length ≤ 1000000) :
    lp (fun s : List cD × Int => lI cuts (gs.map fun g => ⟨g.1, g.2⟩) cuts ((cuts.length : Nat) : Int) s.1 s.2) ([], 0) = some (if 1024 < (kB (fun t => iT t gs) cuts).length then .inr ([], 7) else .inl (kB (fun t => iT t gs) cuts)) := by
  let al := fun t => iT t gs
  have key : ∀ (r : List Int) (k : Nat) (s : List cD), cuts.drop k = r → k ≤ cuts.length → s.length ≤ 1024 →
      lp (fun s : List cD × Int => lI cuts (gs.map fun g => ⟨g.1, g.2⟩) cuts ((cuts.length : Nat) : Int) s.1 s.2) (s, (k : Int)) = some (if 1024 < (s ++ kB al r).length then .inr ([], 7) else .inl (s ++ kB al r)) := by
    intro r
    induction r with
    | nil =>
      intro k s hd hk hs
      have : k = cuts.length := by
        have := congrArg List.length hd
        simp only [List.length_drop, List.length_nil] at this; omega
      subst this
      refine cS ?_
      simp only [lI, jT, cond_false, kB, List.append_nil]
      rw [if_neg (by omega)]
    | cons t r ih =>
      intro k s hd hk hs
      obtain ⟨h1, h2⟩ := drop_cons hd
      obtain ⟨d1, d2, d3, d4⟩ := idx h1 (by omega)
      have hlt : k < cuts.length := (List.getElem?_eq_some_iff.1 h1).1
      have hb : lI cuts (gs.map fun g => ⟨g.1, g.2⟩) cuts ((cuts.length : Nat) : Int) s (k : Int) =
          some (if al t = [] then .inl (s, ((k + 1 : Nat) : Int)) else if s.length = 1024 then .inr (.inr ([], 7)) else .inl (s ++ [⟨⟨t, r.headD 1125899906842624⟩, al t⟩], ((k + 1 : Nat) : Int))) := by
        simp only [lI, pN, qA, d1, cond_true, aK d2, d3, d4, LL hg hn, Option.bind_some]
        by_cases ha : iT t gs = []
        · simp [al, ha]
        · have ha1 : decide (((iT t gs).length : Int) = 0) = false := by
            rw [decide_eq_false_iff_not]; intro e
            exact ha (List.length_eq_zero_iff.1 (by omega))
          rw [ha1, cond_false, if_neg (show ¬ al t = [] from ha)]
          by_cases hs1 : s.length = 1024
          · rw [if_pos hs1, decide_eq_true (by omega), cond_true]
          · rw [if_neg hs1, decide_eq_false (by omega), cond_false]
            have hh := VJ hd 1125899906842624
            by_cases hk1 : k + 1 < cuts.length
            · rw [decide_eq_true (by omega), cond_true, aK (by omega), aK (by simp only [List.length_cons, List.length_nil]; omega)]
              have : List.getD cuts (Int.toNat ((k + 1 : Nat) : Int)) default = r.headD 1125899906842624 := by
                rw [← hh, Int.toNat_natCast, List.getD_eq_getElem?_getD, List.getElem?_eq_getElem hk1]; rfl
              rw [this]
            · rw [decide_eq_false (by omega), cond_false, aK (by simp only [List.length_cons, List.length_nil]; omega)]
              have : r.headD 1125899906842624 = 1125899906842624 := by
                rw [← hh, List.getElem?_eq_none (by omega)]; rfl
              rw [this]
      by_cases ha : al t = []
      · rw [if_pos ha] at hb
        rw [fH hb, ih (k + 1) s h2 (by omega) hs]
        simp [kB, ha]
      · rw [if_neg ha] at hb
        by_cases hs1 : s.length = 1024
        · rw [if_pos hs1] at hb
          rw [cS hb, if_pos]
          simp [kB, ha]; omega
        · rw [if_neg hs1] at hb
          rw [fH hb, ih (k + 1) _ h2 (by omega) (by simp only [List.length_append, List.length_cons, List.length_nil]; omega)]
          simp [kB, ha]
  exact key cuts 0 [] rfl (by omega) (by simp)

theorem EI (c0 : List Int) (c : List aL) : ∀ (gs : List (List aB × List aI)) (out : List bT), out.length + gs.length ≤ 1000000 →
    itG (fun st t29 t30 => rnd (fun (s : List bT) => lH c0 c s t29 t30) st) gs (.inl out : List bT ⊕ List bT) = some (.inl (out ++ gs.map fun g => ⟨g.1, g.2⟩))
  | [], out, _ => by simp [itG]
  | g :: gs, out, h => by
    simp only [List.length_cons] at h
    have e1 : lH c0 c out g.1 g.2 = some (.inl (out ++ [⟨g.1, g.2⟩])) := by
      unfold lH
      rw [aK (by simp only [List.length_cons, List.length_nil]; omega)]
    have e2 : rnd (fun (s : List bT) => lH c0 c s g.1 g.2) (.inl out : List bT ⊕ List bT) = some (.inl (out ++ [⟨g.1, g.2⟩]), true) := by
      simp only [rnd, e1, Option.bind_some]; rfl
    unfold itG
    rw [e2]
    simp only [Option.bind_some, if_true]
    rw [EI c0 c gs _ (by simp only [List.length_append, List.length_cons, List.length_nil]; omega)]
    simp

theorem EY {l : List aL} (hl : okL l) (hm : qY l = true) : (∀ g ∈ groups l, lE g.2 = true ∧ g.1.length ≤ 4398046510976) ∧ (groups l).length ≤ 4096 := by
  obtain ⟨h1, h2, _⟩ := tP hm
  exact ⟨fun g hg => ⟨(h2 g hg).2, RY hl hg⟩, by have := EX l; omega⟩

theorem AD {l : List aL} (hl : okL l) (frm : Int) : oS l frm = some (qV l frm) := by
  unfold oS qV
  rw [CJ hl, Option.bind_some]
  by_cases h : (lT l frm).2 = 0
  · rw [if_neg (by simpa using h), decide_eq_true h, Bool.not_true, cond_false]
    have hm := (DP h).1
    obtain ⟨g1, g2⟩ := EY hl hm
    have hc := (IA (l := l) (frm := frm)).2
    unfold tD
    rw [Option.bind_some]
    unfold tE
    rw [OM hl (s' := .inl ([] ++ (groups l).map fun g => (⟨g.1, g.2⟩ : bT))) (by rw [hm, if_pos rfl]; exact EI _ _ _ _ (by simp; omega)), Option.bind_some, Sum.elim_inl, List.nil_append]
    unfold pY
    rw [KY (by omega) g1 (by omega)]
    unfold PB
    split <;> rfl
  · rw [if_pos h, decide_eq_false h]; rfl

end Go.Abs
namespace Go.Abs
open Go
theorem CW {l : List aL} (hl : okL l) (hm : qY l = true) (t : Int) : qB l t = some (iT t (groups l)) := by
  unfold qB
  have hn := (tP hm).1
  rw [PF hl (fun e he => (vZ hm he).1) (by omega), Option.bind_some]
  have hr : (rowsOf l).length ≤ 4096 := by
    have h1 : (PG l).length = (rowsOf l).length := by simp [PG]
    have h2 := EX l
    rw [CV hm] at h1
    omega
  unfold rY
  have key := rX (l := rowsOf l) (body := fun s : List aY × Int => lP l t (rowsOf l) s.1 s.2) (fun (s : List aY) i => (s, i)) (fun s r => s ++ iT t (r.map fun r => (r, jG l r)))
    (fun s r => s.length + r.length ≤ 1000000) [] ?_ ?_ (by simp only [List.length_nil]; omega)
  · rw [key, Option.bind_some]
    rw [← CV hm]; rfl
  · rintro i a r s ha hs
    left
    simp only [List.length_cons] at hs
    obtain ⟨d1, d2, d3, d4⟩ := idx ha (by omega)
    simp only [List.map_cons]
    rw [CP]
    by_cases h : 0 < val (jG l a) t
    · refine ⟨s ++ [⟨a, val (jG l a) t⟩], ?_, by simp only [List.length_append, List.length_cons, List.length_nil]; omega, by simp [h]⟩
      simp only [lP, mV, d1, cond_true, aK d2, d3, d4, CK hl (show l.length ≤ 1099511627776 by omega), AJ (yZ hm a), Option.bind_some, h, decide_true]
      rw [aK (by simp only [List.length_cons, List.length_nil]; omega)]
    · refine ⟨s, ?_, by omega, by simp [h]⟩
      simp only [lP, mV, d1, cond_true, aK d2, d3, d4, CK hl (show l.length ≤ 1099511627776 by omega), AJ (yZ hm a), Option.bind_some, h, decide_false, cond_false]
  · rintro s _
    simp only [lP, jT, cond_false]
    simp [iT]

def okC (x : List aY) : Prop := x.length ≤ 1000000 ∧ ∀ c ∈ x, c.Row.length ≤ 17592186044416

theorem zY {x : List aY} (h : okC x) : mA x x = some true := by
  unfold mA nJ
  rw [KJ rfl, cond_false]
  have h1 := h.1
  rw [SG (l := x) (body := fun s => kM x x s) (fun i => i) (fun _ => false) (.inr false) (.inl ()) ?_ ?_]
  · simp [lM]
  · intro i a ha
    obtain ⟨d1, d2, d3, d4⟩ := idx ha (by omega)
    simp only [kM, d1, cond_true, aK d2, d3, d4, decide_true, Bool.not_true, Bool.not_false, dD, vS a.Row a.Row (h.2 a (List.mem_of_getElem? ha)), Option.bind_some, Bool.false_or, cond_false]
    rw [aK (fun _ => d2), aK (fun _ => d2)]
    rfl
  · simp only [kM, jT, cond_false]

theorem PX {gs : List (List aB × List aI)} (hg : ∀ g ∈ gs, lE g.2 = true ∧ g.1.length ≤ 4398046510976) (hn : gs.length ≤ 1000000) (t : Int) : okC (iT t gs) := by
  refine ⟨by have := OB t gs; omega, fun c hc => ?_⟩
  obtain ⟨g, h1, h2⟩ := List.mem_filterMap.1 hc
  split at h2
  · simp only [Option.some.injEq] at h2; subst h2
    have := (hg g h1).2; simp only; omega
  · cases h2

theorem FM {al : Int → List aY} {p : cD} : ∀ {cs : List Int}, p ∈ kB al cs → ∃ t ∈ cs, p.Rows = al t ∧ p.Span.From = t
  | [], h => by simp [kB] at h
  | t :: cs, h => by
    unfold kB at h
    rcases List.mem_append.1 h with h | h
    · split at h
      · simp at h
      · simp at h; subst h; exact ⟨t, by simp, rfl, rfl⟩
    · obtain ⟨t', h1, h2⟩ := FM h
      exact ⟨t', by simp [h1], h2⟩

def BY : aB := ⟨1, 1, ByteArray.empty⟩

def IX : aB := ⟨1, 2, ByteArray.empty⟩

def l27 : List aL := [⟨[BY], 2, 1⟩, ⟨[BY], 9, -1⟩, ⟨[IX], 5, 1⟩, ⟨[IX], 7, -1⟩]

theorem RM : okL l27 := ⟨by decide, by decide⟩

theorem XU : lT l27 0 = ([0, 2, 5, 7, 9], 0) := by decide +kernel

theorem XH : qV l27 0 = ([⟨⟨2, 5⟩, [⟨[BY], 1⟩]⟩, ⟨⟨5, 7⟩, [⟨[BY], 1⟩, ⟨[IX], 1⟩]⟩, ⟨⟨7, 9⟩, [⟨[BY], 1⟩]⟩], 0) := by decide +kernel

theorem AQ : nD = some true := by
  unfold nD
  have h1 := CJ RM 0
  have h2 := AD RM 0
  rw [XU] at h1
  rw [XH] at h2
  simp only [l27, BY, IX] at h1 h2
  rw [h1, Option.bind_some, h2, Option.bind_some, aK (fun _ => by decide), aK (fun _ => by decide), aK (fun _ => by decide)]
  rfl

end Go.Abs
namespace Go.Abs
open Go
def atT (t : Int) (p : cD) : Bool := decide (p.Span.From ≤ t) && decide (t < p.Span.To)

def uC (t : Int) (s : List aY × Int) (p : cD) : List aY × Int := if atT t p then (p.Rows, s.2 + 1) else s

theorem EU {t : Int} : ∀ {ps : List cD} {s : List aY × Int}, (∀ p ∈ ps, atT t p = false) → ps.foldl (uC t) s = s
  | [], _, _ => rfl
  | p :: ps, s, h => by
    rw [List.foldl_cons]
    have : uC t s p = s := by unfold uC; rw [h p (by simp)]; rfl
    rw [this, EU fun q hq => h q (by simp [hq])]

theorem FF {al : Int → List aY} {t : Int} (ht : t < 1125899906842624) : ∀ (cs : List Int) (c : Int) (s : List aY × Int), (c :: cs).Pairwise (· < ·) → c ≤ t →
    ∃ d ∈ c :: cs, d ≤ t ∧ (∀ x ∈ c :: cs, x ≤ t → x ≤ d) ∧ (kB al (c :: cs)).foldl (uC t) s = if al d = [] then s else (al d, s.2 + 1)
  | [], c, s, _, hc => by
    refine ⟨c, by simp, hc, fun x hx _ => by simp at hx; omega, ?_⟩
    by_cases ha : al c = []
    · simp [kB, ha]
    · simp [kB, ha, uC, atT, hc, ht]
  | c2 :: cs, c, s, hp, hc => by
    obtain ⟨h1, h2⟩ := List.pairwise_cons.1 hp
    have hcc : c < c2 := h1 c2 (by simp)
    by_cases h : c2 ≤ t
    · obtain ⟨d, g1, g2, g3, g4⟩ := FF ht cs c2 s h2 h
      refine ⟨d, by simp [g1], g2, fun x hx hxt => ?_, ?_⟩
      · rcases List.mem_cons.1 hx with rfl | hx
        · have := g3 c2 (by simp) h; omega
        · exact g3 x hx hxt
      · rw [← g4]
        have e : kB al (c :: c2 :: cs) = (if al c = [] then [] else [⟨⟨c, c2⟩, al c⟩]) ++ kB al (c2 :: cs) := rfl
        rw [e, List.foldl_append]
        congr 1
        split
        · rfl
        · have : atT t ⟨⟨c, c2⟩, al c⟩ = false := by simp only [atT, Bool.and_eq_false_iff, decide_eq_false_iff_not]; right; omega
          simp [uC, this]
    · refine ⟨c, by simp, hc, fun x hx hxt => ?_, ?_⟩
      · rcases List.mem_cons.1 hx with rfl | hx
        · omega
        · exfalso
          rcases List.mem_cons.1 hx with rfl | hx
          · omega
          · have := (List.pairwise_cons.1 h2).1 x hx; omega
      · have e : kB al (c :: c2 :: cs) = (if al c = [] then [] else [⟨⟨c, c2⟩, al c⟩]) ++ kB al (c2 :: cs) := rfl
        rw [e, List.foldl_append, EU (ps := kB al (c2 :: cs))]
        · by_cases ha : al c = []
          · simp [ha]
          · have h' : t < c2 := by omega
            simp [ha, uC, atT, hc, h']
        · intro p hp'
          obtain ⟨x, hx, _, hf⟩ := FM hp'
          have : c2 ≤ x := by
            rcases List.mem_cons.1 hx with rfl | hx
            · omega
            · have := (List.pairwise_cons.1 h2).1 x hx; omega
          simp only [atT, Bool.and_eq_false_iff, decide_eq_false_iff_not]; left; rw [hf]; omega

theorem yU {α β : Type} {f g : α → Option β} : ∀ {l : List α}, (∀ x ∈ l, f x = g x) → l.filterMap f = l.filterMap g
  | [], _ => rfl
  | x :: l, h => by
    rw [List.filterMap_cons, List.filterMap_cons, h x (by simp), yU fun y hy => h y (by simp [hy])]

theorem QB {l : List aL} {d t : Int} (hdt : d ≤ t) (h : ∀ e ∈ l, ¬ (d < e.At ∧ e.At ≤ t)) : iT d (groups l) = iT t (groups l) := by
  have key : ∀ g ∈ groups l, val g.2 d = val g.2 t := by
    intro g hg
    have hj : ∀ j ∈ g.2, ¬ (d < j.At ∧ j.At ≤ t) := by
      intro j hj
      have hm : (⟨g.1, j.At, j.Net⟩ : aL) ∈ flat (groups l) := List.mem_flatMap.2 ⟨g, hg, List.mem_map.2 ⟨j, hj, rfl⟩⟩
      rw [sP] at hm
      exact h _ hm
    exact HR hdt hj
  unfold iT
  refine yU fun g hg => ?_
  rw [key g hg]

theorem UM {frm : Int} {l : List aL} (hi : Inc (frm - 1) (iK frm l [frm])) : ∃ cs, iK frm l [frm] = frm :: cs := by
  have hm : frm ∈ iK frm l [frm] := xM.2 (.inl (by simp))
  cases hc : iK frm l [frm] with
  | nil => rw [hc] at hm; simp at hm
  | cons c cs =>
    rw [hc] at hm hi
    rcases List.mem_cons.1 hm with h | h
    · exact ⟨cs, by rw [h]⟩
    · have := (hi.2.above frm h).1
      have := hi.1
      omega

theorem LZ {l : List aL} {t : Int} {ps : List cD} (hn : ps.length ≤ 1000000) : lp (fun s : List aY × Int × Int => iV l t ps s.1 s.2.1 s.2.2) ([], 0, 0) = some (ps.foldl (uC t) ([], 0)) := by
  refine rX (l := ps) (body := fun s : List aY × Int × Int => iV l t ps s.1 s.2.1 s.2.2) (fun (s : List aY × Int) i => (s.1, s.2, i)) (fun s r => r.foldl (uC t) s) (fun s r => 0 ≤ s.2 ∧ s.2 + r.length ≤ 1000000) ([], 0) ?_ ?_ ⟨by omega, by simp; omega⟩
  · rintro i a r ⟨s, n⟩ ha ⟨h0, h1⟩
    left
    simp only [List.length_cons] at h0 h1
    obtain ⟨d1, d2, d3, d4⟩ := idx ha (by omega)
    cases hat : atT t a with
    | true =>
      refine ⟨(a.Rows, n + 1), ?_, ⟨by simp only; omega, by simp only; omega⟩, by simp [uC, hat]⟩
      unfold atT at hat
      simp only [iV, kU, d1, cond_true, aK d2, d3, d4]
      rw [aK (fun _ => d2), hat, cond_true, iG (by omega) (by omega)]
    | false =>
      refine ⟨(s, n), ?_, ⟨by simp only; omega, by simp only; omega⟩, by simp [uC, hat]⟩
      unfold atT at hat
      simp only [iV, kU, d1, cond_true, aK d2, d3, d4]
      rw [aK (fun _ => d2), hat, cond_false]
  · rintro ⟨s, n⟩ _
    simp only [iV, jT, cond_false]; rfl

theorem NY {l : List aL} {frm : Int} (h : (qV l frm).2 ≠ 0) : (qV l frm).1 = [] := by
  unfold qV PB at h ⊢
  split
  · rfl
  · split
    · rfl
    · rename_i h1 h2; simp [h1, h2] at h

theorem SE {l : List aL} {frm : Int} (h : (qV l frm).2 = 0) : (lT l frm).2 = 0 ∧ (qV l frm).1 = kB (fun t => iT t (groups l)) (lT l frm).1 ∧ (qV l frm).1.length ≤ 1024 := by
  unfold qV PB at h ⊢
  by_cases h1 : (lT l frm).2 = 0
  · rw [if_neg (by simpa using h1)] at h ⊢
    by_cases h2 : 1024 < (kB (fun t => iT t (groups l)) (lT l frm).1).length
    · rw [if_pos h2] at h; simp at h
    · rw [if_neg h2]; exact ⟨h1, rfl, by simp only; omega⟩
  · rw [if_pos h1] at h; exact absurd h h1

end Go.Abs
namespace Go.Abs
open Go
theorem YT {l : List aL} (m : ∀ a ∈ l, sM a) (y : List.length l * 40 ≤ 140737488351232) : okL l :=
  ⟨by omega, fun e he => by have := (m e he).1.2; omega⟩

end Go.Abs
namespace Go.Abs
open Go
theorem GD (l0 : (List aL)) (m0 : ∀ a ∈ l0, sM a) (y0 : List.length l0 * 40 ≤ 140737488351232) (a1 : Int) (w1 : uR a1) (a2 : Int) (w2 : uR a2) : oG l0 a1 a2 = some true := by
  have k0 := YT m0 y0
  unfold oG
  cases hg : ((decide ((200 : Int) < ((List.length l0 : Nat) : Int)) || decide (a2 < a1)) || decide ((1125899906842624 : Int) ≤ a2)) with
  | true => simp only [cond_true, AQ, Option.bind_some]
  | false =>
    simp only [Bool.or_eq_false_iff, decide_eq_false_iff_not] at hg
    obtain ⟨⟨g1, g2⟩, g3⟩ := hg
    rw [cond_false, AD k0, Option.bind_some]
    by_cases he : (qV l0 a1).2 = 0
    · rw [decide_eq_true he, Bool.not_true, cond_false]
      obtain ⟨h1, h2, h3⟩ := SE he
      obtain ⟨hm, ht, hf, ⟨hc, _⟩ | ⟨hc, hcut⟩⟩ := DP h1
      · omega
      · unfold nZ
        rw [LZ (by omega), Option.bind_some, h2, hcut]
        have hi := (IA (l := l0) (frm := a1)).1
        rw [hcut] at hi
        obtain ⟨cs, hcs⟩ := UM hi
        rw [hcs] at hi
        obtain ⟨d, q1, q2, q3, q4⟩ := FF (al := fun t => iT t (groups l0)) (t := a2) (by omega) cs a1 ([], 0) (DI hi) (by omega)
        rw [hcs, q4]
        have hsame : iT d (groups l0) = iT a2 (groups l0) := by
          refine QB q2 fun e hel hda => ?_
          have hd1 : a1 ≤ d := q3 a1 (by simp) (by omega)
          have : e.At ∈ a1 :: cs := by
            rw [← hcs]; exact xM.2 (.inr ⟨e, hel, rfl, by omega⟩)
          have := q3 e.At this hda.2
          omega
        obtain ⟨gg1, gg2⟩ := EY k0 hm
        have hok := PX gg1 (by omega) a2
        unfold mB
        rw [AQ, Option.bind_some]
        by_cases ha : iT d (groups l0) = []
        · rw [if_pos ha]
          rw [hsame] at ha
          simp only [dD, Bool.true_and, CW k0 hm, ha, decide_true, cond_true, Option.bind_some, show decide ((0 : Int) ≤ 1) = true from rfl]
          rw [zY ⟨by simp, by simp⟩]
          rfl
        · rw [if_neg ha, hsame]
          simp only [dD, Bool.true_and, CW k0 hm, cond_true, Option.bind_some, show decide ((0 : Int) + 1 ≤ 1) = true from rfl, zY hok]
    · rw [decide_eq_false he, Bool.not_false, cond_true, AQ, Option.bind_some, NY he]
      rfl

end Go.Abs
