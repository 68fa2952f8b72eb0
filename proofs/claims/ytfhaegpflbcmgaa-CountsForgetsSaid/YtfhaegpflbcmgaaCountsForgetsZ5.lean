/- What the law CountsForgets stands on: the framework, the given functions as plain functions, their walks, and the plain laws; part 5. -/
import Derived.Test.YtfhaegpflbcmgaaCountsForgetsZ4
set_option linter.unusedSimpArgs false
set_option linter.unusedVariables false
namespace Go.Abs
open Go
theorem AT.next {a j i : Nat} {d : List Int} (h : AT a j i d) (hj : a < j) (hji : j ≤ i) (hi : i < d.length) (hlt : gN d j < gN d (j - 1)) : AT a (j - 1) i (swp d j (j - 1)) := by
  have g := qA (d := d) (i := j) (j := j - 1) (by omega) (by omega)
  refine ⟨fun p q h1 h2 h3 hp hq => ?_, fun q h1 h2 => ?_⟩
  · rw [g, g, if_neg hp, if_neg hq]
    by_cases hpj : p = j
    · rw [if_pos hpj]
      by_cases hqj : q = j
      · rw [if_pos hqj]; exact Int.le_refl _
      · rw [if_neg hqj]; exact h.oth (j - 1) q (by omega) (by omega) h3 (by omega) hqj
    · rw [if_neg hpj]
      by_cases hqj : q = j
      · rw [if_pos hqj]; exact h.oth p (j - 1) h1 (by omega) (by omega) hpj (by omega)
      · rw [if_neg hqj]; exact h.oth p q h1 h2 h3 hpj hqj
  · rw [g, g, if_pos rfl, if_neg (by omega)]
    by_cases hqj : q = j
    · rw [if_pos hqj]; omega
    · rw [if_neg hqj]; exact h.up q (by omega) h2

theorem YZ {a b i : Int} {lo hi : Nat} (ha : a = (lo : Nat)) : ∀ (j : Nat) (d : List Int), lo ≤ j → j ≤ hi → hi < d.length → d.length < 4611686018427387904 → AT lo j hi d →
    ∃ d', lp (fun s : List Int × Int => eK a b i s.1 s.2) (d, (j : Int)) = some d' ∧ Rel lo (hi + 1) d d' ∧ nT lo (hi + 1) d' := by
  intro j
  induction j with
  | zero =>
    intro d h1 h2 h3 h4 h5
    have hs := LA (a := a) (b := b) (i := i) ha h1 (by omega) h4 (d := d)
    rw [if_neg (by omega)] at hs
    exact ⟨d, cV hs, Rel.refl .., h5.done h1 (by omega)⟩
  | succ j ih =>
    intro d h1 h2 h3 h4 h5
    have hs := LA (a := a) (b := b) (i := i) ha h1 (by omega) h4 (d := d)
    by_cases h : lo < j + 1 ∧ gN d (j + 1) < gN d (j + 1 - 1)
    · rw [if_pos h] at hs
      obtain ⟨d', e, r, s⟩ := ih (swp d (j + 1) (j + 1 - 1)) (by omega) (by omega) (by rw [gG]; omega) (by rw [gG]; omega) (h5.next h.1 h2 h3 h.2)
      exact ⟨d', (gF hs).trans e, (Rel.swp (by omega) (by omega) (by omega) (by omega)).trans r, s⟩
    · rw [if_neg h] at hs
      exact ⟨d, cV hs, Rel.refl .., h5.done h1 h⟩

theorem MX {a b : Int} {lo hi : Nat} (ha : a = (lo : Nat)) (hb : b = (hi : Nat)) : ∀ (n i : Nat) (d : List Int), hi - i = n → lo < i → hi ≤ d.length → d.length < 4611686018427387904 → nT lo i d → (i ≤ hi ∨ hi ≤ i) →
    ∃ d', lp (fun s : List Int × Int => cY a b s.1 s.2) (d, (i : Int)) = some d' ∧ Rel lo hi d d' ∧ nT lo hi d' := by
  intro n
  induction n with
  | zero =>
    intro i d h1 h2 h3 h4 h5 _
    refine ⟨d, cV ?_, Rel.refl .., fun p q p1 p2 p3 => h5 p q p1 p2 (by omega)⟩
    show cY _ _ _ _ = _
    have : decide (((i : Nat) : Int) < b) = false := by simp; omega
    simp only [cY, this, cond_false]
  | succ n ih =>
    intro i d h1 h2 h3 h4 h5 _
    obtain ⟨d1, e, r, s⟩ := YZ (a := a) (b := b) (i := (i : Int)) (hi := i) ha i d (by omega) (Nat.le_refl _) (by omega) h4 ⟨fun p q p1 p2 p3 p4 p5 => h5 p q p1 p2 (by omega), fun q q1 q2 => by omega⟩
    obtain ⟨d2, e2, r2, s2⟩ := ih (i + 1) d1 (by omega) (by omega) (by rw [r.len]; exact h3) (by rw [r.len]; exact h4) s (by omega)
    refine ⟨d2, ?_, (r.mono (Nat.le_refl _) (by omega)).trans r2, s2⟩
    rw [gF (s' := (d1, ((i + 1 : Nat) : Int))) ?_, e2]
    show cY _ _ _ _ = _
    have : decide (((i : Nat) : Int) < b) = true := by simp; omega
    simp only [cY, this, cond_true, iM]
    rw [e]
    simp only [Option.bind_some, fR]
    rw [wrN (n := i + 1) (by omega) (by omega)]

theorem DK (lo : Nat) (d : List Int) : nT lo (lo + 1) d := fun p q p1 p2 p3 => by
  have : p = q := by omega
  subst this
  exact Int.le_refl _

theorem UH {lo hi : Nat} {d : List Int} (h3 : hi ≤ d.length) (h4 : d.length < 4611686018427387904) (h0 : lo ≤ hi) : ∃ d', fW d (lo : Int) (hi : Int) = some d' ∧ Rel lo hi d d' ∧ nT lo hi d' := by
  unfold fW iN
  obtain ⟨d', e, r, s⟩ := MX (a := (lo : Int)) (b := (hi : Int)) (lo := lo) (hi := hi) rfl rfl (hi - (lo + 1)) (lo + 1) d rfl (by omega) h3 h4 (DK lo d) (by omega)
  rw [wrN (n := lo + 1) (by omega) (by omega), e]
  exact ⟨d', rfl, r, s⟩

theorem ZK {lo hi : Nat} : ∀ (n i j : Nat) (d : List Int), j + 1 - i = n → lo ≤ i → j + 1 ≤ hi ∨ j ≤ i → hi ≤ d.length → d.length < 4611686018427387904 → i < 4611686018427387904 → j < 4611686018427387904 →
    ∃ d', lp (fun s : List Int × Int × Int => dA s.1 s.2.1 s.2.2) (d, (i : Int), (j : Int)) = some d' ∧ Rel lo hi d d' := by
  intro n
  induction n using Nat.strongRecOn with
  | ind n ih =>
    intro i j d h1 h2 h3 h4 h5 h6 h7
    by_cases h : i < j
    · obtain ⟨d', e, r⟩ := ih (j - 1 + 1 - (i + 1)) (by omega) (i + 1) (j - 1) (swp d i j) rfl (by omega) (by omega) (by rw [gG]; exact h4) (by rw [gG]; exact h5) (by omega) (by omega)
      refine ⟨d', ?_, (Rel.swp (by omega) (by omega) (by omega) (by omega)).trans r⟩
      rw [gF (s' := (swp d i j, ((i + 1 : Nat) : Int), ((j - 1 : Nat) : Int))) ?_, e]
      show dA _ _ _ = _
      have : decide (((i : Nat) : Int) < ((j : Nat) : Int)) = true := by simp; omega
      simp only [dA, this, cond_true, Int.toNat_natCast]
      rw [aM (asN (by omega)), aM (asN (by omega)), aM (asN (by omega)), aM (asN (by omega)), wrN (n := i + 1) (by omega) (by omega), wrN (n := j - 1) (by omega) (by omega)]
      rfl
    · refine ⟨d, cV ?_, Rel.refl ..⟩
      show dA _ _ _ = _
      have : decide (((i : Nat) : Int) < ((j : Nat) : Int)) = false := by simp; omega
      simp only [dA, this, cond_false]

theorem RL {lo hi : Nat} {d : List Int} (h0 : lo < hi) (h3 : hi ≤ d.length) (h4 : d.length < 4611686018427387904) : ∃ d', gL d (lo : Int) (hi : Int) = some d' ∧ Rel lo hi d d' := by
  unfold gL iU
  obtain ⟨d', e, r⟩ := ZK (lo := lo) (hi := hi) (hi - 1 + 1 - lo) lo (hi - 1) d rfl (Nat.le_refl _) (by omega) h3 h4 (by omega) (by omega)
  rw [wrN (n := hi - 1) (by omega) (by omega), e]
  exact ⟨d', rfl, r⟩

end Go.Abs
namespace Go.Abs
open Go
def tL (f hi : Nat) (d : List Int) (r : Nat) : Nat := if 2 * r + 2 < hi ∧ gN d (f + (2 * r + 1)) < gN d (f + (2 * r + 2)) then 2 * r + 2 else 2 * r + 1

theorem GS {f hi r c : Nat} {d : List Int} (hf : f + hi ≤ d.length) (hr : r < hi) (hc : c < hi) (hl : d.length < 2305843009213693951) :
    fS d (hi : Nat) (f : Nat) (r : Nat) (c : Nat) = if gN d (f + r) < gN d (f + c) then some (.inl (swp d (f + r) (f + c), (c : Int))) else some (.inr (.inr d)) := by
  unfold fS
  have e1 : IntKind.i64.wrap ((f : Int) + (r : Int)) = ((f + r : Nat) : Int) := wrN (by omega) (by omega)
  have e2 : IntKind.i64.wrap ((f : Int) + (c : Int)) = ((f + c : Nat) : Int) := wrN (by omega) (by omega)
  rw [e1, e2]
  simp only [Int.toNat_natCast, pK, Option.bind_some]
  rw [aM (asN (by omega)), aM (asN (by omega))]
  by_cases h : gN d (f + r) < gN d (f + c)
  · rw [if_pos h]
    simp only [gN] at h
    simp only [h, decide_true, Bool.not_true, cond_false]
    rw [aM (asN (by omega)), aM (asN (by omega)), aM (asN (by omega)), aM (asN (by omega))]
    rfl
  · rw [if_neg h]
    simp only [gN] at h
    simp only [h, decide_false, Bool.not_false, cond_true]

theorem SJ {f hi r : Nat} {d : List Int} (hf : f + hi ≤ d.length) (hr : r < hi) (hl : d.length < 2305843009213693951) :
    cU (hi : Nat) (f : Nat) d (r : Nat) = if hi ≤ 2 * r + 1 then some (.inr (.inl d)) else if gN d (f + r) < gN d (f + tL f hi d r) then some (.inl (swp d (f + r) (f + tL f hi d r), (tL f hi d r : Int))) else some (.inr (.inr d)) := by
  unfold cU
  have e1 : IntKind.i64.wrap (IntKind.i64.wrap ((2 : Int) * (r : Int)) + 1) = ((2 * r + 1 : Nat) : Int) := by
    rw [wrN (x := (2 : Int) * (r : Int)) (n := 2 * r) (by omega) (by omega)]; exact wrN (by omega) (by omega)
  have e2 : IntKind.i64.wrap (((2 * r + 1 : Nat) : Int) + 1) = ((2 * r + 2 : Nat) : Int) := wrN (by omega) (by omega)
  simp only [e1, e2]
  by_cases h : hi ≤ 2 * r + 1
  · rw [if_pos h]
    have : decide (((hi : Nat) : Int) ≤ ((2 * r + 1 : Nat) : Int)) = true := by simp; omega
    rw [this, cond_true]
  · rw [if_neg h]
    have d1 : decide (((hi : Nat) : Int) ≤ ((2 * r + 1 : Nat) : Int)) = false := by simp; omega
    rw [d1, cond_false]
    by_cases h2 : 2 * r + 2 < hi
    · have d2 : decide (((2 * r + 2 : Nat) : Int) < ((hi : Nat) : Int)) = true := by simp; omega
      have e3 : IntKind.i64.wrap ((f : Int) + ((2 * r + 1 : Nat) : Int)) = ((f + (2 * r + 1) : Nat) : Int) := wrN (by omega) (by omega)
      have e4 : IntKind.i64.wrap (((f + (2 * r + 1) : Nat) : Int) + 1) = ((f + (2 * r + 2) : Nat) : Int) := wrN (by omega) (by omega)
      simp only [d2, e3, e4, Int.toNat_natCast, pK, dJ, cond_true, Option.bind_some, Bool.true_and]
      rw [aM fun _ => asN (by omega), aM fun _ => asN (by omega)]
      by_cases h3 : gN d (f + (2 * r + 1)) < gN d (f + (2 * r + 2))
      · have hb : tL f hi d r = 2 * r + 2 := if_pos ⟨h2, h3⟩
        simp only [gN] at h3
        simp only [h3, decide_true, cond_true]
        rw [GS hf hr h2 hl, hb]
      · have hb : tL f hi d r = 2 * r + 1 := if_neg fun hh => h3 hh.2
        simp only [gN] at h3
        simp only [h3, decide_false, cond_false]
        rw [GS hf hr (by omega) hl, hb]
    · have d2 : decide (((2 * r + 2 : Nat) : Int) < ((hi : Nat) : Int)) = false := by simp; omega
      have hb : tL f hi d r = 2 * r + 1 := if_neg fun hh => h2 hh.1
      simp only [d2, Bool.false_eq_true, false_implies, dJ, cond_false, Option.bind_some, Bool.false_and]
      rw [aM trivial, aM trivial, GS hf hr (by omega) hl, hb]

def chd (c p : Nat) : Prop := c = 2 * p + 1 ∨ c = 2 * p + 2

def Hp (f lo hi : Nat) (d : List Int) : Prop := ∀ i c, lo ≤ i → chd c i → c < hi → gN d (f + c) ≤ gN d (f + i)

structure HpX (f lo hi r : Nat) (d : List Int) : Prop where
  oth : ∀ i c, lo ≤ i → i ≠ r → chd c i → c < hi → gN d (f + c) ≤ gN d (f + i)
  up : ∀ p c, lo ≤ p → chd r p → chd c r → c < hi → gN d (f + c) ≤ gN d (f + p)

theorem SW {f hi r : Nat} {d : List Int} (h : ¬ hi ≤ 2 * r + 1) : chd (tL f hi d r) r ∧ tL f hi d r < hi ∧ ∀ c, chd c r → c < hi → gN d (f + c) ≤ gN d (f + tL f hi d r) := by
  unfold tL
  split
  · rename_i h1
    refine ⟨.inr rfl, h1.1, fun c hc hlt => ?_⟩
    rcases hc with rfl | rfl
    · omega
    · exact Int.le_refl _
  · rename_i h1
    refine ⟨.inl rfl, by omega, fun c hc hlt => ?_⟩
    rcases hc with rfl | rfl
    · exact Int.le_refl _
    · have : ¬ gN d (f + (2 * r + 1)) < gN d (f + (2 * r + 2)) := fun hh => h1 ⟨hlt, hh⟩
      omega

theorem HpX.done {f lo hi r : Nat} {d : List Int} (h : HpX f lo hi r d) (hr : ∀ c, chd c r → c < hi → gN d (f + c) ≤ gN d (f + r)) : Hp f lo hi d := by
  intro i c h1 h2 h3
  by_cases e : i = r
  · subst e; exact hr c h2 h3
  · exact h.oth i c h1 e h2 h3

theorem HpX.next {f lo hi r c : Nat} {d : List Int} (h : HpX f lo hi r d) (hf : f + hi ≤ d.length) (hlo : lo ≤ r) (hrh : r < hi) (hc : chd c r) (hch : c < hi) (hbig : ∀ k, chd k r → k < hi → gN d (f + k) ≤ gN d (f + c)) (hlt : gN d (f + r) < gN d (f + c)) : HpX f lo hi c (swp d (f + r) (f + c)) := by
  have g := qA (d := d) (i := f + r) (j := f + c) (by omega) (by omega)
  have hcr : r < c := by unfold chd at hc; omega
  refine ⟨fun i k h1 h2 h3 h4 => ?_, fun p k h1 h2 h3 h4 => ?_⟩
  · rw [g, g, if_neg (show ¬ f + i = f + c by omega)]
    by_cases hir : i = r
    · subst hir
      rw [if_pos (show f + i = f + i from rfl)]
      by_cases hkc : k = c
      · subst hkc; rw [if_pos rfl]; omega
      · rw [if_neg (by omega), if_neg (by unfold chd at h3; omega)]
        exact hbig k h3 h4
    · rw [if_neg (show ¬ f + i = f + r by omega)]
      have hkc : k ≠ c := by intro e; subst e; unfold chd at h3 hc; omega
      rw [if_neg (by omega)]
      by_cases hkr : k = r
      · subst hkr
        rw [if_pos rfl]
        exact h.up i c h1 h3 hc hch
      · rw [if_neg (by omega)]
        exact h.oth i k h1 hir h3 h4
  · have hp : p = r := by unfold chd at h2 hc; omega
    subst hp
    have hk : c < k := by unfold chd at h3; omega
    rw [g, g, if_neg (by omega), if_neg (by omega), if_neg (by omega), if_pos rfl]
    exact h.oth c k (by omega) (by omega) h3 h4

theorem XG {f lo hi : Nat} : ∀ (n r : Nat) (d : List Int), hi - r = n → f + hi ≤ d.length → lo ≤ r → r < hi → d.length < 2305843009213693951 → HpX f lo hi r d →
    ∃ d', (lp (fun s : List Int × Int => cU (hi : Nat) (f : Nat) s.1 s.2) (d, (r : Int)) = some (.inl d') ∨ lp (fun s : List Int × Int => cU (hi : Nat) (f : Nat) s.1 s.2) (d, (r : Int)) = some (.inr d')) ∧ Rel f (f + hi) d d' ∧ Hp f lo hi d' := by
  intro n
  induction n using Nat.strongRecOn with
  | ind n ih =>
    intro r d h1 h2 h3 h4 h5 h6
    have hs := SJ h2 h4 h5
    by_cases h : hi ≤ 2 * r + 1
    · rw [if_pos h] at hs
      exact ⟨d, .inl (cV hs), Rel.refl .., h6.done fun c hc hlt => by unfold chd at hc; omega⟩
    · rw [if_neg h] at hs
      obtain ⟨b1, b2, b3⟩ := SW (f := f) (d := d) h
      by_cases hlt : gN d (f + r) < gN d (f + tL f hi d r)
      · rw [if_pos hlt] at hs
        have hb : r < tL f hi d r := by unfold chd at b1; omega
        obtain ⟨d', e, rl, hp⟩ := ih (hi - tL f hi d r) (by omega) (tL f hi d r) _ rfl (by rw [gG]; exact h2) (by omega) b2 (by rw [gG]; exact h5) (h6.next h2 h3 h4 b1 b2 b3 hlt)
        exact ⟨d', e.imp (fun e => (gF hs).trans e) (fun e => (gF hs).trans e), (Rel.swp (by omega) (by omega) (by omega) (by omega)).trans rl, hp⟩
      · rw [if_neg hlt] at hs
        exact ⟨d, .inr (cV hs), Rel.refl .., h6.done fun c hc hc2 => by have := b3 c hc hc2; omega⟩

theorem NY {f lo hi : Nat} {d : List Int} (h2 : f + hi ≤ d.length) (h5 : d.length < 2305843009213693951) (hlo : lo < 2305843009213693951) (h6 : HpX f lo hi lo d) :
    ∃ d', eY d (lo : Nat) (hi : Nat) (f : Nat) = some d' ∧ Rel f (f + hi) d d' ∧ Hp f lo hi d' := by
  unfold eY jZ
  by_cases h : lo < hi
  · obtain ⟨d', e, r, p⟩ := XG (hi - lo) lo d rfl h2 (Nat.le_refl _) h h5 h6
    rcases e with e | e <;> rw [e] <;> exact ⟨d', rfl, r, p⟩
  · refine ⟨d, ?_, Rel.refl .., fun i c h1 hc hlt => by unfold chd at hc; omega⟩
    have hs : cU (hi : Nat) (f : Nat) d (lo : Nat) = some (.inr (.inl d)) := by
      unfold cU
      have e1 : IntKind.i64.wrap (IntKind.i64.wrap ((2 : Int) * (lo : Int)) + 1) = ((2 * lo + 1 : Nat) : Int) := by
        rw [wrN (x := (2 : Int) * (lo : Int)) (n := 2 * lo) (by omega) (by omega)]; exact wrN (by omega) (by omega)
      have : decide (((hi : Nat) : Int) ≤ ((2 * lo + 1 : Nat) : Int)) = true := by simp; omega
      simp only [e1, this, cond_true]
    rw [cV (show (fun s : List Int × Int => cU (hi : Nat) (f : Nat) s.1 s.2) (d, (lo : Int)) = _ from hs)]
    rfl

theorem SI {f k : Nat} {d : List Int} (h : Hp f 0 k d) : ∀ i, i < k → gN d (f + i) ≤ gN d f := by
  intro i
  induction i using Nat.strongRecOn with
  | ind i ih =>
    intro hi
    by_cases h0 : i = 0
    · subst h0; exact Int.le_refl _
    · have h1 := h ((i - 1) / 2) i (Nat.zero_le _) (by unfold chd; omega) hi
      have h2 := ih ((i - 1) / 2) (by omega) (by omega)
      omega

theorem NW {f hi : Nat} : ∀ (k : Nat) (d : List Int), f + hi ≤ d.length → k < 2305843009213693951 → d.length < 2305843009213693951 → Hp f k hi d →
    ∃ d', lp (fun s : List Int × Int => dR (f : Nat) 0 (hi : Nat) s.1 s.2) (d, (k : Int) - 1) = some d' ∧ Rel f (f + hi) d d' ∧ Hp f 0 hi d'
  | 0, d, _, _, _, h => by
    refine ⟨d, cV ?_, Rel.refl .., h⟩
    show dR _ _ _ _ _ = _
    have : decide ((0 : Int) ≤ ((0 : Nat) : Int) - 1) = false := by simp
    simp only [dR, this, cond_false]
  | k + 1, d, h1, h2, h3, h => by
    obtain ⟨d1, e, r, p⟩ := NY (f := f) (lo := k) (hi := hi) h1 h3 (by omega) ⟨fun i c a1 a2 a3 a4 => h i c (by omega) a3 a4, fun p c a1 a2 => by unfold chd at a2; omega⟩
    obtain ⟨d2, e2, r2, p2⟩ := NW (f := f) (hi := hi) k d1 (by rw [r.len]; exact h1) (by omega) (by rw [r.len]; exact h3) p
    refine ⟨d2, ?_, r.trans r2, p2⟩
    rw [gF (s' := (d1, (k : Int) - 1)) ?_, e2]
    show dR _ _ _ _ _ = _
    have g1 : (((k + 1 : Nat) : Int) - 1) = (k : Int) := by omega
    have g2 : decide ((0 : Int) ≤ (k : Int)) = true := by simp
    simp only [dR, g1, g2, cond_true, e, Option.bind_some]
    rw [dS (by omega) (by omega)]

theorem QV {f n : Nat} : ∀ (k : Nat) (d : List Int), k ≤ n → f + n ≤ d.length → d.length < 2305843009213693951 → Hp f 0 k d → nT (f + k) (f + n) d → (∀ p q, f ≤ p → p < f + k → f + k ≤ q → q < f + n → gN d p ≤ gN d q) →
    ∃ d', lp (fun s : List Int × Int => dQ (f : Nat) 0 s.1 s.2) (d, (k : Int) - 1) = some d' ∧ Rel f (f + n) d d' ∧ nT f (f + n) d'
  | 0, d, _, _, _, _, hs, _ => by
    refine ⟨d, cV ?_, Rel.refl .., hs⟩
    show dQ _ _ _ _ = _
    have : decide ((0 : Int) ≤ ((0 : Nat) : Int) - 1) = false := by simp
    simp only [dQ, this, cond_false]
  | k + 1, d, h1, h2, h3, h, hs, hb => by
    have g := qA (d := d) (i := f) (j := f + k) (by omega) (by omega)
    have hroot := SI h
    obtain ⟨d1, e, r, p⟩ := NY (f := f) (lo := 0) (hi := k) (d := swp d f (f + k)) (by rw [gG]; omega) (by rw [gG]; exact h3) (by omega) ⟨fun i c a1 a2 a3 a4 => by
      rw [g, g, if_neg (by unfold chd at a3; omega), if_neg (by unfold chd at a3; omega), if_neg (by unfold chd at a3; omega), if_neg (by omega)]
      exact h i c (by omega) a3 (by omega), fun p c a1 a2 => by unfold chd at a2; omega⟩
    have rs : Rel f (f + n) d (swp d f (f + k)) := Rel.swp (i := f) (j := f + k) (by omega) (by omega) (by omega) (by omega)
    have top : gN d1 (f + k) = gN d f := by rw [r.out _ (by omega), g, if_pos rfl]
    have tail : ∀ q, f + k < q → gN d1 q = gN d q := fun q hq => by rw [r.out _ (by omega), g, if_neg (by omega), if_neg (by omega)]
    have low : ∀ p, f ≤ p → p < f + k → ∃ p', f ≤ p' ∧ p' < f + (k + 1) ∧ gN d1 p = gN d p' := fun p p1 p2 => by
      obtain ⟨p', a1, a2, a3⟩ := r.src p p1 p2
      rw [g, if_neg (by omega)] at a3
      by_cases hp : p' = f
      · rw [if_pos hp] at a3; exact ⟨f + k, by omega, by omega, a3⟩
      · rw [if_neg hp] at a3; exact ⟨p', a1, by omega, a3⟩
    obtain ⟨d2, e2, r2, s2⟩ := QV (f := f) (n := n) k d1 (by omega) (by rw [r.len, gG]; exact h2) (by rw [r.len, gG]; exact h3) p (fun p q p1 p2 p3 => by
      by_cases hq : q = f + k
      · have : p = f + k := by omega
        rw [hq, this]; exact Int.le_refl _
      · rw [tail q (by omega)]
        by_cases hp : p = f + k
        · rw [hp, top]; exact hb f q (Nat.le_refl _) (by omega) (by omega) p3
        · rw [tail p (by omega)]; exact hs p q (by omega) p2 p3) (fun p q p1 p2 p3 p4 => by
      obtain ⟨p', a1, a2, a3⟩ := low p p1 p2
      rw [a3]
      by_cases hq : q = f + k
      · rw [hq, top]
        have := hroot (p' - f) (by omega)
        rw [show f + (p' - f) = p' by omega] at this
        exact this
      · rw [tail q (by omega)]; exact hb p' q a1 a2 (by omega) p4)
    refine ⟨d2, ?_, (rs.trans (r.mono (Nat.le_refl _) (by omega))).trans r2, s2⟩
    rw [gF (s' := (d1, (k : Int) - 1)) ?_, e2]
    show dQ _ _ _ _ = _
    have g1 : (((k + 1 : Nat) : Int) - 1) = (k : Int) := by omega
    have g2 : decide ((0 : Int) ≤ (k : Int)) = true := by simp
    have g3 : IntKind.i64.wrap ((f : Int) + (k : Int)) = ((f + k : Nat) : Int) := wrN (by omega) (by omega)
    simp only [dQ, g1, g2, g3, cond_true, Int.toNat_natCast]
    rw [aM (asN (by omega)), aM (asN (by omega)), aM (asN (by omega)), aM (asN (by omega))]
    have e' : eY (List.set (List.set d f (List.getD d (f + k) default)) (f + k) (List.getD d f default)) 0 (k : Int) (f : Int) = some d1 := e
    rw [e']
    simp only [Option.bind_some]
    rw [dS (by omega) (by omega)]

theorem TJ {lo hi : Nat} {d : List Int} (h0 : lo < hi) (h1 : hi ≤ d.length) (h3 : d.length < 2305843009213693951) : ∃ d', iR d (lo : Int) (hi : Int) = some d' ∧ Rel lo hi d d' ∧ nT lo hi d' := by
  unfold iR
  rw [aM (by decide)]
  have e1 : IntKind.i64.wrap ((hi : Int) - (lo : Int)) = ((hi - lo : Nat) : Int) := wrN (by omega) (by omega)
  have e2 : IntKind.i64.wrap (((hi - lo : Nat) : Int) - 1) = ((hi - lo - 1 : Nat) : Int) := wrN (by omega) (by omega)
  have e3 : IntKind.i64.wrap (Int.tdiv ((hi - lo - 1 : Nat) : Int) 2) = (((hi - lo - 1) / 2 + 1 : Nat) : Int) - 1 := by
    have : Int.tdiv ((hi - lo - 1 : Nat) : Int) 2 = (((hi - lo - 1) / 2 : Nat) : Int) := by rw [Int.tdiv_eq_ediv_of_nonneg (by omega)]; omega
    rw [this, wrN (n := (hi - lo - 1) / 2) rfl (by omega)]; omega
  rw [e1, e2, e3]
  unfold jW
  obtain ⟨d1, a1, r1, p1⟩ := NW (f := lo) (hi := hi - lo) ((hi - lo - 1) / 2 + 1) d (by omega) (by omega) h3 (fun i c b1 b2 b3 => by unfold chd at b2; omega)
  rw [a1]
  simp only [Option.bind_some, iJ, jX]
  obtain ⟨d2, a2, r2, s2⟩ := QV (f := lo) (n := hi - lo) (hi - lo) d1 (Nat.le_refl _) (by rw [r1.len]; omega) (by rw [r1.len]; exact h3) p1 (fun p q b1 b2 b3 => by omega) (fun p q b1 b2 b3 b4 => by omega)
  have e4 : IntKind.i64.wrap (((hi - lo : Nat) : Int) - 1) = ((hi - lo : Nat) : Int) - 1 := dS (by omega) (by omega)
  rw [e4, a2]
  have : lo + (hi - lo) = hi := by omega
  rw [this] at r1 r2 s2
  exact ⟨d2, rfl, r1.trans r2, s2⟩

end Go.Abs
namespace Go.Abs
open Go
def CY : ByteArray := ⟨#[0, 1, 2, 2, 3, 3, 3, 3, 4, 4, 4, 4, 4, 4, 4, 4, 5, 5, 5, 5, 5, 5, 5, 5, 5, 5, 5, 5, 5, 5, 5, 5, 6, 6, 6, 6, 6, 6, 6, 6, 6, 6, 6, 6, 6, 6, 6, 6, 6, 6, 6, 6, 6, 6, 6, 6, 6, 6, 6, 6, 6, 6, 6, 6, 7, 7, 7, 7, 7, 7, 7, 7, 7, 7, 7, 7, 7, 7, 7, 7, 7, 7, 7, 7, 7, 7, 7, 7, 7, 7, 7, 7, 7, 7, 7, 7, 7, 7, 7, 7, 7, 7, 7, 7, 7, 7, 7, 7, 7, 7, 7, 7, 7, 7, 7, 7, 7, 7, 7, 7, 7, 7, 7, 7, 7, 7, 7, 7, 8, 8, 8, 8, 8, 8, 8, 8, 8, 8, 8, 8, 8, 8, 8, 8, 8, 8, 8, 8, 8, 8, 8, 8, 8, 8, 8, 8, 8, 8, 8, 8, 8, 8, 8, 8, 8, 8, 8, 8, 8, 8, 8, 8, 8, 8, 8, 8, 8, 8, 8, 8, 8, 8, 8, 8, 8, 8, 8, 8, 8, 8, 8, 8, 8, 8, 8, 8, 8, 8, 8, 8, 8, 8, 8, 8, 8, 8, 8, 8, 8, 8, 8, 8, 8, 8, 8, 8, 8, 8, 8, 8, 8, 8, 8, 8, 8, 8, 8, 8, 8, 8, 8, 8, 8, 8, 8, 8, 8, 8, 8, 8, 8, 8, 8, 8, 8, 8, 8, 8, 8, 8, 8, 8, 8, 8, 8, 8]⟩

theorem RB : ∀ i : Fin 256, i.val ≠ 0 → ∃ k : Fin 8, bt CY (i.val : Int) = (k.val : Int) + 1 ∧ 2 ^ k.val ≤ i.val := by decide +kernel

theorem IB : ByteArray.size CY = 256 := by decide +kernel

theorem WL {x : Int} (h : 0 ≤ x) (h2 : x ≤ 255) : IntKind.u8.wrap x = x := by
  simp only [IntKind.wrap, IntKind.bits, IntKind.signed]
  simp
  omega

theorem AY {x : Int} (h : 0 ≤ x) (h2 : x ≤ 9223372036854775807) : IntKind.u64.wrap x = x := by
  simp only [IntKind.wrap, IntKind.bits, IntKind.signed]
  simp
  omega

theorem TF {x n : Int} (h1 : 1 ≤ x) (h2 : x ≤ 255) (hn : 0 ≤ n ∧ n ≤ 100) : ∃ k : Nat, kX x n = some (n + k + 1) ∧ k ≤ 7 ∧ (2 : Int) ^ k ≤ x := by
  obtain ⟨k, e, hk⟩ := RB ⟨x.toNat, by omega⟩ (by simp; omega)
  refine ⟨k.val, ?_, by omega, ?_⟩
  · show (aZ (0 ≤ (IntKind.u8.wrap x) ∧ (IntKind.u8.wrap x) < ((ByteArray.size CY : Nat) : Int)) <| some (IntKind.i64.wrap (n + (IntKind.i64.wrap (bt CY (IntKind.u8.wrap x)))))) = _
    rw [WL (by omega) h2, aM (by rw [IB]; omega)]
    simp only at e
    rw [Int.toNat_of_nonneg (by omega)] at e
    rw [e, dS (n := (k.val : Int) + 1) (by omega) (by omega), dS (by omega) (by omega)]
    congr 1
    omega
  · simp only at hk
    have : ((2 ^ k.val : Nat) : Int) ≤ ((x.toNat : Nat) : Int) := by exact_mod_cast hk
    rw [Int.toNat_of_nonneg (by omega)] at this
    simpa using this

theorem DL {x m : Int} (hm : 0 < m) : Int.fdiv x m = x / m := Int.fdiv_eq_ediv_of_nonneg _ (by omega)

theorem TN {x n : Int} (h1 : 1 ≤ x) (h2 : x ≤ 65535) (hn : 0 ≤ n ∧ n ≤ 90) : ∃ k : Nat, kG x n = some (n + k + 1) ∧ k ≤ 15 ∧ (2 : Int) ^ k ≤ x := by
  unfold kG
  by_cases h : 256 ≤ x
  · have hd : Int.fdiv x (2 ^ (min (Int.toNat (8 : Int)) 64)) = x / 256 := by rw [show (2 ^ (min (Int.toNat (8 : Int)) 64) : Int) = 256 from by decide]; exact DL (by omega)
    obtain ⟨k, e, h3, h4⟩ := TF (x := x / 256) (n := n + 8) (by omega) (by omega) (by omega)
    refine ⟨k + 8, ?_, by omega, ?_⟩
    · simp only [h, decide_true, cond_true]
      rw [aM (by decide), hd, dS (n := n + 8) (by omega) (by omega), e]
      congr 1; omega
    · rw [Int.pow_add]; have : (2 : Int) ^ 8 = 256 := by decide
      rw [this]; omega
  · obtain ⟨k, e, h3, h4⟩ := TF (x := x) (n := n) h1 (by omega) (by omega)
    exact ⟨k, by simp only [h, decide_false, cond_false, e], by omega, h4⟩

theorem RQ {x n : Int} (h1 : 1 ≤ x) (h2 : x ≤ 4294967295) (hn : 0 ≤ n ∧ n ≤ 70) : ∃ k : Nat, kC x n = some (n + k + 1) ∧ k ≤ 31 ∧ (2 : Int) ^ k ≤ x := by
  unfold kC
  by_cases h : 65536 ≤ x
  · have hd : Int.fdiv x (2 ^ (min (Int.toNat (16 : Int)) 64)) = x / 65536 := by rw [show (2 ^ (min (Int.toNat (16 : Int)) 64) : Int) = 65536 from by decide]; exact DL (by omega)
    obtain ⟨k, e, h3, h4⟩ := TN (x := x / 65536) (n := n + 16) (by omega) (by omega) (by omega)
    refine ⟨k + 16, ?_, by omega, ?_⟩
    · simp only [h, decide_true, cond_true]
      rw [aM (by decide), hd, dS (n := n + 16) (by omega) (by omega), e]
      congr 1; omega
    · rw [Int.pow_add]; have : (2 : Int) ^ 16 = 65536 := by decide
      rw [this]; omega
  · obtain ⟨k, e, h3, h4⟩ := TN (x := x) (n := n) h1 (by omega) (by omega)
    exact ⟨k, by simp only [h, decide_false, cond_false, e], by omega, h4⟩

theorem SB {x : Int} (h1 : 1 ≤ x) (h2 : x ≤ 9223372036854775807) : ∃ k : Nat, jQ x = some ((k : Int) + 1) ∧ k ≤ 63 ∧ (2 : Int) ^ k ≤ x := by
  unfold jQ mT
  by_cases h : 4294967296 ≤ x
  · have hd : Int.fdiv x (2 ^ (min (Int.toNat (32 : Int)) 64)) = x / 4294967296 := by rw [show (2 ^ (min (Int.toNat (32 : Int)) 64) : Int) = 4294967296 from by decide]; exact DL (by omega)
    obtain ⟨k, e, h3, h4⟩ := RQ (x := x / 4294967296) (n := 32) (by omega) (by omega) (by omega)
    refine ⟨k + 32, ?_, by omega, ?_⟩
    · simp only [h, decide_true, cond_true]
      rw [aM (by decide), hd, e]
      simp only [Option.bind_some]
      congr 1; omega
    · rw [Int.pow_add]; have : (2 : Int) ^ 32 = 4294967296 := by decide
      rw [this]; omega
  · obtain ⟨k, e, h3, h4⟩ := RQ (x := x) (n := 0) h1 (by omega) (by omega)
    refine ⟨k, ?_, by omega, h4⟩
    simp only [h, decide_false, cond_false, e, Option.bind_some]
    congr 1; omega

theorem SM : bt CY 0 = 0 := by decide +kernel

theorem TV : jQ 0 = some 0 := by
  have h3 : kX 0 0 = some 0 := by
    show (aZ (0 ≤ (IntKind.u8.wrap 0) ∧ (IntKind.u8.wrap 0) < ((ByteArray.size CY : Nat) : Int)) <| some (IntKind.i64.wrap (0 + (IntKind.i64.wrap (bt CY (IntKind.u8.wrap 0)))))) = _
    rw [WL (by omega) (by omega), aM (by rw [IB]; omega), SM, dS (n := 0) (by omega) (by omega), dS (by omega) (by omega)]
    rfl
  have h2 : kG 0 0 = some 0 := h3
  have h1 : kC 0 0 = some 0 := h2
  unfold jQ mT
  have : decide ((4294967296 : Int) ≤ 0) = false := by decide
  rw [this, cond_false, h1]
  rfl

theorem VO {n : Nat} (h1 : 1 ≤ n) (h2 : n < 2305843009213693951) : ∃ m : Int, kK (n : Int) = some m ∧ 1 ≤ m ∧ m ≤ 2 * n := by
  unfold kK
  rw [AY (by omega) (by omega)]
  obtain ⟨k, e, h3, h4⟩ := SB (x := (n : Int)) (by omega) (by omega)
  have hk : (2 : Int) ^ (k + 1) = 2 * 2 ^ k := by rw [Int.pow_succ]; omega
  have hp : (1 : Int) ≤ 2 ^ k := by
    have : (0 : Int) < 2 ^ k := Int.pow_pos (by decide)
    omega
  rw [e]
  simp only [Option.bind_some]
  rw [aM (by omega), show min (Int.toNat ((k : Int) + 1)) 64 = k + 1 by omega, Int.one_mul, hk, AY (by omega) (by omega)]
  exact ⟨_, rfl, by omega, by omega⟩

theorem ZP (x : Int) {m : Int} (h0 : 0 ≤ m) (hm : m ≤ 9223372036854775807) : 0 ≤ bK .and .u64 x m ∧ bK .and .u64 x m ≤ m := by
  have h1 : (BitVec.ofInt IntKind.u64.bits x &&& BitVec.ofInt IntKind.u64.bits m).toNat ≤ m.toNat := by
    rw [BitVec.toNat_and]
    refine Nat.le_trans Nat.and_le_right ?_
    rw [BitVec.toNat_ofInt]
    have : IntKind.u64.bits = 64 := rfl
    rw [this]
    omega
  have h2 : bK .and .u64 x m = ((BitVec.ofInt IntKind.u64.bits x &&& BitVec.ofInt IntKind.u64.bits m).toNat : Int) := AY (by omega) (by omega)
  rw [h2]
  omega

theorem OZ (r : Int) : ∃ x, kS r = some x := by
  unfold kS
  rw [aM (by decide), aM (by decide), aM (by decide)]
  exact ⟨_, rfl⟩

theorem QK {lo i o : Nat} {d : List Int} (l r m : Int) (hi : i < d.length) (ho : lo + o < d.length) (hl : d.length < 2305843009213693951) :
    eH d (lo : Nat) l r m (i : Nat) (o : Nat) = some (.inl (swp d i (lo + o), r, ((i + 1 : Nat) : Int))) := by
  unfold eH
  rw [wrN (x := (lo : Int) + (o : Int)) (n := lo + o) (by omega) (by omega), wrN (n := i + 1) (by omega) (by omega)]
  simp only [Int.toNat_natCast]
  rw [aM (asN (by omega)), aM (asN (by omega)), aM (asN (by omega)), aM (asN (by omega))]
  rfl

theorem ZM {lo n : Nat} {m : Int} (hm : 1 ≤ m ∧ m ≤ 2 * n) (h8 : 8 ≤ n) : ∀ (q i : Nat) (r : Int) (d : List Int), lo + n / 4 * 2 + 2 - i = q → lo ≤ i → i ≤ lo + n / 4 * 2 + 2 → lo + n ≤ d.length → d.length < 2305843009213693951 →
    ∃ d', lp (fun s : List Int × Int × Int => cR (lo : Nat) (n : Nat) m s.1 s.2.1 s.2.2) (d, r, (i : Int)) = some d' ∧ Rel lo (lo + n) d d' := by
  have t4 : IntKind.i64.wrap (Int.tdiv (n : Int) 4) = ((n / 4 : Nat) : Int) ∨ 2305843009213693951 ≤ n := by
    by_cases h : n < 2305843009213693951
    · left
      have : Int.tdiv (n : Int) 4 = ((n / 4 : Nat) : Int) := by rw [Int.tdiv_eq_ediv_of_nonneg (by omega)]; omega
      rw [this]; exact wrN rfl (by omega)
    · right; omega
  intro q
  induction q with
  | zero =>
    intro i r d h1 h2 h3 h4 h5
    have t4 := t4.resolve_right (by omega)
    refine ⟨d, cV ?_, Rel.refl ..⟩
    show cR _ _ _ _ _ _ = _
    unfold cR
    rw [aM (by decide), t4, wrN (x := ((n / 4 : Nat) : Int) * 2) (n := n / 4 * 2) (by omega) (by omega), wrN (x := (lo : Int) + ((n / 4 * 2 : Nat) : Int)) (n := lo + n / 4 * 2) (by omega) (by omega), wrN (x := ((lo + n / 4 * 2 : Nat) : Int) + 1) (n := lo + n / 4 * 2 + 1) (by omega) (by omega)]
    have : decide (((i : Nat) : Int) ≤ ((lo + n / 4 * 2 + 1 : Nat) : Int)) = false := by simp; omega
    rw [this, cond_false]
  | succ q ih =>
    intro i r d h1 h2 h3 h4 h5
    have t4 := t4.resolve_right (by omega)
    obtain ⟨x, hx⟩ := OZ r
    obtain ⟨a1, a2⟩ := ZP x.1 (m := m - 1) (by omega) (by omega)
    have hd : decide (((i : Nat) : Int) ≤ ((lo + n / 4 * 2 + 1 : Nat) : Int)) = true := by simp; omega
    have step : ∃ o, o < n ∧ cR (lo : Nat) (n : Nat) m d r (i : Nat) = some (.inl (swp d i (lo + o), x.2, ((i + 1 : Nat) : Int))) := by
      unfold cR
      rw [aM (by decide), t4, wrN (x := ((n / 4 : Nat) : Int) * 2) (n := n / 4 * 2) (by omega) (by omega), wrN (x := (lo : Int) + ((n / 4 * 2 : Nat) : Int)) (n := lo + n / 4 * 2) (by omega) (by omega), wrN (x := ((lo + n / 4 * 2 : Nat) : Int) + 1) (n := lo + n / 4 * 2 + 1) (by omega) (by omega), hd, cond_true, hx]
      simp only [Option.bind_some]
      rw [AY (x := m - 1) (by omega) (by omega)]
      have e1 : IntKind.i64.wrap (bK .and .u64 x.1 (m - 1)) = (((bK .and .u64 x.1 (m - 1)).toNat : Nat) : Int) := wrN (by omega) (by omega)
      rw [e1]
      by_cases h : (n : Int) ≤ (((bK .and .u64 x.1 (m - 1)).toNat : Nat) : Int)
      · refine ⟨(bK .and .u64 x.1 (m - 1)).toNat - n, by omega, ?_⟩
        simp only [h, decide_true, cond_true]
        rw [wrN (x := (((bK .and .u64 x.1 (m - 1)).toNat : Nat) : Int) - (n : Int)) (n := (bK .and .u64 x.1 (m - 1)).toNat - n) (by omega) (by omega)]
        exact QK _ _ _ (by omega) (by omega) h5
      · refine ⟨(bK .and .u64 x.1 (m - 1)).toNat, by omega, ?_⟩
        simp only [h, decide_false, cond_false]
        exact QK _ _ _ (by omega) (by omega) h5
    obtain ⟨o, ho, hs⟩ := step
    obtain ⟨d', e, rl⟩ := ih (i + 1) x.2 (swp d i (lo + o)) (by omega) (by omega) (by omega) (by rw [gG]; exact h4) (by rw [gG]; exact h5)
    exact ⟨d', (gF (show (fun s : List Int × Int × Int => cR (lo : Nat) (n : Nat) m s.1 s.2.1 s.2.2) (d, r, (i : Int)) = _ from hs)).trans e, (Rel.swp (i := i) (j := lo + o) (by omega) (by omega) (by omega) (by omega)).trans rl⟩

theorem TM {lo hi : Nat} {d : List Int} (h8 : 8 ≤ hi - lo) (h1 : hi ≤ d.length) (h2 : d.length < 2305843009213693951) : ∃ d', fY d (lo : Int) (hi : Int) = some d' ∧ Rel lo hi d d' := by
  unfold fY
  have e1 : IntKind.i64.wrap ((hi : Int) - (lo : Int)) = ((hi - lo : Nat) : Int) := wrN (by omega) (by omega)
  have d1 : decide ((8 : Int) ≤ ((hi - lo : Nat) : Int)) = true := by simp; omega
  obtain ⟨m, em, m1, m2⟩ := VO (n := hi - lo) (by omega) (by omega)
  have t4 : IntKind.i64.wrap (Int.tdiv ((hi - lo : Nat) : Int) 4) = (((hi - lo) / 4 : Nat) : Int) := by
    have : Int.tdiv ((hi - lo : Nat) : Int) 4 = (((hi - lo) / 4 : Nat) : Int) := by rw [Int.tdiv_eq_ediv_of_nonneg (by omega)]; omega
    rw [this]; exact wrN rfl (by omega)
  rw [e1, d1, cond_true, em]
  simp only [Option.bind_some]
  rw [aM (by decide), t4, wrN (x := (((hi - lo) / 4 : Nat) : Int) * 2) (n := (hi - lo) / 4 * 2) (by omega) (by omega), wrN (x := (lo : Int) + (((hi - lo) / 4 * 2 : Nat) : Int)) (n := lo + (hi - lo) / 4 * 2) (by omega) (by omega), wrN (x := ((lo + (hi - lo) / 4 * 2 : Nat) : Int) - 1) (n := lo + (hi - lo) / 4 * 2 - 1) (by omega) (by omega)]
  unfold iL
  obtain ⟨d', e, r⟩ := ZM (lo := lo) (n := hi - lo) (m := m) ⟨m1, m2⟩ h8 (lo + (hi - lo) / 4 * 2 + 2 - (lo + (hi - lo) / 4 * 2 - 1)) (lo + (hi - lo) / 4 * 2 - 1) (IntKind.u64.wrap ((hi - lo : Nat) : Int)) d rfl (by omega) (by omega) (by omega) h2
  rw [e]
  have : lo + (hi - lo) = hi := by omega
  rw [this] at r
  exact ⟨d', rfl, r⟩

theorem TP {a b : Nat} {d : List Int} (s : Int) (ha : a < d.length) (hb : b < d.length) : ∃ (p q : Nat) (s' : Int), fJ d (a : Int) (b : Int) s = some (((p : Int), (q : Int)), s') ∧ ((p = a ∧ q = b) ∨ (p = b ∧ q = a)) := by
  unfold fJ
  rw [aM (asN hb), aM (asN ha), pK]
  simp only [Option.bind_some]
  cases decide (d.getD (Int.toNat (b : Int)) default < d.getD (Int.toNat (a : Int)) default)
  · exact ⟨a, b, _, rfl, .inl ⟨rfl, rfl⟩⟩
  · exact ⟨b, a, _, rfl, .inr ⟨rfl, rfl⟩⟩

theorem med {a b c : Nat} {d : List Int} (s : Int) (ha : a < d.length) (hb : b < d.length) (hc : c < d.length) : ∃ (p : Nat) (s' : Int), gW d (a : Int) (b : Int) (c : Int) s = some ((p : Int), s') ∧ (p = a ∨ p = b ∨ p = c) := by
  unfold gW
  obtain ⟨p1, q1, s1, e1, h1⟩ := TP s ha hb
  obtain ⟨p2, q2, s2, e2, h2⟩ := TP (a := q1) (b := c) (d := d) s1 (by omega) hc
  obtain ⟨p3, q3, s3, e3, h3⟩ := TP (a := p1) (b := p2) (d := d) s2 (by omega) (by omega)
  rw [e1]; simp only [Option.bind_some]
  rw [e2]; simp only [Option.bind_some]
  rw [e3]
  exact ⟨q3, s3, rfl, by omega⟩

theorem VL {a : Nat} {d : List Int} (s : Int) (h1 : 1 ≤ a) (ha : a + 1 < d.length) (hl : d.length < 2305843009213693951) : ∃ (p : Nat) (s' : Int), dM d (a : Int) s = some ((p : Int), s') ∧ a - 1 ≤ p ∧ p ≤ a + 1 := by
  unfold dM
  rw [wrN (x := (a : Int) - 1) (n := a - 1) (by omega) (by omega), wrN (x := (a : Int) + 1) (n := a + 1) (by omega) (by omega)]
  obtain ⟨p, s', e, h⟩ := med (a := a - 1) (b := a) (c := a + 1) (d := d) s (by omega) (by omega) (by omega)
  rw [e]
  exact ⟨p, s', rfl, by omega, by omega⟩

theorem WS (d : List Int) (s : Int) (j : Int) : ∃ h, eV d s j = some (j, h) := by
  unfold eV
  cases decide (s = 0) <;> cases decide (s = 12) <;> exact ⟨_, rfl⟩

theorem PO {lo hi : Nat} {d : List Int} (h8 : 12 < hi - lo) (h1 : hi ≤ d.length) (h2 : d.length < 2305843009213693951) : ∃ (p : Nat) (h : Int), gS d (lo : Int) (hi : Int) = some ((p : Int), h) ∧ lo ≤ p ∧ p < hi := by
  unfold gS
  have e1 : IntKind.i64.wrap ((hi : Int) - (lo : Int)) = ((hi - lo : Nat) : Int) := wrN (by omega) (by omega)
  have t4 : IntKind.i64.wrap (Int.tdiv ((hi - lo : Nat) : Int) 4) = (((hi - lo) / 4 : Nat) : Int) := by
    have : Int.tdiv ((hi - lo : Nat) : Int) 4 = (((hi - lo) / 4 : Nat) : Int) := by rw [Int.tdiv_eq_ediv_of_nonneg (by omega)]; omega
    rw [this]; exact wrN rfl (by omega)
  have d1 : decide ((8 : Int) ≤ ((hi - lo : Nat) : Int)) = true := by simp; omega
  have q1 : IntKind.i64.wrap ((lo : Int) + IntKind.i64.wrap ((((hi - lo) / 4 : Nat) : Int) * 1)) = ((lo + (hi - lo) / 4 : Nat) : Int) := by
    rw [wrN (x := (((hi - lo) / 4 : Nat) : Int) * 1) (n := (hi - lo) / 4) (by omega) (by omega)]; exact wrN (by omega) (by omega)
  have q2 : IntKind.i64.wrap ((lo : Int) + IntKind.i64.wrap ((((hi - lo) / 4 : Nat) : Int) * 2)) = ((lo + (hi - lo) / 4 * 2 : Nat) : Int) := by
    rw [wrN (x := (((hi - lo) / 4 : Nat) : Int) * 2) (n := (hi - lo) / 4 * 2) (by omega) (by omega)]; exact wrN (by omega) (by omega)
  have q3 : IntKind.i64.wrap ((lo : Int) + IntKind.i64.wrap ((((hi - lo) / 4 : Nat) : Int) * 3)) = ((lo + (hi - lo) / 4 * 3 : Nat) : Int) := by
    rw [wrN (x := (((hi - lo) / 4 : Nat) : Int) * 3) (n := (hi - lo) / 4 * 3) (by omega) (by omega)]; exact wrN (by omega) (by omega)
  rw [aM (by decide), aM (by decide), aM (by decide)]
  simp only [e1, t4, d1, q1, q2, q3, cond_true]
  by_cases h50 : (50 : Int) ≤ ((hi - lo : Nat) : Int)
  · simp only [h50, decide_true, cond_true]
    obtain ⟨p1, s1, f1, g1, g2⟩ := VL (a := lo + (hi - lo) / 4) (d := d) 0 (by omega) (by omega) h2
    obtain ⟨p2, s2, f2, g3, g4⟩ := VL (a := lo + (hi - lo) / 4 * 2) (d := d) s1 (by omega) (by omega) h2
    obtain ⟨p3, s3, f3, g5, g6⟩ := VL (a := lo + (hi - lo) / 4 * 3) (d := d) s2 (by omega) (by omega) h2
    obtain ⟨p4, s4, f4, g7⟩ := med (a := p1) (b := p2) (c := p3) (d := d) s3 (by omega) (by omega) (by omega)
    obtain ⟨h, f5⟩ := WS d s4 p4
    rw [f1]; simp only [Option.bind_some]
    rw [f2]; simp only [Option.bind_some]
    rw [f3]; simp only [Option.bind_some, eW]
    rw [f4]; simp only [Option.bind_some]
    exact ⟨p4, h, f5, by omega, by omega⟩
  · simp only [h50, decide_false, cond_false, eW]
    obtain ⟨p4, s4, f4, g7⟩ := med (a := lo + (hi - lo) / 4) (b := lo + (hi - lo) / 4 * 2) (c := lo + (hi - lo) / 4 * 3) (d := d) 0 (by omega) (by omega) (by omega)
    obtain ⟨h, f5⟩ := WS d s4 p4
    rw [f4]; simp only [Option.bind_some]
    exact ⟨p4, h, f5, by omega, by omega⟩

end Go.Abs
namespace Go.Abs
open Go
theorem GY {body : List Int × Int → Option ((List Int × Int) ⊕ (List Int × Int))} {d : List Int} {p : Nat → Prop} [DecidablePred p] {j : Nat}
    (hs : ∀ i, i ≤ j + 1 → body (d, (i : Int)) = if i ≤ j ∧ p i then some (.inl (d, ((i + 1 : Nat) : Int))) else some (.inr (d, (i : Int)))) :
    ∀ (n i : Nat), j + 1 - i = n → i ≤ j + 1 → ∃ i' : Nat, lp body (d, (i : Int)) = some (d, (i' : Int)) ∧ i ≤ i' ∧ i' ≤ j + 1 ∧ (∀ k, i ≤ k → k < i' → p k) ∧ (i' ≤ j → ¬ p i') := by
  intro n
  induction n with
  | zero =>
    intro i h1 h2
    have := hs i h2
    rw [if_neg (by omega)] at this
    exact ⟨i, cV this, Nat.le_refl _, h2, fun k a b => by omega, fun h => by omega⟩
  | succ n ih =>
    intro i h1 h2
    have h := hs i h2
    by_cases hp : p i
    · rw [if_pos ⟨by omega, hp⟩] at h
      obtain ⟨i', e, a1, a2, a3, a4⟩ := ih (i + 1) (by omega) (by omega)
      refine ⟨i', (gF h).trans e, by omega, a2, fun k b1 b2 => ?_, a4⟩
      by_cases hk : k = i
      · rw [hk]; exact hp
      · exact a3 k (by omega) b2
    · rw [if_neg fun hh => hp hh.2] at h
      exact ⟨i, cV h, Nat.le_refl _, h2, fun k a b => by omega, fun _ => hp⟩

theorem BT {body : List Int × Int → Option ((List Int × Int) ⊕ (List Int × Int))} {d : List Int} {p : Nat → Prop} [DecidablePred p] {i m : Nat} (hi : 1 ≤ i)
    (hs : ∀ j, j ≤ m → body (d, (j : Int)) = if i ≤ j ∧ p j then some (.inl (d, ((j - 1 : Nat) : Int))) else some (.inr (d, (j : Int)))) :
    ∀ (j : Nat), j ≤ m → i ≤ j + 1 → ∃ j' : Nat, lp body (d, (j : Int)) = some (d, (j' : Int)) ∧ i ≤ j' + 1 ∧ j' ≤ j ∧ (∀ k, j' < k → k ≤ j → p k) ∧ (i ≤ j' → ¬ p j') := by
  intro j
  induction j with
  | zero =>
    intro h1 h2
    have := hs 0 h1
    rw [if_neg (by omega)] at this
    exact ⟨0, cV this, by omega, Nat.le_refl _, fun k a b => by omega, fun h => by omega⟩
  | succ j ih =>
    intro h1 h2
    have h := hs (j + 1) h1
    by_cases hp : i ≤ j + 1 ∧ p (j + 1)
    · rw [if_pos hp] at h
      obtain ⟨j', e, a1, a2, a3, a4⟩ := ih (by omega) (by omega)
      refine ⟨j', (gF h).trans e, a1, by omega, fun k b1 b2 => ?_, a4⟩
      by_cases hk : k = j + 1
      · rw [hk]; exact hp.2
      · exact a3 k b1 (by omega)
    · rw [if_neg hp] at h
      exact ⟨j + 1, cV h, by omega, Nat.le_refl _, fun k a b => by omega, fun h1 h2 => hp ⟨h1, h2⟩⟩

theorem NH {α : Type} {i j u v : Nat} {d : List Int} {n : Bool} {x y : Option α} (hu : i ≤ j → u < d.length) (hv : i ≤ j → v < d.length) :
    (aZ ((decide ((i : Int) ≤ (j : Int))) = true → 0 ≤ (u : Int) ∧ (u : Int) < ((List.length d : Nat) : Int)) <|
    aZ ((decide ((i : Int) ≤ (j : Int))) = true → 0 ≤ (v : Int) ∧ (v : Int) < ((List.length d : Nat) : Int)) <|
    (dJ (decide ((i : Int) ≤ (j : Int))) (cN (List.getD d (Int.toNat (u : Int)) default) (List.getD d (Int.toNat (v : Int)) default))).bind fun z =>
    cond ((decide ((i : Int) ≤ (j : Int))) && (Bool.xor n z)) x y) = if i ≤ j ∧ (Bool.xor n (decide (gN d u < gN d v))) = true then x else y := by
  by_cases h : i ≤ j
  · have hd : decide ((i : Int) ≤ (j : Int)) = true := by simp; omega
    rw [hd]
    rw [aM fun _ => asN (hu h), aM fun _ => asN (hv h)]
    simp only [dJ, cond_true, pK, Option.bind_some, Bool.true_and, Int.toNat_natCast, h, true_and, gN]
    cases Bool.xor n (decide (d.getD u default < d.getD v default)) <;> simp
  · have hd : decide ((i : Int) ≤ (j : Int)) = false := by simp; omega
    rw [hd, aM (fun h => by cases h), aM (fun h => by cases h)]
    simp [dJ, h]

theorem DA {α : Type} {i j u v : Nat} {d : List Int} {x y : Option α} (hu : i ≤ j → u < d.length) (hv : i ≤ j → v < d.length) :
    (aZ ((decide ((i : Int) ≤ (j : Int))) = true → 0 ≤ (u : Int) ∧ (u : Int) < ((List.length d : Nat) : Int)) <|
    aZ ((decide ((i : Int) ≤ (j : Int))) = true → 0 ≤ (v : Int) ∧ (v : Int) < ((List.length d : Nat) : Int)) <|
    (dJ (decide ((i : Int) ≤ (j : Int))) (cN (List.getD d (Int.toNat (u : Int)) default) (List.getD d (Int.toNat (v : Int)) default))).bind fun z =>
    cond ((decide ((i : Int) ≤ (j : Int))) && z) x y) = if i ≤ j ∧ gN d u < gN d v then x else y := by
  have := NH (n := false) (x := x) (y := y) hu hv
  simp only [Bool.false_xor] at this
  exact this.trans (by simp)

theorem DN {α : Type} {i j u v : Nat} {d : List Int} {x y : Option α} (hu : i ≤ j → u < d.length) (hv : i ≤ j → v < d.length) :
    (aZ ((decide ((i : Int) ≤ (j : Int))) = true → 0 ≤ (u : Int) ∧ (u : Int) < ((List.length d : Nat) : Int)) <|
    aZ ((decide ((i : Int) ≤ (j : Int))) = true → 0 ≤ (v : Int) ∧ (v : Int) < ((List.length d : Nat) : Int)) <|
    (dJ (decide ((i : Int) ≤ (j : Int))) (cN (List.getD d (Int.toNat (u : Int)) default) (List.getD d (Int.toNat (v : Int)) default))).bind fun z =>
    cond ((decide ((i : Int) ≤ (j : Int))) && (!z)) x y) = if i ≤ j ∧ ¬ gN d u < gN d v then x else y := by
  have := NH (n := true) (x := x) (y := y) hu hv
  simp only [Bool.true_xor] at this
  exact this.trans (by simp)

theorem XL {a j : Nat} {d : List Int} (ha : a < d.length) (hj : j < d.length) (hl : d.length < 2305843009213693951) : ∀ i, i ≤ j + 1 → dX (a : Nat) (j : Nat) d (i : Nat) = if i ≤ j ∧ gN d i < gN d a then some (.inl (d, ((i + 1 : Nat) : Int))) else some (.inr (d, (i : Int))) := by
  intro i hi
  unfold dX
  rw [wrN (x := (i : Int) + 1) (n := i + 1) (by omega) (by omega)]
  exact DA (u := i) (v := a) (by omega) (by omega)

theorem TU {a j : Nat} {d : List Int} (ha : a < d.length) (hj : j < d.length) (hl : d.length < 2305843009213693951) : ∀ i, i ≤ j + 1 → eG (a : Nat) (j : Nat) d (i : Nat) = if i ≤ j ∧ gN d i < gN d a then some (.inl (d, ((i + 1 : Nat) : Int))) else some (.inr (d, (i : Int))) := by
  intro i hi
  unfold eG
  rw [wrN (x := (i : Int) + 1) (n := i + 1) (by omega) (by omega)]
  exact DA (u := i) (v := a) (by omega) (by omega)

theorem TG {a i m : Nat} {d : List Int} (hi : 1 ≤ i) (ha : a < d.length) (hm : m < d.length) (hl : d.length < 2305843009213693951) : ∀ j, j ≤ m → eB (a : Nat) (i : Nat) d (j : Nat) = if i ≤ j ∧ ¬ gN d j < gN d a then some (.inl (d, ((j - 1 : Nat) : Int))) else some (.inr (d, (j : Int))) := by
  intro j hj
  unfold eB
  refine (DN (i := i) (j := j) (d := d) (α := (List Int × Int) ⊕ (List Int × Int)) (u := j) (v := a) (x := some (.inl (d, IntKind.i64.wrap ((j : Int) - 1)))) (y := some (.inr (d, (j : Int)))) (by omega) (by omega)).trans ?_
  by_cases h : i ≤ j ∧ ¬ gN d j < gN d a
  · rw [if_pos h, if_pos h, wrN (x := (j : Int) - 1) (n := j - 1) (by omega) (by omega)]
  · rw [if_neg h, if_neg h]

theorem PB {a i m : Nat} {d : List Int} (hi : 1 ≤ i) (ha : a < d.length) (hm : m < d.length) (hl : d.length < 2305843009213693951) : ∀ j, j ≤ m → eD (a : Nat) (i : Nat) d (j : Nat) = if i ≤ j ∧ ¬ gN d j < gN d a then some (.inl (d, ((j - 1 : Nat) : Int))) else some (.inr (d, (j : Int))) := by
  intro j hj
  unfold eD
  refine (DN (i := i) (j := j) (d := d) (α := (List Int × Int) ⊕ (List Int × Int)) (u := j) (v := a) (x := some (.inl (d, IntKind.i64.wrap ((j : Int) - 1)))) (y := some (.inr (d, (j : Int)))) (by omega) (by omega)).trans ?_
  by_cases h : i ≤ j ∧ ¬ gN d j < gN d a
  · rw [if_pos h, if_pos h, wrN (x := (j : Int) - 1) (n := j - 1) (by omega) (by omega)]
  · rw [if_neg h, if_neg h]

theorem VV {a j : Nat} {d : List Int} (ha : a < d.length) (hj : j < d.length) (hl : d.length < 2305843009213693951) : ∀ i, i ≤ j + 1 → dH (a : Nat) (j : Nat) d (i : Nat) = if i ≤ j ∧ ¬ gN d a < gN d i then some (.inl (d, ((i + 1 : Nat) : Int))) else some (.inr (d, (i : Int))) := by
  intro i hi
  unfold dH
  rw [wrN (x := (i : Int) + 1) (n := i + 1) (by omega) (by omega)]
  exact DN (u := a) (v := i) (by omega) (by omega)

theorem PD {a i m : Nat} {d : List Int} (hi : 1 ≤ i) (ha : a < d.length) (hm : m < d.length) (hl : d.length < 2305843009213693951) : ∀ j, j ≤ m → dD (a : Nat) (i : Nat) d (j : Nat) = if i ≤ j ∧ gN d a < gN d j then some (.inl (d, ((j - 1 : Nat) : Int))) else some (.inr (d, (j : Int))) := by
  intro j hj
  unfold dD
  refine (DA (i := i) (j := j) (d := d) (α := (List Int × Int) ⊕ (List Int × Int)) (u := a) (v := j) (x := some (.inl (d, IntKind.i64.wrap ((j : Int) - 1)))) (y := some (.inr (d, (j : Int)))) (by omega) (by omega)).trans ?_
  by_cases h : i ≤ j ∧ gN d a < gN d j
  · rw [if_pos h, if_pos h, wrN (x := (j : Int) - 1) (n := j - 1) (by omega) (by omega)]
  · rw [if_neg h, if_neg h]

structure vP (a b i j : Nat) (d : List Int) : Prop where
  hi : a < i
  hij : i ≤ j + 1
  hj : j < b
  lo : ∀ k, a < k → k < i → gN d k < gN d a
  up : ∀ k, j < k → k < b → gN d a ≤ gN d k

theorem vP.swap {a b i j : Nat} {d : List Int} (h : vP a b i j d) (hb : b ≤ d.length) (hij : i < j) (h1 : gN d a ≤ gN d i) (h2 : gN d j < gN d a) : vP a b (i + 1) (j - 1) (swp d i j) := by
  have := h.hi; have := h.hj
  have g := qA (d := d) (i := i) (j := j) (by omega) (by omega)
  have ga : gN (swp d i j) a = gN d a := by rw [g, if_neg (by omega), if_neg (by omega)]
  refine ⟨by omega, by omega, by omega, fun k k1 k2 => ?_, fun k k1 k2 => ?_⟩
  · rw [ga, g, if_neg (by omega)]
    by_cases hk : k = i
    · rw [if_pos hk]; exact h2
    · rw [if_neg hk]; exact h.lo k k1 (by omega)
  · rw [ga, g]
    by_cases hk : k = j
    · rw [if_pos hk]; exact h1
    · rw [if_neg hk, if_neg (by omega)]; exact h.up k (by omega) k2

theorem FD {a b i j : Nat} {d : List Int} (h : vP a b i j d) (hb : b ≤ d.length) (hl : d.length < 2305843009213693951) : ∃ i' j' : Nat, vP a b i' j' d ∧ i ≤ i' ∧ j' ≤ j ∧ (j' < i' → j' + 1 = i') ∧ (i' ≤ j' → i' < j' ∧ gN d a ≤ gN d i' ∧ gN d j' < gN d a) ∧
    cZ (a : Nat) d (i : Nat) (j : Nat) = eC d (a : Nat) (i' : Nat) (j' : Nat) ∧ fC d (a : Nat) (i : Nat) (j : Nat) = eA d (a : Nat) (i' : Nat) (j' : Nat) := by
  have h1 := h.hi; have h2 := h.hij; have h3 := h.hj
  obtain ⟨i', e1, a1, a2, a3, a4⟩ := GY (body := fun s => eG (a : Nat) (j : Nat) s.1 s.2) (d := d) (p := fun k => gN d k < gN d a) (j := j) (TU (a := a) (j := j) (d := d) (by omega) (by omega) hl) (j + 1 - i) i rfl h2
  obtain ⟨i2, e1', b1, b2, b3, b4⟩ := GY (body := fun s => dX (a : Nat) (j : Nat) s.1 s.2) (d := d) (p := fun k => gN d k < gN d a) (j := j) (XL (a := a) (j := j) (d := d) (by omega) (by omega) hl) (j + 1 - i) i rfl h2
  have hii : i2 = i' := by
    rcases Nat.lt_trichotomy i2 i' with hh | hh | hh
    · exact absurd (a3 i2 b1 hh) (b4 (by omega))
    · exact hh
    · exact absurd (b3 i' a1 hh) (a4 (by omega))
  subst hii
  obtain ⟨j', f1, c1, c2, c3, c4⟩ := BT (body := fun s => eD (a : Nat) (i2 : Nat) s.1 s.2) (d := d) (p := fun k => ¬ gN d k < gN d a) (i := i2) (m := j) (by omega) (PB (a := a) (i := i2) (m := j) (d := d) (by omega) (by omega) (by omega) hl) j (Nat.le_refl _) a2
  obtain ⟨j2, f1', g1, g2, g3, g4⟩ := BT (body := fun s => eB (a : Nat) (i2 : Nat) s.1 s.2) (d := d) (p := fun k => ¬ gN d k < gN d a) (i := i2) (m := j) (by omega) (TG (a := a) (i := i2) (m := j) (d := d) (by omega) (by omega) (by omega) hl) j (Nat.le_refl _) a2
  have hjj : j2 = j' := by
    rcases Nat.lt_trichotomy j2 j' with hh | hh | hh
    · exact absurd (g3 j' hh c2) (c4 (by omega))
    · exact hh
    · exact absurd (c3 j2 hh g2) (g4 (by omega))
  subst hjj
  have hend : i2 ≤ j2 → i2 < j2 ∧ gN d a ≤ gN d i2 ∧ gN d j2 < gN d a := fun hh => by
    have k1 : ¬ gN d i2 < gN d a := a4 (by omega)
    have k2 : gN d j2 < gN d a := Classical.byContradiction fun hn => c4 hh hn
    refine ⟨?_, by omega, k2⟩
    rcases Nat.lt_or_ge i2 j2 with h | h
    · exact h
    · have : i2 = j2 := by omega
      rw [this] at k1; exact absurd k2 k1
  refine ⟨i2, j2, ⟨by omega, by omega, by omega, fun k k1 k2 => ?_, fun k k1 k2 => ?_⟩, a1, c2, fun hh => by omega, hend, ?_, ?_⟩
  · by_cases hk : k < i
    · exact h.lo k k1 hk
    · exact a3 k (by omega) k2
  · by_cases hk : j < k
    · exact h.up k hk k2
    · have := c3 k k1 (by omega); omega
  · unfold cZ jI
    rw [show lp (fun s : List Int × Int => eG (a : Nat) (j : Nat) s.1 s.2) (d, (i : Int)) = some (d, (i2 : Int)) from e1]
    simp only [Option.bind_some]
    unfold gX jL
    rw [show lp (fun s : List Int × Int => eD (a : Nat) (i2 : Nat) s.1 s.2) (d, (j : Int)) = some (d, (j2 : Int)) from f1]
    rfl
  · unfold fC
    rw [show lp (fun s : List Int × Int => dX (a : Nat) (j : Nat) s.1 s.2) (d, (i : Int)) = some (d, (i2 : Int)) from e1']
    simp only [Option.bind_some]
    unfold gY jK
    rw [show lp (fun s : List Int × Int => eB (a : Nat) (i2 : Nat) s.1 s.2) (d, (j : Int)) = some (d, (j2 : Int)) from f1']
    rfl

theorem vP.rel {a b i j : Nat} {d : List Int} (h : vP a b i j d) (hb : b ≤ d.length) (hij : i ≤ j) : Rel (a + 1) b d (swp d i j) := by
  have := h.hi; have := h.hj
  exact Rel.swp (i := i) (j := j) (by omega) (by omega) (by omega) (by omega)

theorem XU {a b : Nat} : ∀ (n i j : Nat) (d : List Int), j + 1 - i = n → b ≤ d.length → d.length < 2305843009213693951 → vP a b i j d →
    ∃ (d' : List Int) (j' : Nat), lp (fun s : List Int × Int × Int => cZ (a : Nat) s.1 s.2.1 s.2.2) (d, (i : Int), (j : Int)) = some (d', (j' : Int)) ∧ Rel (a + 1) b d d' ∧ vP a b (j' + 1) j' d' := by
  intro n
  induction n using Nat.strongRecOn with
  | ind n ih =>
    intro i j d h1 h2 h3 h
    obtain ⟨i', j', p1, p2, p3, p4, p5, p6, _⟩ := FD h h2 h3
    have q1 := p1.hi; have q2 := p1.hj; have q3 := p1.hij
    by_cases hlt : j' < i'
    · have hs : cZ (a : Nat) d (i : Nat) (j : Nat) = some (.inr (d, (j' : Int))) := by
        rw [p6]
        unfold eC
        have : decide ((j' : Int) < (i' : Int)) = true := by simp; omega
        rw [this, cond_true]
      have := p4 hlt
      exact ⟨d, j', cV hs, Rel.refl .., by rw [this]; exact p1⟩
    · obtain ⟨k1, k2, k3⟩ := p5 (by omega)
      have hs : cZ (a : Nat) d (i : Nat) (j : Nat) = some (.inl (swp d i' j', ((i' + 1 : Nat) : Int), ((j' - 1 : Nat) : Int))) := by
        rw [p6]
        unfold eC
        have : decide ((j' : Int) < (i' : Int)) = false := by simp; omega
        rw [this, cond_false]
        simp only [Int.toNat_natCast]
        rw [aM (asN (by omega)), aM (asN (by omega)), aM (asN (by omega)), aM (asN (by omega)), wrN (x := (i' : Int) + 1) (n := i' + 1) (by omega) (by omega), wrN (x := (j' : Int) - 1) (n := j' - 1) (by omega) (by omega)]
        rfl
      obtain ⟨d', j2, e, r, p⟩ := ih (j' - 1 + 1 - (i' + 1)) (by omega) (i' + 1) (j' - 1) (swp d i' j') rfl (by rw [gG]; exact h2) (by rw [gG]; exact h3) (p1.swap h2 k1 k2 k3)
      exact ⟨d', j2, (gF hs).trans e, (p1.rel h2 (by omega)).trans r, p⟩

theorem JO {a b j : Nat} {d : List Int} (h : vP a b (j + 1) j d) (hb : b ≤ d.length) : Rel a b d (swp d j a) ∧ (∀ k, a ≤ k → k < j → gN (swp d j a) k ≤ gN (swp d j a) j) ∧ (∀ k, j < k → k < b → gN (swp d j a) j ≤ gN (swp d j a) k) := by
  have h1 := h.hi; have h3 := h.hj
  have g := qA (d := d) (i := j) (j := a) (by omega) (by omega)
  have gj : gN (swp d j a) j = gN d a := by
    rw [g]
    by_cases hh : j = a
    · rw [if_pos hh, hh]
    · rw [if_neg hh, if_pos rfl]
  refine ⟨Rel.swp (i := j) (j := a) (by omega) (by omega) (by omega) (by omega), fun k k1 k2 => ?_, fun k k1 k2 => ?_⟩
  · rw [gj, g]
    by_cases hk : k = a
    · rw [if_pos hk]
      have := h.lo j (by omega) (by omega); omega
    · rw [if_neg hk, if_neg (by omega)]
      have := h.lo k (by omega) (by omega); omega
  · rw [gj, g, if_neg (by omega), if_neg (by omega)]
    exact h.up k k1 k2

theorem JR {lo hi p : Nat} {d : List Int} (h0 : lo < hi) (hb : hi ≤ d.length) (hl : d.length < 2305843009213693951) (hp : lo ≤ p ∧ p < hi) :
    ∃ (m : Nat) (fl : Bool) (d' : List Int), fT d (lo : Int) (hi : Int) (p : Int) = some (((m : Int), fl), d') ∧ lo ≤ m ∧ m < hi ∧ Rel lo hi d d' ∧ (∀ k, lo ≤ k → k < m → gN d' k ≤ gN d' m) ∧ (∀ k, m < k → k < hi → gN d' m ≤ gN d' k) := by
  unfold fT
  rw [aM (asN (by omega)), aM (asN (by omega)), aM (asN (by omega)), aM (asN (by omega)), wrN (x := (lo : Int) + 1) (n := lo + 1) (by omega) (by omega), wrN (x := (hi : Int) - 1) (n := hi - 1) (by omega) (by omega)]
  simp only [Int.toNat_natCast]
  have r0 : Rel lo hi d (swp d lo p) := Rel.swp (i := lo) (j := p) (by omega) (by omega) (by omega) (by omega)
  have l0 : (swp d lo p).length = d.length := gG ..
  have inv : vP lo hi (lo + 1) (hi - 1) (swp d lo p) := ⟨by omega, by omega, by omega, fun k k1 k2 => by omega, fun k k1 k2 => by omega⟩
  obtain ⟨i', j', p1, p2, p3, p4, p5, _, p6⟩ := FD inv (by rw [l0]; exact hb) (by rw [l0]; exact hl)
  have e0 : fC (List.set (List.set d lo (List.getD d p default)) p (List.getD d lo default)) (lo : Int) ((lo + 1 : Nat) : Int) ((hi - 1 : Nat) : Int) = eA (swp d lo p) (lo : Nat) (i' : Nat) (j' : Nat) := p6
  rw [e0]
  have q1 := p1.hi; have q2 := p1.hj; have q3 := p1.hij
  generalize hg : swp d lo p = d1 at *
  unfold eA
  by_cases hlt : j' < i'
  · have : decide ((j' : Int) < (i' : Int)) = true := by simp; omega
    rw [this, cond_true]
    simp only [Int.toNat_natCast]
    rw [aM (asN (by omega)), aM (asN (by omega)), aM (asN (by omega)), aM (asN (by omega))]
    have hp1 : vP lo hi (j' + 1) j' d1 := by rw [p4 hlt]; exact p1
    obtain ⟨r, a1, a2⟩ := JO hp1 (by omega)
    exact ⟨j', true, swp d1 j' lo, rfl, by omega, by omega, r0.trans r, a1, a2⟩
  · obtain ⟨k1, k2, k3⟩ := p5 (by omega)
    have : decide ((j' : Int) < (i' : Int)) = false := by simp; omega
    rw [this, cond_false]
    simp only [Int.toNat_natCast]
    rw [aM (asN (by omega)), aM (asN (by omega)), aM (asN (by omega)), aM (asN (by omega)), wrN (x := (i' : Int) + 1) (n := i' + 1) (by omega) (by omega), wrN (x := (j' : Int) - 1) (n := j' - 1) (by omega) (by omega)]
    obtain ⟨d2, j2, e, r, pp⟩ := XU (a := lo) (b := hi) (j' - 1 + 1 - (i' + 1)) (i' + 1) (j' - 1) (swp d1 i' j') rfl (by rw [gG]; omega) (by rw [gG]; omega) (p1.swap (by omega) k1 k2 k3)
    have w1 := pp.hi; have w2 := pp.hj
    have l2 : d2.length = d1.length := by rw [r.len, gG]
    unfold jJ
    rw [show lp (fun s : List Int × Int × Int => cZ (lo : Int) s.1 s.2.1 s.2.2) ((List.set (List.set d1 i' (List.getD d1 j' default)) j' (List.getD d1 i' default)), ((i' + 1 : Nat) : Int), ((j' - 1 : Nat) : Int)) = some (d2, (j2 : Int)) from e]
    simp only [Option.bind_some, hM, Int.toNat_natCast]
    rw [aM (asN (by omega)), aM (asN (by omega)), aM (asN (by omega)), aM (asN (by omega))]
    obtain ⟨rr, a1, a2⟩ := JO pp (by omega)
    exact ⟨j2, false, swp d2 j2 lo, rfl, by omega, by omega, ((r0.trans ((p1.rel (by omega) (by omega)).mono (by omega) (Nat.le_refl _))).trans (r.mono (by omega) (Nat.le_refl _))).trans rr, a1, a2⟩

end Go.Abs
namespace Go.Abs
open Go
structure AF (a b i j : Nat) (d : List Int) : Prop where
  hi : a < i
  hij : i ≤ j + 1
  hj : j < b
  lo : ∀ k, a < k → k < i → gN d k ≤ gN d a
  up : ∀ k, j < k → k < b → gN d a < gN d k

theorem AF.swap {a b i j : Nat} {d : List Int} (h : AF a b i j d) (hb : b ≤ d.length) (hij : i < j) (h1 : gN d a < gN d i) (h2 : gN d j ≤ gN d a) : AF a b (i + 1) (j - 1) (swp d i j) := by
  have := h.hi; have := h.hj
  have g := qA (d := d) (i := i) (j := j) (by omega) (by omega)
  have ga : gN (swp d i j) a = gN d a := by rw [g, if_neg (by omega), if_neg (by omega)]
  refine ⟨by omega, by omega, by omega, fun k k1 k2 => ?_, fun k k1 k2 => ?_⟩
  · rw [ga, g, if_neg (by omega)]
    by_cases hk : k = i
    · rw [if_pos hk]; exact h2
    · rw [if_neg hk]; exact h.lo k k1 (by omega)
  · rw [ga, g]
    by_cases hk : k = j
    · rw [if_pos hk]; exact h1
    · rw [if_neg hk, if_neg (by omega)]; exact h.up k (by omega) k2

theorem MS {a b i j : Nat} {d : List Int} (h : AF a b i j d) (hb : b ≤ d.length) (hl : d.length < 2305843009213693951) : ∃ i' j' : Nat, AF a b i' j' d ∧ i ≤ i' ∧ j' ≤ j ∧ (j' < i' → j' + 1 = i') ∧ (i' ≤ j' → i' < j' ∧ gN d a < gN d i' ∧ gN d j' ≤ gN d a) ∧
    cO (a : Nat) d (i : Nat) (j : Nat) = dF d (a : Nat) (i' : Nat) (j' : Nat) := by
  have h1 := h.hi; have h2 := h.hij; have h3 := h.hj
  obtain ⟨i', e1, a1, a2, a3, a4⟩ := GY (body := fun s => dH (a : Nat) (j : Nat) s.1 s.2) (d := d) (p := fun k => ¬ gN d a < gN d k) (j := j) (VV (a := a) (j := j) (d := d) (by omega) (by omega) hl) (j + 1 - i) i rfl h2
  obtain ⟨j', f1, c1, c2, c3, c4⟩ := BT (body := fun s => dD (a : Nat) (i' : Nat) s.1 s.2) (d := d) (p := fun k => gN d a < gN d k) (i := i') (m := j) (by omega) (PD (a := a) (i := i') (m := j) (d := d) (by omega) (by omega) (by omega) hl) j (Nat.le_refl _) a2
  have hend : i' ≤ j' → i' < j' ∧ gN d a < gN d i' ∧ gN d j' ≤ gN d a := fun hh => by
    have k1 : gN d a < gN d i' := Classical.byContradiction fun hn => a4 (by omega) hn
    have k2 : ¬ gN d a < gN d j' := c4 hh
    refine ⟨?_, k1, by omega⟩
    rcases Nat.lt_or_ge i' j' with h | h
    · exact h
    · have : i' = j' := by omega
      rw [this] at k1; exact absurd k1 k2
  refine ⟨i', j', ⟨by omega, by omega, by omega, fun k k1 k2 => ?_, fun k k1 k2 => ?_⟩, a1, c2, fun hh => by omega, hend, ?_⟩
  · by_cases hk : k < i
    · exact h.lo k k1 hk
    · have := a3 k (by omega) k2; omega
  · by_cases hk : j < k
    · exact h.up k hk k2
    · exact c3 k k1 (by omega)
  · unfold cO iE
    rw [show lp (fun s : List Int × Int => dH (a : Nat) (j : Nat) s.1 s.2) (d, (i : Int)) = some (d, (i' : Int)) from e1]
    simp only [Option.bind_some]
    unfold fI iD
    rw [show lp (fun s : List Int × Int => dD (a : Nat) (i' : Nat) s.1 s.2) (d, (j : Int)) = some (d, (j' : Int)) from f1]
    rfl

theorem UR {a b : Nat} : ∀ (n i j : Nat) (d : List Int), j + 1 - i = n → b ≤ d.length → d.length < 2305843009213693951 → AF a b i j d →
    ∃ (d' : List Int) (j' : Nat), lp (fun s : List Int × Int × Int => cO (a : Nat) s.1 s.2.1 s.2.2) (d, (i : Int), (j : Int)) = some (d', ((j' + 1 : Nat) : Int)) ∧ Rel (a + 1) b d d' ∧ AF a b (j' + 1) j' d' := by
  intro n
  induction n using Nat.strongRecOn with
  | ind n ih =>
    intro i j d h1 h2 h3 h
    obtain ⟨i', j', p1, p2, p3, p4, p5, p6⟩ := MS h h2 h3
    have q1 := p1.hi; have q2 := p1.hj; have q3 := p1.hij
    by_cases hlt : j' < i'
    · have hs : cO (a : Nat) d (i : Nat) (j : Nat) = some (.inr (d, (i' : Int))) := by
        rw [p6]
        unfold dF
        have : decide ((j' : Int) < (i' : Int)) = true := by simp; omega
        rw [this, cond_true]
      have := p4 hlt
      exact ⟨d, j', by rw [this]; exact cV hs, Rel.refl .., by rw [this]; exact p1⟩
    · obtain ⟨k1, k2, k3⟩ := p5 (by omega)
      have hs : cO (a : Nat) d (i : Nat) (j : Nat) = some (.inl (swp d i' j', ((i' + 1 : Nat) : Int), ((j' - 1 : Nat) : Int))) := by
        rw [p6]
        unfold dF
        have : decide ((j' : Int) < (i' : Int)) = false := by simp; omega
        rw [this, cond_false]
        simp only [Int.toNat_natCast]
        rw [aM (asN (by omega)), aM (asN (by omega)), aM (asN (by omega)), aM (asN (by omega)), wrN (x := (i' : Int) + 1) (n := i' + 1) (by omega) (by omega), wrN (x := (j' : Int) - 1) (n := j' - 1) (by omega) (by omega)]
        rfl
      obtain ⟨d', j2, e, r, p⟩ := ih (j' - 1 + 1 - (i' + 1)) (by omega) (i' + 1) (j' - 1) (swp d i' j') rfl (by rw [gG]; exact h2) (by rw [gG]; exact h3) (p1.swap h2 k1 k2 k3)
      exact ⟨d', j2, (gF hs).trans e, (Rel.swp (i := i') (j := j') (by omega) (by omega) (by omega) (by omega)).trans r, p⟩

theorem IY {lo hi p : Nat} {d : List Int} (h0 : lo < hi) (hb : hi ≤ d.length) (hl : d.length < 2305843009213693951) (hp : lo ≤ p ∧ p < hi) :
    ∃ (m : Nat) (d' : List Int), eJ d (lo : Int) (hi : Int) (p : Int) = some ((m : Int), d') ∧ lo < m ∧ m ≤ hi ∧ Rel lo hi d d' ∧ (∀ k, lo ≤ k → k < m → gN d' k ≤ gN d p) ∧ (∀ k, m ≤ k → k < hi → gN d p < gN d' k) := by
  unfold eJ
  rw [aM (asN (by omega)), aM (asN (by omega)), aM (asN (by omega)), aM (asN (by omega)), wrN (x := (lo : Int) + 1) (n := lo + 1) (by omega) (by omega), wrN (x := (hi : Int) - 1) (n := hi - 1) (by omega) (by omega)]
  simp only [Int.toNat_natCast]
  have r0 : Rel lo hi d (swp d lo p) := Rel.swp (i := lo) (j := p) (by omega) (by omega) (by omega) (by omega)
  have l0 : (swp d lo p).length = d.length := gG ..
  have g := qA (d := d) (i := lo) (j := p) (by omega) (by omega)
  have g0 : gN (swp d lo p) lo = gN d p := by
    rw [g]
    by_cases hh : lo = p
    · rw [if_pos hh, hh]
    · rw [if_neg hh, if_pos rfl]
  have inv : AF lo hi (lo + 1) (hi - 1) (swp d lo p) := ⟨by omega, by omega, by omega, fun k k1 k2 => by omega, fun k k1 k2 => by omega⟩
  obtain ⟨d', j', e, r, pp⟩ := UR (a := lo) (b := hi) (hi - 1 + 1 - (lo + 1)) (lo + 1) (hi - 1) (swp d lo p) rfl (by rw [l0]; exact hb) (by rw [l0]; exact hl) inv
  have w1 := pp.hi; have w2 := pp.hj
  have ga : gN d' lo = gN d p := by rw [r.out lo (by omega), g0]
  unfold iH
  rw [show lp (fun s : List Int × Int × Int => cO (lo : Int) s.1 s.2.1 s.2.2) ((List.set (List.set d lo (List.getD d p default)) p (List.getD d lo default)), ((lo + 1 : Nat) : Int), ((hi - 1 : Nat) : Int)) = some (d', ((j' + 1 : Nat) : Int)) from e]
  refine ⟨j' + 1, d', rfl, by omega, by omega, r0.trans (r.mono (by omega) (Nat.le_refl _)), fun k k1 k2 => ?_, fun k k1 k2 => ?_⟩
  · rw [← ga]
    by_cases hk : k = lo
    · rw [hk]; exact Int.le_refl _
    · exact pp.lo k (by omega) k2
  · rw [← ga]; exact pp.up k (by omega) k2

theorem NB {lo i : Nat} {d : List Int} : ∀ (n i' : Nat), i' - i = n → nT lo i d → lo < i → (∀ k, i ≤ k → k < i' → gN d (k - 1) ≤ gN d k) → nT lo i' d
  | 0, i', h, hs, _, _ => fun p q p1 p2 p3 => hs p q p1 p2 (by omega)
  | n + 1, i', h, hs, hl, hk => by
    have ih := NB (d := d) n (i' - 1) (by omega) hs hl fun k k1 k2 => hk k k1 (by omega)
    intro p q p1 p2 p3
    by_cases hq : q = i' - 1
    · by_cases hp : p = q
      · rw [hp]; exact Int.le_refl _
      · have h1 := hk q (by omega) (by omega)
        have h2 := ih p (q - 1) p1 (by omega) (by omega)
        omega
    · exact ih p q p1 p2 (by omega)

theorem WC {lo hi : Nat} {d : List Int} (x : Int) (hb : hi ≤ d.length) (hl : d.length < 2305843009213693951) : ∀ (n i : Nat), hi - i = n → 1 ≤ i → i ≤ hi →
    ∃ i' : Nat, lp (fun s : List Int × Int => cK (lo : Nat) (hi : Nat) x s.1 s.2) (d, (i : Int)) = some (d, (i' : Int)) ∧ i ≤ i' ∧ i' ≤ hi ∧ (∀ k, i ≤ k → k < i' → gN d (k - 1) ≤ gN d k) := by
  intro n
  induction n with
  | zero =>
    intro i h1 h2 h3
    refine ⟨i, cV ?_, Nat.le_refl _, h3, fun k k1 k2 => by omega⟩
    show cK _ _ _ _ _ = _
    have : decide ((i : Int) < (hi : Int)) = false := by simp; omega
    simp only [cK, this]
    rw [aM (fun h => by cases h), aM (fun h => by cases h)]
    rfl
  | succ n ih =>
    intro i h1 h2 h3
    have hd : decide ((i : Int) < (hi : Int)) = true := by simp; omega
    have hs : cK (lo : Nat) (hi : Nat) x d (i : Nat) = if gN d i < gN d (i - 1) then some (.inr (d, (i : Int))) else some (.inl (d, ((i + 1 : Nat) : Int))) := by
      unfold cK
      rw [hd, wrN (x := (i : Int) - 1) (n := i - 1) (by omega) (by omega), wrN (x := (i : Int) + 1) (n := i + 1) (by omega) (by omega), aM fun _ => asN (by omega), aM fun _ => asN (by omega)]
      simp only [dJ, cond_true, pK, Option.bind_some, Bool.true_and, Int.toNat_natCast, gN]
      by_cases h : d.getD i default < d.getD (i - 1) default <;> simp [h]
    by_cases h : gN d i < gN d (i - 1)
    · rw [if_pos h] at hs
      exact ⟨i, cV hs, Nat.le_refl _, h3, fun k k1 k2 => by omega⟩
    · rw [if_neg h] at hs
      obtain ⟨i', e, a1, a2, a3⟩ := ih (i + 1) (by omega) (by omega) (by omega)
      refine ⟨i', (gF hs).trans e, by omega, a2, fun k k1 k2 => ?_⟩
      by_cases hk : k = i
      · rw [hk]; omega
      · exact a3 k (by omega) k2

theorem BZ {lo hi : Nat} {d d' : List Int} (r : Rel lo hi d d') (h : lo = 0 ∨ ∀ k, lo ≤ k → k < hi → gN d (lo - 1) ≤ gN d k) : lo = 0 ∨ ∀ k, lo ≤ k → k < hi → gN d' (lo - 1) ≤ gN d' k := by
  by_cases h0 : lo = 0
  · exact .inl h0
  · rcases h with h | h
    · exact .inl h
    · exact .inr fun k k1 k2 => by
        rw [r.out (lo - 1) (by omega)]
        exact r.all (p := fun v => gN d (lo - 1) ≤ v) h k k1 k2

theorem VZ {lo hi i : Nat} (x y : Int) : ∀ (j : Nat) (d : List Int), lo ≤ j → j ≤ i → i < d.length → d.length < 2305843009213693951 → AT lo j i d → (lo = 0 ∨ ∀ k, lo ≤ k → k ≤ i → gN d (lo - 1) ≤ gN d k) →
    ∃ d', lp (fun s : List Int × Int => cD (lo : Nat) (hi : Nat) x y s.1 s.2) (d, (j : Int)) = some d' ∧ Rel lo (i + 1) d d' ∧ nT lo (i + 1) d' := by
  intro j
  induction j with
  | zero =>
    intro d h1 h2 h3 h4 h5 h6
    refine ⟨d, cV ?_, Rel.refl .., h5.done h1 (by omega)⟩
    show cD _ _ _ _ _ _ = _
    have : decide ((1 : Int) ≤ ((0 : Nat) : Int)) = false := by simp
    simp only [cD, this, cond_false]
  | succ j ih =>
    intro d h1 h2 h3 h4 h5 h6
    have hd : decide ((1 : Int) ≤ ((j + 1 : Nat) : Int)) = true := by simp; omega
    have hs : cD (lo : Nat) (hi : Nat) x y d ((j + 1 : Nat) : Int) = if gN d (j + 1) < gN d j then some (.inl (swp d (j + 1) j, (j : Int))) else some (.inr d) := by
      unfold cD
      rw [hd, cond_true, wrN (x := ((j + 1 : Nat) : Int) - 1) (n := j) (by omega) (by omega), aM (asN (by omega)), aM (asN (by omega))]
      simp only [pK, Option.bind_some, Int.toNat_natCast, gN]
      by_cases h : d.getD (j + 1) default < d.getD j default
      · simp only [h, decide_true, Bool.not_true, cond_false, if_true]
        rw [aM (asN (by omega)), aM (asN (by omega)), aM (asN (by omega)), aM (asN (by omega))]
        rfl
      · simp only [h, decide_false, Bool.not_false, cond_true, if_false]
    by_cases h : gN d (j + 1) < gN d j
    · rw [if_pos h] at hs
      have hlo : lo < j + 1 := by
        rcases h6 with h6 | h6
        · omega
        · rcases Nat.lt_or_ge lo (j + 1) with hh | hh
          · exact hh
          · have : lo = j + 1 := by omega
            have h7 := h6 (j + 1) (by omega) h2
            rw [this] at h7
            simp only [Nat.add_sub_cancel] at h7
            omega
      have r1 : Rel lo (i + 1) d (swp d (j + 1) j) := Rel.swp (i := j + 1) (j := j) (by omega) (by omega) (by omega) (by omega)
      obtain ⟨d', e, r, s⟩ := ih (swp d (j + 1) j) (by omega) (by omega) (by rw [gG]; exact h3) (by rw [gG]; exact h4) (h5.next hlo h2 h3 h) ((BZ r1 (h6.imp id fun h k a b => h k a (by omega))).imp id fun h k a b => h k a (by omega))
      exact ⟨d', (gF hs).trans e, r1.trans r, s⟩
    · rw [if_neg h] at hs
      exact ⟨d, cV hs, Rel.refl .., h5.done h1 fun hh => h hh.2⟩

theorem ZQ {lo hi i : Nat} (x y : Int) : ∀ (n j : Nat) (d : List Int), hi - j = n → i < j → hi ≤ d.length → d.length < 2305843009213693951 →
    ∃ d', lp (fun s : List Int × Int => cL (lo : Nat) (hi : Nat) x y s.1 s.2) (d, (j : Int)) = some d' ∧ Rel i hi d d' := by
  intro n
  induction n with
  | zero =>
    intro j d h1 h2 h3 h4
    refine ⟨d, cV ?_, Rel.refl ..⟩
    show cL _ _ _ _ _ _ = _
    have : decide ((j : Int) < (hi : Int)) = false := by simp; omega
    simp only [cL, this, cond_false]
  | succ n ih =>
    intro j d h1 h2 h3 h4
    have hd : decide ((j : Int) < (hi : Int)) = true := by simp; omega
    have hs : cL (lo : Nat) (hi : Nat) x y d (j : Nat) = if gN d j < gN d (j - 1) then some (.inl (swp d j (j - 1), ((j + 1 : Nat) : Int))) else some (.inr d) := by
      unfold cL
      rw [hd, cond_true, wrN (x := (j : Int) - 1) (n := j - 1) (by omega) (by omega), wrN (x := (j : Int) + 1) (n := j + 1) (by omega) (by omega), aM (asN (by omega)), aM (asN (by omega))]
      simp only [pK, Option.bind_some, Int.toNat_natCast, gN]
      by_cases h : d.getD j default < d.getD (j - 1) default
      · simp only [h, decide_true, Bool.not_true, cond_false, if_true]
        rw [aM (asN (by omega)), aM (asN (by omega)), aM (asN (by omega)), aM (asN (by omega))]
        rfl
      · simp only [h, decide_false, Bool.not_false, cond_true, if_false]
    by_cases h : gN d j < gN d (j - 1)
    · rw [if_pos h] at hs
      obtain ⟨d', e, r⟩ := ih (j + 1) (swp d j (j - 1)) (by omega) (by omega) (by rw [gG]; exact h3) (by rw [gG]; exact h4)
      exact ⟨d', (gF hs).trans e, (Rel.swp (i := j) (j := j - 1) (by omega) (by omega) (by omega) (by omega)).trans r⟩
    · rw [if_neg h] at hs
      exact ⟨d, cV hs, Rel.refl ..⟩

theorem QL {lo hi i : Nat} (x : Int) {d : List Int} (h1 : lo < i) (h2 : i < hi) (h3 : hi ≤ d.length) (h4 : d.length < 2305843009213693951) :
    ∃ d', cE d (lo : Nat) (hi : Nat) (i : Nat) x = some (.inl (d', (i : Int), IntKind.i64.wrap (x + 1))) ∧ Rel i hi d d' := by
  unfold cE
  rw [wrN (x := (hi : Int) - (i : Int)) (n := hi - i) (by omega) (by omega)]
  by_cases h : (2 : Int) ≤ ((hi - i : Nat) : Int)
  · simp only [h, decide_true, cond_true]
    unfold fQ
    rw [wrN (x := (i : Int) + 1) (n := i + 1) (by omega) (by omega)]
    obtain ⟨d', e, r⟩ := ZQ (lo := lo) (hi := hi) (i := i) (i : Int) x (hi - (i + 1)) (i + 1) d rfl (by omega) h3 h4
    rw [e]
    exact ⟨d', rfl, r⟩
  · simp only [h, decide_false, cond_false]
    exact ⟨d, rfl, Rel.refl ..⟩

theorem VS {lo hi i : Nat} (x : Int) {d : List Int} (h1 : lo < i) (h2 : i ≤ hi) (h3 : hi ≤ d.length) (h4 : d.length < 2305843009213693951) (hs : nT lo i d) (hb : lo = 0 ∨ ∀ k, lo ≤ k → k < hi → gN d (lo - 1) ≤ gN d k) :
    (∃ (fl : Bool) (d' : List Int), cT d (lo : Nat) (hi : Nat) (i : Nat) x = some (.inr (.inr (fl, d'))) ∧ Rel lo hi d d' ∧ (fl = true → nT lo hi d')) ∨
    (∃ (d' : List Int) (i' : Nat), cT d (lo : Nat) (hi : Nat) (i : Nat) x = some (.inl (d', (i' : Int), IntKind.i64.wrap (x + 1))) ∧ Rel lo hi d d' ∧ lo < i' ∧ i' ≤ hi ∧ nT lo i' d') := by
  unfold cT
  obtain ⟨i', e, a1, a2, a3⟩ := WC (lo := lo) (hi := hi) x h3 h4 (hi - i) i rfl (by omega) h2
  rw [e]
  simp only [Option.bind_some]
  have hs' := NB (i' - i) i' rfl hs h1 a3
  unfold dZ
  by_cases hi' : i' = hi
  · have : decide ((i' : Int) = (hi : Int)) = true := by simp; omega
    rw [this, cond_true]
    left
    exact ⟨true, d, rfl, Rel.refl .., fun _ => hi' ▸ hs'⟩
  · have hne : decide ((i' : Int) = (hi : Int)) = false := by simp; omega
    rw [hne, cond_false, wrN (x := (hi : Int) - (lo : Int)) (n := hi - lo) (by omega) (by omega)]
    by_cases h50 : ((hi - lo : Nat) : Int) < 50
    · simp only [h50, decide_true, cond_true]
      left
      exact ⟨false, d, rfl, Rel.refl .., fun h => by cases h⟩
    · simp only [h50, decide_false, cond_false]
      rw [wrN (x := (i' : Int) - 1) (n := i' - 1) (by omega) (by omega), wrN (x := (i' : Int) - (lo : Int)) (n := i' - lo) (by omega) (by omega)]
      simp only [Int.toNat_natCast]
      rw [aM (asN (by omega)), aM (asN (by omega)), aM (asN (by omega)), aM (asN (by omega))]
      have r1 : Rel lo hi d (swp d i' (i' - 1)) := Rel.swp (i := i') (j := i' - 1) (by omega) (by omega) (by omega) (by omega)
      have l1 : (swp d i' (i' - 1)).length = d.length := gG ..
      have g := qA (d := d) (i := i') (j := i' - 1) (by omega) (by omega)
      right
      by_cases hge : (2 : Int) ≤ ((i' - lo : Nat) : Int)
      · simp only [hge, decide_true, cond_true]
        unfold fO
        have ins : AT lo (i' - 1) (i' - 1) (swp d i' (i' - 1)) := ⟨fun p q p1 p2 p3 p4 p5 => by
          rw [g, g, if_neg p4, if_neg p5, if_neg (by omega), if_neg (by omega)]
          exact hs' p q p1 p2 (by omega), fun q q1 q2 => by omega⟩
        obtain ⟨d2, e2, r2, s2⟩ := VZ (lo := lo) (hi := hi) (i := i' - 1) (i' : Int) x (i' - 1) (swp d i' (i' - 1)) (by omega) (Nat.le_refl _) (by rw [l1]; omega) (by rw [l1]; exact h4) ins ((BZ r1 hb).imp id fun h k a b => h k a (by omega))
        have e2' : lp (fun s : List Int × Int => cD (lo : Int) (hi : Int) (i' : Int) x s.1 s.2) ((List.set (List.set d i' (List.getD d (i' - 1) default)) (i' - 1) (List.getD d i' default)), ((i' - 1 : Nat) : Int)) = some d2 := e2
        rw [e2']
        simp only [Option.bind_some]
        rw [show i' - 1 + 1 = i' by omega] at r2 s2
        have l2 : d2.length = d.length := by rw [r2.len, l1]
        obtain ⟨d3, e3, r3⟩ := QL (lo := lo) (hi := hi) (i := i') x (d := d2) (by omega) (by omega) (by omega) (by omega)
        rw [e3]
        refine ⟨d3, i', rfl, (r1.trans (r2.mono (Nat.le_refl _) (by omega))).trans (r3.mono (by omega) (Nat.le_refl _)), by omega, a2, fun p q p1 p2 p3 => ?_⟩
        rw [r3.out p (by omega), r3.out q (by omega)]
        exact s2 p q p1 p2 p3
      · simp only [hge, decide_false, cond_false]
        obtain ⟨d3, e3, r3⟩ := QL (lo := lo) (hi := hi) (i := i') x (d := swp d i' (i' - 1)) (by omega) (by omega) (by omega) (by omega)
        have e3' : cE (List.set (List.set d i' (List.getD d (i' - 1) default)) (i' - 1) (List.getD d i' default)) (lo : Int) (hi : Int) (i' : Int) x = _ := e3
        rw [e3']
        refine ⟨d3, i', rfl, r1.trans (r3.mono (by omega) (Nat.le_refl _)), by omega, a2, ?_⟩
        have : i' = lo + 1 := by omega
        rw [this]; exact DK lo d3

theorem ZF {lo hi : Nat} : ∀ (n x i : Nat) (d : List Int), 5 - x = n → lo < i → i ≤ hi → hi ≤ d.length → d.length < 2305843009213693951 → nT lo i d → (lo = 0 ∨ ∀ k, lo ≤ k → k < hi → gN d (lo - 1) ≤ gN d k) → x ≤ 5 →
    ∃ (fl : Bool) (d' : List Int), (lp (fun s : List Int × Int × Int => bS (lo : Nat) (hi : Nat) s.1 s.2.1 s.2.2) (d, (i : Int), (x : Int))).bind (Sum.elim (fun rr => dY rr) (fun rr => some (rr.1, rr.2))) = some (fl, d') ∧ Rel lo hi d d' ∧ (fl = true → nT lo hi d') := by
  intro n
  induction n with
  | zero =>
    intro x i d h1 h2 h3 h4 h5 h6 h7 h8
    have hs : bS (lo : Nat) (hi : Nat) d (i : Nat) (x : Nat) = some (.inr (.inl d)) := by
      have : decide ((x : Int) < 5) = false := by simp; omega
      simp only [bS, this, cond_false]
    rw [cV (show (fun s : List Int × Int × Int => bS (lo : Nat) (hi : Nat) s.1 s.2.1 s.2.2) (d, (i : Int), (x : Int)) = _ from hs)]
    exact ⟨false, d, rfl, Rel.refl .., fun h => by cases h⟩
  | succ n ih =>
    intro x i d h1 h2 h3 h4 h5 h6 h7 h8
    have hl2 : bS (lo : Nat) (hi : Nat) d (i : Nat) (x : Nat) = cT d (lo : Nat) (hi : Nat) (i : Nat) (x : Nat) := by
      have : decide ((x : Int) < 5) = true := by simp; omega
      simp only [bS, this, cond_true]
    rcases VS (lo := lo) (hi := hi) (x : Int) h2 h3 h4 h5 h6 h7 with ⟨fl, d', e, r, s⟩ | ⟨d', i', e, r, k1, k2, s⟩
    · rw [cV (show (fun s : List Int × Int × Int => bS (lo : Nat) (hi : Nat) s.1 s.2.1 s.2.2) (d, (i : Int), (x : Int)) = _ from hl2.trans e)]
      exact ⟨fl, d', rfl, r, s⟩
    · rw [wrN (x := (x : Int) + 1) (n := x + 1) (by omega) (by omega)] at e
      obtain ⟨fl, d2, e2, r2, s2⟩ := ih (x + 1) i' d' (by omega) k1 k2 (by rw [r.len]; exact h4) (by rw [r.len]; exact h5) s (BZ r h7) (by omega)
      rw [gF (show (fun s : List Int × Int × Int => bS (lo : Nat) (hi : Nat) s.1 s.2.1 s.2.2) (d, (i : Int), (x : Int)) = _ from hl2.trans e)]
      exact ⟨fl, d2, e2, r.trans r2, s2⟩

theorem UD {lo hi : Nat} {d : List Int} (h0 : lo < hi) (h1 : hi ≤ d.length) (h2 : d.length < 2305843009213693951) (hb : lo = 0 ∨ ∀ k, lo ≤ k → k < hi → gN d (lo - 1) ≤ gN d k) :
    ∃ (fl : Bool) (d' : List Int), eF d (lo : Int) (hi : Int) = some (fl, d') ∧ Rel lo hi d d' ∧ (fl = true → nT lo hi d') := by
  unfold eF fP
  rw [wrN (x := (lo : Int) + 1) (n := lo + 1) (by omega) (by omega)]
  exact ZF (lo := lo) (hi := hi) (5 - 0) 0 (lo + 1) d rfl (by omega) (by omega) h1 h2 (DK lo d) hb (by omega)

end Go.Abs
namespace Go.Abs
open Go
abbrev PS := List Int × Int × Int × Int × Bool × Bool

abbrev PR := List Int → Int → Int → Int → Option (List Int)

def uU (a b : Nat) (d d' : List Int) : Prop := Rel a b d d' ∧ nT a b d'

structure uJ (a b lim : Nat) (d : List Int) : Prop where
  ab : a ≤ b
  bl : b ≤ d.length
  len : d.length < 2305843009213693951
  bnd : a = 0 ∨ ∀ k, a ≤ k → k < b → gN d (a - 1) ≤ gN d k
  lim : lim ≤ 100

def BX (rec : PR) (N : Nat) : Prop := ∀ (d : List Int) (a b lim : Nat), uJ a b lim d → (rec d (a : Int) (b : Int) (lim : Int) = none ∧ N ≤ b - a) ∨ ∃ d', rec d (a : Int) (b : Int) (lim : Int) = some d' ∧ uU a b d d'

def zR (N a b : Nat) (d : List Int) (F : Option (PS ⊕ List Int)) : Prop :=
  (F = none ∧ N + 1 ≤ b - a) ∨ (∃ d', F = some (.inr d') ∧ uU a b d d') ∨
  ∃ (d' : List Int) (a' b' lim' : Nat) (wb wp : Bool), F = some (.inl (d', (a' : Int), (b' : Int), (lim' : Int), wb, wp)) ∧ b' - a' < b - a ∧ uJ a' b' lim' d' ∧ ∀ d'', uU a' b' d' d'' → uU a b d d''

theorem uU.pre {a b : Nat} {d d1 d' : List Int} (r : Rel a b d d1) (h : uU a b d1 d') : uU a b d d' := ⟨r.trans h.1, h.2⟩

theorem zR.pre {N a b : Nat} {d d1 : List Int} {F : Option (PS ⊕ List Int)} (r : Rel a b d d1) (h : zR N a b d1 F) : zR N a b d F := by
  rcases h with h | ⟨d', h1, h2⟩ | ⟨d', a', b', lim', wb, wp, h1, h2, h3, h4⟩
  · exact .inl h
  · exact .inr (.inl ⟨d', h1, h2.pre r⟩)
  · exact .inr (.inr ⟨d', a', b', lim', wb, wp, h1, h2, h3, fun d'' hg => (h4 d'' hg).pre r⟩)

theorem uJ.rel {a b lim : Nat} {d d1 : List Int} (h : uJ a b lim d) (r : Rel a b d d1) : uJ a b lim d1 :=
  ⟨h.ab, by rw [r.len]; exact h.bl, by rw [r.len]; exact h.len, BZ r h.bnd, h.lim⟩

theorem KC {a m b : Nat} {d : List Int} (hm : m < b) (h1 : ∀ k, a ≤ k → k < m → gN d k ≤ gN d m) (h2 : ∀ k, m < k → k < b → gN d m ≤ gN d k) (s1 : nT a m d) (s2 : nT (m + 1) b d) : nT a b d := by
  intro p q p1 p2 p3
  by_cases hq : q < m
  · exact s1 p q p1 p2 hq
  · by_cases hp : m < p
    · exact s2 p q hp p2 p3
    · have g1 : gN d p ≤ gN d m := by
        by_cases e : p = m
        · rw [e]; exact Int.le_refl _
        · exact h1 p p1 (by omega)
      have g2 : gN d m ≤ gN d q := by
        by_cases e : q = m
        · rw [e]; exact Int.le_refl _
        · exact h2 q (by omega) p3
      omega

theorem RG {rec : PR} {N a b lim p : Nat} {d : List Int} (hrec : BX rec N) (hv : uJ a b lim d) (h12 : 12 < b - a) (hp : a ≤ p ∧ p < b) (wb wp : Bool) (len : Int) :
    zR N a b d (gC rec d (a : Int) (b : Int) (lim : Int) wb wp len (p : Int)) := by
  have hb := hv.bl; have hl := hv.len
  -- with all equal ones on the left
  have eqc : 0 < a → ¬ gN d (a - 1) < gN d p → zR N a b d ((eJ d (a : Int) (b : Int) (p : Int)).bind fun x20 => some (.inl (x20.2, x20.1, (b : Int), (lim : Int), wb, wp))) := by
    intro ha hn
    obtain ⟨m, d', e, m1, m2, r, q1, q2⟩ := IY (lo := a) (hi := b) (p := p) (d := d) (by omega) hb hl hp
    have hall : ∀ k, a ≤ k → k < b → gN d p ≤ gN d' k := by
      refine r.all (p := fun v => gN d p ≤ v) fun k k1 k2 => ?_
      rcases hv.bnd with h | h
      · omega
      · have := h k k1 k2; omega
    rw [e]
    refine .inr (.inr ⟨d', m, b, lim, wb, wp, rfl, by omega, ⟨m2, by rw [r.len]; exact hb, by rw [r.len]; exact hl, .inr fun k k1 k2 => ?_, hv.lim⟩, fun d'' hg => ⟨r.trans (hg.1.mono (by omega) (Nat.le_refl _)), fun x y x1 x2 x3 => ?_⟩⟩)
    · have := q1 (m - 1) (by omega) (by omega); have := q2 k k1 k2; omega
    · by_cases hx : m ≤ x
      · exact hg.2 x y hx x2 x3
      · rw [hg.1.out x (by omega)]
        have g1 := q1 x x1 (by omega)
        by_cases hy : y < m
        · rw [hg.1.out y (by omega)]
          have g2 := hall y (by omega) (by omega); omega
        · have g2 := hg.1.all (p := fun v => gN d p < v) q2 y (by omega) x3
          omega
  -- a partition, and the lesser part first
  have ptc : zR N a b d ((fT d (a : Int) (b : Int) (p : Int)).bind fun x23 =>
      aZ ((8 : Int) ≠ 0) <|
      cond (decide ((IntKind.i64.wrap (x23.1.1 - (a : Int))) < (IntKind.i64.wrap ((b : Int) - x23.1.1))))
      ((rec x23.2 (a : Int) x23.1.1 (lim : Int)).bind fun x28 =>
      some (.inl (x28, IntKind.i64.wrap (x23.1.1 + (1 : Int)), (b : Int), (lim : Int), decide ((IntKind.i64.wrap (Int.tdiv len (8 : Int))) ≤ (IntKind.i64.wrap (x23.1.1 - (a : Int)))), x23.1.2)))
      ((rec x23.2 (IntKind.i64.wrap (x23.1.1 + (1 : Int))) (b : Int) (lim : Int)).bind fun x31 =>
      some (.inl (x31, (a : Int), x23.1.1, (lim : Int), decide ((IntKind.i64.wrap (Int.tdiv len (8 : Int))) ≤ (IntKind.i64.wrap ((b : Int) - x23.1.1))), x23.1.2)))) := by
    obtain ⟨m, fl, d1, e, m1, m2, r, q1, q2⟩ := JR (lo := a) (hi := b) (p := p) (d := d) (by omega) hb hl hp
    have hv1 := hv.rel r
    rw [e]
    simp only [Option.bind_some]
    rw [aM (by decide), wrN (x := (m : Int) + 1) (n := m + 1) (by omega) (by omega)]
    have vL : uJ a m lim d1 := ⟨m1, by have := hv1.bl; omega, hv1.len, hv1.bnd.imp id fun h k k1 k2 => h k k1 (by omega), hv.lim⟩
    have vR : uJ (m + 1) b lim d1 := ⟨by omega, hv1.bl, hv1.len, .inr fun k k1 k2 => by simpa using q2 k (by omega) k2, hv.lim⟩
    cases decide ((IntKind.i64.wrap ((m : Int) - (a : Int))) < (IntKind.i64.wrap ((b : Int) - (m : Int)))) with
    | true =>
      rw [cond_true]
      rcases hrec d1 a m lim vL with ⟨hn, hN⟩ | ⟨d2, e2, g2⟩
      · rw [hn]; exact .inl ⟨rfl, by omega⟩
      · rw [e2]
        simp only [Option.bind_some]
        have top : gN d2 m = gN d1 m := g2.1.out m (by omega)
        refine .inr (.inr ⟨d2, m + 1, b, lim, _, _, rfl, by omega, ⟨by omega, by rw [g2.1.len]; exact hv1.bl, by rw [g2.1.len]; exact hv1.len, .inr fun k k1 k2 => ?_, hv.lim⟩, fun d3 hg => ⟨(r.trans (g2.1.mono (Nat.le_refl _) (by omega))).trans (hg.1.mono (by omega) (Nat.le_refl _)), ?_⟩⟩)
        · rw [show m + 1 - 1 = m by omega, top, g2.1.out k (by omega)]; exact q2 k (by omega) k2
        · have o3 : ∀ k, k ≤ m → gN d3 k = gN d2 k := fun k hk => hg.1.out k (by omega)
          refine KC m2 (fun k k1 k2 => ?_) (fun k k1 k2 => ?_) (fun x y x1 x2 x3 => by rw [o3 x (by omega), o3 y (by omega)]; exact g2.2 x y x1 x2 x3) hg.2
          · rw [o3 k (by omega), o3 m (by omega), top]
            exact g2.1.all (p := fun v => v ≤ gN d1 m) q1 k k1 k2
          · rw [o3 m (by omega), top]
            exact hg.1.all (p := fun v => gN d1 m ≤ v) (fun k k1 k2 => by rw [g2.1.out k (by omega)]; exact q2 k (by omega) k2) k (by omega) k2
    | false =>
      rw [cond_false]
      rcases hrec d1 (m + 1) b lim vR with ⟨hn, hN⟩ | ⟨d2, e2, g2⟩
      · rw [hn]; exact .inl ⟨rfl, by omega⟩
      · rw [e2]
        simp only [Option.bind_some]
        have low : ∀ k, k ≤ m → gN d2 k = gN d1 k := fun k hk => g2.1.out k (by omega)
        refine .inr (.inr ⟨d2, a, m, lim, _, _, rfl, by omega, ⟨m1, by rw [g2.1.len]; have := hv1.bl; omega, by rw [g2.1.len]; exact hv1.len, ?_, hv.lim⟩, fun d3 hg => ⟨(r.trans (g2.1.mono (by omega) (Nat.le_refl _))).trans (hg.1.mono (Nat.le_refl _) (by omega)), ?_⟩⟩)
        · rcases hv1.bnd with h | h
          · exact .inl h
          · exact .inr fun k k1 k2 => by rw [low (a - 1) (by omega), low k (by omega)]; exact h k k1 (by omega)
        · have o3 : ∀ k, m ≤ k → gN d3 k = gN d2 k := fun k hk => hg.1.out k (by omega)
          refine KC m2 (fun k k1 k2 => ?_) (fun k k1 k2 => ?_) hg.2 (fun x y x1 x2 x3 => by rw [o3 x (by omega), o3 y (by omega)]; exact g2.2 x y x1 x2 x3)
          · rw [o3 m (Nat.le_refl _), low m (Nat.le_refl _)]
            exact hg.1.all (p := fun v => v ≤ gN d1 m) (fun k k1 k2 => by rw [low k (by omega)]; exact q1 k k1 k2) k k1 k2
          · rw [o3 m (Nat.le_refl _), low m (Nat.le_refl _), o3 k (by omega)]
            exact g2.1.all (p := fun v => gN d1 m ≤ v) (fun k k1 k2 => q2 k (by omega) k2) k (by omega) k2
  unfold gC
  by_cases ha : 0 < a
  · have hd : decide ((0 : Int) < (a : Int)) = true := by simp; omega
    rw [hd, wrN (x := (a : Int) - 1) (n := a - 1) (by omega) (by omega), aM fun _ => asN (by omega), aM fun _ => asN (by omega)]
    simp only [dJ, cond_true, pK, Option.bind_some, Bool.true_and, Int.toNat_natCast]
    by_cases hlt : gN d (a - 1) < gN d p
    · simp only [gN] at hlt
      simp only [hlt, decide_true, Bool.not_true, cond_false]
      exact ptc
    · have := eqc ha hlt
      simp only [gN] at hlt
      simp only [hlt, decide_false, Bool.not_false, cond_true]
      exact this
  · have hd : decide ((0 : Int) < (a : Int)) = false := by simp; omega
    rw [hd, aM (fun h => by cases h), aM (fun h => by cases h)]
    simp only [dJ, cond_false, Option.bind_some, Bool.false_and]
    exact ptc

theorem TA {rec : PR} {N a b lim p : Nat} {d : List Int} (hrec : BX rec N) (hv : uJ a b lim d) (h12 : 12 < b - a) (hp : a ≤ p ∧ p < b) (wb wp : Bool) (len hint : Int) :
    zR N a b d (fZ rec d (a : Int) (b : Int) (lim : Int) wb wp len (p : Int) hint) := by
  unfold fZ
  cases ((wb && wp) && (decide (hint = (1 : Int)))) with
  | false => exact RG hrec hv h12 hp wb wp len
  | true =>
    rw [cond_true]
    obtain ⟨fl, d', e, r, s⟩ := UD (lo := a) (hi := b) (d := d) (by omega) hv.bl hv.len hv.bnd
    rw [e]
    simp only [Option.bind_some]
    cases fl with
    | true => exact .inr (.inl ⟨d', rfl, r, s rfl⟩)
    | false => exact (RG hrec (hv.rel r) h12 hp wb wp len).pre r

theorem SX {rec : PR} {N a b lim : Nat} {d : List Int} (hrec : BX rec N) (hv : uJ a b lim d) (h12 : 12 < b - a) (wb wp : Bool) (len : Int) :
    zR N a b d (gE rec d (a : Int) (b : Int) (lim : Int) wb wp len) := by
  have hb := hv.bl; have hl := hv.len
  unfold gE
  obtain ⟨p, h, e, p1, p2⟩ := PO (lo := a) (hi := b) (d := d) h12 hb hl
  rw [e]
  simp only [Option.bind_some]
  by_cases h2 : h = 2
  · simp only [h2, decide_true, cond_true]
    obtain ⟨d', e2, r⟩ := RL (lo := a) (hi := b) (d := d) (by omega) hb (by omega)
    rw [e2]
    simp only [Option.bind_some]
    rw [wrN (x := (b : Int) - 1) (n := b - 1) (by omega) (by omega), wrN (x := (p : Int) - (a : Int)) (n := p - a) (by omega) (by omega), wrN (x := ((b - 1 : Nat) : Int) - ((p - a : Nat) : Int)) (n := b - 1 - (p - a)) (by omega) (by omega)]
    exact (TA hrec (hv.rel r) h12 ⟨by omega, by omega⟩ wb wp len 1).pre r
  · simp only [h2, decide_false, cond_false]
    exact TA hrec hv h12 ⟨p1, p2⟩ wb wp len h

theorem ZA {rec : PR} {N a b lim : Nat} {d : List Int} (hrec : BX rec N) (hv : uJ a b lim d) (wb wp : Bool) :
    zR N a b d (dV rec d (a : Int) (b : Int) (lim : Int) wb wp) := by
  have hb := hv.bl; have hl := hv.len; have hab := hv.ab
  unfold dV
  rw [wrN (x := (b : Int) - (a : Int)) (n := b - a) (by omega) (by omega)]
  by_cases h12 : ((b - a : Nat) : Int) ≤ 12
  · simp only [h12, decide_true, cond_true]
    obtain ⟨d', e, r, s⟩ := UH (lo := a) (hi := b) (d := d) hb (by omega) hab
    rw [e]
    exact .inr (.inl ⟨d', rfl, r, s⟩)
  · simp only [h12, decide_false, cond_false]
    by_cases h0 : lim = 0
    · have : decide ((lim : Int) = 0) = true := by simp; exact h0
      rw [this, cond_true]
      obtain ⟨d', e, r, s⟩ := TJ (lo := a) (hi := b) (d := d) (by omega) hb hl
      rw [e]
      exact .inr (.inl ⟨d', rfl, r, s⟩)
    · have : decide ((lim : Int) = 0) = false := by simp; exact h0
      rw [this, cond_false]
      cases wb with
      | true => exact SX hrec hv (by omega) true wp _
      | false =>
        simp only [Bool.not_false, cond_true]
        obtain ⟨d', e, r⟩ := TM (lo := a) (hi := b) (d := d) (by omega) hb hl
        rw [e]
        simp only [Option.bind_some]
        have hlim := hv.lim
        rw [wrN (x := (lim : Int) - 1) (n := lim - 1) (by omega) (by omega)]
        have hv' := hv.rel r
        exact (SX hrec ⟨hv'.ab, hv'.bl, hv'.len, hv'.bnd, by omega⟩ (by omega) false wp _).pre r

theorem YC {S R : Type} {body : S → Option (S ⊕ R)} {s : S} (h : body s = none) : lp body s = none := by
  cases e : lp body s with
  | none => rfl
  | some r =>
    obtain ⟨k, hk⟩ := BU.1 e
    cases k with
    | zero => simp [iter] at hk
    | succ k => simp [iter, h] at hk

theorem YV {rec : PR} {N : Nat} (hrec : BX rec N) : ∀ (n a b lim : Nat) (d : List Int) (wb wp : Bool), b - a = n → uJ a b lim d →
    (lp (fun s : PS => dV rec s.1 s.2.1 s.2.2.1 s.2.2.2.1 s.2.2.2.2.1 s.2.2.2.2.2) (d, (a : Int), (b : Int), (lim : Int), wb, wp) = none ∧ N + 1 ≤ b - a) ∨
    ∃ d', lp (fun s : PS => dV rec s.1 s.2.1 s.2.2.1 s.2.2.2.1 s.2.2.2.2.1 s.2.2.2.2.2) (d, (a : Int), (b : Int), (lim : Int), wb, wp) = some d' ∧ uU a b d d' := by
  intro n
  induction n using Nat.strongRecOn with
  | ind n ih =>
    intro a b lim d wb wp hn hv
    rcases ZA hrec hv wb wp with ⟨h1, h2⟩ | ⟨d', h1, h2⟩ | ⟨d', a', b', lim', wb', wp', h1, h2, h3, h4⟩
    · exact .inl ⟨YC h1, h2⟩
    · exact .inr ⟨d', cV h1, h2⟩
    · rw [gF (show (fun s : PS => dV rec s.1 s.2.1 s.2.2.1 s.2.2.2.1 s.2.2.2.2.1 s.2.2.2.2.2) (d, (a : Int), (b : Int), (lim : Int), wb, wp) = _ from h1)]
      rcases ih (b' - a') (by omega) a' b' lim' d' wb' wp' rfl h3 with ⟨g1, g2⟩ | ⟨d2, g1, g2⟩
      · exact .inl ⟨g1, by omega⟩
      · exact .inr ⟨d2, g1, h4 d2 g2⟩

theorem KH : ∀ k : Nat, BX (cX k) k
  | 0 => fun _ _ _ _ _ => .inl ⟨rfl, Nat.zero_le _⟩
  | k + 1 => fun d a b lim hv => by
    show (fH (cX k) d a b lim = none ∧ _) ∨ ∃ d', fH (cX k) d a b lim = some d' ∧ _
    unfold fH kI
    rcases YV (KH k) (b - a) a b lim d true true rfl hv with ⟨h1, h2⟩ | ⟨d', h1, h2⟩
    · rw [h1]; exact .inl ⟨rfl, h2⟩
    · rw [h1]; exact .inr ⟨d', rfl, h2⟩

theorem ZG {a b lim : Nat} {d : List Int} (hv : uJ a b lim d) : ∃ d', iV d (a : Int) (b : Int) (lim : Int) = some d' ∧ uU a b d d' := by
  unfold iV
  obtain ⟨d', e, g⟩ : ∃ d', cX (b - a + 1) d (a : Int) (b : Int) (lim : Int) = some d' ∧ uU a b d d' := by
    rcases KH (b - a + 1) d a b lim hv with ⟨_, h⟩ | h
    · omega
    · exact h
  cases hf : KE (fun k => cX k d (a : Int) (b : Int) (lim : Int)) with
  | none =>
    exfalso
    unfold KE at hf
    have hex : ∃ k r, cX k d (a : Int) (b : Int) (lim : Int) = some r := ⟨_, d', e⟩
    rw [dif_pos hex] at hf
    obtain ⟨r, hr⟩ := Classical.choose_spec hex
    have hf' : cX (Classical.choose hex) d (a : Int) (b : Int) (lim : Int) = none := hf
    rw [hr] at hf'
    cases hf'
  | some r =>
    obtain ⟨k, hk⟩ := HH hf
    rcases KH k d a b lim hv with ⟨h, _⟩ | ⟨d2, h, g2⟩
    · rw [h] at hk; cases hk
    · rw [h] at hk; cases hk; exact ⟨_, rfl, g2⟩

theorem YG {d : List Int} (hl : d.length < 2305843009213693951) : ∃ d', jU d = some d' ∧ d'.Perm d ∧ d'.Pairwise (· ≤ ·) := by
  unfold jU
  have hL : ∃ L : Nat, jQ (IntKind.u64.wrap ((List.length d : Nat) : Int)) = some (L : Int) ∧ L ≤ 100 := by
    rw [AY (by omega) (by omega)]
    by_cases h0 : d.length = 0
    · rw [h0]; exact ⟨0, TV, by omega⟩
    · obtain ⟨k, e, h1, _⟩ := SB (x := ((List.length d : Nat) : Int)) (by omega) (by omega)
      exact ⟨k + 1, by rw [e]; rfl, by omega⟩
  obtain ⟨L, eL, hL⟩ := hL
  rw [eL]
  simp only [Option.bind_some]
  obtain ⟨d', e, g⟩ := ZG (a := 0) (b := d.length) (lim := L) (d := d) ⟨Nat.zero_le _, Nat.le_refl _, hl, .inl rfl, hL⟩
  have e' : iV d 0 ((List.length d : Nat) : Int) (L : Int) = some d' := e
  rw [e']
  refine ⟨d', rfl, g.1.perm, List.pairwise_iff_getElem.2 fun i j hi hj hij => ?_⟩
  have := g.2 i j (Nat.zero_le _) (by omega) (by rw [g.1.len] at hj; exact hj)
  simp only [gN, List.getD_eq_getElem?_getD, List.getElem?_eq_getElem hi, List.getElem?_eq_getElem hj] at this
  exact this

end Go.Abs
namespace Go.Abs
open Go
theorem zV : ∀ {ps : List Int} {last : Int}, Inc last ps → ps.Pairwise (· < ·)
  | [], _, _ => List.Pairwise.nil
  | p :: r, last, h => List.Pairwise.cons (fun x hx => (h.2.above x hx).1) (zV h.2)

theorem YE {ps : List Int} {last : Int} (h : Inc last ps) : ps.Pairwise (· ≤ ·) := (zV h).imp fun h => by omega

end Go.Abs
namespace Go.Abs
open Go
theorem CL {r : List aB} (h : r.length ≤ 4398046510976) : gJ r = some r := by
  unfold gJ
  rw [aM (by omega)]

theorem QI {l : List aE} (hl : okL l) (hm : kW l = true) : (∀ g ∈ groups l, jT g.2 = true ∧ g.1.length ≤ 4398046510976) ∧ (groups l).length ≤ 4096 := by
  obtain ⟨h1, h2, _⟩ := lQ hm
  exact ⟨fun g hg => ⟨(h2 g hg).2, AN hl hg⟩, by have := OQ l; omega⟩

end Go.Abs
namespace Go.Abs
open Go
def okC (x : List bU) : Prop := x.length ≤ 1000000 ∧ ∀ c ∈ x, c.Row.length ≤ 17592186044416

theorem IT {x : List bU} (h : okC x) : mL x x = some true := by
  unfold mL nO
  rw [EU rfl, cond_false]
  have h1 := h.1
  rw [TE (l := x) (body := fun s => kO x x s) (fun i => i) (fun _ => false) (.inr false) (.inl ()) ?_ ?_]
  · simp [lZ]
  · intro i a ha
    obtain ⟨d1, d2, d3, d4⟩ := idx ha (by omega)
    simp only [kO, d1, cond_true, aM d2, d3, d4, decide_true, Bool.not_true, Bool.not_false, dJ, IP a.Row a.Row (h.2 a (List.mem_of_getElem? ha)), Option.bind_some, Bool.false_or, cond_false]
    rw [aM (fun _ => d2), aM (fun _ => d2)]
    rfl
  · simp only [kO, mO, cond_false]

theorem JX {x : List aX} (h1 : x.length ≤ 1000000) (h : ∀ p ∈ x, okC p.Rows) : rB x x = some true := by
  unfold rB sO
  rw [EU rfl, cond_false]
  rw [TE (l := x) (body := fun s => nZ x x s) (fun i => i) (fun _ => false) (.inr false) (.inl ()) ?_ ?_]
  · simp [pR]
  · intro i a ha
    obtain ⟨d1, d2, d3, d4⟩ := idx ha (by omega)
    simp only [nZ, d1, cond_true, aM d2, d3, d4, decide_true, Bool.and_self, Bool.not_true, Bool.not_false, dJ, IT (h a (List.mem_of_getElem? ha)), Option.bind_some, Bool.false_or, cond_false]
    rw [aM (fun _ => d2), aM (fun _ => d2)]
    rfl
  · simp only [nZ, mO, cond_false]

def PX : aB := ⟨1, 1, ByteArray.empty⟩

def BW : aB := ⟨1, 2, ByteArray.empty⟩

end Go.Abs
namespace Go.Abs
open Go
def lV (e : aE) : Bool := decide (0 < e.Net) && decide (-1 < e.At)

def bI (l : List aE) : List Int := (l.filter lV).foldl (fun c e => pL e.At c) []

theorem FE {S : Type} {body : S → aE → Option (S ⊕ S)} {l : List aE} (hl : l.length ≤ 1000000) (f : S → aE → S) (Inv : S → List aE → Prop)
    (h : ∀ s e r, Inv s (e :: r) → (lV e = true → body s e = some (.inl (f s e)) ∧ Inv (f s e) r) ∧ (lV e = false → Inv s r)) {s : S} (hi : Inv s l) :
    kY (fun st e => rnd (fun s => body s e) st) l (.inl s : S ⊕ S) = some (.inl ((l.filter lV).foldl f s)) := by
  unfold kY nR
  rw [CA (l := l) (body := fun s : (S ⊕ S) × Int => jG (fun st e => rnd (fun s => body s e) st) l ((l.length : Nat) : Int) s.1 s.2) (fun (s : S) i => (.inl s, i)) (fun s r => .inl (.inl ((r.filter lV).foldl f s))) Inv s ?_ ?_ hi]
  · rfl
  · intro i e r s he hI
    left
    obtain ⟨d1, d2, d3, d4⟩ := idx he (by omega)
    obtain ⟨h1, h2⟩ := h s e r hI
    cases hr : lV e with
    | true =>
      obtain ⟨b1, b2⟩ := h1 hr
      refine ⟨f s e, ?_, b2, by simp [hr]⟩
      have hc : (decide (0 < e.Net) && decide (-1 < e.At)) = true := hr
      simp only [jG, d1, cond_true, aM d2, d3, d4, hc, AR, rnd, b1, Option.bind_some, Bool.true_and]
      rfl
    | false =>
      refine ⟨s, ?_, h2 hr, by simp [hr]⟩
      have hc : (decide (0 < e.Net) && decide (-1 < e.At)) = false := hr
      simp only [jG, d1, cond_true, aM d2, d3, d4, hc, AR, cond_false, Option.bind_some, Bool.false_and]
  · intro s _
    simp only [jG, mO, cond_false]
    rfl

theorem BL : ∀ {a b : List Int}, a.Pairwise (· < ·) → b.Pairwise (· < ·) → (∀ x, x ∈ a ↔ x ∈ b) → a = b
  | [], [], _, _, _ => rfl
  | [], y :: b, _, _, h => by have := (h y).2 (by simp); simp at this
  | x :: a, [], _, _, h => by have := (h x).1 (by simp); simp at this
  | x :: a, y :: b, ha, hb, h => by
    obtain ⟨a1, a2⟩ := List.pairwise_cons.1 ha
    obtain ⟨b1, b2⟩ := List.pairwise_cons.1 hb
    have hxy : x = y := by
      rcases List.mem_cons.1 ((h x).1 (by simp)) with h1 | h1
      · exact h1
      · rcases List.mem_cons.1 ((h y).2 (by simp)) with h2 | h2
        · exact h2.symm
        · have := a1 y h2; have := b1 x h1; omega
    subst hxy
    rw [BL a2 b2 fun z => ?_]
    constructor
    · intro hz
      rcases List.mem_cons.1 ((h z).1 (by simp [hz])) with h1 | h1
      · have := a1 z hz; omega
      · exact h1
    · intro hz
      rcases List.mem_cons.1 ((h z).2 (by simp [hz])) with h1 | h1
      · have := b1 z hz; omega
      · exact h1

theorem ER {d : List Int} (hd : d.Pairwise (· ≤ ·)) {i j : Nat} (hij : i ≤ j) (hj : j < d.length) : d.getD i 0 ≤ d.getD j 0 := by
  rw [List.getD_eq_getElem?_getD, List.getD_eq_getElem?_getD, List.getElem?_eq_getElem (by omega), List.getElem?_eq_getElem hj]
  rcases Nat.lt_or_ge i j with h | h
  · exact List.pairwise_iff_getElem.1 hd i j (by omega) hj h
  · have : i = j := by omega
    subst this; exact Int.le_refl _

theorem AI {d : List Int} {p : Nat} (hp : p < d.length) : d.take (p + 1) = d.take p ++ [d.getD p 0] := by
  rw [List.take_add_one, List.getElem?_eq_getElem hp, List.getD_eq_getElem?_getD, List.getElem?_eq_getElem hp]; rfl

theorem MZ {d : List Int} (hd : d.Pairwise (· ≤ ·)) {p : Nat} (hp : p < d.length) {x : Int} (hx : x ∈ d.take (p + 1)) : x ≤ d.getD p 0 := by
  obtain ⟨i, hi⟩ := List.getElem?_of_mem hx
  rw [List.getElem?_take] at hi
  split at hi
  · rename_i hlt
    have := ER hd (i := i) (j := p) (by omega) hp
    rw [List.getD_eq_getElem?_getD (i := i), hi] at this
    exact this
  · cases hi

def Kept (d c : List Int) (p : Nat) : Prop := c.Pairwise (· < ·) ∧ ∀ x, x ∈ c ↔ x ∈ d.take p

theorem Kept.same {d c : List Int} {p : Nat} (h : Kept d c p) (h0 : 0 < p) (hp : p < d.length) (e : d.getD p 0 = d.getD (p - 1) 0) : Kept d c (p + 1) := by
  refine ⟨h.1, fun x => ?_⟩
  rw [h.2 x, AI hp, List.mem_append]
  constructor
  · exact .inl
  · rintro (h1 | h1)
    · exact h1
    · rw [List.mem_singleton.1 h1, e]
      have : p - 1 < p := by omega
      refine List.mem_of_getElem? (i := p - 1) ?_
      rw [List.getElem?_take, if_pos this, List.getD_eq_getElem?_getD, List.getElem?_eq_getElem (by omega)]; rfl

theorem Kept.more {d c : List Int} {p : Nat} (hd : d.Pairwise (· ≤ ·)) (h : Kept d c p) (h0 : 0 < p) (hp : p < d.length) (e : d.getD p 0 ≠ d.getD (p - 1) 0) : Kept d (c ++ [d.getD p 0]) (p + 1) := by
  have hle := ER hd (i := p - 1) (j := p) (by omega) hp
  refine ⟨?_, fun x => by rw [AI hp, List.mem_append, List.mem_append, h.2 x]⟩
  rw [List.pairwise_append]
  refine ⟨h.1, by simp, fun a ha b hb => ?_⟩
  rw [List.mem_singleton.1 hb]
  have ha' := (h.2 a).1 ha
  have : a ≤ d.getD (p - 1) 0 := by
    refine MZ hd (by omega) ?_
    rwa [show p - 1 + 1 = p by omega]
  omega

theorem oX (d : List Int) (i : Nat) : d.getD i default = d.getD i 0 := rfl

theorem KR {d : List Int} (hd : d.Pairwise (· ≤ ·)) (hl : d.length ≤ 1000000) {k : Nat} (hk0 : 0 < k) (hk : k < d.length) {c : List Int} (hc : Kept d c (k + 1)) (hck : c = d.take k) :
    ∃ r, lp (fun s : List Int × Int × Int => eS (0 + Int.toNat ((k : Nat) : Int)) (d.length - Int.toNat ((k : Nat) : Int)) s.1 s.2.1 s.2.2) (d, ((k : Nat) : Int), 1) = some r ∧
      ∃ c' k3 : Nat → Nat, True ∧ ∃ (cc : List Int) (m : Nat), r.2 = ((m : Nat) : Int) ∧ r.1.length = d.length ∧ m ≤ d.length ∧ r.1.take m = cc ∧ Kept d cc d.length := by
  have key := KS (body := fun s : List Int × Int × Int => eS (0 + Int.toNat ((k : Nat) : Int)) (d.length - Int.toNat ((k : Nat) : Int)) s.1 s.2.1 s.2.2)
    (I := fun s => ∃ (k2 m : Nat), s.2.2 = ((k2 : Nat) : Int) ∧ s.2.1 = ((m : Nat) : Int) ∧ 0 < k2 ∧ k + k2 ≤ d.length ∧ s.1.length = d.length ∧ m + 1 ≤ k + k2 ∧ (∀ j, m ≤ j → s.1[j]? = d[j]?) ∧ Kept d (s.1.take m) (k + k2))
    (m := fun s => d.length + 1 - s.2.2.toNat) (Post := fun r => ∃ m : Nat, r.2 = ((m : Nat) : Int) ∧ r.1.length = d.length ∧ m ≤ d.length ∧ Kept d (r.1.take m) d.length) ?_ (s := (d, ((k : Nat) : Int), 1)) ?_
  · obtain ⟨r, h1, m, h2, h3, h4, h5⟩ := key
    exact ⟨r, h1, id, id, trivial, _, m, h2, h3, h4, rfl, h5⟩
  · rintro ⟨s0, k3, k25⟩ ⟨k2, m, e1, e2, g1, g2, g3, g4, g5, g6⟩
    simp only at e1 e2 g3 g5 g6
    subst e1 e2
    by_cases hlt : k + k2 < d.length
    · left
      have hat : ∀ j, m ≤ j → s0.getD j 0 = d.getD j 0 := fun j hj => by
        rw [List.getD_eq_getElem?_getD, List.getD_eq_getElem?_getD, g5 j hj]
      have w1 : IntKind.i64.wrap (((k2 : Nat) : Int) - 1) = ((k2 - 1 : Nat) : Int) := by rw [dS (by omega) (by omega)]; omega
      have w2 : IntKind.i64.wrap (((k2 : Nat) : Int) + 1) = ((k2 + 1 : Nat) : Int) := by rw [dS (by omega) (by omega)]; omega
      have w3 : IntKind.i64.wrap (((m : Nat) : Int) + 1) = ((m + 1 : Nat) : Int) := by rw [dS (by omega) (by omega)]; omega
      have c1 : decide (((k2 : Nat) : Int) < ((d.length - Int.toNat ((k : Nat) : Int) : Nat) : Int)) = true := by
        rw [decide_eq_true_eq]; simp only [Int.toNat_natCast]; omega
      have c2 : (0 : Int) ≤ ((k2 : Nat) : Int) ∧ ((k2 : Nat) : Int) < ((d.length - Int.toNat ((k : Nat) : Int) : Nat) : Int) := ⟨by omega, by simp only [Int.toNat_natCast]; omega⟩
      have c3 : 0 + Int.toNat ((k : Nat) : Int) + Int.toNat ((k2 : Nat) : Int) < s0.length := by simp only [Int.toNat_natCast]; omega
      have c4 : (0 : Int) ≤ ((k2 - 1 : Nat) : Int) ∧ ((k2 - 1 : Nat) : Int) < ((d.length - Int.toNat ((k : Nat) : Int) : Nat) : Int) := ⟨by omega, by simp only [Int.toNat_natCast]; omega⟩
      have c5 : 0 + Int.toNat ((k : Nat) : Int) + Int.toNat ((k2 - 1 : Nat) : Int) < s0.length := by simp only [Int.toNat_natCast]; omega
      have c6 : (0 : Int) ≤ ((m : Nat) : Int) ∧ ((m : Nat) : Int) < ((s0.length : Nat) : Int) := ⟨by omega, by omega⟩
      have i1 : s0.getD (0 + Int.toNat ((k : Nat) : Int) + Int.toNat ((k2 : Nat) : Int)) default = d.getD (k + k2) 0 := by
        rw [oX, show 0 + Int.toNat ((k : Nat) : Int) + Int.toNat ((k2 : Nat) : Int) = k + k2 by simp only [Int.toNat_natCast]; omega]; exact hat _ (by omega)
      have i2 : s0.getD (0 + Int.toNat ((k : Nat) : Int) + Int.toNat ((k2 - 1 : Nat) : Int)) default = d.getD (k + k2 - 1) 0 := by
        rw [oX, show 0 + Int.toNat ((k : Nat) : Int) + Int.toNat ((k2 - 1 : Nat) : Int) = k + k2 - 1 by simp only [Int.toNat_natCast]; omega]; exact hat _ (by omega)
      by_cases he : d.getD (k + k2) 0 = d.getD (k + k2 - 1) 0
      · refine ⟨(s0, ((m : Nat) : Int), ((k2 + 1 : Nat) : Int)), ?_, ⟨k2 + 1, m, rfl, rfl, by omega, by omega, g3, by omega, g5, ?_⟩, by simp only [Int.toNat_natCast]; omega⟩
        · simp only [eS, iG, c1, cond_true, aM c2, aM c3, w1, aM c4, aM c5, i1, i2, he, decide_true, Bool.not_true, cond_false, w2]
        · exact g6.same (by omega) hlt he
      · refine ⟨(s0.set m (d.getD (k + k2) 0), ((m + 1 : Nat) : Int), ((k2 + 1 : Nat) : Int)), ?_, ⟨k2 + 1, m + 1, rfl, rfl, by omega, by omega, by simpa using g3, by omega, fun j hj => ?_, ?_⟩, by simp only [Int.toNat_natCast]; omega⟩
        · simp only [eS, iG, c1, cond_true, aM c2, aM c3, w1, aM c4, aM c5, i1, i2, decide_eq_false he, Bool.not_false, aM c6, w2, w3]
          rfl
        · simp only
          rw [List.getElem?_set_ne (by omega)]; exact g5 j (by omega)
        · have h1 := g6.more hd (by omega) hlt he
          have h2 : (s0.set m (d.getD (k + k2) 0)).take (m + 1) = s0.take m ++ [d.getD (k + k2) 0] := by
            rw [List.take_add_one, List.take_set_of_le (Nat.le_refl m), List.getElem?_set_self (by omega)]; rfl
          simp only
          rw [h2]; exact h1
    · right
      have hk2 : k + k2 = d.length := by omega
      refine ⟨(s0, ((m : Nat) : Int)), ?_, m, rfl, g3, by omega, by rw [← hk2]; exact g6⟩
      have c1 : decide (((k2 : Nat) : Int) < ((d.length - Int.toNat ((k : Nat) : Int) : Nat) : Int)) = false := by
        rw [decide_eq_false_iff_not]; simp only [Int.toNat_natCast]; omega
      simp only [eS, c1, cond_false]
  · refine ⟨1, k, rfl, rfl, by omega, by omega, rfl, by omega, fun _ _ => rfl, ?_⟩
    rw [← hck]; exact hc

theorem PG {k : Nat} {d : List Int} : (iZ k d).take k = d.take k := by
  unfold iZ
  by_cases h : k ≤ d.length
  · rw [List.take_append_of_le_length (by simp; omega), List.take_take]; simp
  · have e1 : d.take k = d := List.take_of_length_le (by omega)
    rw [e1, show d.length - k = 0 by omega, List.replicate_zero, List.append_nil, e1]

theorem OK {d : List Int} (hd : d.Pairwise (· ≤ ·)) (hl : d.length ≤ 1000000) : ∃ c, iS d = some c ∧ Kept d c d.length := by
  unfold iS
  by_cases h2 : d.length < 2
  · rw [decide_eq_true (by omega), cond_true]
    refine ⟨d, rfl, ?_, fun x => by rw [List.take_length]⟩
    match d, h2 with
    | [], _ => exact List.Pairwise.nil
    | [x], _ => exact List.pairwise_singleton ..
    | _ :: _ :: _, h => simp at h; omega
  · rw [decide_eq_false (by omega), cond_false]
    unfold lB
    have key := KS (body := fun s : List Int × Int => fU s.1 s.2)
      (I := fun s => s.1 = d ∧ ∃ k : Nat, s.2 = ((k : Nat) : Int) ∧ 0 < k ∧ k ≤ d.length ∧ (d.take k).Pairwise (· < ·)) (m := fun s => d.length + 1 - s.2.toNat)
      (Post := fun r => ∃ c, Sum.elim (fun rr : List Int => jM rr) (fun rr => some rr) r = some c ∧ Kept d c d.length) ?_ (s := (d, 1)) ?_
    · obtain ⟨r, h3, c, h4, h5⟩ := key
      rw [h3, Option.bind_some]
      exact ⟨c, h4, h5⟩
    · rintro ⟨s0, k3⟩ ⟨e1, k, e2, g1, g2, g3⟩
      simp only at e1 e2
      subst e1 e2
      by_cases hlt : k < s0.length
      · have w1 : IntKind.i64.wrap (((k : Nat) : Int) - 1) = ((k - 1 : Nat) : Int) := by rw [dS (by omega) (by omega)]; omega
        have w2 : IntKind.i64.wrap (((k : Nat) : Int) + 1) = ((k + 1 : Nat) : Int) := by rw [dS (by omega) (by omega)]; omega
        have c1 : (0 : Int) ≤ ((k : Nat) : Int) ∧ ((k : Nat) : Int) < ((s0.length : Nat) : Int) := ⟨by omega, by omega⟩
        have c2 : (0 : Int) ≤ ((k - 1 : Nat) : Int) ∧ ((k - 1 : Nat) : Int) < ((s0.length : Nat) : Int) := ⟨by omega, by omega⟩
        have hK : Kept s0 (s0.take k) k := ⟨g3, fun _ => Iff.rfl⟩
        by_cases he : s0.getD k 0 = s0.getD (k - 1) 0
        · right
          obtain ⟨r, h3, _, _, _, cc, m, h4, h5, h6, h7, h8⟩ := KR hd hl g1 hlt (hK.same g1 hlt he) rfl
          refine ⟨.inr cc, ?_, cc, rfl, h8⟩
          have c3 : (0 : Int) ≤ ((k : Nat) : Int) ∧ ((k : Nat) : Int) ≤ ((s0.length : Nat) : Int) := ⟨by omega, by omega⟩
          simp only [fU, decide_eq_true c1.2, cond_true, aM c1, w1, aM c2, Int.toNat_natCast, oX, he, decide_true, aM c3, lA]
          rw [Int.toNat_natCast] at h3
          rw [h3, Option.bind_some]
          unfold jH
          rw [h4, aM (by omega), aM (by rw [clearL_len]; omega), aM (by rw [clearL_len, Int.toNat_natCast]; omega), Int.toNat_natCast, Nat.zero_add, PG, h7]
        · left
          refine ⟨(s0, ((k + 1 : Nat) : Int)), ?_, ⟨rfl, k + 1, rfl, by omega, by omega, ?_⟩, by simp only [Int.toNat_natCast]; omega⟩
          · simp only [fU, lC, decide_eq_true c1.2, cond_true, aM c1, w1, aM c2, Int.toNat_natCast, oX, decide_eq_false he, cond_false, w2]
          · rw [AI hlt]
            exact (hK.more hd g1 hlt he).1
      · right
        have hk : k = s0.length := by omega
        subst hk
        refine ⟨.inl s0, ?_, s0, rfl, ?_, fun x => by rw [List.take_length]⟩
        · simp only [fU, mO, cond_false]
        · rwa [List.take_length] at g3
    · refine ⟨rfl, 1, rfl, by omega, by omega, ?_⟩
      match d, h2 with
      | x :: r, _ => simp
      | [], h => simp at h

theorem EV {l : List aE} : ∀ {c : List Int}, (∀ e ∈ l, lV e = true ∧ e.At < 1125899906842624) → Inc (-1) c → Inc (-1) (l.foldl (fun c e => pL e.At c) c) ∧ (∀ x, x ∈ l.foldl (fun c e => pL e.At c) c ↔ x ∈ c ∨ ∃ e ∈ l, e.At = x) := by
  induction l with
  | nil => intro c _ hi; exact ⟨hi, fun x => by simp⟩
  | cons e l ih =>
    intro c he hi
    have h1 := he e (by simp)
    have hr : -1 < e.At := by have := h1.1; simp [lV] at this; omega
    obtain ⟨i1, i2⟩ := ih (c := pL e.At c) (fun q hq => he q (by simp [hq])) (ID hi hr h1.2)
    refine ⟨i1, fun x => ?_⟩
    rw [List.foldl_cons, i2 x, HW]
    constructor
    · rintro ((h | h) | ⟨q, h, h'⟩)
      · exact .inr ⟨e, by simp, h.symm⟩
      · exact .inl h
      · exact .inr ⟨q, by simp [h], h'⟩
    · rintro (h | ⟨q, h, h'⟩)
      · exact .inl (.inr h)
      · rcases List.mem_cons.1 h with rfl | h
        · exact .inl (.inl h'.symm)
        · exact .inr ⟨q, h, h'⟩

theorem CQ {l : List aE} (h : ∀ e ∈ l, e.At < 1125899906842624) : Inc (-1) (bI l) :=
  (EV (c := []) (fun e he => by have := List.mem_filter.1 he; exact ⟨this.2, h e this.1⟩) trivial).1

theorem yF {l : List aE} (h : ∀ e ∈ l, e.At < 1125899906842624) {x : Int} : x ∈ bI l ↔ ∃ e ∈ l, lV e = true ∧ e.At = x := by
  unfold bI
  rw [(EV (c := []) (fun e he => by have := List.mem_filter.1 he; exact ⟨this.2, h e this.1⟩) trivial).2 x]
  constructor
  · rintro (h1 | ⟨e, h1, h2⟩)
    · simp at h1
    · have := List.mem_filter.1 h1; exact ⟨e, this.1, this.2, h2⟩
  · rintro ⟨e, h1, h2, h3⟩
    exact .inr ⟨e, List.mem_filter.2 ⟨h1, h2⟩, h3⟩

theorem QY {l : List aE} : ∀ {c : List Int}, l.foldl (fun c e => c ++ [e.At]) c = c ++ l.map (·.At) := by
  induction l with
  | nil => intro c; simp
  | cons e l ih => intro c; rw [List.foldl_cons, ih]; simp

theorem tV {l : List aE} (hn : l.length ≤ 4096) (hat : ∀ e ∈ l, e.At < 1125899906842624) : lK l = some (bI l) := by
  unfold lK nC
  rw [Option.bind_some]
  unfold pE
  rw [FE (by omega) (fun s e => s ++ [e.At]) (fun s r => s.length + r.length ≤ 1000000) (fun s e r hI => ⟨fun _ => ⟨?_, ?_⟩, fun _ => ?_⟩) (by simp; omega), Option.bind_some, Sum.elim_inl, QY, List.nil_append]
  · have hfl := List.length_filter_le lV l
    obtain ⟨d', h1, h2, h3⟩ := YG (d := (l.filter lV).map (·.At)) (by simp; omega)
    have hdl : d'.length ≤ 4096 := by rw [h2.length_eq, List.length_map]; omega
    obtain ⟨c, h4, h5⟩ := OK h3 (by omega)
    rw [h1, Option.bind_some, h4, Option.bind_some]
    congr 1
    refine BL h5.1 (zV (CQ hat)) fun x => ?_
    rw [h5.2 x, List.take_length, h2.mem_iff, yF hat, List.mem_map]
    constructor
    · rintro ⟨e, q1, q2⟩
      have := List.mem_filter.1 q1; exact ⟨e, this.1, this.2, q2⟩
    · rintro ⟨e, q1, q2, q3⟩
      exact ⟨e, List.mem_filter.2 ⟨q1, q2⟩, q3⟩
  · simp only [List.length_cons] at hI
    unfold nG
    rw [aM (by simp only [List.length_cons, List.length_nil]; omega)]
  · simp only [List.length_cons, List.length_append, List.length_nil] at hI ⊢; omega
  · simp only [List.length_cons] at hI; omega

theorem MP (l : List aE) : (bI l).length ≤ l.length := by
  have key : ∀ (l : List aE) (c : List Int), (l.foldl (fun c e => pL e.At c) c).length ≤ c.length + l.length := by
    intro l
    induction l with
    | nil => intro c; simp
    | cons e l ih => intro c; rw [List.foldl_cons]; have := ih (pL e.At c); have := HG (t := e.At) (ps := c); simp only [List.length_cons]; omega
  have h1 := key (l.filter lV) []
  have h2 := List.length_filter_le lV l
  simp only [List.length_nil] at h1
  unfold bI; omega

end Go.Abs
namespace Go.Abs
open Go
theorem VQ {a : List Int} {t : Int} {m : Nat} (h1 : ∀ x ∈ a.take m, x < t) (h2 : ∀ x ∈ a.drop m, t ≤ x) : (a.filter fun x => decide (x < t)) = a.take m ∧ (a.filter fun x => decide (t ≤ x)) = a.drop m := by
  have e : a = a.take m ++ a.drop m := (List.take_append_drop m a).symm
  have e1 : (a.take m).filter (fun x => decide (x < t)) = a.take m := List.filter_eq_self.2 fun x hx => by simpa using h1 x hx
  have e2 : (a.drop m).filter (fun x => decide (x < t)) = [] := List.filter_eq_nil_iff.2 fun x hx => by have := h2 x hx; simp; omega
  have e3 : (a.take m).filter (fun x => decide (t ≤ x)) = [] := List.filter_eq_nil_iff.2 fun x hx => by have := h1 x hx; simp; omega
  have e4 : (a.drop m).filter (fun x => decide (t ≤ x)) = a.drop m := List.filter_eq_self.2 fun x hx => by simpa using h2 x hx
  constructor
  · conv => lhs; rw [e]
    rw [List.filter_append, e1, e2, List.append_nil]
  · conv => lhs; rw [e]
    rw [List.filter_append, e3, e4, List.nil_append]

theorem ND (x y : Int) : cN x y = some (decide (x < y)) := by simp [cN, jO, dJ]

theorem ZZ {a : List Int} (hd : a.Pairwise (· ≤ ·)) (hl : a.length ≤ 1000000) (t : Int) : ∃ (m : Nat) (b : Bool), eO a t = some (((m : Nat) : Int), b) ∧ m ≤ a.length ∧ (a.filter fun x => decide (x < t)) = a.take m ∧ (a.filter fun x => decide (t ≤ x)) = a.drop m := by
  unfold eO jN
  have key := KS (body := fun s : Int × Int => eE a t ((a.length : Nat) : Int) s.1 s.2)
    (I := fun s => ∃ i j : Nat, s.1 = ((i : Nat) : Int) ∧ s.2 = ((j : Nat) : Int) ∧ i ≤ j ∧ j ≤ a.length ∧ (∀ k, k < i → a.getD k 0 < t) ∧ ∀ k, j ≤ k → k < a.length → t ≤ a.getD k 0)
    (m := fun s => s.2.toNat - s.1.toNat) (Post := fun r => ∃ m : Nat, r = ((m : Nat) : Int) ∧ m ≤ a.length ∧ (∀ k, k < m → a.getD k 0 < t) ∧ ∀ k, m ≤ k → k < a.length → t ≤ a.getD k 0) ?_ (s := (0, ((a.length : Nat) : Int))) ?_
  · obtain ⟨r, h1, m, rfl, h2, h3, h4⟩ := key
    rw [h1, Option.bind_some]
    have hs := VQ (a := a) (t := t) (m := m) (fun x hx => by
      obtain ⟨k, hk⟩ := List.getElem?_of_mem hx
      rw [List.getElem?_take] at hk
      split at hk
      · rename_i hlt
        have := h3 k hlt
        rwa [List.getD_eq_getElem?_getD, hk] at this
      · cases hk) (fun x hx => by
      obtain ⟨k, hk⟩ := List.getElem?_of_mem hx
      rw [List.getElem?_drop] at hk
      have hlt := (List.getElem?_eq_some_iff.1 hk).1
      have := h4 (m + k) (by omega) hlt
      rwa [List.getD_eq_getElem?_getD, hk] at this)
    unfold hU
    have c1 : ∀ b : Bool, (b && decide (((m : Nat) : Int) < ((a.length : Nat) : Int))) = true → (0 : Int) ≤ ((m : Nat) : Int) ∧ ((m : Nat) : Int) < ((a.length : Nat) : Int) := fun b hb => by
      simp only [Bool.and_eq_true, decide_eq_true_eq] at hb; omega
    rw [aM (fun hb => by have := of_decide_eq_true hb; omega), aM (c1 _)]
    simp only [mN, dJ]
    cases (!decide (a.getD (Int.toNat ((m : Nat) : Int)) default = t) && decide (((m : Nat) : Int) < ((a.length : Nat) : Int))) <;> simp only [cond_true, cond_false, Option.bind_some, Bool.and_true, Bool.and_false, decide_true, Bool.not_true]
    · exact ⟨m, _, rfl, h2, hs.1, hs.2⟩
    · exact ⟨m, _, rfl, h2, hs.1, hs.2⟩
  · rintro ⟨x, y⟩ ⟨i, j, e1, e2, g1, g2, g3, g4⟩
    simp only at e1 e2
    subst e1 e2
    by_cases hij : i < j
    · left
      have hm : IntKind.i64.wrap (Int.fdiv (IntKind.u64.wrap (IntKind.i64.wrap (((i : Nat) : Int) + ((j : Nat) : Int)))) (2 ^ (min (Int.toNat (1 : Int)) 64))) = (((i + j) / 2 : Nat) : Int) := by
        rw [← Int.natCast_add]; exact half (by omega)
      have c1 : (0 : Int) ≤ (((i + j) / 2 : Nat) : Int) ∧ (((i + j) / 2 : Nat) : Int) < ((a.length : Nat) : Int) := ⟨by omega, by omega⟩
      have w1 : IntKind.i64.wrap ((((i + j) / 2 : Nat) : Int) + 1) = (((i + j) / 2 + 1 : Nat) : Int) := by rw [dS (by omega) (by omega)]; omega
      by_cases hc : a.getD ((i + j) / 2) 0 < t
      · refine ⟨((((i + j) / 2 + 1 : Nat) : Int), ((j : Nat) : Int)), ?_, ⟨(i + j) / 2 + 1, j, rfl, rfl, by omega, g2, fun k hk => ?_, g4⟩, by simp only [Int.toNat_natCast]; omega⟩
        · simp only [eE, decide_eq_true (show ((i : Nat) : Int) < ((j : Nat) : Int) by omega), cond_true, aM (show (0 : Int) ≤ 1 by decide), hm, aM c1, Int.toNat_natCast, oX, ND, Option.bind_some, w1]
          rw [decide_eq_true hc, cond_true]
        · have := ER hd (i := k) (j := (i + j) / 2) (by omega) (by omega); omega
      · refine ⟨(((i : Nat) : Int), (((i + j) / 2 : Nat) : Int)), ?_, ⟨i, (i + j) / 2, rfl, rfl, by omega, by omega, g3, fun k hk hkl => ?_⟩, by simp only [Int.toNat_natCast]; omega⟩
        · simp only [eE, decide_eq_true (show ((i : Nat) : Int) < ((j : Nat) : Int) by omega), cond_true, aM (show (0 : Int) ≤ 1 by decide), hm, aM c1, Int.toNat_natCast, oX, ND, Option.bind_some, w1]
          rw [decide_eq_false hc, cond_false]
        · have := ER hd (i := (i + j) / 2) (j := k) (by omega) hkl; omega
    · right
      refine ⟨((i : Nat) : Int), ?_, i, rfl, by omega, g3, fun k hk hkl => g4 k (by omega) hkl⟩
      simp only [eE, decide_eq_false (show ¬ ((i : Nat) : Int) < ((j : Nat) : Int) by omega), cond_false]
  · exact ⟨0, a.length, rfl, rfl, by omega, Nat.le_refl _, fun k hk => by omega, fun k h1 h2 => by omega⟩

def kR (l : List aE) (n : Int) : Int := if !kW l || decide (n < 1) || decide (64 < n) then 2 else if !rL l then 20 else 0

theorem wU {l : List aE} (hl : okL l) (n : Int) : nF l n = some (kR l n) := by
  unfold nF kR
  rw [NX hl, Option.bind_some]
  cases (!kW l || decide (n < 1) || decide (64 < n)) with
  | true => rfl
  | false =>
    rw [cond_false, SL hl, Option.bind_some]
    cases rL l <;> rfl

theorem vJ {l : List aE} {n : Int} (h : kR l n = 0) : kW l = true ∧ rL l = true ∧ 1 ≤ n ∧ n ≤ 64 := by
  unfold kR at h
  cases hm : kW l with
  | false => simp [hm] at h
  | true =>
    cases ht : rL l with
    | false => rw [hm, ht] at h; split at h <;> simp at h
    | true =>
      rw [hm, ht] at h
      split at h
      · simp at h
      · rename_i c; simp at c; exact ⟨rfl, rfl, by omega, by omega⟩

theorem IM {l : List aE} {n : Int} (hm : kW l = true) (ht : rL l = true) (h1 : 1 ≤ n) (h2 : n ≤ 64) : kR l n = 0 := by
  unfold kR
  have e1 : decide (n < 1) = false := by simp; omega
  have e2 : decide (64 < n) = false := by simp; omega
  rw [hm, ht, e1, e2]; rfl

theorem yO {l : List aE} (hm : kW l = true) : ∀ e ∈ l, e.At < 1125899906842624 := fun e he => (EH hm he).2.2.1

def FY (l : List aE) : List Int × Int := if kR l 1 ≠ 0 then ([], kR l 1) else (bI l, 0)

theorem DU {l : List aE} (hl : okL l) : oE l = some (FY l) := by
  unfold oE FY
  rw [wU hl, Option.bind_some]
  by_cases h : kR l 1 = 0
  · obtain ⟨hm, _⟩ := vJ h
    rw [decide_eq_true h, Bool.not_true, cond_false, tV (lQ hm).1 (yO hm), Option.bind_some, if_neg (by simpa using h)]
  · rw [decide_eq_false h, Bool.not_false, cond_true, if_pos h]

def eR (a : List Int) (t : Int) : Nat := (a.filter fun x => decide (x < t)).length

def firstM (a : List Int) (n t : Int) : Nat := ((eR a t : Int) - n + 1).toNat

def lM (a : List Int) (n t : Int) : Int := if firstM a n t = eR a t then t else a.getD (firstM a n t) 0

def rM (l : List aE) (n t : Int) : Int × Int :=
  if kR l n ≠ 0 then (0, kR l n) else if t < 0 ∨ 1125899906842624 < t then (0, 13) else if t = 1125899906842624 then (t, 0) else (lM (bI l) n t, 0)

theorem uK (a : List Int) (t : Int) : eR a t ≤ a.length := List.length_filter_le ..

theorem JK {a : List Int} (hd : a.Pairwise (· ≤ ·)) (hl : a.length ≤ 1000000) (t : Int) : (∃ b : Bool, eO a t = some (((eR a t : Nat) : Int), b)) ∧ (a.filter fun x => decide (x < t)) = a.take (eR a t) ∧ (a.filter fun x => decide (t ≤ x)) = a.drop (eR a t) := by
  obtain ⟨m, b, h1, h2, h3, h4⟩ := ZZ hd hl t
  have hm : eR a t = m := by unfold eR; rw [h3, List.length_take]; omega
  rw [hm]; exact ⟨⟨b, h1⟩, h3, h4⟩

theorem oN {l : List aE} (hm : kW l = true) : (bI l).Pairwise (· < ·) ∧ (bI l).Pairwise (· ≤ ·) ∧ (bI l).length ≤ 4096 ∧ ∀ x ∈ bI l, 0 ≤ x ∧ x < 1125899906842624 := by
  have hi := CQ (yO hm)
  refine ⟨zV hi, YE hi, by have := MP l; have := (lQ hm).1; omega, fun x hx => by have := hi.above x hx; omega⟩

theorem vQ {l : List aE} (hl : okL l) (n t : Int) : mS l n t = some (rM l n t) := by
  unfold mS rM
  rw [wU hl, Option.bind_some]
  by_cases h : kR l n = 0
  · obtain ⟨hm, _, n1, n2⟩ := vJ h
    obtain ⟨f1, f2, f3, f4⟩ := oN hm
    rw [decide_eq_true h, Bool.not_true, cond_false, if_neg (by simpa using h)]
    by_cases h1 : t < 0 ∨ 1125899906842624 < t
    · have : (decide (t < 0) || decide (1125899906842624 < t)) = true := by simpa using h1
      rw [this, cond_true, if_pos h1]
    · have : (decide (t < 0) || decide (1125899906842624 < t)) = false := by simpa using h1
      rw [this, cond_false, if_neg h1]
      by_cases h2 : t = 1125899906842624
      · rw [decide_eq_true h2, cond_true, if_pos h2]
      · rw [decide_eq_false h2, cond_false, if_neg h2, tV (lQ hm).1 (yO hm), Option.bind_some]
        obtain ⟨⟨b, hb⟩, hs1, hs2⟩ := JK f2 (by omega) t
        have hle := uK (bI l) t
        rw [hb, Option.bind_some]
        have w1 : IntKind.i64.wrap (IntKind.i64.wrap (((eR (bI l) t : Nat) : Int) - n) + 1) = ((eR (bI l) t : Nat) : Int) - n + 1 := by
          rw [dS (n := ((eR (bI l) t : Nat) : Int) - n) (by omega) (by omega), dS (by omega) (by omega)]
        have e1 : (if IntKind.i64.wrap (IntKind.i64.wrap (((eR (bI l) t : Nat) : Int) - n) + 1) > 0 then IntKind.i64.wrap (IntKind.i64.wrap (((eR (bI l) t : Nat) : Int) - n) + 1) else 0) = ((firstM (bI l) n t : Nat) : Int) := by
          rw [w1]; unfold firstM
          split <;> omega
        simp only [e1]
        unfold lM
        by_cases hf : firstM (bI l) n t = eR (bI l) t
        · rw [decide_eq_true (by omega), cond_true, if_pos hf]
        · have hlt : firstM (bI l) n t < eR (bI l) t := by unfold firstM at hf ⊢; omega
          rw [decide_eq_false (by omega), cond_false, if_neg hf, aM (by omega), Int.toNat_natCast]; rfl
  · rw [decide_eq_false h, Bool.not_false, cond_true, if_pos h]

end Go.Abs
namespace Go.Abs
open Go
theorem PT (a b : List aB) (hl : a.length ≤ 17592186044416) : eT a b = some (decide (a = b)) := by
  have := FN a b hl
  unfold rT at this
  simpa using this

def inW (a b : Int) (j : aC) : Bool := decide (0 < j.Net) && (decide (a ≤ j.At) && decide (j.At < b))

def rG (a b : Int) (f : List aC) : Int := ((f.filter (inW a b)).map aC.Net).sum

def tU (a b : Int) (gs : List (List aB × List aC)) : List bU := gs.filterMap fun g => if 0 < rG a b g.2 then some ⟨g.1, rG a b g.2⟩ else none

def vW (rs : List bU) : bU := rs.getD (rs.length - 1) default

def vS (rs : List bU) (e : aE) : List bU := if 0 < rs.length ∧ (vW rs).Row = e.Row then rs.set (rs.length - 1) ⟨(vW rs).Row, (vW rs).N + e.Net⟩ else rs ++ [⟨e.Row, e.Net⟩]

def wX (p : aX) (e : aE) : aX := if e.At < p.Span.From ∨ p.Span.To ≤ e.At then p else ⟨p.Span, vS p.Rows e⟩

def nP (a b : Int) (rs : List bU) (e : aE) : List bU := if inW a b (jE e) then vS rs e else rs

theorem AS (a b : Int) (j : aC) (f : List aC) : rG a b (j :: f) = (if inW a b j then j.Net else 0) + rG a b f := by
  unfold rG
  by_cases h : inW a b j <;> simp [h]

theorem xZ (a b : Int) : ∀ f : List aC, 0 ≤ rG a b f ∧ (rG a b f = 0 ↔ f.filter (inW a b) = [])
  | [] => by simp [rG]
  | j :: f => by
    obtain ⟨h1, h2⟩ := xZ a b f
    rw [AS]
    by_cases h : inW a b j
    · have : 0 < j.Net := by simp [inW] at h; omega
      rw [if_pos h]
      refine ⟨by omega, ?_⟩
      constructor
      · intro e; omega
      · intro e; simp [h] at e
    · rw [if_neg h, Int.zero_add]
      refine ⟨h1, ?_⟩
      rw [h2]; simp [h]

theorem EJ (a b : Int) (g : List aB × List aC) (gs : List (List aB × List aC)) : tU a b (g :: gs) = (if 0 < rG a b g.2 then [⟨g.1, rG a b g.2⟩] else []) ++ tU a b gs := by
  unfold tU
  rw [List.filterMap_cons]
  by_cases h : 0 < rG a b g.2 <;> simp [h]

theorem OR (R : List bU) (c : bU) : vW (R ++ [c]) = c := by
  unfold vW
  simp [List.getD_eq_getElem?_getD]

theorem WE (R : List bU) (c d : bU) : (R ++ [c]).set ((R ++ [c]).length - 1) d = R ++ [d] := by
  simp [List.set_append_right]

theorem GK (a b : Int) (r : List aB) : ∀ (f : List aC) (R : List bU) (v : Int), (gQ r f).foldl (nP a b) (R ++ [⟨r, v⟩]) = R ++ [⟨r, v + rG a b f⟩]
  | [], R, v => by simp [gQ, rG]
  | j :: f, R, v => by
    have e : gQ r (j :: f) = ⟨r, j.At, j.Net⟩ :: gQ r f := rfl
    rw [e, List.foldl_cons, AS]
    have ej : jE ⟨r, j.At, j.Net⟩ = j := rfl
    by_cases h : inW a b j
    · have e1 : nP a b (R ++ [⟨r, v⟩]) ⟨r, j.At, j.Net⟩ = R ++ [⟨r, v + j.Net⟩] := by
        unfold nP vS
        rw [ej, if_pos h, OR, if_pos ⟨by simp, rfl⟩, WE]
      rw [e1, GK a b r f, if_pos h, Int.add_assoc]
    · have e1 : nP a b (R ++ [⟨r, v⟩]) ⟨r, j.At, j.Net⟩ = R ++ [⟨r, v⟩] := by
        unfold nP
        rw [ej, if_neg h]
      rw [e1, GK a b r f, if_neg h, Int.zero_add]

theorem BS {rs : List bU} (h : 0 < rs.length) : vW rs ∈ rs := by
  unfold vW
  rw [List.getD_eq_getElem?_getD, List.getElem?_eq_getElem (by omega)]
  exact List.getElem_mem _

theorem JQ (a b : Int) (r : List aB) : ∀ (f : List aC) (rs : List bU), (∀ c ∈ rs, c.Row ≠ r) → (gQ r f).foldl (nP a b) rs = rs ++ (if 0 < rG a b f then [⟨r, rG a b f⟩] else [])
  | [], rs, _ => by simp [gQ, rG]
  | j :: f, rs, hr => by
    have e : gQ r (j :: f) = ⟨r, j.At, j.Net⟩ :: gQ r f := rfl
    have ej : jE ⟨r, j.At, j.Net⟩ = j := rfl
    rw [e, List.foldl_cons, AS]
    have hg := (xZ a b f).1
    by_cases h : inW a b j
    · have hj : 0 < j.Net := by simp [inW] at h; omega
      have e1 : nP a b rs ⟨r, j.At, j.Net⟩ = rs ++ [⟨r, j.Net⟩] := by
        unfold nP vS
        rw [ej, if_pos h, if_neg fun hc => hr _ (BS hc.1) hc.2]
      rw [e1, GK, if_pos h, if_pos (by omega)]
    · have e1 : nP a b rs ⟨r, j.At, j.Net⟩ = rs := by
        unfold nP
        rw [ej, if_neg h]
      rw [e1, JQ a b r f rs hr, if_neg h, Int.zero_add]

theorem CR (a b : Int) : ∀ {gs : List (List aB × List aC)} {rs : List bU}, rZ gs → (∀ c ∈ rs, ∀ g ∈ gs, c.Row ≠ g.1) → (flat gs).foldl (nP a b) rs = rs ++ tU a b gs
  | [], rs, _, _ => by simp [flat, tU]
  | g :: gs, rs, hs, hr => by
    obtain ⟨h1, h2⟩ := List.pairwise_cons.1 hs
    rw [oV, List.foldl_append, JQ a b g.1 g.2 rs fun c hc => hr c hc g (by simp), CR a b h2 fun c hc q hq => ?_, EJ, List.append_assoc]
    rcases List.mem_append.1 hc with hc | hc
    · exact hr c hc q (by simp [hq])
    · split at hc
      · simp at hc; subst hc
        intro e
        have : oU g.1 q.1 < 0 := h1 q hq
        simp only at e
        rw [e] at this
        exact qT this
      · simp at hc

theorem GP {a b : Int} {e : aE} : inW a b (jE e) = true ↔ 0 < e.Net ∧ a ≤ e.At ∧ e.At < b := by
  unfold inW jE
  simp only [Bool.and_eq_true, decide_eq_true_eq]

theorem zD {a b : Int} (ha : 0 ≤ a) : ∀ (l : List aE) (rs : List bU), (l.filter lV).foldl wX ⟨⟨a, b⟩, rs⟩ = ⟨⟨a, b⟩, l.foldl (nP a b) rs⟩
  | [], rs => rfl
  | e :: l, rs => by
    cases h : lV e with
    | true =>
      have hp : 0 < e.Net ∧ -1 < e.At := by simpa [lV] using h
      simp only [List.filter_cons, h, if_true, List.foldl_cons]
      by_cases hw : e.At < a ∨ b ≤ e.At
      · have e1 : wX ⟨⟨a, b⟩, rs⟩ e = ⟨⟨a, b⟩, rs⟩ := by unfold wX; rw [if_pos hw]
        have e2 : nP a b rs e = rs := by
          unfold nP
          have : inW a b (jE e) = false := by
            cases hq : inW a b (jE e) with
            | false => rfl
            | true => have := GP.1 hq; omega
          rw [this]; rfl
        rw [e1, e2, zD ha l rs]
      · have e1 : wX ⟨⟨a, b⟩, rs⟩ e = ⟨⟨a, b⟩, vS rs e⟩ := by unfold wX; rw [if_neg hw]
        have e2 : nP a b rs e = vS rs e := by
          unfold nP
          have : inW a b (jE e) = true := GP.2 ⟨hp.1, by omega, by omega⟩
          rw [this]; rfl
        rw [e1, e2, zD ha l (vS rs e)]
    | false =>
      have hp : ¬ (0 < e.Net ∧ -1 < e.At) := by simpa [lV] using h
      have e2 : nP a b rs e = rs := by
        unfold nP
        have : inW a b (jE e) = false := by
          cases hq : inW a b (jE e) with
          | false => rfl
          | true => have := GP.1 hq; omega
        rw [this]; rfl
      simp only [List.filter_cons, h, Bool.false_eq_true, if_false, List.foldl_cons, e2]
      exact zD ha l rs

def AE (l : List aE) (run : List Int) : aX := ⟨⟨run.getD 0 0, run.getD (run.length - 1) 0 + 1⟩, tU (run.getD 0 0) (run.getD (run.length - 1) 0 + 1) (groups l)⟩

def FZ (rs : List bU) (r : List aE) : Prop := rs.length + r.length ≤ 1000000 ∧ (∀ c ∈ rs, c.Row.length ≤ 17592186044416 ∧ 0 ≤ c.N ∧ c.N + 1048576 * r.length ≤ 4503599627370496) ∧ ∀ e ∈ r, e.Row.length ≤ 4398046510976 ∧ e.Net ≤ 1048576

theorem HX {rs : List bU} {e : aE} {r : List aE} (h : FZ rs (e :: r)) : FZ rs r := by
  obtain ⟨h1, h2, h3⟩ := h
  simp only [List.length_cons] at h1 h2
  exact ⟨by omega, fun c hc => by have := h2 c hc; omega, fun q hq => h3 q (by simp [hq])⟩

theorem UK {rs : List bU} {e : aE} {r : List aE} (h : FZ rs (e :: r)) (hn : 0 < e.Net) : FZ (vS rs e) r := by
  obtain ⟨h1, h2, h3⟩ := h
  have he := h3 e (by simp)
  simp only [List.length_cons] at h1 h2
  unfold vS
  split
  · rename_i hc
    have hm := h2 _ (BS hc.1)
    refine ⟨by rw [List.length_set]; omega, fun c hcm => ?_, fun q hq => h3 q (by simp [hq])⟩
    rcases List.mem_or_eq_of_mem_set hcm with hcm | rfl
    · have := h2 c hcm; omega
    · refine ⟨hm.1, ?_⟩; simp only; omega
  · refine ⟨by simp only [List.length_append, List.length_cons, List.length_nil]; omega, fun c hcm => ?_, fun q hq => h3 q (by simp [hq])⟩
    rcases List.mem_append.1 hcm with hcm | hcm
    · have := h2 c hcm; omega
    · simp at hcm; subst hcm; simp only; omega

theorem OV {l : List aE} {t p : aX} {e : aE} {r : List aE} (h : FZ p.Rows (e :: r)) (hr : lV e = true) : mD l t p e = some (.inl (t, wX p e)) := by
  obtain ⟨h1, h2, h3⟩ := h
  have he := h3 e (by simp)
  have hn : 0 < e.Net := by simp [lV] at hr; omega
  simp only [List.length_cons] at h1 h2
  unfold mD wX
  by_cases hw : e.At < p.Span.From ∨ p.Span.To ≤ e.At
  · have : (decide (e.At < p.Span.From) || decide (p.Span.To ≤ e.At)) = true := by simpa using hw
    rw [this, cond_true, if_pos hw]
  · have : (decide (e.At < p.Span.From) || decide (p.Span.To ≤ e.At)) = false := by simpa using hw
    rw [this, cond_false, if_neg hw]
    have w1 : IntKind.i64.wrap (((p.Rows.length : Nat) : Int) - 1) = ((p.Rows.length : Nat) : Int) - 1 := dS (by omega) (by omega)
    rw [w1]
    by_cases h0 : 0 < p.Rows.length
    · have c1 : (0 : Int) ≤ ((p.Rows.length : Nat) : Int) - 1 ∧ ((p.Rows.length : Nat) : Int) - 1 < ((p.Rows.length : Nat) : Int) := ⟨by omega, by omega⟩
      have e1 : Int.toNat (((p.Rows.length : Nat) : Int) - 1) = p.Rows.length - 1 := by omega
      have e2 : p.Rows.getD (p.Rows.length - 1) default = vW p.Rows := rfl
      have hm := h2 _ (BS h0)
      rw [aM (fun _ => c1), decide_eq_true c1.1]
      simp only [dJ, cond_true, e1, e2, PT _ e.Row hm.1, Option.bind_some, Bool.true_and]
      by_cases hq : (vW p.Rows).Row = e.Row
      · rw [decide_eq_true hq, cond_true, aM c1, aM c1]
        unfold vS
        rw [if_pos ⟨h0, hq⟩, dS (by omega) (by omega)]
      · rw [decide_eq_false hq, cond_false, CL he.1, Option.bind_some, aM (by simp only [List.length_cons, List.length_nil]; omega)]
        unfold vS
        rw [if_neg fun hc => hq hc.2]
    · have c0 : decide ((0 : Int) ≤ ((p.Rows.length : Nat) : Int) - 1) = false := by rw [decide_eq_false_iff_not]; omega
      rw [aM (fun hc => by rw [c0] at hc; cases hc), c0]
      simp only [dJ, cond_false, Option.bind_some, Bool.false_and]
      rw [CL he.1, Option.bind_some, aM (by simp only [List.length_cons, List.length_nil]; omega)]
      unfold vS
      rw [if_neg fun hc => h0 hc.1]

theorem DZ {l : List aE} (hl : okL l) (hm : kW l = true) {run : List Int} (h0 : 0 < run.length) (h1 : run.length ≤ 1000000) (hr : ∀ x ∈ run, 0 ≤ x ∧ x < 1125899906842624) : oB l run = some (AE l run) := by
  unfold oB nC pG
  have w1 : IntKind.i64.wrap (((run.length : Nat) : Int) - 1) = ((run.length : Nat) : Int) - 1 := dS (by omega) (by omega)
  have e1 : Int.toNat (((run.length : Nat) : Int) - 1) = run.length - 1 := by omega
  have hg : ∀ i, i < run.length → 0 ≤ run.getD i 0 ∧ run.getD i 0 < 1125899906842624 := fun i hi => by
    rw [List.getD_eq_getElem?_getD, List.getElem?_eq_getElem hi]; exact hr _ (List.getElem_mem _)
  have ha := hg 0 h0
  have hb := hg (run.length - 1) (by omega)
  rw [aM (by omega), w1, aM (by omega), Option.bind_some, e1, oX, oX, show Int.toNat (0 : Int) = 0 from rfl, dS (by omega) (by omega)]
  have hn := (lQ hm).1
  rw [FE (by omega) (fun (s : aX × aX) e => (s.1, wX s.2 e)) (fun s r => FZ s.2.Rows r) (fun s e r hI => ⟨fun hrise => ⟨OV hI hrise, ?_⟩, fun _ => HX hI⟩)
    ⟨by simp; omega, by simp, fun e he => ⟨hl.2 e he, (EH hm he).2.2.2.2.1⟩⟩, Option.bind_some, Sum.elim_inl]
  · have key : ∀ (es : List aE) (s : aX × aX), (es.foldl (fun (s : aX × aX) e => (s.1, wX s.2 e)) s).2 = es.foldl wX s.2 := by
      intro es
      induction es with
      | nil => intro s; rfl
      | cons e es ih => intro s; rw [List.foldl_cons, List.foldl_cons, ih]
    rw [key]
    simp only
    rw [zD ha.1]
    have hfl := yD l
    have hsg := CR (run.getD 0 0) (run.getD (run.length - 1) 0 + 1) (gs := groups l) (rs := []) (lQ hm).2.2 (by simp)
    rw [hfl] at hsg
    rw [hsg, List.nil_append]
    rfl
  · simp only
    unfold wX
    split
    · exact HX hI
    · exact UK hI (by simp [lV] at hrise; omega)

def mW (n : Nat) (mk : List Int → aX) : List Int → List aX
  | [] => []
  | x :: r => (if n ≤ r.length + 1 then [mk ((x :: r).take n)] else []) ++ mW n mk r

theorem CW {n : Nat} {mk : List Int → aX} : ∀ {r : List Int}, r.length < n → mW n mk r = []
  | [], _ => rfl
  | x :: r, h => by
    simp only [List.length_cons] at h
    unfold mW
    rw [if_neg (by omega), CW (by omega)]; rfl

theorem HM {n : Nat} {mk : List Int → aX} (hn : 0 < n) : ∀ r : List Int, (mW n mk r).length = r.length + 1 - n
  | [] => by simp [mW]; omega
  | x :: r => by
    unfold mW
    rw [List.length_append, HM hn r]
    simp only [List.length_cons]
    split
    · simp; omega
    · simp; omega

theorem yS {l : List aE} (hl : okL l) (hm : kW l = true) {n : Int} (h1 : 1 ≤ n) (h2 : n ≤ 64) : ∀ (rest : List Int) (out : List aX), (∀ x ∈ rest, 0 ≤ x ∧ x < 1125899906842624) → out.length + rest.length ≤ 1000000 →
    lp (fun s : List Int × List aX => kM l n s.1 s.2) (rest, out) = some (out ++ mW n.toNat (AE l) rest)
  | [], out, _, _ => by
    refine cV ?_
    simp only [kM, decide_eq_false (show ¬ n ≤ ((([] : List Int).length : Nat) : Int) by simp; omega), cond_false]
    simp [mW]
  | x :: r, out, hr, ho => by
    simp only [List.length_cons] at ho
    by_cases hc : n ≤ (((x :: r).length : Nat) : Int)
    · have hlen : n.toNat ≤ (x :: r).length := by omega
      have ht : ((x :: r).take n.toNat).length = n.toNat := by rw [List.length_take]; omega
      have hw := DZ hl hm (run := (x :: r).take n.toNat) (by omega) (by omega) (fun y hy => hr y (List.mem_of_mem_take hy))
      have hb : kM l n (x :: r) out = some (.inl (r, out ++ [AE l ((x :: r).take n.toNat)])) := by
        simp only [kM, decide_eq_true hc, cond_true]
        rw [aM ⟨by omega, Int.le_refl _, hc⟩, hw, Option.bind_some, aM (by simp only [List.length_cons, List.length_nil]; omega), aM ⟨by omega, by simp only [List.length_cons]; omega⟩]
        rfl
      rw [gF hb, yS hl hm h1 h2 r _ (fun y hy => hr y (by simp [hy])) (by simp only [List.length_append, List.length_cons, List.length_nil]; omega)]
      conv => rhs; unfold mW
      simp only [List.length_cons] at hlen
      rw [if_pos hlen, List.append_assoc]
    · have hlen : (x :: r).length < n.toNat := by omega
      rw [CW hlen]
      refine cV ?_
      simp only [kM, decide_eq_false hc, cond_false, List.append_nil]

def rK (l : List aE) (n frm : Int) : List aX × Int :=
  if kR l n ≠ 0 then ([], kR l n) else if frm < 0 ∨ 1125899906842624 < frm then ([], 13) else
  if 1024 < (((bI l).drop (eR (bI l) frm)).length : Int) - n + 1 then ([], 7) else (mW n.toNat (AE l) ((bI l).drop (eR (bI l) frm)), 0)

theorem uO {l : List aE} (hl : okL l) (n frm : Int) : mI l n frm = some (rK l n frm) := by
  unfold mI rK
  rw [wU hl, Option.bind_some]
  by_cases h : kR l n = 0
  · obtain ⟨hm, ht, n1, n2⟩ := vJ h
    obtain ⟨f1, f2, f3, f4⟩ := oN hm
    rw [decide_eq_true h, Bool.not_true, cond_false, if_neg (by simpa using h)]
    by_cases h1 : frm < 0 ∨ 1125899906842624 < frm
    · have : (decide (frm < 0) || decide (1125899906842624 < frm)) = true := by simpa using h1
      rw [this, cond_true, if_pos h1]
    · have : (decide (frm < 0) || decide (1125899906842624 < frm)) = false := by simpa using h1
      rw [this, cond_false, if_neg h1, tV (lQ hm).1 (yO hm), Option.bind_some]
      obtain ⟨⟨b, hb⟩, _, _⟩ := JK f2 (by omega) frm
      have hle := uK (bI l) frm
      rw [hb, Option.bind_some, aM ⟨by omega, by omega, Int.le_refl _, Int.le_refl _⟩]
      simp only [Int.toNat_natCast, List.take_length]
      have hdl : ((bI l).drop (eR (bI l) frm)).length ≤ 4096 := by rw [List.length_drop]; omega
      have w1 : IntKind.i64.wrap (IntKind.i64.wrap (((((bI l).drop (eR (bI l) frm)).length : Nat) : Int) - n) + 1) = ((((bI l).drop (eR (bI l) frm)).length : Nat) : Int) - n + 1 := by
        rw [dS (n := ((((bI l).drop (eR (bI l) frm)).length : Nat) : Int) - n) (by omega) (by omega), dS (by omega) (by omega)]
      rw [w1]
      by_cases h3 : 1024 < ((((bI l).drop (eR (bI l) frm)).length : Nat) : Int) - n + 1
      · rw [decide_eq_true h3, cond_true, if_pos h3]
      · rw [decide_eq_false h3, cond_false, if_neg h3]
        unfold qM
        rw [yS hl hm n1 n2 _ [] (fun x hx => f4 x (List.mem_of_mem_drop hx)) (by simp only [List.length_nil]; omega)]
        rfl
  · rw [decide_eq_false h, Bool.not_false, cond_true, if_pos h]

end Go.Abs
namespace Go.Abs
open Go
theorem HD {n : Nat} {mk : List Int → aX} {p : aX} : ∀ {r : List Int}, p ∈ mW n mk r → ∃ run, p = mk run
  | [], h => by simp [mW] at h
  | x :: r, h => by
    unfold mW at h
    rcases List.mem_append.1 h with h | h
    · split at h
      · simp at h; exact ⟨_, h⟩
      · simp at h
    · exact HD h

theorem SA {gs : List (List aB × List aC)} (hg : ∀ g ∈ gs, jT g.2 = true ∧ g.1.length ≤ 4398046510976) (hn : gs.length ≤ 1000000) (a b : Int) : okC (tU a b gs) := by
  refine ⟨by have : (tU a b gs).length ≤ gs.length := List.length_filterMap_le ..; omega, fun c hc => ?_⟩
  obtain ⟨g, h1, h2⟩ := List.mem_filterMap.1 hc
  split at h2
  · simp only [Option.some.injEq] at h2; subst h2
    have := (hg g h1).2; simp only; omega
  · cases h2

theorem PV {l : List aE} (hl : okL l) (n frm : Int) : (rK l n frm).1.length ≤ 4097 ∧ ∀ p ∈ (rK l n frm).1, okC p.Rows := by
  unfold rK
  by_cases h : kR l n = 0
  · obtain ⟨hm, ht, n1, n2⟩ := vJ h
    obtain ⟨g1, g2⟩ := QI hl hm
    obtain ⟨_, _, f3, _⟩ := oN hm
    rw [if_neg (by simpa using h)]
    split
    · simp
    · split
      · simp
      · simp only
        refine ⟨by rw [HM (by omega), List.length_drop]; omega, fun p hp => ?_⟩
        obtain ⟨run, rfl⟩ := HD hp
        exact SA g1 (by omega) _ _
  · rw [if_pos h]; simp

def l29 : List aE := [⟨[PX], 2, 1⟩, ⟨[BW], 5, 1⟩, ⟨[BW], 7, -1⟩, ⟨[BW], 8, 1⟩]

theorem LF : okL l29 := ⟨by decide, by decide⟩

theorem UT : FY l29 = ([2, 5, 8], 0) := by decide +kernel

theorem YU : rM l29 2 6 = (5, 0) := by decide +kernel

theorem WU : rK l29 2 0 = ([⟨⟨2, 6⟩, [⟨[PX], 1⟩, ⟨[BW], 1⟩]⟩, ⟨⟨5, 9⟩, [⟨[BW], 2⟩]⟩], 0) := by decide +kernel

theorem xO : nN = some true := by
  unfold nN
  have h1 := DU LF
  have h2 := vQ LF 2 6
  have h3 := uO LF 2 0
  rw [UT] at h1
  rw [YU] at h2
  rw [WU] at h3
  simp only [l29, PX, BW] at h1 h2 h3
  rw [h1, Option.bind_some, h2, Option.bind_some, h3, Option.bind_some, aM (fun _ => by decide), aM (fun _ => by decide), aM (fun _ => by decide), aM (fun _ => by decide), aM (fun _ => by decide)]
  rfl

end Go.Abs
namespace Go.Abs
open Go
theorem XT {f : List aC} {t : Int} (hf : jT f = true) (h0 : 0 ≤ t) (ht : t < 1125899906842624) (h : (rest f t).2 = 0) : (rest f t).1 = tO t f := by
  unfold rest at h ⊢
  rw [if_pos hf, if_neg (by omega), if_neg (by omega)] at h ⊢
  unfold told at h ⊢
  split at h
  · rename_i c; rw [if_pos c]
  · simp at h

theorem qR {l : List aE} (h : kW l = true) (r : List aB) : look (groups l) r = jV l r := wC (lQ h).2.2 r

theorem VJ {by1 : List aC → List aC × Int} {l : List aE} (hb : ∀ f, jT f = true → (by1 f).2 = 0 → jT (by1 f).1 = true) (h : (sW by1 l).2 = 0) : kW (sW by1 l).1 = true := by
  obtain ⟨h1, h2, h3, h4⟩ := yY h
  obtain ⟨_, g1, g2⟩ := lQ h1
  rw [h3] at h4 ⊢
  refine RX (zU g2) (fun g hg => ?_) h4
  obtain ⟨q, hq, rfl⟩ := List.mem_map.1 hg
  exact ⟨(g1 q hq).1, hb _ (g1 q hq).2 (h2 q hq)⟩

theorem XH {f : List aC} (h : (told f).2 = 0) : jT (told f).1 = true := by
  unfold told at h ⊢
  split at h
  · rename_i c; rw [if_pos c]; exact c
  · simp at h

theorem TQ {f : List aC} {t : Int} (hf : jT f = true) (h : (rest f t).2 = 0) : jT (rest f t).1 = true := by
  unfold rest at h ⊢
  rw [if_pos hf] at h ⊢
  split
  · exact GD
  · rename_i c
    rw [if_neg c] at h
    split
    · exact hf
    · rename_i c2; rw [if_neg c2] at h; exact XH h

theorem HU {l : List aE} {t : Int} (h : (lU l t).2 = 0) : kW (lU l t).1 = true := VJ (fun _ a b => TQ a b) h

theorem yA {l : List aE} {t : Int} (h0 : 0 ≤ t) (ht : t < 1125899906842624) (h : (lU l t).2 = 0) (r : List aB) : jV (lU l t).1 r = tO t (jV l r) := by
  have hm := (yY h).1
  have h1 := RT (by1 := fun f => rest f t) (by rw [LO]) h r
  have h2 := UU (by1 := fun f => rest f t) (by rw [LO]) h r
  rw [qR hm] at h1 h2
  have := qR (HU h) r
  unfold lU at this ⊢
  rw [← this, h1, XT (vY hm r) h0 ht h2]

end Go.Abs
namespace Go.Abs
open Go
theorem HY {l : List aE} {e : aE} : jE e ∈ jV l e.Row ↔ e ∈ l := by
  unfold jV
  rw [List.mem_map]
  constructor
  · rintro ⟨q, h1, h2⟩
    obtain ⟨h3, h4⟩ := List.mem_filter.1 h1
    have h5 : q.Row = e.Row := by simpa using h4
    obtain ⟨r, a, n⟩ := q; obtain ⟨r', a', n'⟩ := e
    simp only [jE, aC.mk.injEq] at h2 h5
    subst h5
    rw [← h2.1, ← h2.2]; exact h3
  · intro h
    exact ⟨e, List.mem_filter.2 ⟨h, by simp⟩, rfl⟩

theorem zP {t : Int} : ∀ {f : List aC}, ∀ j ∈ jA t f, j.At < t
  | [], j, h => by simp [jA] at h
  | k :: f, j, h => by
    unfold jA at h
    split at h
    · simp at h
    · rcases List.mem_cons.1 h with rfl | h
      · omega
      · exact zP j h

def byW (a b : Int) (f : List aC) : List aC × Int := (f.filter (inW a b), 0)

theorem CZ (a b : Int) : ∀ gs : List (List aB × List aC), tU a b gs = (uF (uP (byW a b) gs)).map fun g => (⟨g.1, (g.2.map aC.Net).sum⟩ : bU)
  | [] => rfl
  | g :: gs => by
    rw [EJ, CZ a b gs]
    have e : uP (byW a b) (g :: gs) = (g.1, g.2.filter (inW a b)) :: uP (byW a b) gs := rfl
    rw [e]
    obtain ⟨h1, h2⟩ := xZ a b g.2
    unfold uF
    by_cases h : g.2.filter (inW a b) = []
    · rw [if_neg (by rw [h2.2 h]; omega)]
      simp [h]
    · rw [if_pos (by have : rG a b g.2 ≠ 0 := fun q => h (h2.1 q); omega)]
      have hq : (!(g.2.filter (inW a b)).isEmpty) = true := by simpa [List.isEmpty_iff] using h
      simp only [List.filter_cons, hq, if_true, List.map_cons]
      rfl

theorem HS {gs : List (List aB × List aC)} (hs : rZ gs) (r : List aB) : look (uF gs) r = look gs r := by
  rw [← tR hs, IJ hs]

theorem VK {l m : List aE} {a b : Int} (hl : kW l = true) (hm : kW m = true) (h : ∀ r, (jV l r).filter (inW a b) = (jV m r).filter (inW a b)) : tU a b (groups l) = tU a b (groups m) := by
  have sl := (lQ hl).2.2
  have sm := (lQ hm).2.2
  have s1 := zU (by1 := byW a b) sl
  have s2 := zU (by1 := byW a b) sm
  rw [CZ, CZ, OB (gs := uF (uP (byW a b) (groups l))) (hs := uF (uP (byW a b) (groups m))) (s1.filter _) (s2.filter _) (AP _) (AP _) fun r => ?_]
  rw [HS s1, HS s2, xP (by1 := byW a b) rfl, xP (by1 := byW a b) rfl, qR hl, qR hm]
  exact h r

theorem VD {a b t : Int} (ha : t ≤ a) (f : List aC) : f.filter (inW a b) = (aft t f).filter (inW a b) := by
  conv => lhs; rw [← sY t f]
  rw [List.filter_append]
  have : (jA t f).filter (inW a b) = [] := List.filter_eq_nil_iff.2 fun j hj => by
    have := zP j hj
    simp [inW]; omega
  rw [this, List.nil_append]

theorem RC {a b t : Int} (h0 : 0 ≤ t) (ha : t ≤ a) (f : List aC) : (tO t f).filter (inW a b) = f.filter (inW a b) := by
  rw [VD ha f]
  unfold tO
  rw [List.filter_append]
  have : (if oQ (jA t f) = 0 then [] else [(⟨-1, oQ (jA t f)⟩ : aC)]).filter (inW a b) = [] := by
    split
    · rfl
    · have : inW a b ⟨-1, oQ (jA t f)⟩ = false := by
        cases hq : inW a b ⟨-1, oQ (jA t f)⟩ with
        | false => rfl
        | true => simp only [inW, Bool.and_eq_true, decide_eq_true_eq] at hq; omega
      simp [this]
  rw [this, List.nil_append]

theorem XE {S : List Int} (hS : S.Pairwise (· < ·)) {i j : Nat} (hij : i < j) (hj : j < S.length) : S.getD i 0 < S.getD j 0 := by
  rw [List.getD_eq_getElem?_getD, List.getD_eq_getElem?_getD, List.getElem?_eq_getElem (by omega), List.getElem?_eq_getElem hj]
  exact List.pairwise_iff_getElem.1 hS i j (by omega) hj hij

theorem wF {S : List Int} (hS : S.Pairwise (· < ·)) (hl : S.length ≤ 1000000) (t : Int) : (∀ i, i < eR S t → S.getD i 0 < t) ∧ (∀ i, eR S t ≤ i → i < S.length → t ≤ S.getD i 0) := by
  have hle := uK S t
  obtain ⟨_, hs1, hs2⟩ := JK (hS.imp fun h => by omega) hl t
  refine ⟨fun i hi => ?_, fun i hi hil => ?_⟩
  · have hm1 : S.getD i 0 ∈ S.take (eR S t) := by
      refine List.mem_of_getElem? (i := i) ?_
      rw [List.getElem?_take, if_pos hi, List.getD_eq_getElem?_getD, List.getElem?_eq_getElem (by omega)]; rfl
    rw [← hs1] at hm1
    simpa using (List.mem_filter.1 hm1).2
  · have hm1 : S.getD i 0 ∈ S.drop (eR S t) := by
      refine List.mem_of_getElem? (i := i - eR S t) ?_
      rw [List.getElem?_drop, show eR S t + (i - eR S t) = i by omega, List.getD_eq_getElem?_getD, List.getElem?_eq_getElem hil]; rfl
    rw [← hs2] at hm1
    simpa using (List.mem_filter.1 hm1).2

theorem DI {S : List Int} (hS : S.Pairwise (· < ·)) (hl : S.length ≤ 1000000) {t : Int} {k : Nat} (hk : k ≤ S.length) (h1 : ∀ i, i < k → S.getD i 0 < t) (h2 : k < S.length → t ≤ S.getD k 0) : eR S t = k := by
  obtain ⟨g1, g2⟩ := wF hS hl t
  have hle := uK S t
  rcases Nat.lt_trichotomy (eR S t) k with h | h | h
  · have := g2 (eR S t) (Nat.le_refl _) (by omega)
    have := h1 (eR S t) h; omega
  · exact h
  · have := h2 (by omega)
    have := g1 k h; omega

theorem VW {S : List Int} (hS : S.Pairwise (· < ·)) (hl : S.length ≤ 1000000) {n : Int} (hn : 1 ≤ n) (t : Int) : lM S n t ≤ t ∧ (lM S n t = t ∨ lM S n t ∈ S) := by
  obtain ⟨g1, g2⟩ := wF hS hl t
  have hle := uK S t
  unfold lM
  by_cases hfm : firstM S n t = eR S t
  · rw [if_pos hfm]; exact ⟨Int.le_refl _, .inl rfl⟩
  · rw [if_neg hfm]
    have hf : firstM S n t < eR S t := by unfold firstM at hfm ⊢; omega
    refine ⟨by have := g1 _ hf; omega, .inr ?_⟩
    rw [List.getD_eq_getElem?_getD, List.getElem?_eq_getElem (by omega)]
    exact List.getElem_mem _

theorem VI {l : List aE} {n t : Int} (h : (rM l n t).2 = 0) : kR l n = 0 ∧ 0 ≤ t ∧ t ≤ 1125899906842624 ∧ (t < 1125899906842624 → (rM l n t).1 = lM (bI l) n t) ∧ (t = 1125899906842624 → (rM l n t).1 = t) := by
  unfold rM at h ⊢
  by_cases hc : kR l n = 0
  · rw [if_neg (by simpa using hc)] at h ⊢
    by_cases h1 : t < 0 ∨ 1125899906842624 < t
    · rw [if_pos h1] at h; simp at h
    · rw [if_neg h1]
      refine ⟨hc, by omega, by omega, fun h2 => by rw [if_neg (by omega)], fun h2 => by rw [if_pos h2]⟩
  · rw [if_pos hc] at h; exact absurd h hc

theorem CX {n : Nat} {mk mk' : List Int → aX} : ∀ {S : List Int}, (∀ run : List Int, (∀ x ∈ run, x ∈ S) → run ≠ [] → mk run = mk' run) → 0 < n → mW n mk S = mW n mk' S
  | [], _, _ => rfl
  | x :: r, h, hn => by
    unfold mW
    rw [CX (fun run hr h0 => h run (fun y hy => by simp [hr y hy]) h0) hn, h ((x :: r).take n) (fun y hy => List.mem_of_mem_take hy) (by simp; omega)]

theorem HA {l : List aE} {n t : Int} (hl : kW l = true) (ht : rL l = true) (hn : 1 ≤ n) (hn2 : n ≤ 64) (t0 : 0 ≤ t) (t1 : t < 1125899906842624) (hk : (lU l (lM (bI l) n t)).2 = 0) :
    rM (lU l (lM (bI l) n t)).1 n t = (lM (bI l) n t, 0) ∧ rK (lU l (lM (bI l) n t)).1 n (lM (bI l) n t) = rK l n (lM (bI l) n t) := by
  obtain ⟨l1, _, l3, l4⟩ := oN hl
  obtain ⟨o1, o2⟩ := VW l1 (by omega) hn t
  have f0 : 0 ≤ lM (bI l) n t := by
    rcases o2 with h | h
    · omega
    · have := l4 _ h; omega
  have hfrm : ∃ frm, frm = lM (bI l) n t := ⟨_, rfl⟩
  obtain ⟨frm, hfrm⟩ := hfrm
  rw [← hfrm] at o1 o2 f0 hk ⊢
  have mr := HU hk
  have tr : rL (lU l frm).1 = true := FQ.2 ⟨mr, fun r => by
    rw [yA f0 (by omega) hk]
    refine RR (TY (vY hl r) (by omega)) fun s s1 s2 => ?_
    rw [SO (vY hl r) s (by omega)]
    exact (FQ.1 ht).2 r _⟩
  have hmem : ∀ e : aE, -1 < e.At → (e ∈ (lU l frm).1 ↔ e ∈ l ∧ frm ≤ e.At) := by
    intro e hat
    rw [← HY, ← HY (l := l), yA f0 (by omega) hk]
    unfold tO
    rw [List.mem_append]
    have hfa := sY frm (jV l e.Row)
    constructor
    · rintro (h | h)
      · split at h
        · simp at h
        · simp only [List.mem_singleton] at h
          have := congrArg aC.At h
          simp only [jE] at this; omega
      · have := ET (oP.1 (vY hl e.Row)).2 _ h
        exact ⟨by rw [← hfa]; exact List.mem_append.2 (.inr h), this⟩
    · rintro ⟨h1, h2⟩
      right
      rw [← hfa] at h1
      rcases List.mem_append.1 h1 with h3 | h3
      · have := zP _ h3
        simp only [jE] at this; omega
      · exact h3
  have hS : bI (lU l frm).1 = (bI l).filter fun x => decide (frm ≤ x) := by
    refine BL (oN mr).1 (l1.filter _) fun x => ?_
    rw [yF (yO mr), List.mem_filter, yF (yO hl)]
    constructor
    · rintro ⟨e, h1, h2, h3⟩
      have hat : -1 < e.At := by simp [lV] at h2; omega
      obtain ⟨h4, h5⟩ := (hmem e hat).1 h1
      exact ⟨⟨e, h4, h2, h3⟩, by simp; omega⟩
    · rintro ⟨⟨e, h1, h2, h3⟩, h4⟩
      have hat : -1 < e.At := by simp [lV] at h2; omega
      have h5 : frm ≤ x := by simpa using h4
      exact ⟨e, (hmem e hat).2 ⟨h1, by omega⟩, h2, h3⟩
  obtain ⟨_, _, hd⟩ := JK (l1.imp fun h => by omega) (by omega) frm
  have hle := uK (bI l) t
  obtain ⟨g1, g2⟩ := wF l1 (by omega) t
  have hff : firstM (bI l) n t ≤ eR (bI l) t := by unfold firstM; omega
  have hF : eR (bI l) frm = firstM (bI l) n t := by
    by_cases hf : firstM (bI l) n t = eR (bI l) t
    · have : frm = t := by rw [hfrm]; unfold lM; rw [if_pos hf]
      rw [this, hf]
    · have he : frm = (bI l).getD (firstM (bI l) n t) 0 := by rw [hfrm]; unfold lM; rw [if_neg hf]
      refine DI l1 (by omega) (by omega) (fun i hi => ?_) (fun _ => by omega)
      rw [he]; exact XE l1 hi (by omega)
  rw [hd, hF] at hS
  have hSl : (bI (lU l frm).1).length = (bI l).length - firstM (bI l) n t := by rw [hS, List.length_drop]
  have s1 := (oN mr).1
  have hget : ∀ i, (bI (lU l frm).1).getD i 0 = (bI l).getD (firstM (bI l) n t + i) 0 := fun i => by
    rw [hS, List.getD_eq_getElem?_getD, List.getD_eq_getElem?_getD, List.getElem?_drop]
  have hM' : eR (bI (lU l frm).1) t = eR (bI l) t - firstM (bI l) n t := by
    refine DI s1 (by omega) (by omega) (fun i hi => by rw [hget]; exact g1 _ (by omega)) (fun hlt => by rw [hget]; exact g2 _ (by omega) (by omega))
  have hM0 : eR (bI (lU l frm).1) frm = 0 := by
    refine DI s1 (by omega) (by omega) (fun i hi => by omega) (fun hlt => ?_)
    rw [hget]
    obtain ⟨_, q2⟩ := wF l1 (by omega) frm
    exact q2 _ (by omega) (by omega)
  have hc : kR (lU l frm).1 n = 0 := IM mr tr hn hn2
  have hcl : kR l n = 0 := IM hl ht hn hn2
  constructor
  · unfold rM
    rw [if_neg (by simpa using hc), if_neg (by omega), if_neg (by omega)]
    congr 1
    unfold lM
    have hf' : firstM (bI (lU l frm).1) n t = 0 := by
      unfold firstM; rw [hM']; unfold firstM; omega
    rw [hf', hM', hget]
    by_cases hf : firstM (bI l) n t = eR (bI l) t
    · have : frm = t := by rw [hfrm]; unfold lM; rw [if_pos hf]
      rw [if_pos (by omega), this]
    · have he : frm = (bI l).getD (firstM (bI l) n t) 0 := by rw [hfrm]; unfold lM; rw [if_neg hf]
      rw [if_neg (by omega), Nat.add_zero, ← he]
  · have p1 : ∀ y, kR y n = 0 → rK y n frm = if 1024 < (((bI y).drop (eR (bI y) frm)).length : Int) - n + 1 then ([], 7) else (mW n.toNat (AE y) ((bI y).drop (eR (bI y) frm)), 0) := fun y hy => by
      unfold rK
      rw [if_neg (by simpa using hy), if_neg (by omega)]
    rw [p1 _ hc, p1 _ hcl, hM0, hF, List.drop_zero, hS]
    have hw : mW n.toNat (AE (lU l frm).1) ((bI l).drop (firstM (bI l) n t)) = mW n.toNat (AE l) ((bI l).drop (firstM (bI l) n t)) := by
      refine CX (fun run hr h0 => ?_) (by omega)
      have hge : frm ≤ run.getD 0 0 := by
        cases run with
        | nil => exact absurd rfl h0
        | cons x r =>
          have hx := hr x (by simp)
          rw [← hF, ← hd] at hx
          simpa using (List.mem_filter.1 hx).2
      unfold AE
      rw [VK mr hl fun r => by rw [yA f0 (by omega) hk, RC f0 hge]]
    rw [hw]

end Go.Abs
namespace Go.Abs
open Go
theorem ZI {l : List aE} (m : ∀ a ∈ l, sE a) (y : List.length l * 40 ≤ 140737488351232) : okL l :=
  ⟨by omega, fun e he => by have := (m e he).1.2; omega⟩

end Go.Abs
namespace Go.Abs
open Go
theorem BA (l0 : (List aE)) (m0 : ∀ a ∈ l0, sE a) (y0 : List.length l0 * 40 ≤ 140737488351232) (a1 : Int) (w1 : uD a1) (a2 : Int) (w2 : uD a2) : mQ l0 a1 a2 = some true := by
  have k0 := ZI m0 y0
  unfold mQ
  rw [vQ k0, Option.bind_some]
  by_cases o1 : (rM l0 a1 a2).2 = 0
  · by_cases o2 : (rM l0 a1 a2).1 = 1125899906842624
    · simp [o1, o2, xO]
    · have b2 : decide ((rM l0 a1 a2).1 = 1125899906842624) = false := by simpa using o2
      simp only [o1, b2, decide_true, Bool.not_true, Bool.or_self, cond_false, VE k0, Option.bind_some]
      by_cases hk : (lU l0 (rM l0 a1 a2).1).2 = 0
      · obtain ⟨c1, t0, t1, q1, q2⟩ := VI o1
        have t2 : a2 < 1125899906842624 := by
          rcases Int.lt_or_le a2 1125899906842624 with h | h
          · exact h
          · exact absurd ((q2 (by omega)).trans (by omega)) o2
        have q1 := q1 t2
        obtain ⟨ml, tl, n1, n2⟩ := vJ c1
        rw [q1] at hk
        obtain ⟨s1, s2⟩ := HA ml tl n1 n2 t0 t2 hk
        have kr := SY k0 (lM (bI l0) a1 a2)
        obtain ⟨u1, u2⟩ := PV k0 a1 (lM (bI l0) a1 a2)
        simp only [q1, hk, decide_true, Bool.not_true, cond_false, vQ kr, s1, uO k0, uO kr, s2, xO, Option.bind_some, Bool.and_self, dJ, cond_true, JX (show (rK l0 a1 (lM (bI l0) a1 a2)).1.length ≤ 1000000 by omega) u2]
      · simp [hk, xO]
  · simp [o1, xO]

end Go.Abs
