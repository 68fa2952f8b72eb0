/- What the law HopStarts stands on: the framework, the given functions as plain functions, their walks, and the plain laws; part 5. -/
import Derived.Test.YteecjdpicjpnfaaHopStartsZ4
set_option linter.unusedSimpArgs false
set_option linter.unusedVariables false
namespace Go.Abs
open Go
theorem TJ {f hi r : Nat} {d : List Int} (hf : f + hi ≤ d.length) (hr : r < hi) (hl : d.length < 2305843009213693951) :
    cX (hi : Nat) (f : Nat) d (r : Nat) = if hi ≤ 2 * r + 1 then some (.inr (.inl d)) else if gN d (f + r) < gN d (f + uA f hi d r) then some (.inl (swp d (f + r) (f + uA f hi d r), (uA f hi d r : Int))) else some (.inr (.inr d)) := by
  unfold cX
  have e1 : IntKind.i64.wrap (IntKind.i64.wrap ((2 : Int) * (r : Int)) + 1) = ((2 * r + 1 : Nat) : Int) := by
    rw [wrN (x := (2 : Int) * (r : Int)) (n := 2 * r) (by omega) (by omega)]; exact wrN (by omega) (by omega)
  have e2 : IntKind.i64.wrap (((2 * r + 1 : Nat) : Int) + 1) = ((2 * r + 2 : Nat) : Int) := wrN (by omega) (by omega)
  simp only [e1, e2]
  by_cases h : hi ≤ 2 * r + 1
  · rw [if_pos h]
    have : decide (((hi : Nat) : Int) ≤ ((2 * r + 1 : Nat) : Int)) = true := by simp; omega
    rw [this, cond_true]
  · rw [if_neg h]
    have d1 : decide (((hi : Nat) : Int) ≤ ((2 * r + 1 : Nat) : Int)) = false := by simp; omega
    rw [d1, cond_false]
    by_cases h2 : 2 * r + 2 < hi
    · have d2 : decide (((2 * r + 2 : Nat) : Int) < ((hi : Nat) : Int)) = true := by simp; omega
      have e3 : IntKind.i64.wrap ((f : Int) + ((2 * r + 1 : Nat) : Int)) = ((f + (2 * r + 1) : Nat) : Int) := wrN (by omega) (by omega)
      have e4 : IntKind.i64.wrap (((f + (2 * r + 1) : Nat) : Int) + 1) = ((f + (2 * r + 2) : Nat) : Int) := wrN (by omega) (by omega)
      simp only [d2, e3, e4, Int.toNat_natCast, pJ, dG, cond_true, Option.bind_some, Bool.true_and]
      rw [aO fun _ => asN (by omega), aO fun _ => asN (by omega)]
      by_cases h3 : gN d (f + (2 * r + 1)) < gN d (f + (2 * r + 2))
      · have hb : uA f hi d r = 2 * r + 2 := if_pos ⟨h2, h3⟩
        simp only [gN] at h3
        simp only [h3, decide_true, cond_true]
        rw [HG hf hr h2 hl, hb]
      · have hb : uA f hi d r = 2 * r + 1 := if_neg fun hh => h3 hh.2
        simp only [gN] at h3
        simp only [h3, decide_false, cond_false]
        rw [HG hf hr (by omega) hl, hb]
    · have d2 : decide (((2 * r + 2 : Nat) : Int) < ((hi : Nat) : Int)) = false := by simp; omega
      have hb : uA f hi d r = 2 * r + 1 := if_neg fun hh => h2 hh.1
      simp only [d2, Bool.false_eq_true, false_implies, dG, cond_false, Option.bind_some, Bool.false_and]
      rw [aO trivial, aO trivial, HG hf hr (by omega) hl, hb]

def chd (c p : Nat) : Prop := c = 2 * p + 1 ∨ c = 2 * p + 2

def Hp (f lo hi : Nat) (d : List Int) : Prop := ∀ i c, lo ≤ i → chd c i → c < hi → gN d (f + c) ≤ gN d (f + i)

structure HpX (f lo hi r : Nat) (d : List Int) : Prop where
  oth : ∀ i c, lo ≤ i → i ≠ r → chd c i → c < hi → gN d (f + c) ≤ gN d (f + i)
  up : ∀ p c, lo ≤ p → chd r p → chd c r → c < hi → gN d (f + c) ≤ gN d (f + p)

theorem SI {f hi r : Nat} {d : List Int} (h : ¬ hi ≤ 2 * r + 1) : chd (uA f hi d r) r ∧ uA f hi d r < hi ∧ ∀ c, chd c r → c < hi → gN d (f + c) ≤ gN d (f + uA f hi d r) := by
  unfold uA
  split
  · rename_i h1
    refine ⟨.inr rfl, h1.1, fun c hc hlt => ?_⟩
    rcases hc with rfl | rfl
    · omega
    · exact Int.le_refl _
  · rename_i h1
    refine ⟨.inl rfl, by omega, fun c hc hlt => ?_⟩
    rcases hc with rfl | rfl
    · exact Int.le_refl _
    · have : ¬ gN d (f + (2 * r + 1)) < gN d (f + (2 * r + 2)) := fun hh => h1 ⟨hlt, hh⟩
      omega

theorem HpX.done {f lo hi r : Nat} {d : List Int} (h : HpX f lo hi r d) (hr : ∀ c, chd c r → c < hi → gN d (f + c) ≤ gN d (f + r)) : Hp f lo hi d := by
  intro i c h1 h2 h3
  by_cases e : i = r
  · subst e; exact hr c h2 h3
  · exact h.oth i c h1 e h2 h3

theorem HpX.next {f lo hi r c : Nat} {d : List Int} (h : HpX f lo hi r d) (hf : f + hi ≤ d.length) (hlo : lo ≤ r) (hrh : r < hi) (hc : chd c r) (hch : c < hi) (hbig : ∀ k, chd k r → k < hi → gN d (f + k) ≤ gN d (f + c)) (hlt : gN d (f + r) < gN d (f + c)) : HpX f lo hi c (swp d (f + r) (f + c)) := by
  have g := qE (d := d) (i := f + r) (j := f + c) (by omega) (by omega)
  have hcr : r < c := by unfold chd at hc; omega
  refine ⟨fun i k h1 h2 h3 h4 => ?_, fun p k h1 h2 h3 h4 => ?_⟩
  · rw [g, g, if_neg (show ¬ f + i = f + c by omega)]
    by_cases hir : i = r
    · subst hir
      rw [if_pos (show f + i = f + i from rfl)]
      by_cases hkc : k = c
      · subst hkc; rw [if_pos rfl]; omega
      · rw [if_neg (by omega), if_neg (by unfold chd at h3; omega)]
        exact hbig k h3 h4
    · rw [if_neg (show ¬ f + i = f + r by omega)]
      have hkc : k ≠ c := by intro e; subst e; unfold chd at h3 hc; omega
      rw [if_neg (by omega)]
      by_cases hkr : k = r
      · subst hkr
        rw [if_pos rfl]
        exact h.up i c h1 h3 hc hch
      · rw [if_neg (by omega)]
        exact h.oth i k h1 hir h3 h4
  · have hp : p = r := by unfold chd at h2 hc; omega
    subst hp
    have hk : c < k := by unfold chd at h3; omega
    rw [g, g, if_neg (by omega), if_neg (by omega), if_neg (by omega), if_pos rfl]
    exact h.oth c k (by omega) (by omega) h3 h4

theorem YH {f lo hi : Nat} : ∀ (n r : Nat) (d : List Int), hi - r = n → f + hi ≤ d.length → lo ≤ r → r < hi → d.length < 2305843009213693951 → HpX f lo hi r d →
    ∃ d', (lp (fun s : List Int × Int => cX (hi : Nat) (f : Nat) s.1 s.2) (d, (r : Int)) = some (.inl d') ∨ lp (fun s : List Int × Int => cX (hi : Nat) (f : Nat) s.1 s.2) (d, (r : Int)) = some (.inr d')) ∧ Rel f (f + hi) d d' ∧ Hp f lo hi d' := by
  intro n
  induction n using Nat.strongRecOn with
  | ind n ih =>
    intro r d h1 h2 h3 h4 h5 h6
    have hs := TJ h2 h4 h5
    by_cases h : hi ≤ 2 * r + 1
    · rw [if_pos h] at hs
      exact ⟨d, .inl (cU hs), Rel.refl .., h6.done fun c hc hlt => by unfold chd at hc; omega⟩
    · rw [if_neg h] at hs
      obtain ⟨b1, b2, b3⟩ := SI (f := f) (d := d) h
      by_cases hlt : gN d (f + r) < gN d (f + uA f hi d r)
      · rw [if_pos hlt] at hs
        have hb : r < uA f hi d r := by unfold chd at b1; omega
        obtain ⟨d', e, rl, hp⟩ := ih (hi - uA f hi d r) (by omega) (uA f hi d r) _ rfl (by rw [gI]; exact h2) (by omega) b2 (by rw [gI]; exact h5) (h6.next h2 h3 h4 b1 b2 b3 hlt)
        exact ⟨d', e.imp (fun e => (fJ hs).trans e) (fun e => (fJ hs).trans e), (Rel.swp (by omega) (by omega) (by omega) (by omega)).trans rl, hp⟩
      · rw [if_neg hlt] at hs
        exact ⟨d, .inr (cU hs), Rel.refl .., h6.done fun c hc hc2 => by have := b3 c hc hc2; omega⟩

theorem OD {f lo hi : Nat} {d : List Int} (h2 : f + hi ≤ d.length) (h5 : d.length < 2305843009213693951) (hlo : lo < 2305843009213693951) (h6 : HpX f lo hi lo d) :
    ∃ d', eW d (lo : Nat) (hi : Nat) (f : Nat) = some d' ∧ Rel f (f + hi) d d' ∧ Hp f lo hi d' := by
  unfold eW jX
  by_cases h : lo < hi
  · obtain ⟨d', e, r, p⟩ := YH (hi - lo) lo d rfl h2 (Nat.le_refl _) h h5 h6
    rcases e with e | e <;> rw [e] <;> exact ⟨d', rfl, r, p⟩
  · refine ⟨d, ?_, Rel.refl .., fun i c h1 hc hlt => by unfold chd at hc; omega⟩
    have hs : cX (hi : Nat) (f : Nat) d (lo : Nat) = some (.inr (.inl d)) := by
      unfold cX
      have e1 : IntKind.i64.wrap (IntKind.i64.wrap ((2 : Int) * (lo : Int)) + 1) = ((2 * lo + 1 : Nat) : Int) := by
        rw [wrN (x := (2 : Int) * (lo : Int)) (n := 2 * lo) (by omega) (by omega)]; exact wrN (by omega) (by omega)
      have : decide (((hi : Nat) : Int) ≤ ((2 * lo + 1 : Nat) : Int)) = true := by simp; omega
      simp only [e1, this, cond_true]
    rw [cU (show (fun s : List Int × Int => cX (hi : Nat) (f : Nat) s.1 s.2) (d, (lo : Int)) = _ from hs)]
    rfl

theorem TS {f k : Nat} {d : List Int} (h : Hp f 0 k d) : ∀ i, i < k → gN d (f + i) ≤ gN d f := by
  intro i
  induction i using Nat.strongRecOn with
  | ind i ih =>
    intro hi
    by_cases h0 : i = 0
    · subst h0; exact Int.le_refl _
    · have h1 := h ((i - 1) / 2) i (Nat.zero_le _) (by unfold chd; omega) hi
      have h2 := ih ((i - 1) / 2) (by omega) (by omega)
      omega

theorem OJ {f hi : Nat} : ∀ (k : Nat) (d : List Int), f + hi ≤ d.length → k < 2305843009213693951 → d.length < 2305843009213693951 → Hp f k hi d →
    ∃ d', lp (fun s : List Int × Int => dW (f : Nat) 0 (hi : Nat) s.1 s.2) (d, (k : Int) - 1) = some d' ∧ Rel f (f + hi) d d' ∧ Hp f 0 hi d'
  | 0, d, _, _, _, h => by
    refine ⟨d, cU ?_, Rel.refl .., h⟩
    show dW _ _ _ _ _ = _
    have : decide ((0 : Int) ≤ ((0 : Nat) : Int) - 1) = false := by simp
    simp only [dW, this, cond_false]
  | k + 1, d, h1, h2, h3, h => by
    obtain ⟨d1, e, r, p⟩ := OD (f := f) (lo := k) (hi := hi) h1 h3 (by omega) ⟨fun i c a1 a2 a3 a4 => h i c (by omega) a3 a4, fun p c a1 a2 => by unfold chd at a2; omega⟩
    obtain ⟨d2, e2, r2, p2⟩ := OJ (f := f) (hi := hi) k d1 (by rw [r.len]; exact h1) (by omega) (by rw [r.len]; exact h3) p
    refine ⟨d2, ?_, r.trans r2, p2⟩
    rw [fJ (s' := (d1, (k : Int) - 1)) ?_, e2]
    show dW _ _ _ _ _ = _
    have g1 : (((k + 1 : Nat) : Int) - 1) = (k : Int) := by omega
    have g2 : decide ((0 : Int) ≤ (k : Int)) = true := by simp
    simp only [dW, g1, g2, cond_true, e, Option.bind_some]
    rw [dK (by omega) (by omega)]

theorem UF {f n : Nat} : ∀ (k : Nat) (d : List Int), k ≤ n → f + n ≤ d.length → d.length < 2305843009213693951 → Hp f 0 k d → nL (f + k) (f + n) d → (∀ p q, f ≤ p → p < f + k → f + k ≤ q → q < f + n → gN d p ≤ gN d q) →
    ∃ d', lp (fun s : List Int × Int => dV (f : Nat) 0 s.1 s.2) (d, (k : Int) - 1) = some d' ∧ Rel f (f + n) d d' ∧ nL f (f + n) d'
  | 0, d, _, _, _, _, hs, _ => by
    refine ⟨d, cU ?_, Rel.refl .., hs⟩
    show dV _ _ _ _ = _
    have : decide ((0 : Int) ≤ ((0 : Nat) : Int) - 1) = false := by simp
    simp only [dV, this, cond_false]
  | k + 1, d, h1, h2, h3, h, hs, hb => by
    have g := qE (d := d) (i := f) (j := f + k) (by omega) (by omega)
    have hroot := TS h
    obtain ⟨d1, e, r, p⟩ := OD (f := f) (lo := 0) (hi := k) (d := swp d f (f + k)) (by rw [gI]; omega) (by rw [gI]; exact h3) (by omega) ⟨fun i c a1 a2 a3 a4 => by
      rw [g, g, if_neg (by unfold chd at a3; omega), if_neg (by unfold chd at a3; omega), if_neg (by unfold chd at a3; omega), if_neg (by omega)]
      exact h i c (by omega) a3 (by omega), fun p c a1 a2 => by unfold chd at a2; omega⟩
    have rs : Rel f (f + n) d (swp d f (f + k)) := Rel.swp (i := f) (j := f + k) (by omega) (by omega) (by omega) (by omega)
    have top : gN d1 (f + k) = gN d f := by rw [r.out _ (by omega), g, if_pos rfl]
    have tail : ∀ q, f + k < q → gN d1 q = gN d q := fun q hq => by rw [r.out _ (by omega), g, if_neg (by omega), if_neg (by omega)]
    have low : ∀ p, f ≤ p → p < f + k → ∃ p', f ≤ p' ∧ p' < f + (k + 1) ∧ gN d1 p = gN d p' := fun p p1 p2 => by
      obtain ⟨p', a1, a2, a3⟩ := r.src p p1 p2
      rw [g, if_neg (by omega)] at a3
      by_cases hp : p' = f
      · rw [if_pos hp] at a3; exact ⟨f + k, by omega, by omega, a3⟩
      · rw [if_neg hp] at a3; exact ⟨p', a1, by omega, a3⟩
    obtain ⟨d2, e2, r2, s2⟩ := UF (f := f) (n := n) k d1 (by omega) (by rw [r.len, gI]; exact h2) (by rw [r.len, gI]; exact h3) p (fun p q p1 p2 p3 => by
      by_cases hq : q = f + k
      · have : p = f + k := by omega
        rw [hq, this]; exact Int.le_refl _
      · rw [tail q (by omega)]
        by_cases hp : p = f + k
        · rw [hp, top]; exact hb f q (Nat.le_refl _) (by omega) (by omega) p3
        · rw [tail p (by omega)]; exact hs p q (by omega) p2 p3) (fun p q p1 p2 p3 p4 => by
      obtain ⟨p', a1, a2, a3⟩ := low p p1 p2
      rw [a3]
      by_cases hq : q = f + k
      · rw [hq, top]
        have := hroot (p' - f) (by omega)
        rw [show f + (p' - f) = p' by omega] at this
        exact this
      · rw [tail q (by omega)]; exact hb p' q a1 a2 (by omega) p4)
    refine ⟨d2, ?_, (rs.trans (r.mono (Nat.le_refl _) (by omega))).trans r2, s2⟩
    rw [fJ (s' := (d1, (k : Int) - 1)) ?_, e2]
    show dV _ _ _ _ = _
    have g1 : (((k + 1 : Nat) : Int) - 1) = (k : Int) := by omega
    have g2 : decide ((0 : Int) ≤ (k : Int)) = true := by simp
    have g3 : IntKind.i64.wrap ((f : Int) + (k : Int)) = ((f + k : Nat) : Int) := wrN (by omega) (by omega)
    simp only [dV, g1, g2, g3, cond_true, Int.toNat_natCast]
    rw [aO (asN (by omega)), aO (asN (by omega)), aO (asN (by omega)), aO (asN (by omega))]
    have e' : eW (List.set (List.set d f (List.getD d (f + k) default)) (f + k) (List.getD d f default)) 0 (k : Int) (f : Int) = some d1 := e
    rw [e']
    simp only [Option.bind_some]
    rw [dK (by omega) (by omega)]

theorem SE {lo hi : Nat} {d : List Int} (h0 : lo < hi) (h1 : hi ≤ d.length) (h3 : d.length < 2305843009213693951) : ∃ d', iX d (lo : Int) (hi : Int) = some d' ∧ Rel lo hi d d' ∧ nL lo hi d' := by
  unfold iX
  rw [aO (by decide)]
  have e1 : IntKind.i64.wrap ((hi : Int) - (lo : Int)) = ((hi - lo : Nat) : Int) := wrN (by omega) (by omega)
  have e2 : IntKind.i64.wrap (((hi - lo : Nat) : Int) - 1) = ((hi - lo - 1 : Nat) : Int) := wrN (by omega) (by omega)
  have e3 : IntKind.i64.wrap (Int.tdiv ((hi - lo - 1 : Nat) : Int) 2) = (((hi - lo - 1) / 2 + 1 : Nat) : Int) - 1 := by
    have : Int.tdiv ((hi - lo - 1 : Nat) : Int) 2 = (((hi - lo - 1) / 2 : Nat) : Int) := by rw [Int.tdiv_eq_ediv_of_nonneg (by omega)]; omega
    rw [this, wrN (n := (hi - lo - 1) / 2) rfl (by omega)]; omega
  rw [e1, e2, e3]
  unfold jY
  obtain ⟨d1, a1, r1, p1⟩ := OJ (f := lo) (hi := hi - lo) ((hi - lo - 1) / 2 + 1) d (by omega) (by omega) h3 (fun i c b1 b2 b3 => by unfold chd at b2; omega)
  rw [a1]
  simp only [Option.bind_some, iQ, jZ]
  obtain ⟨d2, a2, r2, s2⟩ := UF (f := lo) (n := hi - lo) (hi - lo) d1 (Nat.le_refl _) (by rw [r1.len]; omega) (by rw [r1.len]; exact h3) p1 (fun p q b1 b2 b3 => by omega) (fun p q b1 b2 b3 b4 => by omega)
  have e4 : IntKind.i64.wrap (((hi - lo : Nat) : Int) - 1) = ((hi - lo : Nat) : Int) - 1 := dK (by omega) (by omega)
  rw [e4, a2]
  have : lo + (hi - lo) = hi := by omega
  rw [this] at r1 r2 s2
  exact ⟨d2, rfl, r1.trans r2, s2⟩

end Go.Abs
namespace Go.Abs
open Go
def EA : ByteArray := ⟨#[0, 1, 2, 2, 3, 3, 3, 3, 4, 4, 4, 4, 4, 4, 4, 4, 5, 5, 5, 5, 5, 5, 5, 5, 5, 5, 5, 5, 5, 5, 5, 5, 6, 6, 6, 6, 6, 6, 6, 6, 6, 6, 6, 6, 6, 6, 6, 6, 6, 6, 6, 6, 6, 6, 6, 6, 6, 6, 6, 6, 6, 6, 6, 6, 7, 7, 7, 7, 7, 7, 7, 7, 7, 7, 7, 7, 7, 7, 7, 7, 7, 7, 7, 7, 7, 7, 7, 7, 7, 7, 7, 7, 7, 7, 7, 7, 7, 7, 7, 7, 7, 7, 7, 7, 7, 7, 7, 7, 7, 7, 7, 7, 7, 7, 7, 7, 7, 7, 7, 7, 7, 7, 7, 7, 7, 7, 7, 7, 8, 8, 8, 8, 8, 8, 8, 8, 8, 8, 8, 8, 8, 8, 8, 8, 8, 8, 8, 8, 8, 8, 8, 8, 8, 8, 8, 8, 8, 8, 8, 8, 8, 8, 8, 8, 8, 8, 8, 8, 8, 8, 8, 8, 8, 8, 8, 8, 8, 8, 8, 8, 8, 8, 8, 8, 8, 8, 8, 8, 8, 8, 8, 8, 8, 8, 8, 8, 8, 8, 8, 8, 8, 8, 8, 8, 8, 8, 8, 8, 8, 8, 8, 8, 8, 8, 8, 8, 8, 8, 8, 8, 8, 8, 8, 8, 8, 8, 8, 8, 8, 8, 8, 8, 8, 8, 8, 8, 8, 8, 8, 8, 8, 8, 8, 8, 8, 8, 8, 8, 8, 8, 8, 8, 8, 8, 8, 8]⟩

theorem RO : ∀ i : Fin 256, i.val ≠ 0 → ∃ k : Fin 8, bt EA (i.val : Int) = (k.val : Int) + 1 ∧ 2 ^ k.val ≤ i.val := by decide +kernel

theorem IL : ByteArray.size EA = 256 := by decide +kernel

theorem XC {x : Int} (h : 0 ≤ x) (h2 : x ≤ 255) : IntKind.u8.wrap x = x := by
  simp only [IntKind.wrap, IntKind.bits, IntKind.signed]
  simp
  omega

theorem AW {x : Int} (h : 0 ≤ x) (h2 : x ≤ 9223372036854775807) : IntKind.u64.wrap x = x := by
  simp only [IntKind.wrap, IntKind.bits, IntKind.signed]
  simp
  omega

theorem SS {x n : Int} (h1 : 1 ≤ x) (h2 : x ≤ 255) (hn : 0 ≤ n ∧ n ≤ 100) : ∃ k : Nat, lB x n = some (n + k + 1) ∧ k ≤ 7 ∧ (2 : Int) ^ k ≤ x := by
  obtain ⟨k, e, hk⟩ := RO ⟨x.toNat, by omega⟩ (by simp; omega)
  refine ⟨k.val, ?_, by omega, ?_⟩
  · show (bF (0 ≤ (IntKind.u8.wrap x) ∧ (IntKind.u8.wrap x) < ((ByteArray.size EA : Nat) : Int)) <| some (IntKind.i64.wrap (n + (IntKind.i64.wrap (bt EA (IntKind.u8.wrap x)))))) = _
    rw [XC (by omega) h2, aO (by rw [IL]; omega)]
    simp only at e
    rw [Int.toNat_of_nonneg (by omega)] at e
    rw [e, dK (n := (k.val : Int) + 1) (by omega) (by omega), dK (by omega) (by omega)]
    congr 1
    omega
  · simp only at hk
    have : ((2 ^ k.val : Nat) : Int) ≤ ((x.toNat : Nat) : Int) := by exact_mod_cast hk
    rw [Int.toNat_of_nonneg (by omega)] at this
    simpa using this

theorem DT {x m : Int} (hm : 0 < m) : Int.fdiv x m = x / m := Int.fdiv_eq_ediv_of_nonneg _ (by omega)

theorem TI {x n : Int} (h1 : 1 ≤ x) (h2 : x ≤ 65535) (hn : 0 ≤ n ∧ n ≤ 90) : ∃ k : Nat, kA x n = some (n + k + 1) ∧ k ≤ 15 ∧ (2 : Int) ^ k ≤ x := by
  unfold kA
  by_cases h : 256 ≤ x
  · have hd : Int.fdiv x (2 ^ (min (Int.toNat (8 : Int)) 64)) = x / 256 := by rw [show (2 ^ (min (Int.toNat (8 : Int)) 64) : Int) = 256 from by decide]; exact DT (by omega)
    obtain ⟨k, e, h3, h4⟩ := SS (x := x / 256) (n := n + 8) (by omega) (by omega) (by omega)
    refine ⟨k + 8, ?_, by omega, ?_⟩
    · simp only [h, decide_true, cond_true]
      rw [aO (by decide), hd, dK (n := n + 8) (by omega) (by omega), e]
      congr 1; omega
    · rw [Int.pow_add]; have : (2 : Int) ^ 8 = 256 := by decide
      rw [this]; omega
  · obtain ⟨k, e, h3, h4⟩ := SS (x := x) (n := n) h1 (by omega) (by omega)
    exact ⟨k, by simp only [h, decide_false, cond_false, e], by omega, h4⟩

theorem RS {x n : Int} (h1 : 1 ≤ x) (h2 : x ≤ 4294967295) (hn : 0 ≤ n ∧ n ≤ 70) : ∃ k : Nat, kC x n = some (n + k + 1) ∧ k ≤ 31 ∧ (2 : Int) ^ k ≤ x := by
  unfold kC
  by_cases h : 65536 ≤ x
  · have hd : Int.fdiv x (2 ^ (min (Int.toNat (16 : Int)) 64)) = x / 65536 := by rw [show (2 ^ (min (Int.toNat (16 : Int)) 64) : Int) = 65536 from by decide]; exact DT (by omega)
    obtain ⟨k, e, h3, h4⟩ := TI (x := x / 65536) (n := n + 16) (by omega) (by omega) (by omega)
    refine ⟨k + 16, ?_, by omega, ?_⟩
    · simp only [h, decide_true, cond_true]
      rw [aO (by decide), hd, dK (n := n + 16) (by omega) (by omega), e]
      congr 1; omega
    · rw [Int.pow_add]; have : (2 : Int) ^ 16 = 65536 := by decide
      rw [this]; omega
  · obtain ⟨k, e, h3, h4⟩ := TI (x := x) (n := n) h1 (by omega) (by omega)
    exact ⟨k, by simp only [h, decide_false, cond_false, e], by omega, h4⟩

theorem RJ {x : Int} (h1 : 1 ≤ x) (h2 : x ≤ 9223372036854775807) : ∃ k : Nat, jR x = some ((k : Int) + 1) ∧ k ≤ 63 ∧ (2 : Int) ^ k ≤ x := by
  unfold jR mU
  by_cases h : 4294967296 ≤ x
  · have hd : Int.fdiv x (2 ^ (min (Int.toNat (32 : Int)) 64)) = x / 4294967296 := by rw [show (2 ^ (min (Int.toNat (32 : Int)) 64) : Int) = 4294967296 from by decide]; exact DT (by omega)
    obtain ⟨k, e, h3, h4⟩ := RS (x := x / 4294967296) (n := 32) (by omega) (by omega) (by omega)
    refine ⟨k + 32, ?_, by omega, ?_⟩
    · simp only [h, decide_true, cond_true]
      rw [aO (by decide), hd, e]
      simp only [Option.bind_some]
      congr 1; omega
    · rw [Int.pow_add]; have : (2 : Int) ^ 32 = 4294967296 := by decide
      rw [this]; omega
  · obtain ⟨k, e, h3, h4⟩ := RS (x := x) (n := 0) h1 (by omega) (by omega)
    refine ⟨k, ?_, by omega, h4⟩
    simp only [h, decide_false, cond_false, e, Option.bind_some]
    congr 1; omega

theorem SO : bt EA 0 = 0 := by decide +kernel

theorem WC : jR 0 = some 0 := by
  have h3 : lB 0 0 = some 0 := by
    show (bF (0 ≤ (IntKind.u8.wrap 0) ∧ (IntKind.u8.wrap 0) < ((ByteArray.size EA : Nat) : Int)) <| some (IntKind.i64.wrap (0 + (IntKind.i64.wrap (bt EA (IntKind.u8.wrap 0)))))) = _
    rw [XC (by omega) (by omega), aO (by rw [IL]; omega), SO, dK (n := 0) (by omega) (by omega), dK (by omega) (by omega)]
    rfl
  have h2 : kA 0 0 = some 0 := h3
  have h1 : kC 0 0 = some 0 := h2
  unfold jR mU
  have : decide ((4294967296 : Int) ≤ 0) = false := by decide
  rw [this, cond_false, h1]
  rfl

theorem WM {n : Nat} (h1 : 1 ≤ n) (h2 : n < 2305843009213693951) : ∃ m : Int, kK (n : Int) = some m ∧ 1 ≤ m ∧ m ≤ 2 * n := by
  unfold kK
  rw [AW (by omega) (by omega)]
  obtain ⟨k, e, h3, h4⟩ := RJ (x := (n : Int)) (by omega) (by omega)
  have hk : (2 : Int) ^ (k + 1) = 2 * 2 ^ k := by rw [Int.pow_succ]; omega
  have hp : (1 : Int) ≤ 2 ^ k := by
    have : (0 : Int) < 2 ^ k := Int.pow_pos (by decide)
    omega
  rw [e]
  simp only [Option.bind_some]
  rw [aO (by omega), show min (Int.toNat ((k : Int) + 1)) 64 = k + 1 by omega, Int.one_mul, hk, AW (by omega) (by omega)]
  exact ⟨_, rfl, by omega, by omega⟩

theorem ZS (x : Int) {m : Int} (h0 : 0 ≤ m) (hm : m ≤ 9223372036854775807) : 0 ≤ bJ .and .u64 x m ∧ bJ .and .u64 x m ≤ m := by
  have h1 : (BitVec.ofInt IntKind.u64.bits x &&& BitVec.ofInt IntKind.u64.bits m).toNat ≤ m.toNat := by
    rw [BitVec.toNat_and]
    refine Nat.le_trans Nat.and_le_right ?_
    rw [BitVec.toNat_ofInt]
    have : IntKind.u64.bits = 64 := rfl
    rw [this]
    omega
  have h2 : bJ .and .u64 x m = ((BitVec.ofInt IntKind.u64.bits x &&& BitVec.ofInt IntKind.u64.bits m).toNat : Int) := AW (by omega) (by omega)
  rw [h2]
  omega

theorem PD (r : Int) : ∃ x, kS r = some x := by
  unfold kS
  rw [aO (by decide), aO (by decide), aO (by decide)]
  exact ⟨_, rfl⟩

theorem TP {lo i o : Nat} {d : List Int} (l r m : Int) (hi : i < d.length) (ho : lo + o < d.length) (hl : d.length < 2305843009213693951) :
    eP d (lo : Nat) l r m (i : Nat) (o : Nat) = some (.inl (swp d i (lo + o), r, ((i + 1 : Nat) : Int))) := by
  unfold eP
  rw [wrN (x := (lo : Int) + (o : Int)) (n := lo + o) (by omega) (by omega), wrN (n := i + 1) (by omega) (by omega)]
  simp only [Int.toNat_natCast]
  rw [aO (asN (by omega)), aO (asN (by omega)), aO (asN (by omega)), aO (asN (by omega))]
  rfl

theorem aAn {lo n : Nat} {m : Int} (hm : 1 ≤ m ∧ m ≤ 2 * n) (h8 : 8 ≤ n) : ∀ (q i : Nat) (r : Int) (d : List Int), lo + n / 4 * 2 + 2 - i = q → lo ≤ i → i ≤ lo + n / 4 * 2 + 2 → lo + n ≤ d.length → d.length < 2305843009213693951 →
    ∃ d', lp (fun s : List Int × Int × Int => cR (lo : Nat) (n : Nat) m s.1 s.2.1 s.2.2) (d, r, (i : Int)) = some d' ∧ Rel lo (lo + n) d d' := by
  have t4 : IntKind.i64.wrap (Int.tdiv (n : Int) 4) = ((n / 4 : Nat) : Int) ∨ 2305843009213693951 ≤ n := by
    by_cases h : n < 2305843009213693951
    · left
      have : Int.tdiv (n : Int) 4 = ((n / 4 : Nat) : Int) := by rw [Int.tdiv_eq_ediv_of_nonneg (by omega)]; omega
      rw [this]; exact wrN rfl (by omega)
    · right; omega
  intro q
  induction q with
  | zero =>
    intro i r d h1 h2 h3 h4 h5
    have t4 := t4.resolve_right (by omega)
    refine ⟨d, cU ?_, Rel.refl ..⟩
    show cR _ _ _ _ _ _ = _
    unfold cR
    rw [aO (by decide), t4, wrN (x := ((n / 4 : Nat) : Int) * 2) (n := n / 4 * 2) (by omega) (by omega), wrN (x := (lo : Int) + ((n / 4 * 2 : Nat) : Int)) (n := lo + n / 4 * 2) (by omega) (by omega), wrN (x := ((lo + n / 4 * 2 : Nat) : Int) + 1) (n := lo + n / 4 * 2 + 1) (by omega) (by omega)]
    have : decide (((i : Nat) : Int) ≤ ((lo + n / 4 * 2 + 1 : Nat) : Int)) = false := by simp; omega
    rw [this, cond_false]
  | succ q ih =>
    intro i r d h1 h2 h3 h4 h5
    have t4 := t4.resolve_right (by omega)
    obtain ⟨x, hx⟩ := PD r
    obtain ⟨a1, a2⟩ := ZS x.1 (m := m - 1) (by omega) (by omega)
    have hd : decide (((i : Nat) : Int) ≤ ((lo + n / 4 * 2 + 1 : Nat) : Int)) = true := by simp; omega
    have step : ∃ o, o < n ∧ cR (lo : Nat) (n : Nat) m d r (i : Nat) = some (.inl (swp d i (lo + o), x.2, ((i + 1 : Nat) : Int))) := by
      unfold cR
      rw [aO (by decide), t4, wrN (x := ((n / 4 : Nat) : Int) * 2) (n := n / 4 * 2) (by omega) (by omega), wrN (x := (lo : Int) + ((n / 4 * 2 : Nat) : Int)) (n := lo + n / 4 * 2) (by omega) (by omega), wrN (x := ((lo + n / 4 * 2 : Nat) : Int) + 1) (n := lo + n / 4 * 2 + 1) (by omega) (by omega), hd, cond_true, hx]
      simp only [Option.bind_some]
      rw [AW (x := m - 1) (by omega) (by omega)]
      have e1 : IntKind.i64.wrap (bJ .and .u64 x.1 (m - 1)) = (((bJ .and .u64 x.1 (m - 1)).toNat : Nat) : Int) := wrN (by omega) (by omega)
      rw [e1]
      by_cases h : (n : Int) ≤ (((bJ .and .u64 x.1 (m - 1)).toNat : Nat) : Int)
      · refine ⟨(bJ .and .u64 x.1 (m - 1)).toNat - n, by omega, ?_⟩
        simp only [h, decide_true, cond_true]
        rw [wrN (x := (((bJ .and .u64 x.1 (m - 1)).toNat : Nat) : Int) - (n : Int)) (n := (bJ .and .u64 x.1 (m - 1)).toNat - n) (by omega) (by omega)]
        exact TP _ _ _ (by omega) (by omega) h5
      · refine ⟨(bJ .and .u64 x.1 (m - 1)).toNat, by omega, ?_⟩
        simp only [h, decide_false, cond_false]
        exact TP _ _ _ (by omega) (by omega) h5
    obtain ⟨o, ho, hs⟩ := step
    obtain ⟨d', e, rl⟩ := ih (i + 1) x.2 (swp d i (lo + o)) (by omega) (by omega) (by omega) (by rw [gI]; exact h4) (by rw [gI]; exact h5)
    exact ⟨d', (fJ (show (fun s : List Int × Int × Int => cR (lo : Nat) (n : Nat) m s.1 s.2.1 s.2.2) (d, r, (i : Int)) = _ from hs)).trans e, (Rel.swp (i := i) (j := lo + o) (by omega) (by omega) (by omega) (by omega)).trans rl⟩

theorem SD {lo hi : Nat} {d : List Int} (h8 : 8 ≤ hi - lo) (h1 : hi ≤ d.length) (h2 : d.length < 2305843009213693951) : ∃ d', fW d (lo : Int) (hi : Int) = some d' ∧ Rel lo hi d d' := by
  unfold fW
  have e1 : IntKind.i64.wrap ((hi : Int) - (lo : Int)) = ((hi - lo : Nat) : Int) := wrN (by omega) (by omega)
  have d1 : decide ((8 : Int) ≤ ((hi - lo : Nat) : Int)) = true := by simp; omega
  obtain ⟨m, em, m1, m2⟩ := WM (n := hi - lo) (by omega) (by omega)
  have t4 : IntKind.i64.wrap (Int.tdiv ((hi - lo : Nat) : Int) 4) = (((hi - lo) / 4 : Nat) : Int) := by
    have : Int.tdiv ((hi - lo : Nat) : Int) 4 = (((hi - lo) / 4 : Nat) : Int) := by rw [Int.tdiv_eq_ediv_of_nonneg (by omega)]; omega
    rw [this]; exact wrN rfl (by omega)
  rw [e1, d1, cond_true, em]
  simp only [Option.bind_some]
  rw [aO (by decide), t4, wrN (x := (((hi - lo) / 4 : Nat) : Int) * 2) (n := (hi - lo) / 4 * 2) (by omega) (by omega), wrN (x := (lo : Int) + (((hi - lo) / 4 * 2 : Nat) : Int)) (n := lo + (hi - lo) / 4 * 2) (by omega) (by omega), wrN (x := ((lo + (hi - lo) / 4 * 2 : Nat) : Int) - 1) (n := lo + (hi - lo) / 4 * 2 - 1) (by omega) (by omega)]
  unfold iS
  obtain ⟨d', e, r⟩ := aAn (lo := lo) (n := hi - lo) (m := m) ⟨m1, m2⟩ h8 (lo + (hi - lo) / 4 * 2 + 2 - (lo + (hi - lo) / 4 * 2 - 1)) (lo + (hi - lo) / 4 * 2 - 1) (IntKind.u64.wrap ((hi - lo : Nat) : Int)) d rfl (by omega) (by omega) (by omega) h2
  rw [e]
  have : lo + (hi - lo) = hi := by omega
  rw [this] at r
  exact ⟨d', rfl, r⟩

theorem WD {a b : Nat} {d : List Int} (s : Int) (ha : a < d.length) (hb : b < d.length) : ∃ (p q : Nat) (s' : Int), fK d (a : Int) (b : Int) s = some (((p : Int), (q : Int)), s') ∧ ((p = a ∧ q = b) ∨ (p = b ∧ q = a)) := by
  unfold fK
  rw [aO (asN hb), aO (asN ha), pJ]
  simp only [Option.bind_some]
  cases decide (d.getD (Int.toNat (b : Int)) default < d.getD (Int.toNat (a : Int)) default)
  · exact ⟨a, b, _, rfl, .inl ⟨rfl, rfl⟩⟩
  · exact ⟨b, a, _, rfl, .inr ⟨rfl, rfl⟩⟩

theorem med {a b c : Nat} {d : List Int} (s : Int) (ha : a < d.length) (hb : b < d.length) (hc : c < d.length) : ∃ (p : Nat) (s' : Int), iB d (a : Int) (b : Int) (c : Int) s = some ((p : Int), s') ∧ (p = a ∨ p = b ∨ p = c) := by
  unfold iB
  obtain ⟨p1, q1, s1, e1, h1⟩ := WD s ha hb
  obtain ⟨p2, q2, s2, e2, h2⟩ := WD (a := q1) (b := c) (d := d) s1 (by omega) hc
  obtain ⟨p3, q3, s3, e3, h3⟩ := WD (a := p1) (b := p2) (d := d) s2 (by omega) (by omega)
  rw [e1]; simp only [Option.bind_some]
  rw [e2]; simp only [Option.bind_some]
  rw [e3]
  exact ⟨q3, s3, rfl, by omega⟩

theorem WO {a : Nat} {d : List Int} (s : Int) (h1 : 1 ≤ a) (ha : a + 1 < d.length) (hl : d.length < 2305843009213693951) : ∃ (p : Nat) (s' : Int), dP d (a : Int) s = some ((p : Int), s') ∧ a - 1 ≤ p ∧ p ≤ a + 1 := by
  unfold dP
  rw [wrN (x := (a : Int) - 1) (n := a - 1) (by omega) (by omega), wrN (x := (a : Int) + 1) (n := a + 1) (by omega) (by omega)]
  obtain ⟨p, s', e, h⟩ := med (a := a - 1) (b := a) (c := a + 1) (d := d) s (by omega) (by omega) (by omega)
  rw [e]
  exact ⟨p, s', rfl, by omega, by omega⟩

theorem WU (d : List Int) (s : Int) (j : Int) : ∃ h, eY d s j = some (j, h) := by
  unfold eY
  cases decide (s = 0) <;> cases decide (s = 12) <;> exact ⟨_, rfl⟩

theorem PX {lo hi : Nat} {d : List Int} (h8 : 12 < hi - lo) (h1 : hi ≤ d.length) (h2 : d.length < 2305843009213693951) : ∃ (p : Nat) (h : Int), gW d (lo : Int) (hi : Int) = some ((p : Int), h) ∧ lo ≤ p ∧ p < hi := by
  unfold gW
  have e1 : IntKind.i64.wrap ((hi : Int) - (lo : Int)) = ((hi - lo : Nat) : Int) := wrN (by omega) (by omega)
  have t4 : IntKind.i64.wrap (Int.tdiv ((hi - lo : Nat) : Int) 4) = (((hi - lo) / 4 : Nat) : Int) := by
    have : Int.tdiv ((hi - lo : Nat) : Int) 4 = (((hi - lo) / 4 : Nat) : Int) := by rw [Int.tdiv_eq_ediv_of_nonneg (by omega)]; omega
    rw [this]; exact wrN rfl (by omega)
  have d1 : decide ((8 : Int) ≤ ((hi - lo : Nat) : Int)) = true := by simp; omega
  have q1 : IntKind.i64.wrap ((lo : Int) + IntKind.i64.wrap ((((hi - lo) / 4 : Nat) : Int) * 1)) = ((lo + (hi - lo) / 4 : Nat) : Int) := by
    rw [wrN (x := (((hi - lo) / 4 : Nat) : Int) * 1) (n := (hi - lo) / 4) (by omega) (by omega)]; exact wrN (by omega) (by omega)
  have q2 : IntKind.i64.wrap ((lo : Int) + IntKind.i64.wrap ((((hi - lo) / 4 : Nat) : Int) * 2)) = ((lo + (hi - lo) / 4 * 2 : Nat) : Int) := by
    rw [wrN (x := (((hi - lo) / 4 : Nat) : Int) * 2) (n := (hi - lo) / 4 * 2) (by omega) (by omega)]; exact wrN (by omega) (by omega)
  have q3 : IntKind.i64.wrap ((lo : Int) + IntKind.i64.wrap ((((hi - lo) / 4 : Nat) : Int) * 3)) = ((lo + (hi - lo) / 4 * 3 : Nat) : Int) := by
    rw [wrN (x := (((hi - lo) / 4 : Nat) : Int) * 3) (n := (hi - lo) / 4 * 3) (by omega) (by omega)]; exact wrN (by omega) (by omega)
  rw [aO (by decide), aO (by decide), aO (by decide)]
  simp only [e1, t4, d1, q1, q2, q3, cond_true]
  by_cases h50 : (50 : Int) ≤ ((hi - lo : Nat) : Int)
  · simp only [h50, decide_true, cond_true]
    obtain ⟨p1, s1, f1, g1, g2⟩ := WO (a := lo + (hi - lo) / 4) (d := d) 0 (by omega) (by omega) h2
    obtain ⟨p2, s2, f2, g3, g4⟩ := WO (a := lo + (hi - lo) / 4 * 2) (d := d) s1 (by omega) (by omega) h2
    obtain ⟨p3, s3, f3, g5, g6⟩ := WO (a := lo + (hi - lo) / 4 * 3) (d := d) s2 (by omega) (by omega) h2
    obtain ⟨p4, s4, f4, g7⟩ := med (a := p1) (b := p2) (c := p3) (d := d) s3 (by omega) (by omega) (by omega)
    obtain ⟨h, f5⟩ := WU d s4 p4
    rw [f1]; simp only [Option.bind_some]
    rw [f2]; simp only [Option.bind_some]
    rw [f3]; simp only [Option.bind_some, eX]
    rw [f4]; simp only [Option.bind_some]
    exact ⟨p4, h, f5, by omega, by omega⟩
  · simp only [h50, decide_false, cond_false, eX]
    obtain ⟨p4, s4, f4, g7⟩ := med (a := lo + (hi - lo) / 4) (b := lo + (hi - lo) / 4 * 2) (c := lo + (hi - lo) / 4 * 3) (d := d) 0 (by omega) (by omega) (by omega)
    obtain ⟨h, f5⟩ := WU d s4 p4
    rw [f4]; simp only [Option.bind_some]
    exact ⟨p4, h, f5, by omega, by omega⟩

end Go.Abs
namespace Go.Abs
open Go
theorem HF {body : List Int × Int → Option ((List Int × Int) ⊕ (List Int × Int))} {d : List Int} {p : Nat → Prop} [DecidablePred p] {j : Nat}
    (hs : ∀ i, i ≤ j + 1 → body (d, (i : Int)) = if i ≤ j ∧ p i then some (.inl (d, ((i + 1 : Nat) : Int))) else some (.inr (d, (i : Int)))) :
    ∀ (n i : Nat), j + 1 - i = n → i ≤ j + 1 → ∃ i' : Nat, lp body (d, (i : Int)) = some (d, (i' : Int)) ∧ i ≤ i' ∧ i' ≤ j + 1 ∧ (∀ k, i ≤ k → k < i' → p k) ∧ (i' ≤ j → ¬ p i') := by
  intro n
  induction n with
  | zero =>
    intro i h1 h2
    have := hs i h2
    rw [if_neg (by omega)] at this
    exact ⟨i, cU this, Nat.le_refl _, h2, fun k a b => by omega, fun h => by omega⟩
  | succ n ih =>
    intro i h1 h2
    have h := hs i h2
    by_cases hp : p i
    · rw [if_pos ⟨by omega, hp⟩] at h
      obtain ⟨i', e, a1, a2, a3, a4⟩ := ih (i + 1) (by omega) (by omega)
      refine ⟨i', (fJ h).trans e, by omega, a2, fun k b1 b2 => ?_, a4⟩
      by_cases hk : k = i
      · rw [hk]; exact hp
      · exact a3 k (by omega) b2
    · rw [if_neg fun hh => hp hh.2] at h
      exact ⟨i, cU h, Nat.le_refl _, h2, fun k a b => by omega, fun _ => hp⟩

theorem BS {body : List Int × Int → Option ((List Int × Int) ⊕ (List Int × Int))} {d : List Int} {p : Nat → Prop} [DecidablePred p] {i m : Nat} (hi : 1 ≤ i)
    (hs : ∀ j, j ≤ m → body (d, (j : Int)) = if i ≤ j ∧ p j then some (.inl (d, ((j - 1 : Nat) : Int))) else some (.inr (d, (j : Int)))) :
    ∀ (j : Nat), j ≤ m → i ≤ j + 1 → ∃ j' : Nat, lp body (d, (j : Int)) = some (d, (j' : Int)) ∧ i ≤ j' + 1 ∧ j' ≤ j ∧ (∀ k, j' < k → k ≤ j → p k) ∧ (i ≤ j' → ¬ p j') := by
  intro j
  induction j with
  | zero =>
    intro h1 h2
    have := hs 0 h1
    rw [if_neg (by omega)] at this
    exact ⟨0, cU this, by omega, Nat.le_refl _, fun k a b => by omega, fun h => by omega⟩
  | succ j ih =>
    intro h1 h2
    have h := hs (j + 1) h1
    by_cases hp : i ≤ j + 1 ∧ p (j + 1)
    · rw [if_pos hp] at h
      obtain ⟨j', e, a1, a2, a3, a4⟩ := ih (by omega) (by omega)
      refine ⟨j', (fJ h).trans e, a1, by omega, fun k b1 b2 => ?_, a4⟩
      by_cases hk : k = j + 1
      · rw [hk]; exact hp.2
      · exact a3 k b1 (by omega)
    · rw [if_neg hp] at h
      exact ⟨j + 1, cU h, by omega, Nat.le_refl _, fun k a b => by omega, fun h1 h2 => hp ⟨h1, h2⟩⟩

theorem OZ {α : Type} {i j u v : Nat} {d : List Int} {n : Bool} {x y : Option α} (hu : i ≤ j → u < d.length) (hv : i ≤ j → v < d.length) :
    (bF ((decide ((i : Int) ≤ (j : Int))) = true → 0 ≤ (u : Int) ∧ (u : Int) < ((List.length d : Nat) : Int)) <|
    bF ((decide ((i : Int) ≤ (j : Int))) = true → 0 ≤ (v : Int) ∧ (v : Int) < ((List.length d : Nat) : Int)) <|
    (dG (decide ((i : Int) ≤ (j : Int))) (cZ (List.getD d (Int.toNat (u : Int)) default) (List.getD d (Int.toNat (v : Int)) default))).bind fun z =>
    cond ((decide ((i : Int) ≤ (j : Int))) && (Bool.xor n z)) x y) = if i ≤ j ∧ (Bool.xor n (decide (gN d u < gN d v))) = true then x else y := by
  by_cases h : i ≤ j
  · have hd : decide ((i : Int) ≤ (j : Int)) = true := by simp; omega
    rw [hd]
    rw [aO fun _ => asN (hu h), aO fun _ => asN (hv h)]
    simp only [dG, cond_true, pJ, Option.bind_some, Bool.true_and, Int.toNat_natCast, h, true_and, gN]
    cases Bool.xor n (decide (d.getD u default < d.getD v default)) <;> simp
  · have hd : decide ((i : Int) ≤ (j : Int)) = false := by simp; omega
    rw [hd, aO (fun h => by cases h), aO (fun h => by cases h)]
    simp [dG, h]

theorem DY {α : Type} {i j u v : Nat} {d : List Int} {x y : Option α} (hu : i ≤ j → u < d.length) (hv : i ≤ j → v < d.length) :
    (bF ((decide ((i : Int) ≤ (j : Int))) = true → 0 ≤ (u : Int) ∧ (u : Int) < ((List.length d : Nat) : Int)) <|
    bF ((decide ((i : Int) ≤ (j : Int))) = true → 0 ≤ (v : Int) ∧ (v : Int) < ((List.length d : Nat) : Int)) <|
    (dG (decide ((i : Int) ≤ (j : Int))) (cZ (List.getD d (Int.toNat (u : Int)) default) (List.getD d (Int.toNat (v : Int)) default))).bind fun z =>
    cond ((decide ((i : Int) ≤ (j : Int))) && z) x y) = if i ≤ j ∧ gN d u < gN d v then x else y := by
  have := OZ (n := false) (x := x) (y := y) hu hv
  simp only [Bool.false_xor] at this
  exact this.trans (by simp)

theorem DP {α : Type} {i j u v : Nat} {d : List Int} {x y : Option α} (hu : i ≤ j → u < d.length) (hv : i ≤ j → v < d.length) :
    (bF ((decide ((i : Int) ≤ (j : Int))) = true → 0 ≤ (u : Int) ∧ (u : Int) < ((List.length d : Nat) : Int)) <|
    bF ((decide ((i : Int) ≤ (j : Int))) = true → 0 ≤ (v : Int) ∧ (v : Int) < ((List.length d : Nat) : Int)) <|
    (dG (decide ((i : Int) ≤ (j : Int))) (cZ (List.getD d (Int.toNat (u : Int)) default) (List.getD d (Int.toNat (v : Int)) default))).bind fun z =>
    cond ((decide ((i : Int) ≤ (j : Int))) && (!z)) x y) = if i ≤ j ∧ ¬ gN d u < gN d v then x else y := by
  have := OZ (n := true) (x := x) (y := y) hu hv
  simp only [Bool.true_xor] at this
  exact this.trans (by simp)

theorem YX {a j : Nat} {d : List Int} (ha : a < d.length) (hj : j < d.length) (hl : d.length < 2305843009213693951) : ∀ i, i ≤ j + 1 → eB (a : Nat) (j : Nat) d (i : Nat) = if i ≤ j ∧ gN d i < gN d a then some (.inl (d, ((i + 1 : Nat) : Int))) else some (.inr (d, (i : Int))) := by
  intro i hi
  unfold eB
  rw [wrN (x := (i : Int) + 1) (n := i + 1) (by omega) (by omega)]
  exact DY (u := i) (v := a) (by omega) (by omega)

theorem VG {a j : Nat} {d : List Int} (ha : a < d.length) (hj : j < d.length) (hl : d.length < 2305843009213693951) : ∀ i, i ≤ j + 1 → eM (a : Nat) (j : Nat) d (i : Nat) = if i ≤ j ∧ gN d i < gN d a then some (.inl (d, ((i + 1 : Nat) : Int))) else some (.inr (d, (i : Int))) := by
  intro i hi
  unfold eM
  rw [wrN (x := (i : Int) + 1) (n := i + 1) (by omega) (by omega)]
  exact DY (u := i) (v := a) (by omega) (by omega)

theorem UJ {a i m : Nat} {d : List Int} (hi : 1 ≤ i) (ha : a < d.length) (hm : m < d.length) (hl : d.length < 2305843009213693951) : ∀ j, j ≤ m → eJ (a : Nat) (i : Nat) d (j : Nat) = if i ≤ j ∧ ¬ gN d j < gN d a then some (.inl (d, ((j - 1 : Nat) : Int))) else some (.inr (d, (j : Int))) := by
  intro j hj
  unfold eJ
  refine (DP (i := i) (j := j) (d := d) (α := (List Int × Int) ⊕ (List Int × Int)) (u := j) (v := a) (x := some (.inl (d, IntKind.i64.wrap ((j : Int) - 1)))) (y := some (.inr (d, (j : Int)))) (by omega) (by omega)).trans ?_
  by_cases h : i ≤ j ∧ ¬ gN d j < gN d a
  · rw [if_pos h, if_pos h, wrN (x := (j : Int) - 1) (n := j - 1) (by omega) (by omega)]
  · rw [if_neg h, if_neg h]

theorem PN {a i m : Nat} {d : List Int} (hi : 1 ≤ i) (ha : a < d.length) (hm : m < d.length) (hl : d.length < 2305843009213693951) : ∀ j, j ≤ m → eN (a : Nat) (i : Nat) d (j : Nat) = if i ≤ j ∧ ¬ gN d j < gN d a then some (.inl (d, ((j - 1 : Nat) : Int))) else some (.inr (d, (j : Int))) := by
  intro j hj
  unfold eN
  refine (DP (i := i) (j := j) (d := d) (α := (List Int × Int) ⊕ (List Int × Int)) (u := j) (v := a) (x := some (.inl (d, IntKind.i64.wrap ((j : Int) - 1)))) (y := some (.inr (d, (j : Int)))) (by omega) (by omega)).trans ?_
  by_cases h : i ≤ j ∧ ¬ gN d j < gN d a
  · rw [if_pos h, if_pos h, wrN (x := (j : Int) - 1) (n := j - 1) (by omega) (by omega)]
  · rw [if_neg h, if_neg h]

theorem WG {a j : Nat} {d : List Int} (ha : a < d.length) (hj : j < d.length) (hl : d.length < 2305843009213693951) : ∀ i, i ≤ j + 1 → dN (a : Nat) (j : Nat) d (i : Nat) = if i ≤ j ∧ ¬ gN d a < gN d i then some (.inl (d, ((i + 1 : Nat) : Int))) else some (.inr (d, (i : Int))) := by
  intro i hi
  unfold dN
  rw [wrN (x := (i : Int) + 1) (n := i + 1) (by omega) (by omega)]
  exact DP (u := a) (v := i) (by omega) (by omega)

theorem PY {a i m : Nat} {d : List Int} (hi : 1 ≤ i) (ha : a < d.length) (hm : m < d.length) (hl : d.length < 2305843009213693951) : ∀ j, j ≤ m → dL (a : Nat) (i : Nat) d (j : Nat) = if i ≤ j ∧ gN d a < gN d j then some (.inl (d, ((j - 1 : Nat) : Int))) else some (.inr (d, (j : Int))) := by
  intro j hj
  unfold dL
  refine (DY (i := i) (j := j) (d := d) (α := (List Int × Int) ⊕ (List Int × Int)) (u := a) (v := j) (x := some (.inl (d, IntKind.i64.wrap ((j : Int) - 1)))) (y := some (.inr (d, (j : Int)))) (by omega) (by omega)).trans ?_
  by_cases h : i ≤ j ∧ gN d a < gN d j
  · rw [if_pos h, if_pos h, wrN (x := (j : Int) - 1) (n := j - 1) (by omega) (by omega)]
  · rw [if_neg h, if_neg h]

structure vD (a b i j : Nat) (d : List Int) : Prop where
  hi : a < i
  hij : i ≤ j + 1
  hj : j < b
  lo : ∀ k, a < k → k < i → gN d k < gN d a
  up : ∀ k, j < k → k < b → gN d a ≤ gN d k

theorem vD.swap {a b i j : Nat} {d : List Int} (h : vD a b i j d) (hb : b ≤ d.length) (hij : i < j) (h1 : gN d a ≤ gN d i) (h2 : gN d j < gN d a) : vD a b (i + 1) (j - 1) (swp d i j) := by
  have := h.hi; have := h.hj
  have g := qE (d := d) (i := i) (j := j) (by omega) (by omega)
  have ga : gN (swp d i j) a = gN d a := by rw [g, if_neg (by omega), if_neg (by omega)]
  refine ⟨by omega, by omega, by omega, fun k k1 k2 => ?_, fun k k1 k2 => ?_⟩
  · rw [ga, g, if_neg (by omega)]
    by_cases hk : k = i
    · rw [if_pos hk]; exact h2
    · rw [if_neg hk]; exact h.lo k k1 (by omega)
  · rw [ga, g]
    by_cases hk : k = j
    · rw [if_pos hk]; exact h1
    · rw [if_neg hk, if_neg (by omega)]; exact h.up k (by omega) k2

theorem FG {a b i j : Nat} {d : List Int} (h : vD a b i j d) (hb : b ≤ d.length) (hl : d.length < 2305843009213693951) : ∃ i' j' : Nat, vD a b i' j' d ∧ i ≤ i' ∧ j' ≤ j ∧ (j' < i' → j' + 1 = i') ∧ (i' ≤ j' → i' < j' ∧ gN d a ≤ gN d i' ∧ gN d j' < gN d a) ∧
    dB (a : Nat) d (i : Nat) (j : Nat) = eO d (a : Nat) (i' : Nat) (j' : Nat) ∧ fD d (a : Nat) (i : Nat) (j : Nat) = eH d (a : Nat) (i' : Nat) (j' : Nat) := by
  have h1 := h.hi; have h2 := h.hij; have h3 := h.hj
  obtain ⟨i', e1, a1, a2, a3, a4⟩ := HF (body := fun s => eM (a : Nat) (j : Nat) s.1 s.2) (d := d) (p := fun k => gN d k < gN d a) (j := j) (VG (a := a) (j := j) (d := d) (by omega) (by omega) hl) (j + 1 - i) i rfl h2
  obtain ⟨i2, e1', b1, b2, b3, b4⟩ := HF (body := fun s => eB (a : Nat) (j : Nat) s.1 s.2) (d := d) (p := fun k => gN d k < gN d a) (j := j) (YX (a := a) (j := j) (d := d) (by omega) (by omega) hl) (j + 1 - i) i rfl h2
  have hii : i2 = i' := by
    rcases Nat.lt_trichotomy i2 i' with hh | hh | hh
    · exact absurd (a3 i2 b1 hh) (b4 (by omega))
    · exact hh
    · exact absurd (b3 i' a1 hh) (a4 (by omega))
  subst hii
  obtain ⟨j', f1, c1, c2, c3, c4⟩ := BS (body := fun s => eN (a : Nat) (i2 : Nat) s.1 s.2) (d := d) (p := fun k => ¬ gN d k < gN d a) (i := i2) (m := j) (by omega) (PN (a := a) (i := i2) (m := j) (d := d) (by omega) (by omega) (by omega) hl) j (Nat.le_refl _) a2
  obtain ⟨j2, f1', g1, g2, g3, g4⟩ := BS (body := fun s => eJ (a : Nat) (i2 : Nat) s.1 s.2) (d := d) (p := fun k => ¬ gN d k < gN d a) (i := i2) (m := j) (by omega) (UJ (a := a) (i := i2) (m := j) (d := d) (by omega) (by omega) (by omega) hl) j (Nat.le_refl _) a2
  have hjj : j2 = j' := by
    rcases Nat.lt_trichotomy j2 j' with hh | hh | hh
    · exact absurd (g3 j' hh c2) (c4 (by omega))
    · exact hh
    · exact absurd (c3 j2 hh g2) (g4 (by omega))
  subst hjj
  have hend : i2 ≤ j2 → i2 < j2 ∧ gN d a ≤ gN d i2 ∧ gN d j2 < gN d a := fun hh => by
    have k1 : ¬ gN d i2 < gN d a := a4 (by omega)
    have k2 : gN d j2 < gN d a := Classical.byContradiction fun hn => c4 hh hn
    refine ⟨?_, by omega, k2⟩
    rcases Nat.lt_or_ge i2 j2 with h | h
    · exact h
    · have : i2 = j2 := by omega
      rw [this] at k1; exact absurd k2 k1
  refine ⟨i2, j2, ⟨by omega, by omega, by omega, fun k k1 k2 => ?_, fun k k1 k2 => ?_⟩, a1, c2, fun hh => by omega, hend, ?_, ?_⟩
  · by_cases hk : k < i
    · exact h.lo k k1 hk
    · exact a3 k (by omega) k2
  · by_cases hk : j < k
    · exact h.up k hk k2
    · have := c3 k k1 (by omega); omega
  · unfold dB jN
    rw [show lp (fun s : List Int × Int => eM (a : Nat) (j : Nat) s.1 s.2) (d, (i : Int)) = some (d, (i2 : Int)) from e1]
    simp only [Option.bind_some]
    unfold iD jQ
    rw [show lp (fun s : List Int × Int => eN (a : Nat) (i2 : Nat) s.1 s.2) (d, (j : Int)) = some (d, (j2 : Int)) from f1]
    rfl
  · unfold fD
    rw [show lp (fun s : List Int × Int => eB (a : Nat) (j : Nat) s.1 s.2) (d, (i : Int)) = some (d, (i2 : Int)) from e1']
    simp only [Option.bind_some]
    unfold iG jP
    rw [show lp (fun s : List Int × Int => eJ (a : Nat) (i2 : Nat) s.1 s.2) (d, (j : Int)) = some (d, (j2 : Int)) from f1']
    rfl

theorem vD.rel {a b i j : Nat} {d : List Int} (h : vD a b i j d) (hb : b ≤ d.length) (hij : i ≤ j) : Rel (a + 1) b d (swp d i j) := by
  have := h.hi; have := h.hj
  exact Rel.swp (i := i) (j := j) (by omega) (by omega) (by omega) (by omega)

theorem XV {a b : Nat} : ∀ (n i j : Nat) (d : List Int), j + 1 - i = n → b ≤ d.length → d.length < 2305843009213693951 → vD a b i j d →
    ∃ (d' : List Int) (j' : Nat), lp (fun s : List Int × Int × Int => dB (a : Nat) s.1 s.2.1 s.2.2) (d, (i : Int), (j : Int)) = some (d', (j' : Int)) ∧ Rel (a + 1) b d d' ∧ vD a b (j' + 1) j' d' := by
  intro n
  induction n using Nat.strongRecOn with
  | ind n ih =>
    intro i j d h1 h2 h3 h
    obtain ⟨i', j', p1, p2, p3, p4, p5, p6, _⟩ := FG h h2 h3
    have q1 := p1.hi; have q2 := p1.hj; have q3 := p1.hij
    by_cases hlt : j' < i'
    · have hs : dB (a : Nat) d (i : Nat) (j : Nat) = some (.inr (d, (j' : Int))) := by
        rw [p6]
        unfold eO
        have : decide ((j' : Int) < (i' : Int)) = true := by simp; omega
        rw [this, cond_true]
      have := p4 hlt
      exact ⟨d, j', cU hs, Rel.refl .., by rw [this]; exact p1⟩
    · obtain ⟨k1, k2, k3⟩ := p5 (by omega)
      have hs : dB (a : Nat) d (i : Nat) (j : Nat) = some (.inl (swp d i' j', ((i' + 1 : Nat) : Int), ((j' - 1 : Nat) : Int))) := by
        rw [p6]
        unfold eO
        have : decide ((j' : Int) < (i' : Int)) = false := by simp; omega
        rw [this, cond_false]
        simp only [Int.toNat_natCast]
        rw [aO (asN (by omega)), aO (asN (by omega)), aO (asN (by omega)), aO (asN (by omega)), wrN (x := (i' : Int) + 1) (n := i' + 1) (by omega) (by omega), wrN (x := (j' : Int) - 1) (n := j' - 1) (by omega) (by omega)]
        rfl
      obtain ⟨d', j2, e, r, p⟩ := ih (j' - 1 + 1 - (i' + 1)) (by omega) (i' + 1) (j' - 1) (swp d i' j') rfl (by rw [gI]; exact h2) (by rw [gI]; exact h3) (p1.swap h2 k1 k2 k3)
      exact ⟨d', j2, (fJ hs).trans e, (p1.rel h2 (by omega)).trans r, p⟩

theorem KU {a b j : Nat} {d : List Int} (h : vD a b (j + 1) j d) (hb : b ≤ d.length) : Rel a b d (swp d j a) ∧ (∀ k, a ≤ k → k < j → gN (swp d j a) k ≤ gN (swp d j a) j) ∧ (∀ k, j < k → k < b → gN (swp d j a) j ≤ gN (swp d j a) k) := by
  have h1 := h.hi; have h3 := h.hj
  have g := qE (d := d) (i := j) (j := a) (by omega) (by omega)
  have gj : gN (swp d j a) j = gN d a := by
    rw [g]
    by_cases hh : j = a
    · rw [if_pos hh, hh]
    · rw [if_neg hh, if_pos rfl]
  refine ⟨Rel.swp (i := j) (j := a) (by omega) (by omega) (by omega) (by omega), fun k k1 k2 => ?_, fun k k1 k2 => ?_⟩
  · rw [gj, g]
    by_cases hk : k = a
    · rw [if_pos hk]
      have := h.lo j (by omega) (by omega); omega
    · rw [if_neg hk, if_neg (by omega)]
      have := h.lo k (by omega) (by omega); omega
  · rw [gj, g, if_neg (by omega), if_neg (by omega)]
    exact h.up k k1 k2

theorem KL {lo hi p : Nat} {d : List Int} (h0 : lo < hi) (hb : hi ≤ d.length) (hl : d.length < 2305843009213693951) (hp : lo ≤ p ∧ p < hi) :
    ∃ (m : Nat) (fl : Bool) (d' : List Int), fT d (lo : Int) (hi : Int) (p : Int) = some (((m : Int), fl), d') ∧ lo ≤ m ∧ m < hi ∧ Rel lo hi d d' ∧ (∀ k, lo ≤ k → k < m → gN d' k ≤ gN d' m) ∧ (∀ k, m < k → k < hi → gN d' m ≤ gN d' k) := by
  unfold fT
  rw [aO (asN (by omega)), aO (asN (by omega)), aO (asN (by omega)), aO (asN (by omega)), wrN (x := (lo : Int) + 1) (n := lo + 1) (by omega) (by omega), wrN (x := (hi : Int) - 1) (n := hi - 1) (by omega) (by omega)]
  simp only [Int.toNat_natCast]
  have r0 : Rel lo hi d (swp d lo p) := Rel.swp (i := lo) (j := p) (by omega) (by omega) (by omega) (by omega)
  have l0 : (swp d lo p).length = d.length := gI ..
  have inv : vD lo hi (lo + 1) (hi - 1) (swp d lo p) := ⟨by omega, by omega, by omega, fun k k1 k2 => by omega, fun k k1 k2 => by omega⟩
  obtain ⟨i', j', p1, p2, p3, p4, p5, _, p6⟩ := FG inv (by rw [l0]; exact hb) (by rw [l0]; exact hl)
  have e0 : fD (List.set (List.set d lo (List.getD d p default)) p (List.getD d lo default)) (lo : Int) ((lo + 1 : Nat) : Int) ((hi - 1 : Nat) : Int) = eH (swp d lo p) (lo : Nat) (i' : Nat) (j' : Nat) := p6
  rw [e0]
  have q1 := p1.hi; have q2 := p1.hj; have q3 := p1.hij
  generalize hg : swp d lo p = d1 at *
  unfold eH
  by_cases hlt : j' < i'
  · have : decide ((j' : Int) < (i' : Int)) = true := by simp; omega
    rw [this, cond_true]
    simp only [Int.toNat_natCast]
    rw [aO (asN (by omega)), aO (asN (by omega)), aO (asN (by omega)), aO (asN (by omega))]
    have hp1 : vD lo hi (j' + 1) j' d1 := by rw [p4 hlt]; exact p1
    obtain ⟨r, a1, a2⟩ := KU hp1 (by omega)
    exact ⟨j', true, swp d1 j' lo, rfl, by omega, by omega, r0.trans r, a1, a2⟩
  · obtain ⟨k1, k2, k3⟩ := p5 (by omega)
    have : decide ((j' : Int) < (i' : Int)) = false := by simp; omega
    rw [this, cond_false]
    simp only [Int.toNat_natCast]
    rw [aO (asN (by omega)), aO (asN (by omega)), aO (asN (by omega)), aO (asN (by omega)), wrN (x := (i' : Int) + 1) (n := i' + 1) (by omega) (by omega), wrN (x := (j' : Int) - 1) (n := j' - 1) (by omega) (by omega)]
    obtain ⟨d2, j2, e, r, pp⟩ := XV (a := lo) (b := hi) (j' - 1 + 1 - (i' + 1)) (i' + 1) (j' - 1) (swp d1 i' j') rfl (by rw [gI]; omega) (by rw [gI]; omega) (p1.swap (by omega) k1 k2 k3)
    have w1 := pp.hi; have w2 := pp.hj
    have l2 : d2.length = d1.length := by rw [r.len, gI]
    unfold jS
    rw [show lp (fun s : List Int × Int × Int => dB (lo : Int) s.1 s.2.1 s.2.2) ((List.set (List.set d1 i' (List.getD d1 j' default)) j' (List.getD d1 i' default)), ((i' + 1 : Nat) : Int), ((j' - 1 : Nat) : Int)) = some (d2, (j2 : Int)) from e]
    simp only [Option.bind_some, iF, Int.toNat_natCast]
    rw [aO (asN (by omega)), aO (asN (by omega)), aO (asN (by omega)), aO (asN (by omega))]
    obtain ⟨rr, a1, a2⟩ := KU pp (by omega)
    exact ⟨j2, false, swp d2 j2 lo, rfl, by omega, by omega, ((r0.trans ((p1.rel (by omega) (by omega)).mono (by omega) (Nat.le_refl _))).trans (r.mono (by omega) (Nat.le_refl _))).trans rr, a1, a2⟩

end Go.Abs
namespace Go.Abs
open Go
structure AQ (a b i j : Nat) (d : List Int) : Prop where
  hi : a < i
  hij : i ≤ j + 1
  hj : j < b
  lo : ∀ k, a < k → k < i → gN d k ≤ gN d a
  up : ∀ k, j < k → k < b → gN d a < gN d k

theorem AQ.swap {a b i j : Nat} {d : List Int} (h : AQ a b i j d) (hb : b ≤ d.length) (hij : i < j) (h1 : gN d a < gN d i) (h2 : gN d j ≤ gN d a) : AQ a b (i + 1) (j - 1) (swp d i j) := by
  have := h.hi; have := h.hj
  have g := qE (d := d) (i := i) (j := j) (by omega) (by omega)
  have ga : gN (swp d i j) a = gN d a := by rw [g, if_neg (by omega), if_neg (by omega)]
  refine ⟨by omega, by omega, by omega, fun k k1 k2 => ?_, fun k k1 k2 => ?_⟩
  · rw [ga, g, if_neg (by omega)]
    by_cases hk : k = i
    · rw [if_pos hk]; exact h2
    · rw [if_neg hk]; exact h.lo k k1 (by omega)
  · rw [ga, g]
    by_cases hk : k = j
    · rw [if_pos hk]; exact h1
    · rw [if_neg hk, if_neg (by omega)]; exact h.up k (by omega) k2

theorem NU {a b i j : Nat} {d : List Int} (h : AQ a b i j d) (hb : b ≤ d.length) (hl : d.length < 2305843009213693951) : ∃ i' j' : Nat, AQ a b i' j' d ∧ i ≤ i' ∧ j' ≤ j ∧ (j' < i' → j' + 1 = i') ∧ (i' ≤ j' → i' < j' ∧ gN d a < gN d i' ∧ gN d j' ≤ gN d a) ∧
    cQ (a : Nat) d (i : Nat) (j : Nat) = dJ d (a : Nat) (i' : Nat) (j' : Nat) := by
  have h1 := h.hi; have h2 := h.hij; have h3 := h.hj
  obtain ⟨i', e1, a1, a2, a3, a4⟩ := HF (body := fun s => dN (a : Nat) (j : Nat) s.1 s.2) (d := d) (p := fun k => ¬ gN d a < gN d k) (j := j) (WG (a := a) (j := j) (d := d) (by omega) (by omega) hl) (j + 1 - i) i rfl h2
  obtain ⟨j', f1, c1, c2, c3, c4⟩ := BS (body := fun s => dL (a : Nat) (i' : Nat) s.1 s.2) (d := d) (p := fun k => gN d a < gN d k) (i := i') (m := j) (by omega) (PY (a := a) (i := i') (m := j) (d := d) (by omega) (by omega) (by omega) hl) j (Nat.le_refl _) a2
  have hend : i' ≤ j' → i' < j' ∧ gN d a < gN d i' ∧ gN d j' ≤ gN d a := fun hh => by
    have k1 : gN d a < gN d i' := Classical.byContradiction fun hn => a4 (by omega) hn
    have k2 : ¬ gN d a < gN d j' := c4 hh
    refine ⟨?_, k1, by omega⟩
    rcases Nat.lt_or_ge i' j' with h | h
    · exact h
    · have : i' = j' := by omega
      rw [this] at k1; exact absurd k1 k2
  refine ⟨i', j', ⟨by omega, by omega, by omega, fun k k1 k2 => ?_, fun k k1 k2 => ?_⟩, a1, c2, fun hh => by omega, hend, ?_⟩
  · by_cases hk : k < i
    · exact h.lo k k1 hk
    · have := a3 k (by omega) k2; omega
  · by_cases hk : j < k
    · exact h.up k hk k2
    · exact c3 k k1 (by omega)
  · unfold cQ iM
    rw [show lp (fun s : List Int × Int => dN (a : Nat) (j : Nat) s.1 s.2) (d, (i : Int)) = some (d, (i' : Int)) from e1]
    simp only [Option.bind_some]
    unfold fH iL
    rw [show lp (fun s : List Int × Int => dL (a : Nat) (i' : Nat) s.1 s.2) (d, (j : Int)) = some (d, (j' : Int)) from f1]
    rfl

theorem UQ {a b : Nat} : ∀ (n i j : Nat) (d : List Int), j + 1 - i = n → b ≤ d.length → d.length < 2305843009213693951 → AQ a b i j d →
    ∃ (d' : List Int) (j' : Nat), lp (fun s : List Int × Int × Int => cQ (a : Nat) s.1 s.2.1 s.2.2) (d, (i : Int), (j : Int)) = some (d', ((j' + 1 : Nat) : Int)) ∧ Rel (a + 1) b d d' ∧ AQ a b (j' + 1) j' d' := by
  intro n
  induction n using Nat.strongRecOn with
  | ind n ih =>
    intro i j d h1 h2 h3 h
    obtain ⟨i', j', p1, p2, p3, p4, p5, p6⟩ := NU h h2 h3
    have q1 := p1.hi; have q2 := p1.hj; have q3 := p1.hij
    by_cases hlt : j' < i'
    · have hs : cQ (a : Nat) d (i : Nat) (j : Nat) = some (.inr (d, (i' : Int))) := by
        rw [p6]
        unfold dJ
        have : decide ((j' : Int) < (i' : Int)) = true := by simp; omega
        rw [this, cond_true]
      have := p4 hlt
      exact ⟨d, j', by rw [this]; exact cU hs, Rel.refl .., by rw [this]; exact p1⟩
    · obtain ⟨k1, k2, k3⟩ := p5 (by omega)
      have hs : cQ (a : Nat) d (i : Nat) (j : Nat) = some (.inl (swp d i' j', ((i' + 1 : Nat) : Int), ((j' - 1 : Nat) : Int))) := by
        rw [p6]
        unfold dJ
        have : decide ((j' : Int) < (i' : Int)) = false := by simp; omega
        rw [this, cond_false]
        simp only [Int.toNat_natCast]
        rw [aO (asN (by omega)), aO (asN (by omega)), aO (asN (by omega)), aO (asN (by omega)), wrN (x := (i' : Int) + 1) (n := i' + 1) (by omega) (by omega), wrN (x := (j' : Int) - 1) (n := j' - 1) (by omega) (by omega)]
        rfl
      obtain ⟨d', j2, e, r, p⟩ := ih (j' - 1 + 1 - (i' + 1)) (by omega) (i' + 1) (j' - 1) (swp d i' j') rfl (by rw [gI]; exact h2) (by rw [gI]; exact h3) (p1.swap h2 k1 k2 k3)
      exact ⟨d', j2, (fJ hs).trans e, (Rel.swp (i := i') (j := j') (by omega) (by omega) (by omega) (by omega)).trans r, p⟩

theorem JE {lo hi p : Nat} {d : List Int} (h0 : lo < hi) (hb : hi ≤ d.length) (hl : d.length < 2305843009213693951) (hp : lo ≤ p ∧ p < hi) :
    ∃ (m : Nat) (d' : List Int), eR d (lo : Int) (hi : Int) (p : Int) = some ((m : Int), d') ∧ lo < m ∧ m ≤ hi ∧ Rel lo hi d d' ∧ (∀ k, lo ≤ k → k < m → gN d' k ≤ gN d p) ∧ (∀ k, m ≤ k → k < hi → gN d p < gN d' k) := by
  unfold eR
  rw [aO (asN (by omega)), aO (asN (by omega)), aO (asN (by omega)), aO (asN (by omega)), wrN (x := (lo : Int) + 1) (n := lo + 1) (by omega) (by omega), wrN (x := (hi : Int) - 1) (n := hi - 1) (by omega) (by omega)]
  simp only [Int.toNat_natCast]
  have r0 : Rel lo hi d (swp d lo p) := Rel.swp (i := lo) (j := p) (by omega) (by omega) (by omega) (by omega)
  have l0 : (swp d lo p).length = d.length := gI ..
  have g := qE (d := d) (i := lo) (j := p) (by omega) (by omega)
  have g0 : gN (swp d lo p) lo = gN d p := by
    rw [g]
    by_cases hh : lo = p
    · rw [if_pos hh, hh]
    · rw [if_neg hh, if_pos rfl]
  have inv : AQ lo hi (lo + 1) (hi - 1) (swp d lo p) := ⟨by omega, by omega, by omega, fun k k1 k2 => by omega, fun k k1 k2 => by omega⟩
  obtain ⟨d', j', e, r, pp⟩ := UQ (a := lo) (b := hi) (hi - 1 + 1 - (lo + 1)) (lo + 1) (hi - 1) (swp d lo p) rfl (by rw [l0]; exact hb) (by rw [l0]; exact hl) inv
  have w1 := pp.hi; have w2 := pp.hj
  have ga : gN d' lo = gN d p := by rw [r.out lo (by omega), g0]
  unfold iN
  rw [show lp (fun s : List Int × Int × Int => cQ (lo : Int) s.1 s.2.1 s.2.2) ((List.set (List.set d lo (List.getD d p default)) p (List.getD d lo default)), ((lo + 1 : Nat) : Int), ((hi - 1 : Nat) : Int)) = some (d', ((j' + 1 : Nat) : Int)) from e]
  refine ⟨j' + 1, d', rfl, by omega, by omega, r0.trans (r.mono (by omega) (Nat.le_refl _)), fun k k1 k2 => ?_, fun k k1 k2 => ?_⟩
  · rw [← ga]
    by_cases hk : k = lo
    · rw [hk]; exact Int.le_refl _
    · exact pp.lo k (by omega) k2
  · rw [← ga]; exact pp.up k (by omega) k2

theorem NY {lo i : Nat} {d : List Int} : ∀ (n i' : Nat), i' - i = n → nL lo i d → lo < i → (∀ k, i ≤ k → k < i' → gN d (k - 1) ≤ gN d k) → nL lo i' d
  | 0, i', h, hs, _, _ => fun p q p1 p2 p3 => hs p q p1 p2 (by omega)
  | n + 1, i', h, hs, hl, hk => by
    have ih := NY (d := d) n (i' - 1) (by omega) hs hl fun k k1 k2 => hk k k1 (by omega)
    intro p q p1 p2 p3
    by_cases hq : q = i' - 1
    · by_cases hp : p = q
      · rw [hp]; exact Int.le_refl _
      · have h1 := hk q (by omega) (by omega)
        have h2 := ih p (q - 1) p1 (by omega) (by omega)
        omega
    · exact ih p q p1 p2 (by omega)

theorem UO {lo hi : Nat} {d : List Int} (x : Int) (hb : hi ≤ d.length) (hl : d.length < 2305843009213693951) : ∀ (n i : Nat), hi - i = n → 1 ≤ i → i ≤ hi →
    ∃ i' : Nat, lp (fun s : List Int × Int => cN (lo : Nat) (hi : Nat) x s.1 s.2) (d, (i : Int)) = some (d, (i' : Int)) ∧ i ≤ i' ∧ i' ≤ hi ∧ (∀ k, i ≤ k → k < i' → gN d (k - 1) ≤ gN d k) := by
  intro n
  induction n with
  | zero =>
    intro i h1 h2 h3
    refine ⟨i, cU ?_, Nat.le_refl _, h3, fun k k1 k2 => by omega⟩
    show cN _ _ _ _ _ = _
    have : decide ((i : Int) < (hi : Int)) = false := by simp; omega
    simp only [cN, this]
    rw [aO (fun h => by cases h), aO (fun h => by cases h)]
    rfl
  | succ n ih =>
    intro i h1 h2 h3
    have hd : decide ((i : Int) < (hi : Int)) = true := by simp; omega
    have hs : cN (lo : Nat) (hi : Nat) x d (i : Nat) = if gN d i < gN d (i - 1) then some (.inr (d, (i : Int))) else some (.inl (d, ((i + 1 : Nat) : Int))) := by
      unfold cN
      rw [hd, wrN (x := (i : Int) - 1) (n := i - 1) (by omega) (by omega), wrN (x := (i : Int) + 1) (n := i + 1) (by omega) (by omega), aO fun _ => asN (by omega), aO fun _ => asN (by omega)]
      simp only [dG, cond_true, pJ, Option.bind_some, Bool.true_and, Int.toNat_natCast, gN]
      by_cases h : d.getD i default < d.getD (i - 1) default <;> simp [h]
    by_cases h : gN d i < gN d (i - 1)
    · rw [if_pos h] at hs
      exact ⟨i, cU hs, Nat.le_refl _, h3, fun k k1 k2 => by omega⟩
    · rw [if_neg h] at hs
      obtain ⟨i', e, a1, a2, a3⟩ := ih (i + 1) (by omega) (by omega) (by omega)
      refine ⟨i', (fJ hs).trans e, by omega, a2, fun k k1 k2 => ?_⟩
      by_cases hk : k = i
      · rw [hk]; omega
      · exact a3 k (by omega) k2

theorem BX {lo hi : Nat} {d d' : List Int} (r : Rel lo hi d d') (h : lo = 0 ∨ ∀ k, lo ≤ k → k < hi → gN d (lo - 1) ≤ gN d k) : lo = 0 ∨ ∀ k, lo ≤ k → k < hi → gN d' (lo - 1) ≤ gN d' k := by
  by_cases h0 : lo = 0
  · exact .inl h0
  · rcases h with h | h
    · exact .inl h
    · exact .inr fun k k1 k2 => by
        rw [r.out (lo - 1) (by omega)]
        exact r.all (p := fun v => gN d (lo - 1) ≤ v) h k k1 k2

theorem UP {lo hi i : Nat} (x y : Int) : ∀ (j : Nat) (d : List Int), lo ≤ j → j ≤ i → i < d.length → d.length < 2305843009213693951 → BE lo j i d → (lo = 0 ∨ ∀ k, lo ≤ k → k ≤ i → gN d (lo - 1) ≤ gN d k) →
    ∃ d', lp (fun s : List Int × Int => cE (lo : Nat) (hi : Nat) x y s.1 s.2) (d, (j : Int)) = some d' ∧ Rel lo (i + 1) d d' ∧ nL lo (i + 1) d' := by
  intro j
  induction j with
  | zero =>
    intro d h1 h2 h3 h4 h5 h6
    refine ⟨d, cU ?_, Rel.refl .., h5.done h1 (by omega)⟩
    show cE _ _ _ _ _ _ = _
    have : decide ((1 : Int) ≤ ((0 : Nat) : Int)) = false := by simp
    simp only [cE, this, cond_false]
  | succ j ih =>
    intro d h1 h2 h3 h4 h5 h6
    have hd : decide ((1 : Int) ≤ ((j + 1 : Nat) : Int)) = true := by simp; omega
    have hs : cE (lo : Nat) (hi : Nat) x y d ((j + 1 : Nat) : Int) = if gN d (j + 1) < gN d j then some (.inl (swp d (j + 1) j, (j : Int))) else some (.inr d) := by
      unfold cE
      rw [hd, cond_true, wrN (x := ((j + 1 : Nat) : Int) - 1) (n := j) (by omega) (by omega), aO (asN (by omega)), aO (asN (by omega))]
      simp only [pJ, Option.bind_some, Int.toNat_natCast, gN]
      by_cases h : d.getD (j + 1) default < d.getD j default
      · simp only [h, decide_true, Bool.not_true, cond_false, if_true]
        rw [aO (asN (by omega)), aO (asN (by omega)), aO (asN (by omega)), aO (asN (by omega))]
        rfl
      · simp only [h, decide_false, Bool.not_false, cond_true, if_false]
    by_cases h : gN d (j + 1) < gN d j
    · rw [if_pos h] at hs
      have hlo : lo < j + 1 := by
        rcases h6 with h6 | h6
        · omega
        · rcases Nat.lt_or_ge lo (j + 1) with hh | hh
          · exact hh
          · have : lo = j + 1 := by omega
            have h7 := h6 (j + 1) (by omega) h2
            rw [this] at h7
            simp only [Nat.add_sub_cancel] at h7
            omega
      have r1 : Rel lo (i + 1) d (swp d (j + 1) j) := Rel.swp (i := j + 1) (j := j) (by omega) (by omega) (by omega) (by omega)
      obtain ⟨d', e, r, s⟩ := ih (swp d (j + 1) j) (by omega) (by omega) (by rw [gI]; exact h3) (by rw [gI]; exact h4) (h5.next hlo h2 h3 h) ((BX r1 (h6.imp id fun h k a b => h k a (by omega))).imp id fun h k a b => h k a (by omega))
      exact ⟨d', (fJ hs).trans e, r1.trans r, s⟩
    · rw [if_neg h] at hs
      exact ⟨d, cU hs, Rel.refl .., h5.done h1 fun hh => h hh.2⟩

theorem ZY {lo hi i : Nat} (x y : Int) : ∀ (n j : Nat) (d : List Int), hi - j = n → i < j → hi ≤ d.length → d.length < 2305843009213693951 →
    ∃ d', lp (fun s : List Int × Int => cM (lo : Nat) (hi : Nat) x y s.1 s.2) (d, (j : Int)) = some d' ∧ Rel i hi d d' := by
  intro n
  induction n with
  | zero =>
    intro j d h1 h2 h3 h4
    refine ⟨d, cU ?_, Rel.refl ..⟩
    show cM _ _ _ _ _ _ = _
    have : decide ((j : Int) < (hi : Int)) = false := by simp; omega
    simp only [cM, this, cond_false]
  | succ n ih =>
    intro j d h1 h2 h3 h4
    have hd : decide ((j : Int) < (hi : Int)) = true := by simp; omega
    have hs : cM (lo : Nat) (hi : Nat) x y d (j : Nat) = if gN d j < gN d (j - 1) then some (.inl (swp d j (j - 1), ((j + 1 : Nat) : Int))) else some (.inr d) := by
      unfold cM
      rw [hd, cond_true, wrN (x := (j : Int) - 1) (n := j - 1) (by omega) (by omega), wrN (x := (j : Int) + 1) (n := j + 1) (by omega) (by omega), aO (asN (by omega)), aO (asN (by omega))]
      simp only [pJ, Option.bind_some, Int.toNat_natCast, gN]
      by_cases h : d.getD j default < d.getD (j - 1) default
      · simp only [h, decide_true, Bool.not_true, cond_false, if_true]
        rw [aO (asN (by omega)), aO (asN (by omega)), aO (asN (by omega)), aO (asN (by omega))]
        rfl
      · simp only [h, decide_false, Bool.not_false, cond_true, if_false]
    by_cases h : gN d j < gN d (j - 1)
    · rw [if_pos h] at hs
      obtain ⟨d', e, r⟩ := ih (j + 1) (swp d j (j - 1)) (by omega) (by omega) (by rw [gI]; exact h3) (by rw [gI]; exact h4)
      exact ⟨d', (fJ hs).trans e, (Rel.swp (i := j) (j := j - 1) (by omega) (by omega) (by omega) (by omega)).trans r⟩
    · rw [if_neg h] at hs
      exact ⟨d, cU hs, Rel.refl ..⟩

theorem TU {lo hi i : Nat} (x : Int) {d : List Int} (h1 : lo < i) (h2 : i < hi) (h3 : hi ≤ d.length) (h4 : d.length < 2305843009213693951) :
    ∃ d', cF d (lo : Nat) (hi : Nat) (i : Nat) x = some (.inl (d', (i : Int), IntKind.i64.wrap (x + 1))) ∧ Rel i hi d d' := by
  unfold cF
  rw [wrN (x := (hi : Int) - (i : Int)) (n := hi - i) (by omega) (by omega)]
  by_cases h : (2 : Int) ≤ ((hi - i : Nat) : Int)
  · simp only [h, decide_true, cond_true]
    unfold fO
    rw [wrN (x := (i : Int) + 1) (n := i + 1) (by omega) (by omega)]
    obtain ⟨d', e, r⟩ := ZY (lo := lo) (hi := hi) (i := i) (i : Int) x (hi - (i + 1)) (i + 1) d rfl (by omega) h3 h4
    rw [e]
    exact ⟨d', rfl, r⟩
  · simp only [h, decide_false, cond_false]
    exact ⟨d, rfl, Rel.refl ..⟩

theorem VQ {lo hi i : Nat} (x : Int) {d : List Int} (h1 : lo < i) (h2 : i ≤ hi) (h3 : hi ≤ d.length) (h4 : d.length < 2305843009213693951) (hs : nL lo i d) (hb : lo = 0 ∨ ∀ k, lo ≤ k → k < hi → gN d (lo - 1) ≤ gN d k) :
    (∃ (fl : Bool) (d' : List Int), cW d (lo : Nat) (hi : Nat) (i : Nat) x = some (.inr (.inr (fl, d'))) ∧ Rel lo hi d d' ∧ (fl = true → nL lo hi d')) ∨
    (∃ (d' : List Int) (i' : Nat), cW d (lo : Nat) (hi : Nat) (i : Nat) x = some (.inl (d', (i' : Int), IntKind.i64.wrap (x + 1))) ∧ Rel lo hi d d' ∧ lo < i' ∧ i' ≤ hi ∧ nL lo i' d') := by
  unfold cW
  obtain ⟨i', e, a1, a2, a3⟩ := UO (lo := lo) (hi := hi) x h3 h4 (hi - i) i rfl (by omega) h2
  rw [e]
  simp only [Option.bind_some]
  have hs' := NY (i' - i) i' rfl hs h1 a3
  unfold eC
  by_cases hi' : i' = hi
  · have : decide ((i' : Int) = (hi : Int)) = true := by simp; omega
    rw [this, cond_true]
    left
    exact ⟨true, d, rfl, Rel.refl .., fun _ => hi' ▸ hs'⟩
  · have hne : decide ((i' : Int) = (hi : Int)) = false := by simp; omega
    rw [hne, cond_false, wrN (x := (hi : Int) - (lo : Int)) (n := hi - lo) (by omega) (by omega)]
    by_cases h50 : ((hi - lo : Nat) : Int) < 50
    · simp only [h50, decide_true, cond_true]
      left
      exact ⟨false, d, rfl, Rel.refl .., fun h => by cases h⟩
    · simp only [h50, decide_false, cond_false]
      rw [wrN (x := (i' : Int) - 1) (n := i' - 1) (by omega) (by omega), wrN (x := (i' : Int) - (lo : Int)) (n := i' - lo) (by omega) (by omega)]
      simp only [Int.toNat_natCast]
      rw [aO (asN (by omega)), aO (asN (by omega)), aO (asN (by omega)), aO (asN (by omega))]
      have r1 : Rel lo hi d (swp d i' (i' - 1)) := Rel.swp (i := i') (j := i' - 1) (by omega) (by omega) (by omega) (by omega)
      have l1 : (swp d i' (i' - 1)).length = d.length := gI ..
      have g := qE (d := d) (i := i') (j := i' - 1) (by omega) (by omega)
      right
      by_cases hge : (2 : Int) ≤ ((i' - lo : Nat) : Int)
      · simp only [hge, decide_true, cond_true]
        unfold fN
        have ins : BE lo (i' - 1) (i' - 1) (swp d i' (i' - 1)) := ⟨fun p q p1 p2 p3 p4 p5 => by
          rw [g, g, if_neg p4, if_neg p5, if_neg (by omega), if_neg (by omega)]
          exact hs' p q p1 p2 (by omega), fun q q1 q2 => by omega⟩
        obtain ⟨d2, e2, r2, s2⟩ := UP (lo := lo) (hi := hi) (i := i' - 1) (i' : Int) x (i' - 1) (swp d i' (i' - 1)) (by omega) (Nat.le_refl _) (by rw [l1]; omega) (by rw [l1]; exact h4) ins ((BX r1 hb).imp id fun h k a b => h k a (by omega))
        have e2' : lp (fun s : List Int × Int => cE (lo : Int) (hi : Int) (i' : Int) x s.1 s.2) ((List.set (List.set d i' (List.getD d (i' - 1) default)) (i' - 1) (List.getD d i' default)), ((i' - 1 : Nat) : Int)) = some d2 := e2
        rw [e2']
        simp only [Option.bind_some]
        rw [show i' - 1 + 1 = i' by omega] at r2 s2
        have l2 : d2.length = d.length := by rw [r2.len, l1]
        obtain ⟨d3, e3, r3⟩ := TU (lo := lo) (hi := hi) (i := i') x (d := d2) (by omega) (by omega) (by omega) (by omega)
        rw [e3]
        refine ⟨d3, i', rfl, (r1.trans (r2.mono (Nat.le_refl _) (by omega))).trans (r3.mono (by omega) (Nat.le_refl _)), by omega, a2, fun p q p1 p2 p3 => ?_⟩
        rw [r3.out p (by omega), r3.out q (by omega)]
        exact s2 p q p1 p2 p3
      · simp only [hge, decide_false, cond_false]
        obtain ⟨d3, e3, r3⟩ := TU (lo := lo) (hi := hi) (i := i') x (d := swp d i' (i' - 1)) (by omega) (by omega) (by omega) (by omega)
        have e3' : cF (List.set (List.set d i' (List.getD d (i' - 1) default)) (i' - 1) (List.getD d i' default)) (lo : Int) (hi : Int) (i' : Int) x = _ := e3
        rw [e3']
        refine ⟨d3, i', rfl, r1.trans (r3.mono (by omega) (Nat.le_refl _)), by omega, a2, ?_⟩
        have : i' = lo + 1 := by omega
        rw [this]; exact DN lo d3

theorem aAk {lo hi : Nat} : ∀ (n x i : Nat) (d : List Int), 5 - x = n → lo < i → i ≤ hi → hi ≤ d.length → d.length < 2305843009213693951 → nL lo i d → (lo = 0 ∨ ∀ k, lo ≤ k → k < hi → gN d (lo - 1) ≤ gN d k) → x ≤ 5 →
    ∃ (fl : Bool) (d' : List Int), (lp (fun s : List Int × Int × Int => bU (lo : Nat) (hi : Nat) s.1 s.2.1 s.2.2) (d, (i : Int), (x : Int))).bind (Sum.elim (fun rr => eD rr) (fun rr => some (rr.1, rr.2))) = some (fl, d') ∧ Rel lo hi d d' ∧ (fl = true → nL lo hi d') := by
  intro n
  induction n with
  | zero =>
    intro x i d h1 h2 h3 h4 h5 h6 h7 h8
    have hs : bU (lo : Nat) (hi : Nat) d (i : Nat) (x : Nat) = some (.inr (.inl d)) := by
      have : decide ((x : Int) < 5) = false := by simp; omega
      simp only [bU, this, cond_false]
    rw [cU (show (fun s : List Int × Int × Int => bU (lo : Nat) (hi : Nat) s.1 s.2.1 s.2.2) (d, (i : Int), (x : Int)) = _ from hs)]
    exact ⟨false, d, rfl, Rel.refl .., fun h => by cases h⟩
  | succ n ih =>
    intro x i d h1 h2 h3 h4 h5 h6 h7 h8
    have hl2 : bU (lo : Nat) (hi : Nat) d (i : Nat) (x : Nat) = cW d (lo : Nat) (hi : Nat) (i : Nat) (x : Nat) := by
      have : decide ((x : Int) < 5) = true := by simp; omega
      simp only [bU, this, cond_true]
    rcases VQ (lo := lo) (hi := hi) (x : Int) h2 h3 h4 h5 h6 h7 with ⟨fl, d', e, r, s⟩ | ⟨d', i', e, r, k1, k2, s⟩
    · rw [cU (show (fun s : List Int × Int × Int => bU (lo : Nat) (hi : Nat) s.1 s.2.1 s.2.2) (d, (i : Int), (x : Int)) = _ from hl2.trans e)]
      exact ⟨fl, d', rfl, r, s⟩
    · rw [wrN (x := (x : Int) + 1) (n := x + 1) (by omega) (by omega)] at e
      obtain ⟨fl, d2, e2, r2, s2⟩ := ih (x + 1) i' d' (by omega) k1 k2 (by rw [r.len]; exact h4) (by rw [r.len]; exact h5) s (BX r h7) (by omega)
      rw [fJ (show (fun s : List Int × Int × Int => bU (lo : Nat) (hi : Nat) s.1 s.2.1 s.2.2) (d, (i : Int), (x : Int)) = _ from hl2.trans e)]
      exact ⟨fl, d2, e2, r.trans r2, s2⟩

theorem WK {lo hi : Nat} {d : List Int} (h0 : lo < hi) (h1 : hi ≤ d.length) (h2 : d.length < 2305843009213693951) (hb : lo = 0 ∨ ∀ k, lo ≤ k → k < hi → gN d (lo - 1) ≤ gN d k) :
    ∃ (fl : Bool) (d' : List Int), eK d (lo : Int) (hi : Int) = some (fl, d') ∧ Rel lo hi d d' ∧ (fl = true → nL lo hi d') := by
  unfold eK fQ
  rw [wrN (x := (lo : Int) + 1) (n := lo + 1) (by omega) (by omega)]
  exact aAk (lo := lo) (hi := hi) (5 - 0) 0 (lo + 1) d rfl (by omega) (by omega) h1 h2 (DN lo d) hb (by omega)

end Go.Abs
namespace Go.Abs
open Go
abbrev PS := List Int × Int × Int × Int × Bool × Bool

abbrev PR := List Int → Int → Int → Int → Option (List Int)

def uQ (a b : Nat) (d d' : List Int) : Prop := Rel a b d d' ∧ nL a b d'

structure uG (a b lim : Nat) (d : List Int) : Prop where
  ab : a ≤ b
  bl : b ≤ d.length
  len : d.length < 2305843009213693951
  bnd : a = 0 ∨ ∀ k, a ≤ k → k < b → gN d (a - 1) ≤ gN d k
  lim : lim ≤ 100

def CH (rec : PR) (N : Nat) : Prop := ∀ (d : List Int) (a b lim : Nat), uG a b lim d → (rec d (a : Int) (b : Int) (lim : Int) = none ∧ N ≤ b - a) ∨ ∃ d', rec d (a : Int) (b : Int) (lim : Int) = some d' ∧ uQ a b d d'

def zO (N a b : Nat) (d : List Int) (F : Option (PS ⊕ List Int)) : Prop :=
  (F = none ∧ N + 1 ≤ b - a) ∨ (∃ d', F = some (.inr d') ∧ uQ a b d d') ∨
  ∃ (d' : List Int) (a' b' lim' : Nat) (wb wp : Bool), F = some (.inl (d', (a' : Int), (b' : Int), (lim' : Int), wb, wp)) ∧ b' - a' < b - a ∧ uG a' b' lim' d' ∧ ∀ d'', uQ a' b' d' d'' → uQ a b d d''

theorem uQ.pre {a b : Nat} {d d1 d' : List Int} (r : Rel a b d d1) (h : uQ a b d1 d') : uQ a b d d' := ⟨r.trans h.1, h.2⟩

theorem zO.pre {N a b : Nat} {d d1 : List Int} {F : Option (PS ⊕ List Int)} (r : Rel a b d d1) (h : zO N a b d1 F) : zO N a b d F := by
  rcases h with h | ⟨d', h1, h2⟩ | ⟨d', a', b', lim', wb, wp, h1, h2, h3, h4⟩
  · exact .inl h
  · exact .inr (.inl ⟨d', h1, h2.pre r⟩)
  · exact .inr (.inr ⟨d', a', b', lim', wb, wp, h1, h2, h3, fun d'' hg => (h4 d'' hg).pre r⟩)

theorem uG.rel {a b lim : Nat} {d d1 : List Int} (h : uG a b lim d) (r : Rel a b d d1) : uG a b lim d1 :=
  ⟨h.ab, by rw [r.len]; exact h.bl, by rw [r.len]; exact h.len, BX r h.bnd, h.lim⟩

theorem KC {a m b : Nat} {d : List Int} (hm : m < b) (h1 : ∀ k, a ≤ k → k < m → gN d k ≤ gN d m) (h2 : ∀ k, m < k → k < b → gN d m ≤ gN d k) (s1 : nL a m d) (s2 : nL (m + 1) b d) : nL a b d := by
  intro p q p1 p2 p3
  by_cases hq : q < m
  · exact s1 p q p1 p2 hq
  · by_cases hp : m < p
    · exact s2 p q hp p2 p3
    · have g1 : gN d p ≤ gN d m := by
        by_cases e : p = m
        · rw [e]; exact Int.le_refl _
        · exact h1 p p1 (by omega)
      have g2 : gN d m ≤ gN d q := by
        by_cases e : q = m
        · rw [e]; exact Int.le_refl _
        · exact h2 q (by omega) p3
      omega

theorem UK {rec : PR} {N a b lim p : Nat} {d : List Int} (hrec : CH rec N) (hv : uG a b lim d) (h12 : 12 < b - a) (hp : a ≤ p ∧ p < b) (wb wp : Bool) (len : Int) :
    zO N a b d (gF rec d (a : Int) (b : Int) (lim : Int) wb wp len (p : Int)) := by
  have hb := hv.bl; have hl := hv.len
  -- with all equal ones on the left
  have eqc : 0 < a → ¬ gN d (a - 1) < gN d p → zO N a b d ((eR d (a : Int) (b : Int) (p : Int)).bind fun x20 => some (.inl (x20.2, x20.1, (b : Int), (lim : Int), wb, wp))) := by
    intro ha hn
    obtain ⟨m, d', e, m1, m2, r, q1, q2⟩ := JE (lo := a) (hi := b) (p := p) (d := d) (by omega) hb hl hp
    have hall : ∀ k, a ≤ k → k < b → gN d p ≤ gN d' k := by
      refine r.all (p := fun v => gN d p ≤ v) fun k k1 k2 => ?_
      rcases hv.bnd with h | h
      · omega
      · have := h k k1 k2; omega
    rw [e]
    refine .inr (.inr ⟨d', m, b, lim, wb, wp, rfl, by omega, ⟨m2, by rw [r.len]; exact hb, by rw [r.len]; exact hl, .inr fun k k1 k2 => ?_, hv.lim⟩, fun d'' hg => ⟨r.trans (hg.1.mono (by omega) (Nat.le_refl _)), fun x y x1 x2 x3 => ?_⟩⟩)
    · have := q1 (m - 1) (by omega) (by omega); have := q2 k k1 k2; omega
    · by_cases hx : m ≤ x
      · exact hg.2 x y hx x2 x3
      · rw [hg.1.out x (by omega)]
        have g1 := q1 x x1 (by omega)
        by_cases hy : y < m
        · rw [hg.1.out y (by omega)]
          have g2 := hall y (by omega) (by omega); omega
        · have g2 := hg.1.all (p := fun v => gN d p < v) q2 y (by omega) x3
          omega
  -- a partition, and the lesser part first
  have ptc : zO N a b d ((fT d (a : Int) (b : Int) (p : Int)).bind fun x23 =>
      bF ((8 : Int) ≠ 0) <|
      cond (decide ((IntKind.i64.wrap (x23.1.1 - (a : Int))) < (IntKind.i64.wrap ((b : Int) - x23.1.1))))
      ((rec x23.2 (a : Int) x23.1.1 (lim : Int)).bind fun x28 =>
      some (.inl (x28, IntKind.i64.wrap (x23.1.1 + (1 : Int)), (b : Int), (lim : Int), decide ((IntKind.i64.wrap (Int.tdiv len (8 : Int))) ≤ (IntKind.i64.wrap (x23.1.1 - (a : Int)))), x23.1.2)))
      ((rec x23.2 (IntKind.i64.wrap (x23.1.1 + (1 : Int))) (b : Int) (lim : Int)).bind fun x31 =>
      some (.inl (x31, (a : Int), x23.1.1, (lim : Int), decide ((IntKind.i64.wrap (Int.tdiv len (8 : Int))) ≤ (IntKind.i64.wrap ((b : Int) - x23.1.1))), x23.1.2)))) := by
    obtain ⟨m, fl, d1, e, m1, m2, r, q1, q2⟩ := KL (lo := a) (hi := b) (p := p) (d := d) (by omega) hb hl hp
    have hv1 := hv.rel r
    rw [e]
    simp only [Option.bind_some]
    rw [aO (by decide), wrN (x := (m : Int) + 1) (n := m + 1) (by omega) (by omega)]
    have vL : uG a m lim d1 := ⟨m1, by have := hv1.bl; omega, hv1.len, hv1.bnd.imp id fun h k k1 k2 => h k k1 (by omega), hv.lim⟩
    have vR : uG (m + 1) b lim d1 := ⟨by omega, hv1.bl, hv1.len, .inr fun k k1 k2 => by simpa using q2 k (by omega) k2, hv.lim⟩
    cases decide ((IntKind.i64.wrap ((m : Int) - (a : Int))) < (IntKind.i64.wrap ((b : Int) - (m : Int)))) with
    | true =>
      rw [cond_true]
      rcases hrec d1 a m lim vL with ⟨hn, hN⟩ | ⟨d2, e2, g2⟩
      · rw [hn]; exact .inl ⟨rfl, by omega⟩
      · rw [e2]
        simp only [Option.bind_some]
        have top : gN d2 m = gN d1 m := g2.1.out m (by omega)
        refine .inr (.inr ⟨d2, m + 1, b, lim, _, _, rfl, by omega, ⟨by omega, by rw [g2.1.len]; exact hv1.bl, by rw [g2.1.len]; exact hv1.len, .inr fun k k1 k2 => ?_, hv.lim⟩, fun d3 hg => ⟨(r.trans (g2.1.mono (Nat.le_refl _) (by omega))).trans (hg.1.mono (by omega) (Nat.le_refl _)), ?_⟩⟩)
        · rw [show m + 1 - 1 = m by omega, top, g2.1.out k (by omega)]; exact q2 k (by omega) k2
        · have o3 : ∀ k, k ≤ m → gN d3 k = gN d2 k := fun k hk => hg.1.out k (by omega)
          refine KC m2 (fun k k1 k2 => ?_) (fun k k1 k2 => ?_) (fun x y x1 x2 x3 => by rw [o3 x (by omega), o3 y (by omega)]; exact g2.2 x y x1 x2 x3) hg.2
          · rw [o3 k (by omega), o3 m (by omega), top]
            exact g2.1.all (p := fun v => v ≤ gN d1 m) q1 k k1 k2
          · rw [o3 m (by omega), top]
            exact hg.1.all (p := fun v => gN d1 m ≤ v) (fun k k1 k2 => by rw [g2.1.out k (by omega)]; exact q2 k (by omega) k2) k (by omega) k2
    | false =>
      rw [cond_false]
      rcases hrec d1 (m + 1) b lim vR with ⟨hn, hN⟩ | ⟨d2, e2, g2⟩
      · rw [hn]; exact .inl ⟨rfl, by omega⟩
      · rw [e2]
        simp only [Option.bind_some]
        have low : ∀ k, k ≤ m → gN d2 k = gN d1 k := fun k hk => g2.1.out k (by omega)
        refine .inr (.inr ⟨d2, a, m, lim, _, _, rfl, by omega, ⟨m1, by rw [g2.1.len]; have := hv1.bl; omega, by rw [g2.1.len]; exact hv1.len, ?_, hv.lim⟩, fun d3 hg => ⟨(r.trans (g2.1.mono (by omega) (Nat.le_refl _))).trans (hg.1.mono (Nat.le_refl _) (by omega)), ?_⟩⟩)
        · rcases hv1.bnd with h | h
          · exact .inl h
          · exact .inr fun k k1 k2 => by rw [low (a - 1) (by omega), low k (by omega)]; exact h k k1 (by omega)
        · have o3 : ∀ k, m ≤ k → gN d3 k = gN d2 k := fun k hk => hg.1.out k (by omega)
          refine KC m2 (fun k k1 k2 => ?_) (fun k k1 k2 => ?_) hg.2 (fun x y x1 x2 x3 => by rw [o3 x (by omega), o3 y (by omega)]; exact g2.2 x y x1 x2 x3)
          · rw [o3 m (Nat.le_refl _), low m (Nat.le_refl _)]
            exact hg.1.all (p := fun v => v ≤ gN d1 m) (fun k k1 k2 => by rw [low k (by omega)]; exact q1 k k1 k2) k k1 k2
          · rw [o3 m (Nat.le_refl _), low m (Nat.le_refl _), o3 k (by omega)]
            exact g2.1.all (p := fun v => gN d1 m ≤ v) (fun k k1 k2 => q2 k (by omega) k2) k (by omega) k2
  unfold gF
  by_cases ha : 0 < a
  · have hd : decide ((0 : Int) < (a : Int)) = true := by simp; omega
    rw [hd, wrN (x := (a : Int) - 1) (n := a - 1) (by omega) (by omega), aO fun _ => asN (by omega), aO fun _ => asN (by omega)]
    simp only [dG, cond_true, pJ, Option.bind_some, Bool.true_and, Int.toNat_natCast]
    by_cases hlt : gN d (a - 1) < gN d p
    · simp only [gN] at hlt
      simp only [hlt, decide_true, Bool.not_true, cond_false]
      exact ptc
    · have := eqc ha hlt
      simp only [gN] at hlt
      simp only [hlt, decide_false, Bool.not_false, cond_true]
      exact this
  · have hd : decide ((0 : Int) < (a : Int)) = false := by simp; omega
    rw [hd, aO (fun h => by cases h), aO (fun h => by cases h)]
    simp only [dG, cond_false, Option.bind_some, Bool.false_and]
    exact ptc

theorem TH {rec : PR} {N a b lim p : Nat} {d : List Int} (hrec : CH rec N) (hv : uG a b lim d) (h12 : 12 < b - a) (hp : a ≤ p ∧ p < b) (wb wp : Bool) (len hint : Int) :
    zO N a b d (gH rec d (a : Int) (b : Int) (lim : Int) wb wp len (p : Int) hint) := by
  unfold gH
  cases ((wb && wp) && (decide (hint = (1 : Int)))) with
  | false => exact UK hrec hv h12 hp wb wp len
  | true =>
    rw [cond_true]
    obtain ⟨fl, d', e, r, s⟩ := WK (lo := a) (hi := b) (d := d) (by omega) hv.bl hv.len hv.bnd
    rw [e]
    simp only [Option.bind_some]
    cases fl with
    | true => exact .inr (.inl ⟨d', rfl, r, s rfl⟩)
    | false => exact (UK hrec (hv.rel r) h12 hp wb wp len).pre r

theorem TY {rec : PR} {N a b lim : Nat} {d : List Int} (hrec : CH rec N) (hv : uG a b lim d) (h12 : 12 < b - a) (wb wp : Bool) (len : Int) :
    zO N a b d (gC rec d (a : Int) (b : Int) (lim : Int) wb wp len) := by
  have hb := hv.bl; have hl := hv.len
  unfold gC
  obtain ⟨p, h, e, p1, p2⟩ := PX (lo := a) (hi := b) (d := d) h12 hb hl
  rw [e]
  simp only [Option.bind_some]
  by_cases h2 : h = 2
  · simp only [h2, decide_true, cond_true]
    obtain ⟨d', e2, r⟩ := SH (lo := a) (hi := b) (d := d) (by omega) hb (by omega)
    rw [e2]
    simp only [Option.bind_some]
    rw [wrN (x := (b : Int) - 1) (n := b - 1) (by omega) (by omega), wrN (x := (p : Int) - (a : Int)) (n := p - a) (by omega) (by omega), wrN (x := ((b - 1 : Nat) : Int) - ((p - a : Nat) : Int)) (n := b - 1 - (p - a)) (by omega) (by omega)]
    exact (TH hrec (hv.rel r) h12 ⟨by omega, by omega⟩ wb wp len 1).pre r
  · simp only [h2, decide_false, cond_false]
    exact TH hrec hv h12 ⟨p1, p2⟩ wb wp len h

theorem ZQ {rec : PR} {N a b lim : Nat} {d : List Int} (hrec : CH rec N) (hv : uG a b lim d) (wb wp : Bool) :
    zO N a b d (dZ rec d (a : Int) (b : Int) (lim : Int) wb wp) := by
  have hb := hv.bl; have hl := hv.len; have hab := hv.ab
  unfold dZ
  rw [wrN (x := (b : Int) - (a : Int)) (n := b - a) (by omega) (by omega)]
  by_cases h12 : ((b - a : Nat) : Int) ≤ 12
  · simp only [h12, decide_true, cond_true]
    obtain ⟨d', e, r, s⟩ := UU (lo := a) (hi := b) (d := d) hb (by omega) hab
    rw [e]
    exact .inr (.inl ⟨d', rfl, r, s⟩)
  · simp only [h12, decide_false, cond_false]
    by_cases h0 : lim = 0
    · have : decide ((lim : Int) = 0) = true := by simp; exact h0
      rw [this, cond_true]
      obtain ⟨d', e, r, s⟩ := SE (lo := a) (hi := b) (d := d) (by omega) hb hl
      rw [e]
      exact .inr (.inl ⟨d', rfl, r, s⟩)
    · have : decide ((lim : Int) = 0) = false := by simp; exact h0
      rw [this, cond_false]
      cases wb with
      | true => exact TY hrec hv (by omega) true wp _
      | false =>
        simp only [Bool.not_false, cond_true]
        obtain ⟨d', e, r⟩ := SD (lo := a) (hi := b) (d := d) (by omega) hb hl
        rw [e]
        simp only [Option.bind_some]
        have hlim := hv.lim
        rw [wrN (x := (lim : Int) - 1) (n := lim - 1) (by omega) (by omega)]
        have hv' := hv.rel r
        exact (TY hrec ⟨hv'.ab, hv'.bl, hv'.len, hv'.bnd, by omega⟩ (by omega) false wp _).pre r

theorem XQ {S R : Type} {body : S → Option (S ⊕ R)} {s : S} (h : body s = none) : lp body s = none := by
  cases e : lp body s with
  | none => rfl
  | some r =>
    obtain ⟨k, hk⟩ := BY.1 e
    cases k with
    | zero => simp [iter] at hk
    | succ k => simp [iter, h] at hk

theorem aAc {rec : PR} {N : Nat} (hrec : CH rec N) : ∀ (n a b lim : Nat) (d : List Int) (wb wp : Bool), b - a = n → uG a b lim d →
    (lp (fun s : PS => dZ rec s.1 s.2.1 s.2.2.1 s.2.2.2.1 s.2.2.2.2.1 s.2.2.2.2.2) (d, (a : Int), (b : Int), (lim : Int), wb, wp) = none ∧ N + 1 ≤ b - a) ∨
    ∃ d', lp (fun s : PS => dZ rec s.1 s.2.1 s.2.2.1 s.2.2.2.1 s.2.2.2.2.1 s.2.2.2.2.2) (d, (a : Int), (b : Int), (lim : Int), wb, wp) = some d' ∧ uQ a b d d' := by
  intro n
  induction n using Nat.strongRecOn with
  | ind n ih =>
    intro a b lim d wb wp hn hv
    rcases ZQ hrec hv wb wp with ⟨h1, h2⟩ | ⟨d', h1, h2⟩ | ⟨d', a', b', lim', wb', wp', h1, h2, h3, h4⟩
    · exact .inl ⟨XQ h1, h2⟩
    · exact .inr ⟨d', cU h1, h2⟩
    · rw [fJ (show (fun s : PS => dZ rec s.1 s.2.1 s.2.2.1 s.2.2.2.1 s.2.2.2.2.1 s.2.2.2.2.2) (d, (a : Int), (b : Int), (lim : Int), wb, wp) = _ from h1)]
      rcases ih (b' - a') (by omega) a' b' lim' d' wb' wp' rfl h3 with ⟨g1, g2⟩ | ⟨d2, g1, g2⟩
      · exact .inl ⟨g1, by omega⟩
      · exact .inr ⟨d2, g1, h4 d2 g2⟩

theorem ML : ∀ k : Nat, CH (cY k) k
  | 0 => fun _ _ _ _ _ => .inl ⟨rfl, Nat.zero_le _⟩
  | k + 1 => fun d a b lim hv => by
    show (fG (cY k) d a b lim = none ∧ _) ∨ ∃ d', fG (cY k) d a b lim = some d' ∧ _
    unfold fG kJ
    rcases aAc (ML k) (b - a) a b lim d true true rfl hv with ⟨h1, h2⟩ | ⟨d', h1, h2⟩
    · rw [h1]; exact .inl ⟨rfl, h2⟩
    · rw [h1]; exact .inr ⟨d', rfl, h2⟩

theorem ZE {a b lim : Nat} {d : List Int} (hv : uG a b lim d) : ∃ d', jB d (a : Int) (b : Int) (lim : Int) = some d' ∧ uQ a b d d' := by
  unfold jB
  obtain ⟨d', e, g⟩ : ∃ d', cY (b - a + 1) d (a : Int) (b : Int) (lim : Int) = some d' ∧ uQ a b d d' := by
    rcases ML (b - a + 1) d a b lim hv with ⟨_, h⟩ | h
    · omega
    · exact h
  cases hf : KQ (fun k => cY k d (a : Int) (b : Int) (lim : Int)) with
  | none =>
    exfalso
    unfold KQ at hf
    have hex : ∃ k r, cY k d (a : Int) (b : Int) (lim : Int) = some r := ⟨_, d', e⟩
    rw [dif_pos hex] at hf
    obtain ⟨r, hr⟩ := Classical.choose_spec hex
    have hf' : cY (Classical.choose hex) d (a : Int) (b : Int) (lim : Int) = none := hf
    rw [hr] at hf'
    cases hf'
  | some r =>
    obtain ⟨k, hk⟩ := II hf
    rcases ML k d a b lim hv with ⟨h, _⟩ | ⟨d2, h, g2⟩
    · rw [h] at hk; cases hk
    · rw [h] at hk; cases hk; exact ⟨_, rfl, g2⟩

theorem XY {d : List Int} (hl : d.length < 2305843009213693951) : ∃ d', jW d = some d' ∧ d'.Perm d ∧ d'.Pairwise (· ≤ ·) := by
  unfold jW
  have hL : ∃ L : Nat, jR (IntKind.u64.wrap ((List.length d : Nat) : Int)) = some (L : Int) ∧ L ≤ 100 := by
    rw [AW (by omega) (by omega)]
    by_cases h0 : d.length = 0
    · rw [h0]; exact ⟨0, WC, by omega⟩
    · obtain ⟨k, e, h1, _⟩ := RJ (x := ((List.length d : Nat) : Int)) (by omega) (by omega)
      exact ⟨k + 1, by rw [e]; rfl, by omega⟩
  obtain ⟨L, eL, hL⟩ := hL
  rw [eL]
  simp only [Option.bind_some]
  obtain ⟨d', e, g⟩ := ZE (a := 0) (b := d.length) (lim := L) (d := d) ⟨Nat.zero_le _, Nat.le_refl _, hl, .inl rfl, hL⟩
  have e' : jB d 0 ((List.length d : Nat) : Int) (L : Int) = some d' := e
  rw [e']
  refine ⟨d', rfl, g.1.perm, List.pairwise_iff_getElem.2 fun i j hi hj hij => ?_⟩
  have := g.2 i j (Nat.zero_le _) (by omega) (by rw [g.1.len] at hj; exact hj)
  simp only [gN, List.getD_eq_getElem?_getD, List.getElem?_eq_getElem hi, List.getElem?_eq_getElem hj] at this
  exact this

theorem YE {d s : List Int} (hl : d.length < 2305843009213693951) (hp : s.Perm d) (hs : s.Pairwise (· ≤ ·)) : jW d = some s := by
  obtain ⟨d', e, p, q⟩ := XY hl
  rw [e]
  congr 1
  exact (p.trans hp.symm).eq_of_pairwise (le := (· ≤ ·)) (fun a b _ _ h1 h2 => Int.le_antisymm h1 h2) q hs

end Go.Abs
namespace Go.Abs
open Go
theorem EU {t : Int} : ∀ {ps : List Int}, t ∉ ps → (mI t ps).Perm (t :: ps)
  | [], _ => List.Perm.refl _
  | p :: r, h => by
    simp only [List.mem_cons, not_or] at h
    unfold mI
    rw [if_neg (fun e => h.1 e.symm)]
    split
    · exact List.Perm.refl _
    · exact (List.Perm.cons p (EU h.2)).trans (List.Perm.swap ..)

theorem LI : ∀ {ps : List Int} {last : Int}, Inc last ps → ps.Pairwise (· < ·)
  | [], _, _ => List.Pairwise.nil
  | p :: r, last, h => List.Pairwise.cons (fun x hx => (h.2.above x hx).1) (LI h.2)

theorem YS {ps : List Int} {last : Int} (h : Inc last ps) : ps.Pairwise (· ≤ ·) := (LI h).imp fun h => by omega

end Go.Abs
namespace Go.Abs
open Go
def iO (hop n : Int) : Int := if n < 0 then 0 else (n / hop + 1) * hop

def tD (size hop : Int) : Bool := (((decide ((1 : Int) ≤ size)) && (decide (size ≤ (1099511627776 : Int)))) && (decide ((1 : Int) ≤ hop))) && (decide (hop ≤ (1099511627776 : Int)))

def lK (t : Int) : Bool := (decide ((0 : Int) ≤ t)) && (decide (t ≤ (1125899906842624 : Int)))

def QS (size hop t : Int) : Int × Int :=
  if !tD size hop then (0, 2) else if !lK t then (0, 13) else if t = 1125899906842624 then (1125899906842624, 0) else (min (iO hop (t - size)) 1125899906842624, 0)

theorem HL {size hop : Int} (h : tD size hop = true) : 1 ≤ size ∧ size ≤ 1099511627776 ∧ 1 ≤ hop ∧ hop ≤ 1099511627776 := by
  simp only [tD, Bool.and_eq_true, decide_eq_true_eq] at h; omega

theorem zV {t : Int} (h : lK t = true) : 0 ≤ t ∧ t ≤ 1125899906842624 := by
  simp only [lK, Bool.and_eq_true, decide_eq_true_eq] at h; omega

theorem MB {n hop : Int} (h : 0 ≤ n) : Int.tdiv n hop = n / hop := Int.tdiv_eq_ediv_of_nonneg h

theorem xH {n hop : Int} (hh : 1 ≤ hop) : n / hop * hop ≤ n ∧ n < (n / hop + 1) * hop := by
  have h1 := Int.mul_ediv_add_emod n hop
  have h2 := Int.emod_nonneg n (show hop ≠ 0 by omega)
  have h3 := Int.emod_lt_of_pos n (show 0 < hop by omega)
  rw [Int.add_mul, Int.mul_comm (n / hop) hop]
  omega

theorem tW {hop n : Int} (hh : 1 ≤ hop) : 0 ≤ iO hop n ∧ n < iO hop n ∧ (0 ≤ n → iO hop n ≤ n + hop) ∧ (n < 0 → iO hop n = 0) ∧ ∃ k : Int, iO hop n = k * hop := by
  unfold iO
  split
  · exact ⟨Int.le_refl _, by omega, by omega, fun _ => rfl, 0, by simp⟩
  · rename_i h
    have := xH (n := n) hh
    rw [Int.add_mul] at this ⊢
    refine ⟨by omega, by omega, by omega, by omega, n / hop + 1, by rw [Int.add_mul]⟩

theorem BN {hop n : Int} (h1 : 1 ≤ hop) (h2 : hop ≤ 1099511627776) (h3 : n ≤ 4503599627370496) : nE hop n = some (iO hop n) := by
  unfold nE
  by_cases hn : n < 0
  · simp [hn, iO]
  · have hn0 : 0 ≤ n := by omega
    have hm : Int.tmod n hop = n % hop := Int.tmod_eq_emod_of_nonneg hn0
    have hr : ¬ n % hop < 0 := by have := Int.emod_nonneg n (show hop ≠ 0 by omega); omega
    have hd0 : 0 ≤ n / hop := Int.ediv_nonneg hn0 (by omega)
    have hd1 : n / hop ≤ n := Int.ediv_le_self _ hn0
    have hf := xH (n := n) h1
    have e1 : wR (Int.tdiv n hop) = n / hop := by rw [MB hn0]; exact dK (by omega) (by omega)
    have e2 : IntKind.i64.wrap (n / hop + 1) = n / hop + 1 := dK (by omega) (by omega)
    have e3 : IntKind.i64.wrap ((n / hop + 1) * hop) = (n / hop + 1) * hop := dK (by omega) (by rw [Int.add_mul]; omega)
    have e0 : sN n hop = some (n / hop, n % hop, 0) := by
      unfold sN
      have hb : decide (hop < 1) = false := by simp; omega
      rw [hb, cond_false, aO (by omega), aO (by omega), hm, decide_eq_false hr, cond_false]
      unfold rM
      rw [show IntKind.i64.wrap (Int.tdiv n hop) = n / hop from e1]
    have hb : decide (n < (0 : Int)) = false := decide_eq_false hn
    rw [hb, cond_false, e0]
    simp only [Option.bind_some, e2, e3, iO, if_neg hn]

theorem XS {size hop t : Int} : tL size hop t = some (QS size hop t) := by
  unfold tL QS
  simp only [oX, mA, Option.bind_some]
  rw [show ((((decide ((1 : Int) ≤ size)) && (decide (size ≤ (1099511627776 : Int)))) && (decide ((1 : Int) ≤ hop))) && (decide (hop ≤ (1099511627776 : Int)))) = tD size hop from rfl, show ((decide ((0 : Int) ≤ t)) && (decide (t ≤ (1125899906842624 : Int)))) = lK t from rfl]
  cases hm : tD size hop with
  | false => rfl
  | true =>
    cases ht : lK t with
    | false => rfl
    | true =>
      have hm' := HL hm; have ht' := zV ht
      by_cases hf : t = 1125899906842624
      · simp [hf]
      · have e1 : IntKind.i64.wrap (t - size) = t - size := dK (by omega) (by omega)
        simp only [Bool.not_true, cond_false, decide_eq_false hf, Bool.false_eq_true, if_false, if_neg hf, e1]
        rw [BN hm'.2.2.1 hm'.2.2.2 (by omega)]
        simp only [Option.bind_some]
        have : (if (1125899906842624 : Int) < iO hop (t - size) then (1125899906842624 : Int) else iO hop (t - size)) = min (iO hop (t - size)) 1125899906842624 := by
          rw [Int.min_def]; split <;> split <;> omega
        rw [this]

def WX (hop : Int) : Nat → Int → List Int
  | 0, _ => []
  | n + 1, t => t :: WX hop n (t + hop)

def tF (hop t b : Int) : List Int := WX hop ((b - t + hop - 1) / hop).toNat t

theorem wN {hop t b : Int} (hh : 1 ≤ hop) (h : b ≤ t) : tF hop t b = [] := by
  unfold tF
  have : (b - t + hop - 1) / hop ≤ 0 := by
    have h1 : b - t + hop - 1 < 1 * hop := by omega
    have := Int.ediv_lt_of_lt_mul (by omega) h1
    omega
  rw [show ((b - t + hop - 1) / hop).toNat = 0 by omega]; rfl

theorem xL {hop t b : Int} (hh : 1 ≤ hop) (h : t < b) : tF hop t b = t :: tF hop (t + hop) b := by
  unfold tF
  have h1 : (b - t + hop - 1) / hop = (b - (t + hop) + hop - 1) / hop + 1 := by
    rw [show b - t + hop - 1 = (b - (t + hop) + hop - 1) + hop by omega, Int.add_ediv_of_dvd_right (Int.dvd_refl hop), Int.ediv_self (by omega)]
  have h2 : 0 ≤ (b - (t + hop) + hop - 1) / hop := Int.ediv_nonneg (by omega) (by omega)
  rw [h1, show ((b - (t + hop) + hop - 1) / hop + 1).toNat = ((b - (t + hop) + hop - 1) / hop).toNat + 1 by omega]
  rfl

theorem zU {hop b : Int} (hh : 1 ≤ hop) {C : Int → Prop} (h0 : ∀ t, b ≤ t → C t) (h1 : ∀ t, t < b → C (t + hop) → C t) (t : Int) : C t := by
  generalize hn : (b - t).toNat = n
  induction n using Nat.strongRecOn generalizing t with
  | ind n ih =>
    by_cases h : t < b
    · exact h1 t h (ih (b - (t + hop)).toNat (by omega) _ rfl)
    · exact h0 t (by omega)

theorem KT {hop b x : Int} (hh : 1 ≤ hop) : ∀ t, x ∈ tF hop t b ↔ ∃ k : Nat, x = t + k * hop ∧ x < b := by
  refine zU hh (b := b) (fun t h => ?_) (fun t h ih => ?_)
  · rw [wN hh h]
    simp only [List.not_mem_nil, false_iff, not_exists, not_and]
    intro k hk
    have : 0 ≤ (k : Int) * hop := Int.mul_nonneg (by omega) (by omega)
    omega
  · rw [xL hh h, List.mem_cons, ih]
    constructor
    · rintro (rfl | ⟨k, rfl, hk⟩)
      · exact ⟨0, by simp, h⟩
      · refine ⟨k + 1, ?_, hk⟩
        rw [Int.natCast_add, Int.add_mul]; omega
    · rintro ⟨k, hk1, hk2⟩
      match k with
      | 0 => left; simpa using hk1
      | k + 1 =>
        right
        refine ⟨k, ?_, hk2⟩
        rw [Int.natCast_add, Int.add_mul] at hk1; omega

theorem TW {hop b : Int} (hh : 1 ≤ hop) : ∀ t, (tF hop t b).Pairwise (· < ·) ∧ ∀ x ∈ tF hop t b, t ≤ x := by
  refine zU hh (b := b) (fun t h => ?_) (fun t h ih => ?_)
  · rw [wN hh h]; simp
  · rw [xL hh h]
    refine ⟨List.pairwise_cons.2 ⟨fun x hx => ?_, ih.1⟩, fun x hx => ?_⟩
    · have := ih.2 x hx; omega
    · rcases List.mem_cons.1 hx with rfl | hx
      · exact Int.le_refl _
      · have := ih.2 x hx; omega

def qM {σ α : Type} (y : σ → α → Option (σ × Bool)) : List α → σ → Option σ
  | [], s => some s
  | a :: r, s => (y s a).bind fun x => if x.2 then qM y r x.1 else some x.1

def nI (size hop frm : Int) (s : aX) : Int := max (iO hop (s.From - size)) (iO hop (frm - 1))

def kB (front : Int) (s : aX) : Int := min (min s.To front) 1125899906842624

def gS (size hop frm front : Int) (s : aX) : List Int := tF hop (nI size hop frm s) (kB front s)

structure OkH (size hop frm front : Int) : Prop where
  s0 : 1 ≤ size
  s1 : size ≤ 1099511627776
  h0 : 1 ≤ hop
  h1 : hop ≤ 1099511627776
  f0 : 0 ≤ frm
  f1 : frm ≤ 1125899906842624
  r0 : 0 ≤ front
  r1 : front ≤ 1125899906842624

theorem KW {σ : Type} {y : σ → Int → Option (σ × Bool)} {hop front : Int} {sp : aX} (hh : 1 ≤ hop) (hh1 : hop ≤ 1099511627776) : ∀ (t : Int) (s s' : σ), 0 ≤ t → qM y (tF hop t (kB front sp)) s = some s' → mR y s hop sp front t = some s' := by
  have main : ∀ (t : Int), ∀ (s s' : σ), 0 ≤ t → qM y (tF hop t (kB front sp)) s = some s' → ∃ x, lp (fun s => iT y hop sp front s.1 s.2) (s, t) = some x ∧ Sum.elim id id x = s' := by
    have hbe : (if (1125899906842624 : Int) < (if front < sp.To then front else sp.To) then (1125899906842624 : Int) else (if front < sp.To then front else sp.To)) = kB front sp := by
      unfold kB; simp only [Int.min_def]; split <;> split <;> split <;> split <;> omega
    refine zU hh (b := kB front sp) (fun t h s s' ht hi => ?_) (fun t h ih s s' ht hi => ?_)
    · rw [wN hh h] at hi
      simp only [qM, Option.some.injEq] at hi
      refine ⟨.inl s, cU ?_, hi⟩
      show iT _ _ _ _ _ _ = _
      simp only [iT, hbe]
      rw [decide_eq_false (by omega), cond_false]
    · rw [xL hh h] at hi
      simp only [qM] at hi
      obtain ⟨x, hx, hi⟩ := aT hi
      have hb1 : kB front sp ≤ 1125899906842624 := Int.min_le_right _ _
      have hw : IntKind.i64.wrap (t + hop) = t + hop := dK (by omega) (by omega)
      have hb : (fun s : σ × Int => iT y hop sp front s.1 s.2) (s, t) = some (if x.2 then .inl (x.1, t + hop) else .inr (.inr x.1)) := by
        show iT _ _ _ _ _ _ = _
        simp only [iT, hbe]
        rw [decide_eq_true h, cond_true, hx]
        simp only [Option.bind_some, hw]
        cases x.2 <;> rfl
      cases hx2 : x.2
      · rw [hx2] at hb hi
        simp only [Bool.false_eq_true, if_false, Option.some.injEq] at hb hi
        exact ⟨_, cU hb, hi⟩
      · rw [hx2] at hb hi
        simp only [if_true] at hb hi
        obtain ⟨z, hz1, hz2⟩ := ih x.1 s' (by omega) hi
        exact ⟨z, by rw [fJ hb]; exact hz1, hz2⟩
  intro t s s' ht hi
  obtain ⟨x, h1, h2⟩ := main t s s' ht hi
  unfold mR
  rw [h1]
  cases x <;> simpa using h2

theorem FE {σ : Type} {y : σ → Int → Option (σ × Bool)} {size hop frm front : Int} {sp : aX} (ok : OkH size hop frm front) (h1 : -1 ≤ sp.From) (h2 : sp.From ≤ 1125899906842624) {s s' : σ} (h : qM y (gS size hop frm front sp) s = some s') :
    lW y hop sp size frm front s = some s' := by
  obtain ⟨a1, a2, a3, a4, a5, a6, a7, a8⟩ := ok
  unfold lW
  have w1 : IntKind.i64.wrap (sp.From - size) = sp.From - size := dK (by omega) (by omega)
  have w2 : IntKind.i64.wrap (frm - 1) = frm - 1 := dK (by omega) (by omega)
  rw [w1, w2, BN a3 a4 (by omega), BN a3 a4 (by omega)]
  simp only [Option.bind_some]
  have e : (if iO hop (frm - 1) > iO hop (sp.From - size) then iO hop (frm - 1) else iO hop (sp.From - size)) = nI size hop frm sp := by
    unfold nI; rw [Int.max_def]; split <;> split <;> omega
  rw [e]
  refine KW a3 a4 _ _ _ ?_ h
  have := (tW (n := sp.From - size) a3).1
  unfold nI; omega

end Go.Abs
namespace Go.Abs
open Go
def FW : aE := ⟨1, 1, ByteArray.empty⟩

end Go.Abs
namespace Go.Abs
open Go
theorem SB {d : List Int} (hd : d.Pairwise (· ≤ ·)) {i j : Nat} (hij : i ≤ j) (hj : j < d.length) : d.getD i 0 ≤ d.getD j 0 := by
  rw [List.getD_eq_getElem?_getD, List.getD_eq_getElem?_getD, List.getElem?_eq_getElem (by omega), List.getElem?_eq_getElem hj]
  rcases Nat.lt_or_ge i j with h | h
  · exact List.pairwise_iff_getElem.1 hd i j (by omega) hj h
  · have : i = j := by omega
    subst this; exact Int.le_refl _

theorem IN {d : List Int} {p : Nat} (hp : p < d.length) : d.take (p + 1) = d.take p ++ [d.getD p 0] := by
  rw [List.take_add_one, List.getElem?_eq_getElem hp, List.getD_eq_getElem?_getD, List.getElem?_eq_getElem hp]; rfl

theorem MV {d : List Int} (hd : d.Pairwise (· ≤ ·)) {p : Nat} (hp : p < d.length) {x : Int} (hx : x ∈ d.take (p + 1)) : x ≤ d.getD p 0 := by
  obtain ⟨i, hi⟩ := List.getElem?_of_mem hx
  rw [List.getElem?_take] at hi
  split at hi
  · rename_i hlt
    have := SB hd (i := i) (j := p) (by omega) hp
    rw [List.getD_eq_getElem?_getD (i := i), hi] at this
    exact this
  · cases hi

def Kept (d c : List Int) (p : Nat) : Prop := c.Pairwise (· < ·) ∧ ∀ x, x ∈ c ↔ x ∈ d.take p

theorem Kept.same {d c : List Int} {p : Nat} (h : Kept d c p) (h0 : 0 < p) (hp : p < d.length) (e : d.getD p 0 = d.getD (p - 1) 0) : Kept d c (p + 1) := by
  refine ⟨h.1, fun x => ?_⟩
  rw [h.2 x, IN hp, List.mem_append]
  constructor
  · exact .inl
  · rintro (h1 | h1)
    · exact h1
    · rw [List.mem_singleton.1 h1, e]
      have : p - 1 < p := by omega
      refine List.mem_of_getElem? (i := p - 1) ?_
      rw [List.getElem?_take, if_pos this, List.getD_eq_getElem?_getD, List.getElem?_eq_getElem (by omega)]; rfl

theorem Kept.more {d c : List Int} {p : Nat} (hd : d.Pairwise (· ≤ ·)) (h : Kept d c p) (h0 : 0 < p) (hp : p < d.length) (e : d.getD p 0 ≠ d.getD (p - 1) 0) : Kept d (c ++ [d.getD p 0]) (p + 1) := by
  have hle := SB hd (i := p - 1) (j := p) (by omega) hp
  refine ⟨?_, fun x => by rw [IN hp, List.mem_append, List.mem_append, h.2 x]⟩
  rw [List.pairwise_append]
  refine ⟨h.1, by simp, fun a ha b hb => ?_⟩
  rw [List.mem_singleton.1 hb]
  have ha' := (h.2 a).1 ha
  have : a ≤ d.getD (p - 1) 0 := by
    refine MV hd (by omega) ?_
    rwa [show p - 1 + 1 = p by omega]
  omega

end Go.Abs
namespace Go.Abs
open Go
def inW (a b : Int) (j : aH) : Bool := decide (0 < j.Net) && (decide (a ≤ j.At) && decide (j.At < b))

def vE (a b : Int) (f : List aH) : Int := ((f.filter (inW a b)).map aH.Net).sum

def pG (rs : List hY) : hY := rs.getD (rs.length - 1) default

theorem BI (a b : Int) (j : aH) (f : List aH) : vE a b (j :: f) = (if inW a b j then j.Net else 0) + vE a b f := by
  unfold vE
  by_cases h : inW a b j <;> simp [h]

end Go.Abs
namespace Go.Abs
open Go
theorem w00 : IntKind.i64.wrap 0 = 0 := dK (by omega) (by omega)

def mQ : Int → Int → List aH → List aX
  | n, fr, [] => if 0 < n then [⟨fr, 1125899906842624⟩] else []
  | n, fr, j :: r => if n + j.Net = 0 then ⟨if n = 0 then j.At else fr, j.At⟩ :: mQ 0 (if n = 0 then j.At else fr) r else mQ (n + j.Net) (if n = 0 then j.At else fr) r

def wX (f : List aH) : List aX := mQ 0 0 f

def vN (n : Int) (f : List aH) : Prop := n ≤ 1048576 * (2048 - f.length) ∧ -(1048576 * (2048 - f.length)) ≤ n ∧ f.length ≤ 1024

theorem vN.next {n : Int} {j : aH} {r : List aH} (h : vN n (j :: r)) (hj : j.Net ≤ 1048576 ∧ -1048576 ≤ j.Net) : vN (n + j.Net) r := by
  obtain ⟨h1, h2, h3⟩ := h
  simp only [List.length_cons] at h1 h2 h3
  exact ⟨by omega, by omega, by omega⟩

theorem vN.small {n : Int} {f : List aH} (h : vN n f) : n ≤ 4294967296 ∧ -4294967296 ≤ n := by
  obtain ⟨h1, h2, h3⟩ := h
  omega

theorem vN.zero {n : Int} {f : List aH} (h : vN n f) : vN 0 f := by
  obtain ⟨h1, h2, h3⟩ := h
  exact ⟨by omega, by omega, h3⟩

theorem KH {σ : Type} {y : σ → aX → Option (σ × Bool)} {f : List aH} (hl : f.length ≤ 1024) : ∀ (r : List aH) (k : Nat) (last n fr : Int) (s s' : σ), f.drop k = r → k ≤ f.length → pE last r → vN n r → qM y (mQ n fr r) s = some s' →
    ∃ x, lp (fun s : σ × Int × Int × Int => fM y f ((f.length : Nat) : Int) s.1 s.2.1 s.2.2.1 s.2.2.2) (s, n, fr, (k : Int)) = some x ∧ Sum.elim (fun rr => lY y rr.1 rr.2.1 rr.2.2) (fun rr => some rr) x = some s' := by
  intro r
  induction r with
  | nil =>
    intro k last n fr s s' hd hk _ _ h
    have hk' : k = f.length := by
      have := congrArg List.length hd
      simp at this; omega
    subst hk'
    refine ⟨.inl (s, n, fr), cU ?_, ?_⟩
    · show fM _ _ _ _ _ _ _ = _
      simp only [fM, nN, cond_false]
    · simp only [Sum.elim_inl, lY]
      by_cases hn : 0 < n
      · simp only [mQ, hn, if_true, qM] at h
        obtain ⟨x, hx, h⟩ := aT h
        rw [decide_eq_true hn, cond_true, hx]
        simp only [Option.bind_some]
        cases hx2 : x.2 <;> rw [hx2] at h <;> simpa using h
      · simp only [mQ, hn, if_false, qM] at h
        rw [decide_eq_false hn, cond_false]; exact h
  | cons j r ih =>
    intro k last n fr s s' hd hk hr hroom h
    obtain ⟨hget, hd'⟩ := drop_cons hd
    have hlt : k < f.length := (List.getElem?_eq_some_iff.1 hget).1
    obtain ⟨d1, d2, d3, d4⟩ := idx hget (by omega)
    have hj := hr.1
    have hnx := hroom.next ⟨hj.2.2.2.1, hj.2.2.2.2⟩
    have hsm := hnx.small
    have hw : IntKind.i64.wrap (n + j.Net) = n + j.Net := dK (by omega) (by omega)
    -- what the body does
    have body : fM y f ((f.length : Nat) : Int) s n fr (k : Int) = kZ y s n (if n = 0 then j.At else fr) j f ((f.length : Nat) : Int) (k : Int) := by
      simp only [fM, d1, cond_true, aO d2, d3]
      by_cases hn : n = 0 <;> simp [hn]
    by_cases hz : n + j.Net = 0
    · simp only [mQ, hz, if_true, qM] at h
      obtain ⟨x, hx, h⟩ := aT h
      have hb : (fun s : σ × Int × Int × Int => fM y f ((f.length : Nat) : Int) s.1 s.2.1 s.2.2.1 s.2.2.2) (s, n, fr, (k : Int)) = some (if x.2 then .inl (x.1, 0, (if n = 0 then j.At else fr), ((k + 1 : Nat) : Int)) else .inr (.inr x.1)) := by
        show fM _ _ _ _ _ _ _ = _
        rw [body]
        simp only [kZ, hw, d4, hz, w00, decide_true, AI, cond_true, hx, Option.bind_some, Bool.true_and]
        cases x.2 <;> rfl
      cases hx2 : x.2
      · rw [hx2] at hb h
        simp only [Bool.false_eq_true, if_false, Option.some.injEq] at hb h
        exact ⟨_, cU hb, by simpa using h⟩
      · rw [hx2] at hb h
        simp only [if_true] at hb h
        obtain ⟨z, hz1, hz2⟩ := ih (k + 1) j.At 0 _ x.1 s' hd' (by omega) hr.2 hnx.zero h
        exact ⟨z, by rw [fJ hb]; exact hz1, hz2⟩
    · simp only [mQ, hz, if_false] at h
      have hb : (fun s : σ × Int × Int × Int => fM y f ((f.length : Nat) : Int) s.1 s.2.1 s.2.2.1 s.2.2.2) (s, n, fr, (k : Int)) = some (.inl (s, n + j.Net, (if n = 0 then j.At else fr), ((k + 1 : Nat) : Int))) := by
        show fM _ _ _ _ _ _ _ = _
        rw [body]
        simp only [kZ, hw, d4, decide_eq_false hz, AI, cond_false, Option.bind_some, Bool.false_and]
      obtain ⟨z, hz1, hz2⟩ := ih (k + 1) j.At (n + j.Net) _ s s' hd' (by omega) hr.2 hnx h
      exact ⟨z, by rw [fJ hb]; exact hz1, hz2⟩

theorem QO {σ : Type} {y : σ → aX → Option (σ × Bool)} {f : List aH} (hf : jU f = true) {s s' : σ} (h : qM y (wX f) s = some s') : nZ y f s = some s' := by
  obtain ⟨hl, hr⟩ := qG.1 hf
  obtain ⟨x, h1, h2⟩ := KH (y := y) hl f 0 (-2) 0 0 s s' rfl (by omega) hr ⟨by omega, by omega, hl⟩ h
  unfold nZ pL
  simp only [Int.natCast_zero] at h1
  rw [h1]
  exact h2

theorem zS {x : Int} (hx : x < 1125899906842624) : ∀ {f : List aH} {last n fr : Int}, pE last f → (∀ t, 0 ≤ n + val f t) → (n ≠ 0 → fr ≤ last) →
    ((∃ s ∈ mQ n fr f, s.From ≤ x ∧ x < s.To) ↔ (n ≠ 0 → fr ≤ x) ∧ 0 < n + val f x)
  | [], last, n, fr, _, hn, _ => by
    have h0 := hn 0
    simp only [CB, Int.add_zero] at h0 ⊢
    unfold mQ
    by_cases h : 0 < n
    · rw [if_pos h]
      simp only [List.mem_singleton]
      constructor
      · rintro ⟨s, rfl, h1, h2⟩; exact ⟨fun _ => h1, h⟩
      · rintro ⟨h1, _⟩; exact ⟨_, rfl, h1 (by omega), hx⟩
    · rw [if_neg h]
      simp [h]
  | j :: r, last, n, fr, hr, hn, hf => by
    have hj := hr.1
    have hab := hr.2.above
    have hv : ∀ t, t ≤ j.At → val r t = 0 := fun t ht => rB fun k hk => by have := (hab k hk).1; omega
    have hn0 : 0 ≤ n := by
      have := hn (j.At - 1)
      rw [gL, if_neg (by omega), hv _ (by omega)] at this; omega
    have hn1 : 0 ≤ n + j.Net := by
      have := hn j.At
      rw [gL, if_pos (by omega), hv _ (by omega)] at this; omega
    have hn2 : ∀ t, 0 ≤ (n + j.Net) + val r t := fun t => by
      by_cases ht : j.At ≤ t
      · have := hn t
        rw [gL, if_pos ht] at this; omega
      · rw [hv t (by omega)]; omega
    rw [gL]
    unfold mQ
    by_cases hz : n + j.Net = 0
    · rw [if_pos hz]
      have ih := zS hx (f := r) (last := j.At) (n := 0) (fr := if n = 0 then j.At else fr) hr.2 (fun t => by have := hn2 t; omega) (by simp)
      have e : (∃ s ∈ (⟨if n = 0 then j.At else fr, j.At⟩ : aX) :: mQ 0 (if n = 0 then j.At else fr) r, s.From ≤ x ∧ x < s.To) ↔ ((if n = 0 then j.At else fr) ≤ x ∧ x < j.At) ∨ (∃ s ∈ mQ 0 (if n = 0 then j.At else fr) r, s.From ≤ x ∧ x < s.To) := by
        simp only [List.mem_cons, or_and_right, exists_or, exists_eq_left]
      rw [e, ih]
      by_cases hnz : n = 0
      · omega
      · rw [if_neg hnz]
        have hfl := hf hnz
        by_cases hxj : j.At ≤ x
        · rw [if_pos hxj]
          constructor
          · rintro (h | h)
            · omega
            · exact ⟨fun _ => by omega, by have := h.2; omega⟩
          · rintro ⟨_, h⟩; right; exact ⟨by simp, by omega⟩
        · rw [if_neg hxj, hv x (by omega)]
          constructor
          · rintro (h | h)
            · exact ⟨fun _ => h.1, by omega⟩
            · have := h.2; omega
          · rintro ⟨h, _⟩; left; exact ⟨h hnz, by omega⟩
    · rw [if_neg hz, zS hx (f := r) (last := j.At) (n := n + j.Net) (fr := if n = 0 then j.At else fr) hr.2 hn2 (fun _ => by
        split
        · exact Int.le_refl _
        · rename_i h; have := hf h; omega)]
      by_cases hnz : n = 0
      · simp only [hnz, if_true]
        by_cases hxj : j.At ≤ x
        · rw [if_pos hxj]
          constructor
          · rintro ⟨_, h⟩; exact ⟨by simp, by omega⟩
          · rintro ⟨_, h⟩; exact ⟨fun _ => hxj, by omega⟩
        · rw [if_neg hxj, hv x (by omega)]
          constructor
          · rintro ⟨h, _⟩; exact absurd (h (by omega)) hxj
          · rintro ⟨_, h⟩; omega
      · rw [if_neg hnz]
        by_cases hxj : j.At ≤ x
        · rw [if_pos hxj]
          constructor
          · rintro ⟨h, h2⟩; exact ⟨fun _ => h hz, by omega⟩
          · rintro ⟨h, h2⟩; exact ⟨fun _ => h hnz, by omega⟩
        · rw [if_neg hxj, hv x (by omega)]
          constructor
          · rintro ⟨h, h2⟩; exact ⟨fun _ => h hz, by omega⟩
          · rintro ⟨h, h2⟩; exact ⟨fun _ => h hnz, by omega⟩

theorem xY : ∀ {f : List aH} {last n fr : Int}, pE last f → -2 ≤ last → last < 1125899906842624 → (n ≠ 0 → fr ≤ last ∧ -1 ≤ fr) → ∀ s ∈ mQ n fr f, -1 ≤ s.From ∧ s.From < s.To ∧ s.To ≤ 1125899906842624
  | [], last, n, fr, _, h1, h2, hf, s, hs => by
    unfold mQ at hs
    split at hs
    · simp only [List.mem_singleton] at hs; subst hs
      have := hf (by omega)
      exact ⟨this.2, by show fr < 1125899906842624; omega, Int.le_refl _⟩
    · simp at hs
  | j :: r, last, n, fr, hr, h1, h2, hf, s, hs => by
    have hj := hr.1
    have key : (if n = 0 then j.At else fr) ≤ j.At ∧ -1 ≤ (if n = 0 then j.At else fr) := by
      split
      · omega
      · rename_i h; have := hf h; omega
    unfold mQ at hs
    split at hs
    · rcases List.mem_cons.1 hs with rfl | hs
      · rename_i hz
        have hnz : n ≠ 0 := by omega
        have := hf hnz
        refine ⟨key.2, ?_, by show j.At ≤ _; omega⟩
        show (if n = 0 then j.At else fr) < j.At
        rw [if_neg hnz]; omega
      · exact xY hr.2 (by omega) (by omega) (by simp) s hs
    · exact xY hr.2 (by omega) (by omega) (fun _ => key) s hs

theorem EM {f : List aH} (hf : jU f = true) (hv : ∀ t, 0 ≤ val f t) {x : Int} (hx : x < 1125899906842624) : (∃ s ∈ wX f, s.From ≤ x ∧ x < s.To) ↔ 0 < val f x := by
  rw [wX, zS hx (qG.1 hf).2 (fun t => by have := hv t; omega) (by simp)]
  simp

theorem CY {f : List aH} (hf : jU f = true) : ∀ s ∈ wX f, -1 ≤ s.From ∧ s.From < s.To ∧ s.To ≤ 1125899906842624 :=
  xY (qG.1 hf).2 (by omega) (by omega) (by simp)

def lI (f : List aH) (a b : Int) : Int := val f a + vE (a + 1) b f

theorem GD (a b : Int) : ∀ {f : List aH}, (∀ j ∈ f, j.Net ≤ 1048576) → 0 ≤ vE a b f ∧ vE a b f ≤ 1048576 * f.length
  | [], _ => by simp [vE]
  | j :: r, h => by
    have ih := GD a b (f := r) fun k hk => h k (List.mem_cons_of_mem _ hk)
    have hj := h j (by simp)
    rw [BI]
    simp only [List.length_cons, Int.natCast_add, Int.natCast_one, Int.mul_add, Int.mul_one]
    by_cases hi : inW a b j = true
    · rw [if_pos hi]
      simp only [inW, Bool.and_eq_true, decide_eq_true_eq] at hi
      omega
    · rw [if_neg hi]; omega

theorem GC {f : List aH} (hf : jU f = true) {w : aX} : pR f w = some (lI f w.From w.To) := by
  obtain ⟨hl, hr⟩ := qG.1 hf
  have hb := hr.above
  have hv := IQ (f := f) w.From (show (0 : Int) ≤ 1048576 by omega) fun j hj => ⟨(hb j hj).2.2.2.1, (hb j hj).2.2.2.2⟩
  unfold pR
  rw [aAq, hf]
  simp only [if_true, Option.bind_some]
  unfold rQ
  have key := CA (l := f) (body := fun s : Int × Int => nC w f ((f.length : Nat) : Int) s.1 s.2) (fun (n : Int) i => (n, i)) (fun n r => n + vE (w.From + 1) w.To r)
    (fun n r => n ≤ 1048576 * (2048 - r.length) ∧ -(1048576 * (2048 - r.length)) ≤ n ∧ r.length ≤ 1024 ∧ ∀ j ∈ r, j.Net ≤ 1048576 ∧ -1048576 ≤ j.Net) (val f w.From) ?_ ?_ ⟨by omega, by omega, hl, fun j hj => ⟨(hb j hj).2.2.2.1, (hb j hj).2.2.2.2⟩⟩
  · rw [key]
    rfl
  · intro i j r n hj hI
    left
    obtain ⟨d1, d2, d3, d4⟩ := idx hj (by omega)
    obtain ⟨i1, i2, i3, i4⟩ := hI
    simp only [List.length_cons] at i1 i2 i3
    have i5 := i4 j (by simp)
    have hmx : (if (0 : Int) > j.Net then (0 : Int) else j.Net) = if 0 < j.Net then j.Net else 0 := by split <;> split <;> omega
    refine ⟨n + (if inW (w.From + 1) w.To j then j.Net else 0), ?_, ⟨?_, ?_, by omega, fun k hk => i4 k (List.mem_cons_of_mem _ hk)⟩, by rw [BI]; omega⟩
    · have e1 : inW (w.From + 1) w.To j = (decide (0 < j.Net) && ((decide (w.From < j.At)) && (decide (j.At < w.To)))) := by
        unfold inW
        have : decide (w.From + 1 ≤ j.At) = decide (w.From < j.At) := decide_eq_decide.2 (by omega)
        rw [this]
      simp only [nC, d1, cond_true, aO d2, d3, hmx, e1]
      cases hw : (decide (w.From < j.At)) && (decide (j.At < w.To)) with
      | false =>
        simp only [cond_false, nB, d4, Bool.and_false, Bool.false_eq_true, if_false, Int.add_zero]
      | true =>
        have : IntKind.i64.wrap (n + (if 0 < j.Net then j.Net else 0)) = n + (if 0 < j.Net then j.Net else 0) := dK (by split <;> omega) (by split <;> omega)
        simp only [cond_true, nB, d4, this, Bool.and_true, decide_eq_true_eq]
    · split <;> omega
    · split <;> omega
  · intro n _
    simp only [nC, nN, cond_false]
    simp [vE]

theorem MF {a b x : Int} (h1 : a ≤ x) (h2 : x < b) : ∀ f : List aH, val f x ≤ val f a + vE (a + 1) b f
  | [] => by simp [vE, CB]
  | j :: r => by
    have ih := MF h1 h2 r
    rw [gL, gL, BI]
    by_cases hi : inW (a + 1) b j = true
    · rw [if_pos hi]
      simp only [inW, Bool.and_eq_true, decide_eq_true_eq] at hi
      split <;> split <;> omega
    · rw [if_neg hi]
      have hi : ¬ (0 < j.Net ∧ a + 1 ≤ j.At ∧ j.At < b) := by simpa [inW] using hi
      split <;> split <;> omega

theorem JQ : ∀ {f : List aH} {last : Int}, pE last f → ∀ j ∈ f, val f j.At = val f (j.At - 1) + j.Net
  | [], _, _, j, hj => by simp at hj
  | k :: r, last, hr, j, hj => by
    have hab := hr.2.above
    rw [gL, gL]
    rcases List.mem_cons.1 hj with rfl | hj
    · rw [if_pos (by omega), if_neg (by omega), rB (f := r) fun q hq => (hab q hq).1, rB (f := r) fun q hq => by have := (hab q hq).1; omega]
      omega
    · have := (hab j hj).1
      rw [if_pos (by omega), if_pos (by omega), JQ hr.2 j hj]
      omega

theorem DC {f : List aH} (hf : jU f = true) (hv : ∀ t, 0 ≤ val f t) {a b : Int} (hab : a < b) : 0 < lI f a b ↔ ∃ x, a ≤ x ∧ x < b ∧ 0 < val f x := by
  obtain ⟨hl, hr⟩ := qG.1 hf
  have hb := hr.above
  have hg := GD (a + 1) b (f := f) fun j hj => (hb j hj).2.2.2.1
  unfold lI
  constructor
  · intro h
    by_cases h0 : 0 < val f a
    · exact ⟨a, Int.le_refl _, hab, h0⟩
    · have hva := hv a
      have hne : f.filter (inW (a + 1) b) ≠ [] := by
        intro hc
        unfold vE at h
        rw [hc] at h
        simp at h; omega
      obtain ⟨j, hj⟩ := List.exists_mem_of_ne_nil _ hne
      obtain ⟨hj1, hj2⟩ := List.mem_filter.1 hj
      simp only [inW, Bool.and_eq_true, decide_eq_true_eq] at hj2
      have := JQ hr j hj1
      have := hv (j.At - 1)
      exact ⟨j.At, by omega, by omega, by omega⟩
  · rintro ⟨x, h1, h2, h3⟩
    have := MF h1 h2 f
    omega

end Go.Abs
namespace Go.Abs
open Go
theorem IT {β : Type} {k : Int} {v : β} : ∀ {m : List (Int × β)}, k ∈ m.map (·.1) → (gE m k v).map (·.1) = m.map (·.1)
  | [], h => by simp at h
  | p :: m, h => by
    by_cases hp : p.1 = k
    · simp [gE, hp]
    · simp only [List.map_cons, List.mem_cons] at h
      rcases h with h | h
      · exact absurd h.symm hp
      · simp only [gE, hp, if_false, List.map_cons, IT h]

theorem HY {β : Type} {k : Int} {v : β} {m : List (Int × β)} (h : k ∉ m.map (·.1)) : (gE m k v).map (·.1) = m.map (·.1) ++ [k] := by
  rw [DI fun p hp e => h (List.mem_map.2 ⟨p, hp, e⟩)]; simp

theorem BH {β : Type} {k : Int} : ∀ {m : List (Int × β)}, fA m k = none ↔ k ∉ m.map (·.1)
  | [] => by simp [fA]
  | p :: m => by
    rw [fA]
    by_cases hp : p.1 = k
    · simp [hp]
    · rw [if_neg hp, BH (m := m)]
      simp only [List.map_cons, List.mem_cons, not_or]
      exact ⟨fun h => ⟨fun e => hp e.symm, h⟩, fun h => h.2⟩

theorem BA {β : Type} {k x : Int} {v : β} : ∀ {m : List (Int × β)}, fA (gE m k v) x = if x = k then some v else fA m x
  | [] => by
    simp only [gE, fA]
    by_cases h : k = x
    · simp [h]
    · rw [if_neg h, if_neg (fun e => h e.symm)]
  | p :: m => by
    by_cases hp : p.1 = k
    · simp only [gE, if_pos hp, fA]
      by_cases h : k = x
      · simp [h]
      · rw [if_neg h, if_neg (fun e => h e.symm), if_neg (by rw [hp]; exact h)]
    · simp only [gE, if_neg hp, fA]
      by_cases h : p.1 = x
      · rw [if_pos h, if_pos h, if_neg (fun e => hp (h.trans e))]
      · rw [if_neg h, if_neg h, BA (m := m)]

theorem AS {S α : Type} {f : S → α → Option S} : ∀ {a b : List α} {s : S}, dF f s (a ++ b) = (dF f s a).bind fun s' => dF f s' b
  | [], b, s => rfl
  | x :: a, b, s => by
    simp only [List.cons_append, dF]
    cases f s x with
    | none => rfl
    | some s' => exact AS (a := a)

def mkW (size t : Int) : aR := ⟨⟨t, min (t + size) 1125899906842624⟩, []⟩

def iP (g : List aE × List aH) (p : aR) : aR :=
  if p.Rows = [] ∨ (pG p.Rows).Row ≠ g.1 then ⟨p.Span, p.Rows ++ [⟨g.1, lI g.2 p.Span.From p.Span.To⟩]⟩ else p

def kU (size : Int) (g : List aE × List aH) (m : List (Int × aR)) (t : Int) : Option (List (Int × aR)) :=
  match fA m t with
  | none => if m.length = 1024 then none else some (gE m t (iP g (mkW size t)))
  | some p => some (gE m t (iP g p))

theorem tU (rs : List hY) (c : hY) : pG (rs ++ [c]) = c := by
  unfold pG
  have : (rs ++ [c]).length - 1 = rs.length := by simp
  rw [this, List.getD_eq_getElem?_getD, List.getElem?_append_right (Nat.le_refl _)]
  simp

theorem ND (g : List aE × List aH) (p : aR) : (iP g p).Rows ≠ [] ∧ (pG (iP g p).Rows).Row = g.1 := by
  unfold iP
  split
  · exact ⟨by simp, by rw [tU]⟩
  · rename_i h
    simp only [not_or, Decidable.not_not] at h
    exact h

theorem KV (g : List aE × List aH) (p : aR) : iP g (iP g p) = iP g p := by
  obtain ⟨h1, h2⟩ := ND g p
  have key : ∀ q : aR, q.Rows ≠ [] → (pG q.Rows).Row = g.1 → iP g q = q := fun q a b => by
    unfold iP
    rw [if_neg (by simp [a, b])]
  exact key _ h1 h2

theorem BM {g : List aE × List aH} (hg : jU g.2 = true) (hr : g.1.length ≤ 4398046510976) {p : aR} (hp : p.Rows.length ≤ 1000000) (hlr : p.Rows ≠ [] → (pG p.Rows).Row.length ≤ 4398046510976) : mN g.1 g.2 p = some (iP g p) := by
  unfold mN
  have hlen : IntKind.i64.wrap (((List.length p.Rows : Nat) : Int) - 1) = ((List.length p.Rows : Nat) : Int) - 1 := dK (by omega) (by omega)
  simp only [wR, lN, gD, hlen]
  cases hR : p.Rows with
  | nil =>
    have h0 : decide ((((List.length ([] : List hY) : Nat) : Int) - 1) < 0) = true := by decide
    simp only [h0, Bool.not_true, Bool.true_or, cond_true, dG, cond_false, Option.bind_some]
    rw [aO (by simp)]
    rw [yW hr, Option.bind_some, GC hg, Option.bind_some, aO (by simp)]
    unfold iP
    rw [if_pos (.inl hR), hR]
  | cons c rs =>
    have hl2 : (c :: rs).length ≤ 1000000 := by rw [← hR]; exact hp
    have hge : 0 ≤ (((List.length (c :: rs) : Nat) : Int) - 1) ∧ (((List.length (c :: rs) : Nat) : Int) - 1) < ((List.length (c :: rs) : Nat) : Int) := by simp only [List.length_cons]; omega
    have h0 : decide ((((List.length (c :: rs) : Nat) : Int) - 1) < 0) = false := decide_eq_false (by omega)
    have hlast : List.getD (c :: rs) (Int.toNat (((List.length (c :: rs) : Nat) : Int) - 1)) default = pG (c :: rs) := by
      unfold pG
      congr 1
      omega
    rw [h0]
    simp only [Bool.not_false, Bool.false_or, dG, cond_true]
    rw [aO (fun _ => hge), hlast]
    have hsame : pI (pG (c :: rs)).Row g.1 = some (decide ((pG (c :: rs)).Row = g.1)) := by
      have := hlr (by rw [hR]; simp)
      rw [hR] at this
      exact FU _ _ (by omega)
    rw [hsame, Option.bind_some]
    unfold iP
    rw [hR]
    by_cases hq : (pG (c :: rs)).Row = g.1
    · rw [decide_eq_true hq, if_neg (by simp [hq])]; rfl
    · rw [decide_eq_false hq, if_pos (.inr hq)]
      simp only [Bool.not_false, cond_true]
      rw [yW hr, Option.bind_some, GC hg, Option.bind_some, aO (by simp only [List.length_cons, List.length_nil] at hl2 ⊢; omega)]

def DU (n : Nat) (r : List aE) (p : aR) : Prop := (p.Rows.length ≤ n ∨ (p.Rows ≠ [] ∧ (pG p.Rows).Row = r ∧ p.Rows.length ≤ n + 1)) ∧ (p.Rows ≠ [] → (pG p.Rows).Row.length ≤ 4398046510976)

theorem DU.add {n : Nat} {g : List aE × List aH} (hr : g.1.length ≤ 4398046510976) {p : aR} (h : DU n g.1 p) : DU n g.1 (iP g p) := by
  obtain ⟨h, h'⟩ := h
  unfold iP
  split
  · rename_i hc
    refine ⟨.inr ⟨by simp, by rw [tU], ?_⟩, fun _ => by rw [tU]; exact hr⟩
    rcases h with h | ⟨h1, h2, h3⟩
    · simp; omega
    · rcases hc with hc | hc
      · exact absurd hc h1
      · exact absurd h2 hc
  · exact ⟨h, h'⟩

def zN (n : Nat) (r : List aE) (m : List (Int × aR)) : Prop := ∀ t p, fA m t = some p → DU n r p

theorem UZ {size : Int} {g : List aE × List aH} (hg : jU g.2 = true) (hr : g.1.length ≤ 4398046510976) {n : Nat} (hn : n ≤ 900000) {m : List (Int × aR)} (hm : zN n g.1 m) {t : Int} (h0 : 0 ≤ t) (h1 : t < 1125899906842624) (hs0 : 0 ≤ size) (hs : size ≤ 1099511627776) (b : Bool) :
    (∀ m', kU size g m t = some m' → lP g.1 g.2 size b m t = some (.inl (b, m')) ∧ zN n g.1 m') ∧ (kU size g m t = none → lP g.1 g.2 size b m t = some (.inr (false, m))) := by
  unfold kU lP
  have small : ∀ p, DU n g.1 p → p.Rows.length ≤ 1000000 := fun p hp => by rcases hp.1 with h | ⟨_, _, h⟩ <;> omega
  have put : ∀ p, DU n g.1 p → zN n g.1 (gE m t (iP g p)) := by
    intro p hp t' p' h
    rw [BA] at h
    split at h
    · cases h; exact hp.add hr
    · exact hm t' p' h
  cases hgt : fA m t with
  | none =>
    simp only
    have hw : IntKind.i64.wrap (t + size) = t + size := dK (by omega) (by omega)
    have hmk : (aR.mk (aX.mk t (if (1125899906842624 : Int) < (wR (t + size)) then (1125899906842624 : Int) else (wR (t + size)))) []) = mkW size t := by
      unfold mkW
      simp only [wR, hw]
      congr 2
      rw [Int.min_def]; split <;> split <;> omega
    have hf : DU n g.1 (mkW size t) := ⟨.inl (by simp [mkW]), fun h => absurd rfl h⟩
    rw [hmk, BM hg hr (small _ hf) hf.2]
    by_cases hl : m.length = 1024
    · have : decide ((lN m) = (1024 : Int)) = true := decide_eq_true (by simp only [lN]; omega)
      rw [this, if_pos hl]
      exact ⟨fun m' h => (by cases h), fun _ => rfl⟩
    · have : decide ((lN m) = (1024 : Int)) = false := decide_eq_false (by simp only [lN]; omega)
      rw [this, if_neg hl]
      refine ⟨fun m' h => ?_, fun h => (by cases h)⟩
      cases h
      exact ⟨rfl, put _ hf⟩
  | some p =>
    simp only
    have hf := hm t p hgt
    rw [BM hg hr (small _ hf) hf.2]
    refine ⟨fun m' h => ?_, fun h => (by cases h)⟩
    cases h
    exact ⟨rfl, put _ hf⟩

theorem MD {size : Int} {g : List aE × List aH} (hg : jU g.2 = true) (hr : g.1.length ≤ 4398046510976) {n : Nat} (hn : n ≤ 900000) (hs0 : 0 ≤ size) (hs : size ≤ 1099511627776) (b : Bool) : ∀ (ts : List Int) (m : List (Int × aR)), zN n g.1 m → (∀ t ∈ ts, 0 ≤ t ∧ t < 1125899906842624) →
    ∃ x, qM (fun st t => rnd (fun (q : Bool × List (Int × aR)) => lP g.1 g.2 size q.1 q.2 t) st) ts (.inl (b, m)) = some x ∧ (∀ m', dF (kU size g) m ts = some m' → x = .inl (b, m') ∧ zN n g.1 m') ∧ (dF (kU size g) m ts = none → ∃ q, q.1 = false ∧ x = .inr q)
  | [], m, hm, _ => ⟨_, rfl, fun m' h => by simp only [dF, Option.some.injEq] at h; subst h; exact ⟨rfl, hm⟩, fun h => by simp [dF] at h⟩
  | t :: ts, m, hm, ht => by
    obtain ⟨h0, h1⟩ := ht t (by simp)
    obtain ⟨a1, a2⟩ := UZ hg hr hn hm h0 h1 hs0 hs b
    simp only [qM, dF]
    cases hst : kU size g m t with
    | none =>
      have e := a2 hst
      refine ⟨.inr (false, m), ?_, fun m' h => (by simp at h), fun _ => ⟨_, rfl, rfl⟩⟩
      simp only [rnd, e, Option.bind_some, Sum.isLeft_inr, Bool.false_eq_true, if_false]
    | some m1 =>
      obtain ⟨e, hm1⟩ := a1 m1 hst
      obtain ⟨x, e1, e2, e3⟩ := MD hg hr hn hs0 hs b ts m1 hm1 fun t' h' => ht t' (by simp [h'])
      refine ⟨x, ?_, e2, e3⟩
      simp only [rnd, e, Option.bind_some, Sum.isLeft_inl, if_true]
      exact e1

def mF (size hop frm front : Int) (f : List aH) : List Int := (wX f).flatMap (gS size hop frm front)

theorem AA {size hop frm front : Int} (ok : OkH size hop frm front) (s : aX) : ∀ t ∈ gS size hop frm front s, 0 ≤ t ∧ t < 1125899906842624 := by
  intro t ht
  unfold gS at ht
  have h1 := (TW (b := kB front s) ok.h0 (nI size hop frm s)).2 t ht
  obtain ⟨k, _, h2⟩ := (KT ok.h0 _).1 ht
  have h3 := (tW (n := s.From - size) ok.h0).1
  have h4 : iO hop (s.From - size) ≤ nI size hop frm s := Int.le_max_left _ _
  have h5 : kB front s ≤ 1125899906842624 := Int.min_le_right _ _
  omega

theorem KA {size hop frm front : Int} (ok : OkH size hop frm front) {g : List aE × List aH} (hg : jU g.2 = true) (hr : g.1.length ≤ 4398046510976) {n : Nat} (hn : n ≤ 900000) (b : Bool) : ∀ (ss : List aX) (m : List (Int × aR)), zN n g.1 m → (∀ s ∈ ss, -1 ≤ s.From ∧ s.From < s.To ∧ s.To ≤ 1125899906842624) →
    ∃ x, qM (fun st s => rnd (fun (q : Bool × List (Int × aR)) => mO g.1 g.2 size hop frm front q.1 q.2 s) st) ss (.inl (b, m)) = some x ∧ (∀ m', dF (kU size g) m (ss.flatMap (gS size hop frm front)) = some m' → x = .inl (b, m') ∧ zN n g.1 m') ∧ (dF (kU size g) m (ss.flatMap (gS size hop frm front)) = none → ∃ q, q.1 = false ∧ x = .inr q)
  | [], m, hm, _ => ⟨_, rfl, fun m' h => by simp only [List.flatMap_nil, dF, Option.some.injEq] at h; subst h; exact ⟨rfl, hm⟩, fun h => by simp [dF] at h⟩
  | s :: ss, m, hm, hs => by
    have hsp := hs s (by simp)
    obtain ⟨x, e1, e2, e3⟩ := MD hg hr hn (size := size) (by have := ok.s0; omega) ok.s1 b (gS size hop frm front s) m hm (AA ok s)
    have hl : mO g.1 g.2 size hop frm front b m s = (Sum.elim (fun q => some (.inl q)) (fun q => some (.inr q)) x : Option ((Bool × List (Int × aR)) ⊕ (Bool × List (Int × aR)))) := by
      unfold mO
      simp only [oO, Option.bind_some]
      rw [FE ok hsp.1 (by omega) e1]
      rfl
    simp only [qM, List.flatMap_cons, AS]
    cases hst : dF (kU size g) m (gS size hop frm front s) with
    | none =>
      obtain ⟨q, hq, rfl⟩ := e3 hst
      refine ⟨.inr q, ?_, fun m' h => (by simp at h), fun _ => ⟨_, hq, rfl⟩⟩
      simp only [rnd, hl, Sum.elim_inr, Option.bind_some, Sum.isLeft_inr, Bool.false_eq_true, if_false]
    | some m1 =>
      obtain ⟨rfl, hm1⟩ := e2 m1 hst
      obtain ⟨x, f1, f2, f3⟩ := KA ok hg hr hn b ss m1 hm1 fun s' h' => hs s' (by simp [h'])
      refine ⟨x, ?_, f2, f3⟩
      simp only [rnd, hl, Sum.elim_inl, Option.bind_some, Sum.isLeft_inl, if_true]
      exact f1

theorem TQ {size hop frm front : Int} (ok : OkH size hop frm front) {g : List aE × List aH} (hg : jU g.2 = true) (hr : g.1.length ≤ 4398046510976) {n : Nat} (hn : n ≤ 900000) {m : List (Int × aR)} (hm : zN n g.1 m) :
    ∃ x, rH m g.1 g.2 size hop frm front = some x ∧ (∀ m', dF (kU size g) m (mF size hop frm front g.2) = some m' → x = (true, m') ∧ zN n g.1 m') ∧ (dF (kU size g) m (mF size hop frm front g.2) = none → x.1 = false) := by
  obtain ⟨x, e1, e2, e3⟩ := KA ok hg hr hn false (wX g.2) m hm (CY hg)
  unfold rH
  simp only [uR, Option.bind_some]
  rw [QO hg e1, Option.bind_some]
  unfold mF
  cases hst : dF (kU size g) m ((wX g.2).flatMap (gS size hop frm front)) with
  | none =>
    obtain ⟨q, hq, rfl⟩ := e3 hst
    exact ⟨_, rfl, fun m' h => (by cases h), fun _ => hq⟩
  | some m1 =>
    obtain ⟨rfl, hm1⟩ := e2 m1 hst
    exact ⟨_, rfl, fun m' h => (by cases h; exact ⟨rfl, hm1⟩), fun h => (by cases h)⟩

end Go.Abs
namespace Go.Abs
open Go
theorem zZ {hop n x : Int} (hh : 1 ≤ hop) (h0 : 0 ≤ x) (hx : ∃ k : Int, x = k * hop) (h : n < x) : iO hop n ≤ x := by
  unfold iO
  split
  · exact h0
  · obtain ⟨k, rfl⟩ := hx
    have hf := xH (n := n) hh
    have : n / hop < k := by
      rcases Int.lt_or_le (n / hop) k with h1 | h1
      · exact h1
      · have := Int.mul_le_mul_of_nonneg_right h1 (show 0 ≤ hop by omega)
        omega
    exact Int.mul_le_mul_of_nonneg_right (show n / hop + 1 ≤ k by omega) (by omega)

theorem CT {size hop frm : Int} {s : aX} (hh : 1 ≤ hop) (hf : 0 ≤ frm) : 0 ≤ nI size hop frm s ∧ (∃ k : Int, nI size hop frm s = k * hop) ∧ s.From - size < nI size hop frm s ∧ frm ≤ nI size hop frm s ∧
    ∀ x : Int, 0 ≤ x → (∃ k : Int, x = k * hop) → s.From - size < x → frm ≤ x → nI size hop frm s ≤ x := by
  obtain ⟨a1, a2, _, _, a5⟩ := tW (n := s.From - size) hh
  obtain ⟨b1, b2, _, _, b5⟩ := tW (n := frm - 1) hh
  unfold nI
  refine ⟨by omega, ?_, by omega, by omega, fun x x0 xk x1 x2 => ?_⟩
  · rcases Int.le_total (iO hop (s.From - size)) (iO hop (frm - 1)) with h | h
    · rw [Int.max_eq_right h]; exact b5
    · rw [Int.max_eq_left h]; exact a5
  · have c1 := zZ hh x0 xk x1
    have c2 := zZ hh x0 xk (show frm - 1 < x by omega)
    omega

theorem DA {size hop frm front : Int} (ok : OkH size hop frm front) {s : aX} {x : Int} : x ∈ gS size hop frm front s ↔ 0 ≤ x ∧ (∃ k : Int, x = k * hop) ∧ frm ≤ x ∧ x < front ∧ x < 1125899906842624 ∧ s.From - size < x ∧ x < s.To := by
  obtain ⟨f1, ⟨q, f2⟩, f3, f4, f5⟩ := CT (size := size) (s := s) ok.h0 ok.f0
  have hb : x < kB front s ↔ x < s.To ∧ x < front ∧ x < 1125899906842624 := by unfold kB; omega
  unfold gS
  rw [KT ok.h0]
  constructor
  · rintro ⟨k, h1, h2⟩
    have h3 := hb.1 h2
    have h4 : 0 ≤ (k : Int) * hop := Int.mul_nonneg (by omega) (by have := ok.h0; omega)
    refine ⟨by omega, ⟨q + k, ?_⟩, by omega, h3.2.1, h3.2.2, by omega, h3.1⟩
    rw [Int.add_mul]; omega
  · rintro ⟨h1, ⟨k, hk⟩, h2, h3, h4, h5, h6⟩
    have h7 := f5 x h1 ⟨k, hk⟩ h5 h2
    have h8 : q ≤ k := by
      rcases Int.lt_or_le k q with hlt | hle
      · have u := Int.mul_le_mul_of_nonneg_right (show k + 1 ≤ q by omega) (show 0 ≤ hop by have := ok.h0; omega)
        have u0 := ok.h0
        rw [Int.add_mul] at u
        omega
      · exact hle
    refine ⟨(k - q).toNat, ?_, hb.2 ⟨h6, h3, h4⟩⟩
    rw [Int.toNat_of_nonneg (by omega), Int.sub_mul]; omega

def qX (size hop : Int) (s : aX) (frm front : Int) : List Int × Int :=
  if !tD size hop then ([], 2) else if !(lK frm && lK front) then ([], 13) else if s.From < -1 ∨ s.To ≤ s.From ∨ 1125899906842624 < s.To then ([], 14)
  else if 1024 < (gS size hop frm front s).length then ([], 7) else (gS size hop frm front s, 0)

theorem QN {size hop frm front : Int} (hm : tD size hop = true) (h1 : lK frm = true) (h2 : lK front = true) : OkH size hop frm front := by
  have a := HL hm; have b := zV h1; have c := zV h2
  exact ⟨a.1, a.2.1, a.2.2.1, a.2.2.2, b.1, b.2, c.1, c.2⟩

theorem IV {c0 : Int} {c1 : aX} {c2 c3 c4 : Int} (a : List Int) (b : Int) : ∀ (ts out : List Int), out.length ≤ 1024 →
    ∃ x, qM (fun st t => rnd (fun (s : (List Int) × Int × List Int) => kV c0 c1 c2 c3 c4 s.1 s.2.1 s.2.2 t) st) ts (.inl (a, b, out)) = some x ∧ (if 1024 < out.length + ts.length then ∃ q, x = .inr ([], 7, q) else x = .inl (a, b, out ++ ts))
  | [], out, ho => ⟨_, rfl, by rw [if_neg (by simp; omega)]; simp⟩
  | t :: ts, out, ho => by
    by_cases hl : out.length = 1024
    · refine ⟨.inr ([], 7, out), ?_, by rw [if_pos (by simp only [List.length_cons]; omega)]; exact ⟨_, rfl⟩⟩
      have hb : kV c0 c1 c2 c3 c4 a b out t = some (.inr ([], 7, out)) := by
        unfold kV
        rw [decide_eq_true (by omega), cond_true]
      simp only [qM, rnd, hb, Option.bind_some, Sum.isLeft_inr, Bool.false_eq_true, if_false]
    · obtain ⟨x, h1, h2⟩ := IV a b ts (out ++ [t]) (by simp; omega)
      refine ⟨x, ?_, ?_⟩
      · have hb : kV c0 c1 c2 c3 c4 a b out t = some (.inl (a, b, out ++ [t])) := by
          unfold kV
          rw [decide_eq_false (by omega), cond_false, aO (by simp only [List.length_cons, List.length_nil]; omega)]
        simp only [qM, rnd, hb, Option.bind_some, Sum.isLeft_inl, if_true]
        exact h1
      · have e : (out ++ [t]).length + ts.length = out.length + (t :: ts).length := by simp; omega
        rw [e] at h2
        simpa using h2

theorem HS (size hop : Int) (s : aX) (frm front : Int) : oG size hop s frm front = some (qX size hop s frm front) := by
  unfold oG qX
  simp only [oX, mA, Option.bind_some]
  rw [show ((((decide ((1 : Int) ≤ size)) && (decide (size ≤ (1099511627776 : Int)))) && (decide ((1 : Int) ≤ hop))) && (decide (hop ≤ (1099511627776 : Int)))) = tD size hop from rfl, show ((decide ((0 : Int) ≤ frm)) && (decide (frm ≤ (1125899906842624 : Int)))) = lK frm from rfl, show ((decide ((0 : Int) ≤ front)) && (decide (front ≤ (1125899906842624 : Int)))) = lK front from rfl]
  cases hm : tD size hop with
  | false => rfl
  | true =>
    cases h1 : lK frm with
    | false => rfl
    | true =>
      cases h2 : lK front with
      | false => rfl
      | true =>
        simp only [Bool.not_true, cond_false, Bool.not_false, dG, cond_true, Option.bind_some, Bool.or_self, Bool.and_self, Bool.false_eq_true, if_false]
        by_cases hs : s.From < -1 ∨ s.To ≤ s.From ∨ 1125899906842624 < s.To
        · have : (((decide (s.From < (-1 : Int))) || (decide (s.To ≤ s.From))) || (decide ((1125899906842624 : Int) < s.To))) = true := by simp only [Bool.or_eq_true, decide_eq_true_eq]; omega
          rw [this, if_pos hs]; rfl
        · have : (((decide (s.From < (-1 : Int))) || (decide (s.To ≤ s.From))) || (decide ((1125899906842624 : Int) < s.To))) = false := by simp only [Bool.or_eq_false_iff, decide_eq_false_iff_not]; omega
          rw [this, if_neg hs, cond_false]
          have ok := QN hm h1 h2
          simp only [oO, Option.bind_some, tC]
          obtain ⟨x, e1, e2⟩ := IV (c0 := hop) (c1 := s) (c2 := size) (c3 := frm) (c4 := front) [] 0 (gS size hop frm front s) [] (by simp)
          rw [FE ok (by omega) (by omega) e1, Option.bind_some]
          simp only [List.length_nil, Nat.zero_add, List.nil_append] at e2
          by_cases hl : 1024 < (gS size hop frm front s).length
          · rw [if_pos hl] at e2 ⊢
            obtain ⟨q, rfl⟩ := e2
            rfl
          · rw [if_neg hl] at e2 ⊢
            subst e2
            rfl

theorem MT (size hop : Int) : sJ size hop = some (tD size hop) := by
  unfold sJ tD
  have a : decide ((0 : Int) < size) = decide ((1 : Int) ≤ size) := decide_eq_decide.2 (by omega)
  have b : decide ((0 : Int) < hop) = decide ((1 : Int) ≤ hop) := decide_eq_decide.2 (by omega)
  rw [a, b]

theorem HM {size t : Int} (h0 : 0 ≤ t) (h1 : t ≤ 4503599627370496) (h2 : 0 ≤ size) (h3 : size ≤ 1099511627776) : sP size t = some (min (t + size) 1125899906842624) := by
  have hw : IntKind.i64.wrap (t + size) = t + size := dK (by omega) (by omega)
  unfold sP
  rw [hw]
  by_cases hc : 1125899906842624 < t + size
  · rw [decide_eq_true hc, cond_true, Int.min_eq_right (by omega)]
  · rw [decide_eq_false hc, cond_false, Int.min_eq_left (by omega)]

theorem yM {size hop frm front : Int} (ok : OkH size hop frm front) {s : aX} (hs : -1 ≤ s.From) (hs1 : s.From < s.To) (hs2 : s.To ≤ 1125899906842624) : ∀ (t : Int) (out : List Int), 0 ≤ t → frm ≤ t → s.From - size < t → out.length ≤ 1024 →
    lp (fun q : List Int × Int => dX size hop frm front s q.1 q.2) (out, t) = some (if 1024 < out.length + (tF hop t (kB front s)).length then .inr ([], 7) else .inl (out ++ tF hop t (kB front s))) := by
  refine zU ok.h0 (b := kB front s) (fun t h out h0 h1 h2 ho => ?_) (fun t h ih out h0 h1 h2 ho => ?_)
  · rw [wN ok.h0 h, if_neg (by simp; omega), List.append_nil]
    refine cU ?_
    show dX size hop frm front s out t = _
    unfold dX
    have : (((decide (t < front)) && (decide (t < s.To))) && (decide (t < (1125899906842624 : Int)))) = false := by
      rw [Bool.eq_false_iff]; intro hc
      simp only [Bool.and_eq_true, decide_eq_true_eq] at hc
      unfold kB at h; omega
    rw [this]; rfl
  · rw [xL ok.h0 h]
    have hb : kB front s ≤ 1125899906842624 := Int.min_le_right _ _
    have hw : IntKind.i64.wrap (t + hop) = t + hop := by have := ok.h0; have := ok.h1; exact dK (by omega) (by omega)
    have hE := HM (size := size) h0 (by omega) (by have := ok.s0; omega) ok.s1
    have c1 : (((decide (t < front)) && (decide (t < s.To))) && (decide (t < (1125899906842624 : Int)))) = true := by
      simp only [Bool.and_eq_true, decide_eq_true_eq]
      unfold kB at h; omega
    have c2 : ((decide (frm ≤ t)) && (decide (s.From < min (t + size) 1125899906842624))) = true := by
      simp only [Bool.and_eq_true, decide_eq_true_eq]; omega
    have body : dX size hop frm front s out t = some (if 1024 < out.length + 1 then .inr (.inr ([], 7)) else .inl (out ++ [t], t + hop)) := by
      unfold dX
      rw [c1, cond_true, decide_eq_true h1]
      simp only [dG, cond_true, hE, Option.bind_some]
      rw [decide_eq_true h1] at c2
      rw [c2, cond_true, aO (by simp only [List.length_cons, List.length_nil]; omega)]
      unfold lF
      by_cases hl : 1024 < out.length + 1
      · rw [if_pos hl, decide_eq_true (by simp only [List.length_append, List.length_cons, List.length_nil]; omega), cond_true]
      · rw [if_neg hl, decide_eq_false (by simp only [List.length_append, List.length_cons, List.length_nil]; omega), cond_false, hw]
    by_cases hl : 1024 < out.length + 1
    · rw [if_pos hl] at body
      rw [cU (show (fun q : List Int × Int => dX size hop frm front s q.1 q.2) (out, t) = _ from body), if_pos (by simp only [List.length_cons]; omega)]
    · rw [if_neg hl] at body
      rw [fJ (show (fun q : List Int × Int => dX size hop frm front s q.1 q.2) (out, t) = _ from body), ih (out ++ [t]) (by have := ok.h0; omega) (by have := ok.h0; omega) (by have := ok.h0; omega) (by simp; omega)]
      have e : (out ++ [t]).length + (tF hop (t + hop) (kB front s)).length = out.length + (t :: tF hop (t + hop) (kB front s)).length := by simp; omega
      rw [e]
      simp only [List.append_assoc, List.cons_append, List.nil_append]

theorem KO (size hop : Int) (s : aX) (frm front : Int) : oM size hop s frm front = some (qX size hop s frm front) := by
  unfold oM qX
  rw [MT, show oJ frm = some (lK frm) from rfl, show oJ front = some (lK front) from rfl]
  simp only [Option.bind_some]
  cases hm : tD size hop with
  | false => rfl
  | true =>
    cases h1 : lK frm with
    | false => rfl
    | true =>
      cases h2 : lK front with
      | false => rfl
      | true =>
        simp only [Bool.not_true, cond_false, Bool.not_false, dG, cond_true, Option.bind_some, Bool.or_self, Bool.and_self, Bool.false_eq_true, if_false]
        by_cases hs : s.From < -1 ∨ s.To ≤ s.From ∨ 1125899906842624 < s.To
        · have : (((decide (s.From < (-1 : Int))) || (decide (s.To ≤ s.From))) || (decide ((1125899906842624 : Int) < s.To))) = true := by simp only [Bool.or_eq_true, decide_eq_true_eq]; omega
          rw [this, if_pos hs]; rfl
        · have : (((decide (s.From < (-1 : Int))) || (decide (s.To ≤ s.From))) || (decide ((1125899906842624 : Int) < s.To))) = false := by simp only [Bool.or_eq_false_iff, decide_eq_false_iff_not]; omega
          rw [this, if_neg hs, cond_false]
          have ok := QN hm h1 h2
          have w1 : IntKind.i64.wrap (s.From - size) = s.From - size := by have := ok.s0; have := ok.s1; exact dK (by omega) (by omega)
          rw [w1]
          have hhop := ok.h0
          -- from the least one on
          have main : ∀ low : Int, frm ≤ low → s.From - size ≤ low → (low = frm ∨ low = s.From - size) → low ≤ 1125899906842624 → mL size hop frm front s low = some (if 1024 < (gS size hop frm front s).length then ([], 7) else (gS size hop frm front s, 0)) := by
            intro low l1 l2 l3 l4
            have l0 : 0 ≤ low := by have := ok.f0; omega
            obtain ⟨f1, ⟨q, f2⟩, f3, f4, f5⟩ := CT (size := size) (s := s) ok.h0 ok.f0
            have hfl := xH (n := low) hhop
            have hd0 : 0 ≤ low / hop := Int.ediv_nonneg l0 (by omega)
            have hd1 : low / hop ≤ low := Int.ediv_le_self _ l0
            have hm0 : 0 ≤ low / hop * hop := Int.mul_nonneg hd0 (by omega)
            rw [Int.add_mul] at hfl
            have v1 : IntKind.i64.wrap (Int.tdiv low hop) = low / hop := by rw [MB l0]; exact dK (by omega) (by omega)
            have v2 : IntKind.i64.wrap (low / hop * hop) = low / hop * hop := dK (by omega) (by omega)
            have v3 : IntKind.i64.wrap (low / hop * hop + hop) = low / hop * hop + hop := dK (by omega) (by have := ok.h1; omega)
            have fin : ∀ r : List Int ⊕ (List Int × Int), r = (if 1024 < (gS size hop frm front s).length then .inr ([], 7) else .inl (gS size hop frm front s)) → (some r).bind (Sum.elim (fun rr => oA rr) (fun rr => some (rr.1, rr.2))) = some (if 1024 < (gS size hop frm front s).length then ([], 7) else (gS size hop frm front s, 0)) := by
              intro r hr
              subst hr
              by_cases hl : 1024 < (gS size hop frm front s).length
              · rw [if_pos hl, if_pos hl]; rfl
              · rw [if_neg hl, if_neg hl]; rfl
            unfold mL
            rw [aO (by omega), v1, v2]
            unfold qP
            by_cases hin : frm ≤ low / hop * hop ∧ s.From - size < low / hop * hop
            · have he : nI size hop frm s = low / hop * hop := by
                have u1 := f5 _ hm0 ⟨low / hop, rfl⟩ hin.2 hin.1
                omega
              rw [yM ok (by omega) (by omega) (by omega) (low / hop * hop) [] hm0 hin.1 hin.2 (by simp)]
              refine fin _ ?_
              simp only [List.length_nil, Nat.zero_add, List.nil_append]
              unfold gS
              rw [he]
            · have hnext : nI size hop frm s = low / hop * hop + hop := by
                have u1 := f5 (low / hop * hop + hop) (by omega) ⟨low / hop + 1, by rw [Int.add_mul]; omega⟩ (by omega) (by omega)
                have u2 : low / hop * hop < nI size hop frm s := by omega
                rw [f2] at u2 u1 ⊢
                have u3 : low / hop < q := by
                  rcases Int.lt_or_le (low / hop) q with h | h
                  · exact h
                  · have := Int.mul_le_mul_of_nonneg_right h (show 0 ≤ hop by omega); omega
                have u4 := Int.mul_le_mul_of_nonneg_right (show low / hop + 1 ≤ q by omega) (show 0 ≤ hop by omega)
                rw [Int.add_mul] at u4
                omega
              -- the first one is left out
              by_cases hlt : low / hop * hop < kB front s
              · have hb : kB front s ≤ 1125899906842624 := Int.min_le_right _ _
                have c1 : (((decide (low / hop * hop < front)) && (decide (low / hop * hop < s.To))) && (decide (low / hop * hop < (1125899906842624 : Int)))) = true := by
                  simp only [Bool.and_eq_true, decide_eq_true_eq]
                  unfold kB at hlt; omega
                have hE := HM (size := size) hm0 (by omega) (by have := ok.s0; omega) ok.s1
                have body : dX size hop frm front s [] (low / hop * hop) = some (.inl ([], low / hop * hop + hop)) := by
                  unfold dX
                  rw [c1, cond_true]
                  by_cases hfr : frm ≤ low / hop * hop
                  · rw [decide_eq_true hfr]
                    simp only [dG, cond_true, hE, Option.bind_some]
                    have : decide (s.From < min (low / hop * hop + size) 1125899906842624) = false := decide_eq_false (by omega)
                    rw [this]
                    simp only [Bool.and_false, cond_false, lF]
                    rw [v3]; rfl
                  · rw [decide_eq_false hfr]
                    simp only [dG, cond_false, Option.bind_some, Bool.false_and, lF]
                    rw [v3]; rfl
                rw [fJ (show (fun q : List Int × Int => dX size hop frm front s q.1 q.2) ([], low / hop * hop) = _ from body), yM ok (by omega) (by omega) (by omega) (low / hop * hop + hop) [] (by omega) (by omega) (by omega) (by simp)]
                refine fin _ ?_
                simp only [List.length_nil, Nat.zero_add, List.nil_append]
                unfold gS
                rw [hnext]
              · have hnil : gS size hop frm front s = [] := by
                  unfold gS
                  exact wN hhop (by omega)
                have body : dX size hop frm front s [] (low / hop * hop) = some (.inr (.inl [])) := by
                  unfold dX
                  have : (((decide (low / hop * hop < front)) && (decide (low / hop * hop < s.To))) && (decide (low / hop * hop < (1125899906842624 : Int)))) = false := by
                    rw [Bool.eq_false_iff]; intro hc
                    simp only [Bool.and_eq_true, decide_eq_true_eq] at hc
                    unfold kB at hlt; omega
                  rw [this]; rfl
                rw [cU (show (fun q : List Int × Int => dX size hop frm front s q.1 q.2) ([], low / hop * hop) = _ from body)]
                refine fin _ ?_
                rw [hnil]; rfl
          by_cases hlo : s.From - size < frm
          · rw [decide_eq_true hlo, cond_true]
            exact main frm (Int.le_refl _) (by omega) (.inl rfl) (by have := ok.f1; omega)
          · rw [decide_eq_false hlo, cond_false]
            exact main (s.From - size) (by omega) (Int.le_refl _) (.inr rfl) (by have := ok.s0; omega)

end Go.Abs
namespace Go.Abs
open Go
abbrev G1 := List aE × List aH

def nM (size t : Int) : Int := min (t + size) 1125899906842624

def JK (size t : Int) (gs : List G1) : List hY := gs.filterMap fun g => if 0 < lI g.2 t (nM size t) then some ⟨g.1, lI g.2 t (nM size t)⟩ else none

def oF (size hop frm front : Int) (gs : List G1) (m : List (Int × aR)) : Option (List (Int × aR)) := dF (fun m g => dF (kU size g) m (mF size hop frm front g.2)) m gs

def sR (size hop frm front : Int) (gs : List G1) : List Int := gs.flatMap fun g => mF size hop frm front g.2

def zH (size hop frm front : Int) (gs : List G1) : List Int := (sR size hop frm front gs).foldl (fun c t => mI t c) []

def sE (c : List Int) (ts : List Int) : List Int := ts.foldl (fun c t => mI t c) c

theorem xG (c : List Int) (t : Int) (ts : List Int) : sE c (t :: ts) = sE (mI t c) ts := rfl

theorem MS (c a b : List Int) : sE c (a ++ b) = sE (sE c a) b := List.foldl_append ..

theorem DE {last : Int} : ∀ {ts c : List Int}, Inc last c → (∀ t ∈ ts, last < t ∧ t < 1125899906842624) → Inc last (sE c ts)
  | [], c, h, _ => h
  | t :: ts, c, h, ht => by
    rw [xG]
    exact DE (BV h (ht t (by simp)).1 (ht t (by simp)).2) fun x hx => ht x (by simp [hx])

theorem LO {x : Int} : ∀ {ts c : List Int}, x ∈ sE c ts ↔ x ∈ ts ∨ x ∈ c
  | [], c => by simp [sE]
  | t :: ts, c => by
    rw [xG, LO, IE]
    simp only [List.mem_cons]
    constructor
    · rintro (h | h | h)
      · exact .inl (.inr h)
      · exact .inl (.inl h)
      · exact .inr h
    · rintro ((h | h) | h)
      · exact .inr (.inl h)
      · exact .inl h
      · exact .inr (.inr h)

theorem EH {t : Int} : ∀ {ps : List Int}, ps.length ≤ (mI t ps).length
  | [] => by simp [mI]
  | p :: r => by
    unfold mI
    split
    · exact Nat.le_refl _
    · split
      · simp
      · simp only [List.length_cons]
        have := EH (t := t) (ps := r)
        omega

theorem AR : ∀ {ts c : List Int}, c.length ≤ (sE c ts).length
  | [], c => Nat.le_refl _
  | t :: ts, c => by
    rw [xG]
    exact Nat.le_trans EH AR

theorem FV {size : Int} {g : G1} {last : Int} : ∀ {ts : List Int} {m : List (Int × aR)} {c : List Int}, Inc last c → (∀ t ∈ ts, last < t ∧ t < 1125899906842624) → (m.map (·.1)).Perm c → m.length ≤ 1024 →
    (∀ m', dF (kU size g) m ts = some m' → (m'.map (·.1)).Perm (sE c ts) ∧ m'.length ≤ 1024) ∧ (dF (kU size g) m ts = none → 1024 < (sE c ts).length)
  | [], m, c, _, _, hp, hl => ⟨fun m' h => by simp only [dF, Option.some.injEq] at h; subst h; exact ⟨hp, hl⟩, fun h => by simp [dF] at h⟩
  | t :: ts, m, c, hi, ht, hp, hl => by
    have ht0 := ht t (by simp)
    have hi' := BV hi ht0.1 ht0.2
    have rec1 := fun (m1 : List (Int × aR)) => FV (size := size) (g := g) (last := last) (ts := ts) (m := m1) (c := mI t c) hi' (fun x hx => ht x (by simp [hx]))
    simp only [dF, xG]
    cases hg : fA m t with
    | none =>
      have hk : t ∉ m.map (·.1) := BH.1 hg
      have hk' : t ∉ c := fun h => hk (hp.mem_iff.2 h)
      have hw := EU hk'
      by_cases hf : m.length = 1024
      · have e : kU size g m t = none := by unfold kU; rw [hg]; simp [hf]
        rw [e]
        refine ⟨fun m' h => (by simp at h), fun _ => ?_⟩
        have h1 := hw.length_eq
        have h2 := hp.length_eq
        have h3 := AR (ts := ts) (c := mI t c)
        simp only [List.length_map, List.length_cons] at h1 h2
        omega
      · have e : kU size g m t = some (gE m t (iP g (mkW size t))) := by unfold kU; rw [hg]; simp [hf]
        rw [e]
        have hp' : ((gE m t (iP g (mkW size t))).map (·.1)).Perm (mI t c) := by
          rw [HY hk]
          exact (List.perm_append_comm.trans (List.Perm.cons _ hp)).trans hw.symm
        refine rec1 _ hp' ?_
        have h1 := congrArg List.length (HY (v := iP g (mkW size t)) hk)
        simp only [List.length_map, List.length_append, List.length_cons, List.length_nil] at h1
        omega
    | some p =>
      have e : kU size g m t = some (gE m t (iP g p)) := by unfold kU; rw [hg]
      rw [e]
      have hk : t ∈ m.map (·.1) := by
        refine Decidable.byContradiction fun h => ?_
        rw [BH.2 h] at hg; cases hg
      have hw : mI t c = c := GF hi (hp.mem_iff.1 hk)
      have hk2 := IT (v := iP g p) hk
      refine rec1 _ (by rw [hk2, hw]; exact hp) ?_
      have h1 := congrArg List.length hk2
      simp only [List.length_map] at h1
      omega

theorem wH {size hop frm front : Int} (ok : OkH size hop frm front) (f : List aH) : ∀ t ∈ mF size hop frm front f, -1 < t ∧ t < 1125899906842624 := by
  intro t ht
  obtain ⟨s, _, hs⟩ := List.mem_flatMap.1 ht
  have := AA ok s t hs
  omega

theorem FA {size hop frm front : Int} (ok : OkH size hop frm front) : ∀ {gs : List G1} {m : List (Int × aR)} {c : List Int}, Inc (-1) c → (m.map (·.1)).Perm c → m.length ≤ 1024 →
    (∀ m', oF size hop frm front gs m = some m' → (m'.map (·.1)).Perm (sE c (sR size hop frm front gs)) ∧ m'.length ≤ 1024) ∧ (oF size hop frm front gs m = none → 1024 < (sE c (sR size hop frm front gs)).length)
  | [], m, c, _, hp, hl => ⟨fun m' h => by simp only [oF, dF, Option.some.injEq] at h; subst h; exact ⟨hp, hl⟩, fun h => by simp [oF, dF] at h⟩
  | g :: gs, m, c, hi, hp, hl => by
    obtain ⟨k1, k2⟩ := FV (size := size) (g := g) hi (wH ok g.2) hp hl
    have e : sR size hop frm front (g :: gs) = mF size hop frm front g.2 ++ sR size hop frm front gs := rfl
    rw [e, MS]
    simp only [oF, dF]
    cases hs : dF (kU size g) m (mF size hop frm front g.2) with
    | none =>
      refine ⟨fun m' h => (by simp at h), fun _ => ?_⟩
      have := k2 hs
      have := AR (ts := sR size hop frm front gs) (c := sE c (mF size hop frm front g.2))
      omega
    | some m1 =>
      obtain ⟨p1, p2⟩ := k1 m1 hs
      exact FA ok (gs := gs) (m := m1) (DE hi (wH ok g.2)) p1 p2

theorem HT {size : Int} {g : G1} (x : Int) : ∀ {ts : List Int} {m m' : List (Int × aR)}, dF (kU size g) m ts = some m' → fA m' x = if x ∈ ts then some (iP g ((fA m x).getD (mkW size x))) else fA m x
  | [], m, m', h => by simp only [dF, Option.some.injEq] at h; subst h; simp
  | t :: ts, m, m', h => by
    simp only [dF] at h
    obtain ⟨m1, h1, h2⟩ := aT h
    have e : ∃ p, m1 = gE m t (iP g p) ∧ p = (fA m t).getD (mkW size t) := by
      unfold kU at h1
      cases hg : fA m t with
      | none =>
        rw [hg] at h1
        simp only at h1
        split at h1
        · cases h1
        · cases h1; exact ⟨_, rfl, rfl⟩
      | some p => rw [hg] at h1; cases h1; exact ⟨_, rfl, rfl⟩
    obtain ⟨p, rfl, rfl⟩ := e
    rw [HT x h2, BA]
    by_cases hx : x = t
    · subst hx
      simp only [if_true, List.mem_cons, true_or, Option.getD_some, KV, ite_self]
    · simp only [hx, if_false, List.mem_cons, false_or]

def tQ (size hop frm front x : Int) (o : Option aR) (gs : List G1) : Option aR :=
  gs.foldl (fun o g => if x ∈ mF size hop frm front g.2 then some (iP g (o.getD (mkW size x))) else o) o

theorem IK {size hop frm front : Int} (x : Int) : ∀ {gs : List G1} {m m' : List (Int × aR)}, oF size hop frm front gs m = some m' → fA m' x = tQ size hop frm front x (fA m x) gs
  | [], m, m', h => by simp only [oF, dF, Option.some.injEq] at h; subst h; rfl
  | g :: gs, m, m', h => by
    simp only [oF, dF] at h
    obtain ⟨m1, h1, h2⟩ := aT h
    have := IK x (gs := gs) h2
    rw [this, HT x h1]
    rfl

def qN (size hop frm front x : Int) (gs : List G1) : List hY := gs.filterMap fun g => if x ∈ mF size hop frm front g.2 then some ⟨g.1, lI g.2 x (nM size x)⟩ else none

theorem zM {size hop frm front x : Int} : ∀ {gs : List G1} {rs : List hY}, AZ gs → rs ≠ [] → (∀ g ∈ gs, (pG rs).Row ≠ g.1) → tQ size hop frm front x (some ⟨⟨x, nM size x⟩, rs⟩) gs = some ⟨⟨x, nM size x⟩, rs ++ qN size hop frm front x gs⟩
  | [], rs, _, _, _ => by simp [tQ, qN]
  | g :: gs, rs, hs, hn, hl => by
    have hs' := List.pairwise_cons.1 hs
    have hg := hl g (by simp)
    simp only [tQ, List.foldl_cons, Option.getD_some]
    by_cases hx : x ∈ mF size hop frm front g.2
    · rw [if_pos hx]
      have e : iP g ⟨⟨x, nM size x⟩, rs⟩ = ⟨⟨x, nM size x⟩, rs ++ [⟨g.1, lI g.2 x (nM size x)⟩]⟩ := by
        unfold iP
        rw [if_pos (.inr hg)]
      rw [e]
      have := zM (size := size) (hop := hop) (frm := frm) (front := front) (x := x) (gs := gs) (rs := rs ++ [⟨g.1, lI g.2 x (nM size x)⟩]) hs'.2 (by simp) (fun q hq => by
        rw [tU]
        intro h
        have := hs'.1 q hq
        unfold ltG at this
        rw [show g.1 = q.1 from h] at this
        exact yY this)
      unfold tQ at this
      rw [this]
      simp [qN, hx]
    · rw [if_neg hx]
      have := zM (size := size) (hop := hop) (frm := frm) (front := front) (x := x) (gs := gs) (rs := rs) hs'.2 hn (fun q hq => hl q (by simp [hq]))
      unfold tQ at this
      rw [this]
      simp [qN, hx]

theorem FJ {size hop frm front x : Int} : ∀ {gs : List G1}, AZ gs → tQ size hop frm front x none gs = if qN size hop frm front x gs = [] then none else some ⟨⟨x, nM size x⟩, qN size hop frm front x gs⟩
  | [], _ => by simp [tQ, qN]
  | g :: gs, hs => by
    have hs' := List.pairwise_cons.1 hs
    simp only [tQ, List.foldl_cons, Option.getD_none]
    by_cases hx : x ∈ mF size hop frm front g.2
    · rw [if_pos hx]
      have e : iP g (mkW size x) = ⟨⟨x, nM size x⟩, [⟨g.1, lI g.2 x (nM size x)⟩]⟩ := by
        unfold iP mkW
        rw [if_pos (.inl rfl)]; rfl
      rw [e]
      have := zM (size := size) (hop := hop) (frm := frm) (front := front) (x := x) (gs := gs) (rs := [⟨g.1, lI g.2 x (nM size x)⟩]) hs'.2 (by simp) (fun q hq h => by
        have h1 := hs'.1 q hq
        unfold ltG at h1
        have h2 : g.1 = q.1 := h
        rw [h2] at h1
        exact yY h1)
      unfold tQ at this
      rw [this]
      simp [qN, hx]
    · rw [if_neg hx]
      have := FJ (size := size) (hop := hop) (frm := frm) (front := front) (x := x) (gs := gs) hs'.2
      unfold tQ at this
      rw [this]
      have e : qN size hop frm front x (g :: gs) = qN size hop frm front x gs := by simp [qN, hx]
      rw [e]

theorem EC {size hop frm front : Int} (ok : OkH size hop frm front) {f : List aH} (hf : jU f = true) (hv : ∀ t, 0 ≤ val f t) {x : Int} : x ∈ mF size hop frm front f ↔ (0 ≤ x ∧ (∃ k : Int, x = k * hop) ∧ frm ≤ x ∧ x < front ∧ x < 1125899906842624) ∧ 0 < lI f x (nM size x) := by
  have hs0 := ok.s0
  unfold mF
  rw [List.mem_flatMap]
  constructor
  · rintro ⟨s, h1, h2⟩
    obtain ⟨a1, a2, a3, a4, a5, a6, a7⟩ := (DA ok).1 h2
    have hsp := CY hf s h1
    refine ⟨⟨a1, a2, a3, a4, a5⟩, (DC hf hv (by unfold nM; omega)).2 ⟨max x s.From, by omega, by unfold nM; omega, ?_⟩⟩
    exact (EM hf hv (by omega)).1 ⟨s, h1, by omega, by omega⟩
  · rintro ⟨⟨a1, a2, a3, a4, a5⟩, h⟩
    obtain ⟨y, y1, y2, y3⟩ := (DC hf hv (by unfold nM; omega)).1 h
    unfold nM at y2
    obtain ⟨s, h1, h2, h3⟩ := (EM hf hv (by omega)).2 y3
    exact ⟨s, h1, (DA ok).2 ⟨a1, a2, a3, a4, a5, by omega, by omega⟩⟩

theorem filterMap_eq {α β : Type} {f h : α → Option β} : ∀ {l : List α}, (∀ a ∈ l, f a = h a) → l.filterMap f = l.filterMap h
  | [], _ => rfl
  | a :: l, H => by
    rw [List.filterMap_cons, List.filterMap_cons, H a (by simp), filterMap_eq fun b hb => H b (by simp [hb])]

theorem RI {size hop frm front x : Int} (ok : OkH size hop frm front) (hx : 0 ≤ x ∧ (∃ k : Int, x = k * hop) ∧ frm ≤ x ∧ x < front ∧ x < 1125899906842624) {gs : List G1} (hg : ∀ g ∈ gs, jU g.2 = true ∧ ∀ t, 0 ≤ val g.2 t) : qN size hop frm front x gs = JK size x gs := by
  unfold qN JK
  refine filterMap_eq fun g h => ?_
  have := EC ok (hg g h).1 (hg g h).2 (x := x)
  by_cases hb : 0 < lI g.2 x (nM size x)
  · rw [if_pos (this.2 ⟨hx, hb⟩), if_pos hb]
  · rw [if_neg (fun q => hb (this.1 q).2), if_neg hb]

def ZZ (size hop frm front : Int) (gs : List G1) : List aR := (zH size hop frm front gs).map fun t => ⟨⟨t, nM size t⟩, JK size t gs⟩

theorem VW {size hop frm front x : Int} {gs : List G1} : x ∈ zH size hop frm front gs ↔ ∃ g ∈ gs, x ∈ mF size hop frm front g.2 := by
  have : zH size hop frm front gs = sE [] (sR size hop frm front gs) := rfl
  rw [this, LO]
  simp [sR, List.mem_flatMap]

theorem VV {size hop frm front : Int} (ok : OkH size hop frm front) (gs : List G1) : Inc (-1) (zH size hop frm front gs) := by
  refine DE (ts := sR size hop frm front gs) (c := []) trivial fun t ht => ?_
  obtain ⟨g, _, h⟩ := List.mem_flatMap.1 ht
  exact wH ok g.2 t h

theorem VT {size hop frm front : Int} (ok : OkH size hop frm front) {gs : List G1} (hs : AZ gs) (hg : ∀ g ∈ gs, jU g.2 = true ∧ ∀ t, 0 ≤ val g.2 t) :
    (∀ m', oF size hop frm front gs [] = some m' → (zH size hop frm front gs).length ≤ 1024 ∧ (m'.map (·.1)).Perm (zH size hop frm front gs) ∧ ∀ x ∈ zH size hop frm front gs, fA m' x = some ⟨⟨x, nM size x⟩, JK size x gs⟩) ∧
    (oF size hop frm front gs [] = none → 1024 < (zH size hop frm front gs).length) := by
  obtain ⟨k1, k2⟩ := FA ok (gs := gs) (m := []) (c := []) trivial (List.Perm.refl _) (by simp)
  refine ⟨fun m' h => ?_, k2⟩
  obtain ⟨p1, p2⟩ := k1 m' h
  refine ⟨?_, p1, fun x hx => ?_⟩
  · have := p1.length_eq
    simp only [List.length_map] at this
    show (sE [] (sR size hop frm front gs)).length ≤ 1024
    omega
  · rw [IK x h]
    obtain ⟨g, hgm, hxg⟩ := VW.1 hx
    have hxx := (EC ok (hg g hgm).1 (hg g hgm).2).1 hxg
    have e : fA ([] : List (Int × aR)) x = none := rfl
    rw [e, FJ hs, ← RI ok hxx.1 hg, if_neg]
    intro hc
    have : (⟨g.1, lI g.2 x (nM size x)⟩ : hY) ∈ qN size hop frm front x gs := List.mem_filterMap.2 ⟨g, hgm, by rw [if_pos hxg]⟩
    rw [hc] at this
    simp at this

end Go.Abs
namespace Go.Abs
open Go
def GX (l : List bH) (size hop frm front : Int) : List aR × Int :=
  if !(tD size hop && xV l) then ([], 2) else if !yE l then ([], 20) else if !(lK frm && lK front) then ([], 13)
  else if 1024 < (zH size hop frm front (groups l)).length then ([], 7) else (ZZ size hop frm front (groups l), 0)

def aAh (n : Nat) (m : List (Int × aR)) : Prop := ∀ t p, fA m t = some p → p.Rows.length ≤ n ∧ (p.Rows ≠ [] → (pG p.Rows).Row.length ≤ 4398046510976)

theorem FX {size hop frm front : Int} (ok : OkH size hop frm front) (a : List aR) (b : Int) : ∀ (gs : List G1) (n : Nat) (m : List (Int × aR)), (∀ g ∈ gs, jU g.2 = true ∧ g.1.length ≤ 4398046510976) → n + gs.length ≤ 900000 → aAh n m →
    ∃ x, itG (fun st r f => rnd (fun (q : List aR × Int × List (Int × aR)) => lH size hop frm front q.1 q.2.1 q.2.2 r f) st) gs (.inl (a, b, m)) = some x ∧ (∀ m', oF size hop frm front gs m = some m' → x = .inl (a, b, m')) ∧ (oF size hop frm front gs m = none → ∃ q, x = .inr ([], 7, q))
  | [], n, m, _, _, _ => ⟨_, rfl, fun m' h => by simp only [oF, dF, Option.some.injEq] at h; subst h; rfl, fun h => by simp [oF, dF] at h⟩
  | g :: gs, n, m, hg, hn, hm => by
    obtain ⟨h1, h2⟩ := hg g (by simp)
    simp only [List.length_cons] at hn
    obtain ⟨y, e1, e2, e3⟩ := TQ ok (g := g) h1 h2 (n := n) (by omega) (m := m) (fun t p h => ⟨.inl (hm t p h).1, (hm t p h).2⟩)
    simp only [itG, oF, dF]
    cases hs : dF (kU size g) m (mF size hop frm front g.2) with
    | none =>
      have e4 := e3 hs
      refine ⟨.inr ([], 7, y.2), ?_, fun m' h => (by simp at h), fun _ => ⟨_, rfl⟩⟩
      have hb : lH size hop frm front a b m g.1 g.2 = some (.inr ([], 7, y.2)) := by
        unfold lH
        rw [e1, Option.bind_some, e4]; rfl
      simp only [rnd, hb, Option.bind_some, Sum.isLeft_inr, Bool.false_eq_true, if_false]
    | some m1 =>
      obtain ⟨rfl, hf⟩ := e2 m1 hs
      have hm1 : aAh (n + 1) m1 := fun t p h => by
        obtain ⟨q1, q2⟩ := hf t p h
        refine ⟨?_, q2⟩
        rcases q1 with q | ⟨_, _, q⟩ <;> omega
      obtain ⟨x, f1, f2, f3⟩ := FX ok a b gs (n + 1) m1 (fun q hq => hg q (by simp [hq])) (by omega) hm1
      refine ⟨x, ?_, f2, f3⟩
      have hb : lH size hop frm front a b m g.1 g.2 = some (.inl (a, b, m1)) := by
        unfold lH
        rw [e1, Option.bind_some]; rfl
      simp only [rnd, hb, Option.bind_some, Sum.isLeft_inl, if_true]
      exact f1

theorem GA : ∀ (q s : List Int), s.length + q.length ≤ 100000 → dF oW s q = some (s ++ q)
  | [], s, _ => by simp [dF]
  | t :: q, s, h => by
    simp only [List.length_cons] at h
    have e : oW s t = some (s ++ [t]) := by
      unfold oW
      rw [aO (by simp only [List.length_cons, List.length_nil]; omega)]
    simp only [dF, e, Option.bind_some]
    rw [GA q (s ++ [t]) (by simp; omega)]
    simp

theorem aAr {m : List (Int × aR)} {B : List Int} {mk : Int → aR} (hp : (m.map (·.1)).Perm B) (hs : B.Pairwise (· ≤ ·)) (hl : B.length ≤ 1024) (hg : ∀ x ∈ B, fA m x = some (mk x)) : rG m = some (B.map mk, 0) := by
  have hml : m.length = B.length := by simpa using hp.length_eq
  unfold rG
  rw [aO (by simp only [lN]; omega)]
  refine HV fun q hq => ?_
  have hqB : q.Perm B := hq.trans hp
  have hql := hqB.length_eq
  rw [GA q [] (by simp only [List.length_nil]; omega), Option.bind_some, List.nil_append]
  unfold wM
  rw [YE (by omega) hqB.symm hs, Option.bind_some, aO (by simp only [lN]; omega)]
  have key := CA (l := B) (body := fun s : List aR × Int => oQ m B (lN B) s.1 s.2) (fun (s : List aR) i => (s, i)) (fun s r => s ++ r.map mk)
    (fun s r => s.length + r.length ≤ 100000 ∧ ∀ x ∈ r, x ∈ B) [] ?_ ?_ ⟨by simp only [List.length_nil]; omega, fun x hx => hx⟩
  · rw [key]
    simp
  · rintro i x r s hx ⟨h1, h2⟩
    left
    simp only [List.length_cons] at h1
    obtain ⟨d1, d2, d3, d4⟩ := idx hx (by omega)
    refine ⟨s ++ [mk x], ?_, ⟨by simp; omega, fun y hy => h2 y (by simp [hy])⟩, by simp⟩
    simp only [oQ, lN, gD, wR, d1, cond_true, aO d2, d3, d4, hg x (h2 x (by simp))]
    rw [aO (by simp only [List.length_cons, List.length_nil]; omega)]
  · rintro s _
    simp only [oQ, lN, nN, cond_false]
    simp

theorem MX {l : List bH} (hl : okL l) (size hop frm front : Int) : sM l size hop frm front = some (GX l size hop frm front) := by
  unfold sM GX
  simp only [oX, mA, Option.bind_some]
  rw [show ((((decide ((1 : Int) ≤ size)) && (decide (size ≤ (1099511627776 : Int)))) && (decide ((1 : Int) ≤ hop))) && (decide (hop ≤ (1099511627776 : Int)))) = tD size hop from rfl, show ((decide ((0 : Int) ≤ frm)) && (decide (frm ≤ (1125899906842624 : Int)))) = lK frm from rfl, show ((decide ((0 : Int) ≤ front)) && (decide (front ≤ (1125899906842624 : Int)))) = lK front from rfl]
  rw [OC hl, SN hl]
  cases hm : tD size hop with
  | false => rfl
  | true =>
    cases he : xV l with
    | false => rfl
    | true =>
      simp only [Bool.not_true, Bool.not_false, dG, cond_true, Option.bind_some, Bool.or_self, cond_false, Bool.and_self, Bool.false_eq_true, if_false]
      cases ht : yE l with
      | false => rfl
      | true =>
        simp only [Bool.not_true, cond_false, Bool.false_eq_true, if_false]
        cases h1 : lK frm with
        | false => rfl
        | true =>
          cases h2 : lK front with
          | false => rfl
          | true =>
            simp only [Bool.not_true, Bool.not_false, cond_true, Option.bind_some, Bool.or_self, cond_false, Bool.and_self, Bool.false_eq_true, if_false]
            have ok := QN hm h1 h2
            obtain ⟨e1, e2, e3⟩ := OU he
            have hn := PB l
            have hv : ∀ g ∈ groups l, jU g.2 = true ∧ ∀ t, 0 ≤ val g.2 t := fun g hg => by
              refine ⟨(e2 g hg).2, fun t => ?_⟩
              have := (PL.1 ht).2 g.1 t
              rwa [← yZ e3, KE e3 hg] at this
            have hrow : ∀ g ∈ groups l, jU g.2 = true ∧ g.1.length ≤ 4398046510976 := fun g hg => ⟨(e2 g hg).2, SG hl hg⟩
            unfold wL
            simp only [sZ, Option.bind_some]
            obtain ⟨x, f1, f2, f3⟩ := FX ok [] 0 (groups l) 0 [] hrow (by omega) (fun t p h => by simp [fA] at h)
            rw [QH hl (s' := x) (by rw [he]; exact f1), Option.bind_some]
            obtain ⟨k1, k2⟩ := VT ok e3 hv
            cases hs : oF size hop frm front (groups l) [] with
            | none =>
              obtain ⟨q, rfl⟩ := f3 hs
              rw [if_pos (k2 hs)]; rfl
            | some m1 =>
              obtain rfl := f2 m1 hs
              obtain ⟨p1, p2, p3⟩ := k1 m1 hs
              rw [if_neg (by omega)]
              simp only [Sum.elim_inl]
              exact aAr p2 (YS (VV ok _)) p1 p3

end Go.Abs
namespace Go.Abs
open Go
def l28 : List bH := [⟨[FW], 3, 1⟩, ⟨[FW], 7, -1⟩]

theorem ZN : okL l28 := ⟨by decide, by decide⟩

theorem aAj : QS 10 5 12 = (5, 0) := by decide +kernel

theorem VS : qX 10 5 ⟨3, 7⟩ 0 100 = ([0, 5], 0) := by decide +kernel

theorem YY : GX l28 10 5 0 100 = ([⟨⟨0, 10⟩, [⟨[FW], 1⟩]⟩, ⟨⟨5, 15⟩, [⟨[FW], 1⟩]⟩], 0) := by decide +kernel

theorem UG : rE = some true := by
  unfold rE
  have h1 := MX ZN 10 5 0 100
  rw [YY] at h1
  simp only [l28, FW] at h1
  rw [XS, aAj, Option.bind_some, HS, VS, Option.bind_some, h1, Option.bind_some, aO (fun _ => by decide), aO (fun _ => by decide), aO (fun _ => by decide)]
  rfl

end Go.Abs
namespace Go.Abs
open Go
theorem RC {a : List Int} (hl : a.length ≤ 1000000) : pX a a = some true := by
  unfold pX sD
  rw [RL rfl, cond_false]
  rw [ZJ (l := a) (body := fun s => nD a a s) (fun i => i) (fun _ => false) (.inr false) (.inl ()) ?_ ?_]
  · simp [oU]
  · intro i x hx
    obtain ⟨d1, d2, d3, d4⟩ := idx hx (by omega)
    simp only [nD, d1, cond_true, aO d2, d3, d4, decide_true, Bool.not_true, cond_false]
    rfl
  · simp only [nD, nN, cond_false]

theorem MP (size hop : Int) (s : aX) (frm front : Int) : (qX size hop s frm front).1.length ≤ 1024 := by
  unfold qX
  split
  · simp
  · split
    · simp
    · split
      · simp
      · split
        · simp
        · simp only; omega

theorem GV (a0 : Int) (w0 : xU a0) (a1 : Int) (w1 : xU a1) (l2 : aX) (m2 : uO l2) (a3 : Int) (w3 : xU a3) (a4 : Int) (w4 : xU a4) : oD a0 a1 l2 a3 a4 = some true := by
  unfold oD
  have := MP a0 a1 l2 a3 a4
  rw [HS, KO, UG]
  simp only [Option.bind_some, decide_true, Bool.and_self, dG, cond_true, RC (show (qX a0 a1 l2 a3 a4).1.length ≤ 1000000 by omega)]

end Go.Abs
