/- What the law HopParts stands on: the framework, the given functions as plain functions, their walks, and the plain laws; part 6. -/
import Derived.Test.YteecjdpicjpnfaaHopPartsZ5
set_option linter.unusedSimpArgs false
set_option linter.unusedVariables false
namespace Go.Abs
open Go
theorem med {a b c : Nat} {d : List Int} (s : Int) (ha : a < d.length) (hb : b < d.length) (hc : c < d.length) : ∃ (p : Nat) (s' : Int), iT d (a : Int) (b : Int) (c : Int) s = some ((p : Int), s') ∧ (p = a ∨ p = b ∨ p = c) := by
  unfold iT
  obtain ⟨p1, q1, s1, e1, h1⟩ := aCb s ha hb
  obtain ⟨p2, q2, s2, e2, h2⟩ := aCb (a := q1) (b := c) (d := d) s1 (by omega) hc
  obtain ⟨p3, q3, s3, e3, h3⟩ := aCb (a := p1) (b := p2) (d := d) s2 (by omega) (by omega)
  rw [e1]; simp only [Option.bind_some]
  rw [e2]; simp only [Option.bind_some]
  rw [e3]
  exact ⟨q3, s3, rfl, by omega⟩

theorem aB7 {a : Nat} {d : List Int} (s : Int) (h1 : 1 ≤ a) (ha : a + 1 < d.length) (hl : d.length < 2305843009213693951) : ∃ (p : Nat) (s' : Int), eF d (a : Int) s = some ((p : Int), s') ∧ a - 1 ≤ p ∧ p ≤ a + 1 := by
  unfold eF
  rw [wrN (x := (a : Int) - 1) (n := a - 1) (by omega) (by omega), wrN (x := (a : Int) + 1) (n := a + 1) (by omega) (by omega)]
  obtain ⟨p, s', e, h⟩ := med (a := a - 1) (b := a) (c := a + 1) (d := d) s (by omega) (by omega) (by omega)
  rw [e]
  exact ⟨p, s', rfl, by omega, by omega⟩

theorem aCy (d : List Int) (s : Int) (j : Int) : ∃ h, fS d s j = some (j, h) := by
  unfold fS
  cases decide (s = 0) <;> cases decide (s = 12) <;> exact ⟨_, rfl⟩

theorem ZO {lo hi : Nat} {d : List Int} (h8 : 12 < hi - lo) (h1 : hi ≤ d.length) (h2 : d.length < 2305843009213693951) : ∃ (p : Nat) (h : Int), iM d (lo : Int) (hi : Int) = some ((p : Int), h) ∧ lo ≤ p ∧ p < hi := by
  unfold iM
  have e1 : IntKind.i64.wrap ((hi : Int) - (lo : Int)) = ((hi - lo : Nat) : Int) := wrN (by omega) (by omega)
  have t4 : IntKind.i64.wrap (Int.tdiv ((hi - lo : Nat) : Int) 4) = (((hi - lo) / 4 : Nat) : Int) := by
    have : Int.tdiv ((hi - lo : Nat) : Int) 4 = (((hi - lo) / 4 : Nat) : Int) := by rw [Int.tdiv_eq_ediv_of_nonneg (by omega)]; omega
    rw [this]; exact wrN rfl (by omega)
  have d1 : decide ((8 : Int) ≤ ((hi - lo : Nat) : Int)) = true := by simp; omega
  have q1 : IntKind.i64.wrap ((lo : Int) + IntKind.i64.wrap ((((hi - lo) / 4 : Nat) : Int) * 1)) = ((lo + (hi - lo) / 4 : Nat) : Int) := by
    rw [wrN (x := (((hi - lo) / 4 : Nat) : Int) * 1) (n := (hi - lo) / 4) (by omega) (by omega)]; exact wrN (by omega) (by omega)
  have q2 : IntKind.i64.wrap ((lo : Int) + IntKind.i64.wrap ((((hi - lo) / 4 : Nat) : Int) * 2)) = ((lo + (hi - lo) / 4 * 2 : Nat) : Int) := by
    rw [wrN (x := (((hi - lo) / 4 : Nat) : Int) * 2) (n := (hi - lo) / 4 * 2) (by omega) (by omega)]; exact wrN (by omega) (by omega)
  have q3 : IntKind.i64.wrap ((lo : Int) + IntKind.i64.wrap ((((hi - lo) / 4 : Nat) : Int) * 3)) = ((lo + (hi - lo) / 4 * 3 : Nat) : Int) := by
    rw [wrN (x := (((hi - lo) / 4 : Nat) : Int) * 3) (n := (hi - lo) / 4 * 3) (by omega) (by omega)]; exact wrN (by omega) (by omega)
  rw [aM (by decide), aM (by decide), aM (by decide)]
  simp only [e1, t4, d1, q1, q2, q3, cond_true]
  by_cases h50 : (50 : Int) ≤ ((hi - lo : Nat) : Int)
  · simp only [h50, decide_true, cond_true]
    obtain ⟨p1, s1, f1, g1, g2⟩ := aB7 (a := lo + (hi - lo) / 4) (d := d) 0 (by omega) (by omega) h2
    obtain ⟨p2, s2, f2, g3, g4⟩ := aB7 (a := lo + (hi - lo) / 4 * 2) (d := d) s1 (by omega) (by omega) h2
    obtain ⟨p3, s3, f3, g5, g6⟩ := aB7 (a := lo + (hi - lo) / 4 * 3) (d := d) s2 (by omega) (by omega) h2
    obtain ⟨p4, s4, f4, g7⟩ := med (a := p1) (b := p2) (c := p3) (d := d) s3 (by omega) (by omega) (by omega)
    obtain ⟨h, f5⟩ := aCy d s4 p4
    rw [f1]; simp only [Option.bind_some]
    rw [f2]; simp only [Option.bind_some]
    rw [f3]; simp only [Option.bind_some, fU]
    rw [f4]; simp only [Option.bind_some]
    exact ⟨p4, h, f5, by omega, by omega⟩
  · simp only [h50, decide_false, cond_false, fU]
    obtain ⟨p4, s4, f4, g7⟩ := med (a := lo + (hi - lo) / 4) (b := lo + (hi - lo) / 4 * 2) (c := lo + (hi - lo) / 4 * 3) (d := d) 0 (by omega) (by omega) (by omega)
    obtain ⟨h, f5⟩ := aCy d s4 p4
    rw [f4]; simp only [Option.bind_some]
    exact ⟨p4, h, f5, by omega, by omega⟩

end Go.Abs
namespace Go.Abs
open Go
theorem OW {body : List Int × Int → Option ((List Int × Int) ⊕ (List Int × Int))} {d : List Int} {p : Nat → Prop} [DecidablePred p] {j : Nat}
    (hs : ∀ i, i ≤ j + 1 → body (d, (i : Int)) = if i ≤ j ∧ p i then some (.inl (d, ((i + 1 : Nat) : Int))) else some (.inr (d, (i : Int)))) :
    ∀ (n i : Nat), j + 1 - i = n → i ≤ j + 1 → ∃ i' : Nat, lp body (d, (i : Int)) = some (d, (i' : Int)) ∧ i ≤ i' ∧ i' ≤ j + 1 ∧ (∀ k, i ≤ k → k < i' → p k) ∧ (i' ≤ j → ¬ p i') := by
  intro n
  induction n with
  | zero =>
    intro i h1 h2
    have := hs i h2
    rw [if_neg (by omega)] at this
    exact ⟨i, cU this, Nat.le_refl _, h2, fun k a b => by omega, fun h => by omega⟩
  | succ n ih =>
    intro i h1 h2
    have h := hs i h2
    by_cases hp : p i
    · rw [if_pos ⟨by omega, hp⟩] at h
      obtain ⟨i', e, a1, a2, a3, a4⟩ := ih (i + 1) (by omega) (by omega)
      refine ⟨i', (eX h).trans e, by omega, a2, fun k b1 b2 => ?_, a4⟩
      by_cases hk : k = i
      · rw [hk]; exact hp
      · exact a3 k (by omega) b2
    · rw [if_neg fun hh => hp hh.2] at h
      exact ⟨i, cU h, Nat.le_refl _, h2, fun k a b => by omega, fun _ => hp⟩

theorem HQ {body : List Int × Int → Option ((List Int × Int) ⊕ (List Int × Int))} {d : List Int} {p : Nat → Prop} [DecidablePred p] {i m : Nat} (hi : 1 ≤ i)
    (hs : ∀ j, j ≤ m → body (d, (j : Int)) = if i ≤ j ∧ p j then some (.inl (d, ((j - 1 : Nat) : Int))) else some (.inr (d, (j : Int)))) :
    ∀ (j : Nat), j ≤ m → i ≤ j + 1 → ∃ j' : Nat, lp body (d, (j : Int)) = some (d, (j' : Int)) ∧ i ≤ j' + 1 ∧ j' ≤ j ∧ (∀ k, j' < k → k ≤ j → p k) ∧ (i ≤ j' → ¬ p j') := by
  intro j
  induction j with
  | zero =>
    intro h1 h2
    have := hs 0 h1
    rw [if_neg (by omega)] at this
    exact ⟨0, cU this, by omega, Nat.le_refl _, fun k a b => by omega, fun h => by omega⟩
  | succ j ih =>
    intro h1 h2
    have h := hs (j + 1) h1
    by_cases hp : i ≤ j + 1 ∧ p (j + 1)
    · rw [if_pos hp] at h
      obtain ⟨j', e, a1, a2, a3, a4⟩ := ih (by omega) (by omega)
      refine ⟨j', (eX h).trans e, a1, by omega, fun k b1 b2 => ?_, a4⟩
      by_cases hk : k = j + 1
      · rw [hk]; exact hp.2
      · exact a3 k b1 (by omega)
    · rw [if_neg hp] at h
      exact ⟨j + 1, cU h, by omega, Nat.le_refl _, fun k a b => by omega, fun h1 h2 => hp ⟨h1, h2⟩⟩

theorem YJ {α : Type} {i j u v : Nat} {d : List Int} {n : Bool} {x y : Option α} (hu : i ≤ j → u < d.length) (hv : i ≤ j → v < d.length) :
    (bF ((decide ((i : Int) ≤ (j : Int))) = true → 0 ≤ (u : Int) ∧ (u : Int) < ((List.length d : Nat) : Int)) <|
    bF ((decide ((i : Int) ≤ (j : Int))) = true → 0 ≤ (v : Int) ∧ (v : Int) < ((List.length d : Nat) : Int)) <|
    (cT (decide ((i : Int) ≤ (j : Int))) (dU (List.getD d (Int.toNat (u : Int)) default) (List.getD d (Int.toNat (v : Int)) default))).bind fun z =>
    cond ((decide ((i : Int) ≤ (j : Int))) && (Bool.xor n z)) x y) = if i ≤ j ∧ (Bool.xor n (decide (gN d u < gN d v))) = true then x else y := by
  by_cases h : i ≤ j
  · have hd : decide ((i : Int) ≤ (j : Int)) = true := by simp; omega
    rw [hd]
    rw [aM fun _ => asN (hu h), aM fun _ => asN (hv h)]
    simp only [cT, cond_true, sV, Option.bind_some, Bool.true_and, Int.toNat_natCast, h, true_and, gN]
    cases Bool.xor n (decide (d.getD u default < d.getD v default)) <;> simp
  · have hd : decide ((i : Int) ≤ (j : Int)) = false := by simp; omega
    rw [hd, aM (fun h => by cases h), aM (fun h => by cases h)]
    simp [cT, h]

theorem KX {α : Type} {i j u v : Nat} {d : List Int} {x y : Option α} (hu : i ≤ j → u < d.length) (hv : i ≤ j → v < d.length) :
    (bF ((decide ((i : Int) ≤ (j : Int))) = true → 0 ≤ (u : Int) ∧ (u : Int) < ((List.length d : Nat) : Int)) <|
    bF ((decide ((i : Int) ≤ (j : Int))) = true → 0 ≤ (v : Int) ∧ (v : Int) < ((List.length d : Nat) : Int)) <|
    (cT (decide ((i : Int) ≤ (j : Int))) (dU (List.getD d (Int.toNat (u : Int)) default) (List.getD d (Int.toNat (v : Int)) default))).bind fun z =>
    cond ((decide ((i : Int) ≤ (j : Int))) && z) x y) = if i ≤ j ∧ gN d u < gN d v then x else y := by
  have := YJ (n := false) (x := x) (y := y) hu hv
  simp only [Bool.false_xor] at this
  exact this.trans (by simp)

theorem KT {α : Type} {i j u v : Nat} {d : List Int} {x y : Option α} (hu : i ≤ j → u < d.length) (hv : i ≤ j → v < d.length) :
    (bF ((decide ((i : Int) ≤ (j : Int))) = true → 0 ≤ (u : Int) ∧ (u : Int) < ((List.length d : Nat) : Int)) <|
    bF ((decide ((i : Int) ≤ (j : Int))) = true → 0 ≤ (v : Int) ∧ (v : Int) < ((List.length d : Nat) : Int)) <|
    (cT (decide ((i : Int) ≤ (j : Int))) (dU (List.getD d (Int.toNat (u : Int)) default) (List.getD d (Int.toNat (v : Int)) default))).bind fun z =>
    cond ((decide ((i : Int) ≤ (j : Int))) && (!z)) x y) = if i ≤ j ∧ ¬ gN d u < gN d v then x else y := by
  have := YJ (n := true) (x := x) (y := y) hu hv
  simp only [Bool.true_xor] at this
  exact this.trans (by simp)

theorem aC9 {a j : Nat} {d : List Int} (ha : a < d.length) (hj : j < d.length) (hl : d.length < 2305843009213693951) : ∀ i, i ≤ j + 1 → eZ (a : Nat) (j : Nat) d (i : Nat) = if i ≤ j ∧ gN d i < gN d a then some (.inl (d, ((i + 1 : Nat) : Int))) else some (.inr (d, (i : Int))) := by
  intro i hi
  unfold eZ
  rw [wrN (x := (i : Int) + 1) (n := i + 1) (by omega) (by omega)]
  exact KX (u := i) (v := a) (by omega) (by omega)

theorem aBN {a j : Nat} {d : List Int} (ha : a < d.length) (hj : j < d.length) (hl : d.length < 2305843009213693951) : ∀ i, i ≤ j + 1 → fI (a : Nat) (j : Nat) d (i : Nat) = if i ≤ j ∧ gN d i < gN d a then some (.inl (d, ((i + 1 : Nat) : Int))) else some (.inr (d, (i : Int))) := by
  intro i hi
  unfold fI
  rw [wrN (x := (i : Int) + 1) (n := i + 1) (by omega) (by omega)]
  exact KX (u := i) (v := a) (by omega) (by omega)

theorem aA8 {a i m : Nat} {d : List Int} (hi : 1 ≤ i) (ha : a < d.length) (hm : m < d.length) (hl : d.length < 2305843009213693951) : ∀ j, j ≤ m → fG (a : Nat) (i : Nat) d (j : Nat) = if i ≤ j ∧ ¬ gN d j < gN d a then some (.inl (d, ((j - 1 : Nat) : Int))) else some (.inr (d, (j : Int))) := by
  intro j hj
  unfold fG
  refine (KT (i := i) (j := j) (d := d) (α := (List Int × Int) ⊕ (List Int × Int)) (u := j) (v := a) (x := some (.inl (d, IntKind.i64.wrap ((j : Int) - 1)))) (y := some (.inr (d, (j : Int)))) (by omega) (by omega)).trans ?_
  by_cases h : i ≤ j ∧ ¬ gN d j < gN d a
  · rw [if_pos h, if_pos h, wrN (x := (j : Int) - 1) (n := j - 1) (by omega) (by omega)]
  · rw [if_neg h, if_neg h]

theorem ZK {a i m : Nat} {d : List Int} (hi : 1 ≤ i) (ha : a < d.length) (hm : m < d.length) (hl : d.length < 2305843009213693951) : ∀ j, j ≤ m → fD (a : Nat) (i : Nat) d (j : Nat) = if i ≤ j ∧ ¬ gN d j < gN d a then some (.inl (d, ((j - 1 : Nat) : Int))) else some (.inr (d, (j : Int))) := by
  intro j hj
  unfold fD
  refine (KT (i := i) (j := j) (d := d) (α := (List Int × Int) ⊕ (List Int × Int)) (u := j) (v := a) (x := some (.inl (d, IntKind.i64.wrap ((j : Int) - 1)))) (y := some (.inr (d, (j : Int)))) (by omega) (by omega)).trans ?_
  by_cases h : i ≤ j ∧ ¬ gN d j < gN d a
  · rw [if_pos h, if_pos h, wrN (x := (j : Int) - 1) (n := j - 1) (by omega) (by omega)]
  · rw [if_neg h, if_neg h]

theorem aB2 {a j : Nat} {d : List Int} (ha : a < d.length) (hj : j < d.length) (hl : d.length < 2305843009213693951) : ∀ i, i ≤ j + 1 → eE (a : Nat) (j : Nat) d (i : Nat) = if i ≤ j ∧ ¬ gN d a < gN d i then some (.inl (d, ((i + 1 : Nat) : Int))) else some (.inr (d, (i : Int))) := by
  intro i hi
  unfold eE
  rw [wrN (x := (i : Int) + 1) (n := i + 1) (by omega) (by omega)]
  exact KT (u := a) (v := i) (by omega) (by omega)

theorem YZ {a i m : Nat} {d : List Int} (hi : 1 ≤ i) (ha : a < d.length) (hm : m < d.length) (hl : d.length < 2305843009213693951) : ∀ j, j ≤ m → eC (a : Nat) (i : Nat) d (j : Nat) = if i ≤ j ∧ gN d a < gN d j then some (.inl (d, ((j - 1 : Nat) : Int))) else some (.inr (d, (j : Int))) := by
  intro j hj
  unfold eC
  refine (KX (i := i) (j := j) (d := d) (α := (List Int × Int) ⊕ (List Int × Int)) (u := a) (v := j) (x := some (.inl (d, IntKind.i64.wrap ((j : Int) - 1)))) (y := some (.inr (d, (j : Int)))) (by omega) (by omega)).trans ?_
  by_cases h : i ≤ j ∧ gN d a < gN d j
  · rw [if_pos h, if_pos h, wrN (x := (j : Int) - 1) (n := j - 1) (by omega) (by omega)]
  · rw [if_neg h, if_neg h]

structure BG (a b i j : Nat) (d : List Int) : Prop where
  hi : a < i
  hij : i ≤ j + 1
  hj : j < b
  lo : ∀ k, a < k → k < i → gN d k < gN d a
  up : ∀ k, j < k → k < b → gN d a ≤ gN d k

theorem BG.swap {a b i j : Nat} {d : List Int} (h : BG a b i j d) (hb : b ≤ d.length) (hij : i < j) (h1 : gN d a ≤ gN d i) (h2 : gN d j < gN d a) : BG a b (i + 1) (j - 1) (swp d i j) := by
  have := h.hi; have := h.hj
  have g := uB (d := d) (i := i) (j := j) (by omega) (by omega)
  have ga : gN (swp d i j) a = gN d a := by rw [g, if_neg (by omega), if_neg (by omega)]
  refine ⟨by omega, by omega, by omega, fun k k1 k2 => ?_, fun k k1 k2 => ?_⟩
  · rw [ga, g, if_neg (by omega)]
    by_cases hk : k = i
    · rw [if_pos hk]; exact h2
    · rw [if_neg hk]; exact h.lo k k1 (by omega)
  · rw [ga, g]
    by_cases hk : k = j
    · rw [if_pos hk]; exact h1
    · rw [if_neg hk, if_neg (by omega)]; exact h.up k (by omega) k2

theorem OC {a b i j : Nat} {d : List Int} (h : BG a b i j d) (hb : b ≤ d.length) (hl : d.length < 2305843009213693951) : ∃ i' j' : Nat, BG a b i' j' d ∧ i ≤ i' ∧ j' ≤ j ∧ (j' < i' → j' + 1 = i') ∧ (i' ≤ j' → i' < j' ∧ gN d a ≤ gN d i' ∧ gN d j' < gN d a) ∧
    dX (a : Nat) d (i : Nat) (j : Nat) = fF d (a : Nat) (i' : Nat) (j' : Nat) ∧ fZ d (a : Nat) (i : Nat) (j : Nat) = fE d (a : Nat) (i' : Nat) (j' : Nat) := by
  have h1 := h.hi; have h2 := h.hij; have h3 := h.hj
  obtain ⟨i', e1, a1, a2, a3, a4⟩ := OW (body := fun s => fI (a : Nat) (j : Nat) s.1 s.2) (d := d) (p := fun k => gN d k < gN d a) (j := j) (aBN (a := a) (j := j) (d := d) (by omega) (by omega) hl) (j + 1 - i) i rfl h2
  obtain ⟨i2, e1', b1, b2, b3, b4⟩ := OW (body := fun s => eZ (a : Nat) (j : Nat) s.1 s.2) (d := d) (p := fun k => gN d k < gN d a) (j := j) (aC9 (a := a) (j := j) (d := d) (by omega) (by omega) hl) (j + 1 - i) i rfl h2
  have hii : i2 = i' := by
    rcases Nat.lt_trichotomy i2 i' with hh | hh | hh
    · exact absurd (a3 i2 b1 hh) (b4 (by omega))
    · exact hh
    · exact absurd (b3 i' a1 hh) (a4 (by omega))
  subst hii
  obtain ⟨j', f1, c1, c2, c3, c4⟩ := HQ (body := fun s => fD (a : Nat) (i2 : Nat) s.1 s.2) (d := d) (p := fun k => ¬ gN d k < gN d a) (i := i2) (m := j) (by omega) (ZK (a := a) (i := i2) (m := j) (d := d) (by omega) (by omega) (by omega) hl) j (Nat.le_refl _) a2
  obtain ⟨j2, f1', g1, g2, g3, g4⟩ := HQ (body := fun s => fG (a : Nat) (i2 : Nat) s.1 s.2) (d := d) (p := fun k => ¬ gN d k < gN d a) (i := i2) (m := j) (by omega) (aA8 (a := a) (i := i2) (m := j) (d := d) (by omega) (by omega) (by omega) hl) j (Nat.le_refl _) a2
  have hjj : j2 = j' := by
    rcases Nat.lt_trichotomy j2 j' with hh | hh | hh
    · exact absurd (g3 j' hh c2) (c4 (by omega))
    · exact hh
    · exact absurd (c3 j2 hh g2) (g4 (by omega))
  subst hjj
  have hend : i2 ≤ j2 → i2 < j2 ∧ gN d a ≤ gN d i2 ∧ gN d j2 < gN d a := fun hh => by
    have k1 : ¬ gN d i2 < gN d a := a4 (by omega)
    have k2 : gN d j2 < gN d a := Classical.byContradiction fun hn => c4 hh hn
    refine ⟨?_, by omega, k2⟩
    rcases Nat.lt_or_ge i2 j2 with h | h
    · exact h
    · have : i2 = j2 := by omega
      rw [this] at k1; exact absurd k2 k1
  refine ⟨i2, j2, ⟨by omega, by omega, by omega, fun k k1 k2 => ?_, fun k k1 k2 => ?_⟩, a1, c2, fun hh => by omega, hend, ?_, ?_⟩
  · by_cases hk : k < i
    · exact h.lo k k1 hk
    · exact a3 k (by omega) k2
  · by_cases hk : j < k
    · exact h.up k hk k2
    · have := c3 k k1 (by omega); omega
  · unfold dX kT
    rw [show lp (fun s : List Int × Int => fI (a : Nat) (j : Nat) s.1 s.2) (d, (i : Int)) = some (d, (i2 : Int)) from e1]
    simp only [Option.bind_some]
    unfold iX kP
    rw [show lp (fun s : List Int × Int => fD (a : Nat) (i2 : Nat) s.1 s.2) (d, (j : Int)) = some (d, (j2 : Int)) from f1]
    rfl
  · unfold fZ
    rw [show lp (fun s : List Int × Int => eZ (a : Nat) (j : Nat) s.1 s.2) (d, (i : Int)) = some (d, (i2 : Int)) from e1']
    simp only [Option.bind_some]
    unfold iV kQ
    rw [show lp (fun s : List Int × Int => fG (a : Nat) (i2 : Nat) s.1 s.2) (d, (j : Int)) = some (d, (j2 : Int)) from f1']
    rfl

theorem BG.rel {a b i j : Nat} {d : List Int} (h : BG a b i j d) (hb : b ≤ d.length) (hij : i ≤ j) : Rel (a + 1) b d (swp d i j) := by
  have := h.hi; have := h.hj
  exact Rel.swp (i := i) (j := j) (by omega) (by omega) (by omega) (by omega)

theorem aCP {a b : Nat} : ∀ (n i j : Nat) (d : List Int), j + 1 - i = n → b ≤ d.length → d.length < 2305843009213693951 → BG a b i j d →
    ∃ (d' : List Int) (j' : Nat), lp (fun s : List Int × Int × Int => dX (a : Nat) s.1 s.2.1 s.2.2) (d, (i : Int), (j : Int)) = some (d', (j' : Int)) ∧ Rel (a + 1) b d d' ∧ BG a b (j' + 1) j' d' := by
  intro n
  induction n using Nat.strongRecOn with
  | ind n ih =>
    intro i j d h1 h2 h3 h
    obtain ⟨i', j', p1, p2, p3, p4, p5, p6, _⟩ := OC h h2 h3
    have q1 := p1.hi; have q2 := p1.hj; have q3 := p1.hij
    by_cases hlt : j' < i'
    · have hs : dX (a : Nat) d (i : Nat) (j : Nat) = some (.inr (d, (j' : Int))) := by
        rw [p6]
        unfold fF
        have : decide ((j' : Int) < (i' : Int)) = true := by simp; omega
        rw [this, cond_true]
      have := p4 hlt
      exact ⟨d, j', cU hs, Rel.refl .., by rw [this]; exact p1⟩
    · obtain ⟨k1, k2, k3⟩ := p5 (by omega)
      have hs : dX (a : Nat) d (i : Nat) (j : Nat) = some (.inl (swp d i' j', ((i' + 1 : Nat) : Int), ((j' - 1 : Nat) : Int))) := by
        rw [p6]
        unfold fF
        have : decide ((j' : Int) < (i' : Int)) = false := by simp; omega
        rw [this, cond_false]
        simp only [Int.toNat_natCast]
        rw [aM (asN (by omega)), aM (asN (by omega)), aM (asN (by omega)), aM (asN (by omega)), wrN (x := (i' : Int) + 1) (n := i' + 1) (by omega) (by omega), wrN (x := (j' : Int) - 1) (n := j' - 1) (by omega) (by omega)]
        rfl
      obtain ⟨d', j2, e, r, p⟩ := ih (j' - 1 + 1 - (i' + 1)) (by omega) (i' + 1) (j' - 1) (swp d i' j') rfl (by rw [iF]; exact h2) (by rw [iF]; exact h3) (p1.swap h2 k1 k2 k3)
      exact ⟨d', j2, (eX hs).trans e, (p1.rel h2 (by omega)).trans r, p⟩

theorem UX {a b j : Nat} {d : List Int} (h : BG a b (j + 1) j d) (hb : b ≤ d.length) : Rel a b d (swp d j a) ∧ (∀ k, a ≤ k → k < j → gN (swp d j a) k ≤ gN (swp d j a) j) ∧ (∀ k, j < k → k < b → gN (swp d j a) j ≤ gN (swp d j a) k) := by
  have h1 := h.hi; have h3 := h.hj
  have g := uB (d := d) (i := j) (j := a) (by omega) (by omega)
  have gj : gN (swp d j a) j = gN d a := by
    rw [g]
    by_cases hh : j = a
    · rw [if_pos hh, hh]
    · rw [if_neg hh, if_pos rfl]
  refine ⟨Rel.swp (i := j) (j := a) (by omega) (by omega) (by omega) (by omega), fun k k1 k2 => ?_, fun k k1 k2 => ?_⟩
  · rw [gj, g]
    by_cases hk : k = a
    · rw [if_pos hk]
      have := h.lo j (by omega) (by omega); omega
    · rw [if_neg hk, if_neg (by omega)]
      have := h.lo k (by omega) (by omega); omega
  · rw [gj, g, if_neg (by omega), if_neg (by omega)]
    exact h.up k k1 k2

theorem WA {lo hi p : Nat} {d : List Int} (h0 : lo < hi) (hb : hi ≤ d.length) (hl : d.length < 2305843009213693951) (hp : lo ≤ p ∧ p < hi) :
    ∃ (m : Nat) (fl : Bool) (d' : List Int), gX d (lo : Int) (hi : Int) (p : Int) = some (((m : Int), fl), d') ∧ lo ≤ m ∧ m < hi ∧ Rel lo hi d d' ∧ (∀ k, lo ≤ k → k < m → gN d' k ≤ gN d' m) ∧ (∀ k, m < k → k < hi → gN d' m ≤ gN d' k) := by
  unfold gX
  rw [aM (asN (by omega)), aM (asN (by omega)), aM (asN (by omega)), aM (asN (by omega)), wrN (x := (lo : Int) + 1) (n := lo + 1) (by omega) (by omega), wrN (x := (hi : Int) - 1) (n := hi - 1) (by omega) (by omega)]
  simp only [Int.toNat_natCast]
  have r0 : Rel lo hi d (swp d lo p) := Rel.swp (i := lo) (j := p) (by omega) (by omega) (by omega) (by omega)
  have l0 : (swp d lo p).length = d.length := iF ..
  have inv : BG lo hi (lo + 1) (hi - 1) (swp d lo p) := ⟨by omega, by omega, by omega, fun k k1 k2 => by omega, fun k k1 k2 => by omega⟩
  obtain ⟨i', j', p1, p2, p3, p4, p5, _, p6⟩ := OC inv (by rw [l0]; exact hb) (by rw [l0]; exact hl)
  have e0 : fZ (List.set (List.set d lo (List.getD d p default)) p (List.getD d lo default)) (lo : Int) ((lo + 1 : Nat) : Int) ((hi - 1 : Nat) : Int) = fE (swp d lo p) (lo : Nat) (i' : Nat) (j' : Nat) := p6
  rw [e0]
  have q1 := p1.hi; have q2 := p1.hj; have q3 := p1.hij
  generalize hg : swp d lo p = d1 at *
  unfold fE
  by_cases hlt : j' < i'
  · have : decide ((j' : Int) < (i' : Int)) = true := by simp; omega
    rw [this, cond_true]
    simp only [Int.toNat_natCast]
    rw [aM (asN (by omega)), aM (asN (by omega)), aM (asN (by omega)), aM (asN (by omega))]
    have hp1 : BG lo hi (j' + 1) j' d1 := by rw [p4 hlt]; exact p1
    obtain ⟨r, a1, a2⟩ := UX hp1 (by omega)
    exact ⟨j', true, swp d1 j' lo, rfl, by omega, by omega, r0.trans r, a1, a2⟩
  · obtain ⟨k1, k2, k3⟩ := p5 (by omega)
    have : decide ((j' : Int) < (i' : Int)) = false := by simp; omega
    rw [this, cond_false]
    simp only [Int.toNat_natCast]
    rw [aM (asN (by omega)), aM (asN (by omega)), aM (asN (by omega)), aM (asN (by omega)), wrN (x := (i' : Int) + 1) (n := i' + 1) (by omega) (by omega), wrN (x := (j' : Int) - 1) (n := j' - 1) (by omega) (by omega)]
    obtain ⟨d2, j2, e, r, pp⟩ := aCP (a := lo) (b := hi) (j' - 1 + 1 - (i' + 1)) (i' + 1) (j' - 1) (swp d1 i' j') rfl (by rw [iF]; omega) (by rw [iF]; omega) (p1.swap (by omega) k1 k2 k3)
    have w1 := pp.hi; have w2 := pp.hj
    have l2 : d2.length = d1.length := by rw [r.len, iF]
    unfold kR
    rw [show lp (fun s : List Int × Int × Int => dX (lo : Int) s.1 s.2.1 s.2.2) ((List.set (List.set d1 i' (List.getD d1 j' default)) j' (List.getD d1 i' default)), ((i' + 1 : Nat) : Int), ((j' - 1 : Nat) : Int)) = some (d2, (j2 : Int)) from e]
    simp only [Option.bind_some, iY, Int.toNat_natCast]
    rw [aM (asN (by omega)), aM (asN (by omega)), aM (asN (by omega)), aM (asN (by omega))]
    obtain ⟨rr, a1, a2⟩ := UX pp (by omega)
    exact ⟨j2, false, swp d2 j2 lo, rfl, by omega, by omega, ((r0.trans ((p1.rel (by omega) (by omega)).mono (by omega) (Nat.le_refl _))).trans (r.mono (by omega) (Nat.le_refl _))).trans rr, a1, a2⟩

end Go.Abs
namespace Go.Abs
open Go
structure HK (a b i j : Nat) (d : List Int) : Prop where
  hi : a < i
  hij : i ≤ j + 1
  hj : j < b
  lo : ∀ k, a < k → k < i → gN d k ≤ gN d a
  up : ∀ k, j < k → k < b → gN d a < gN d k

theorem HK.swap {a b i j : Nat} {d : List Int} (h : HK a b i j d) (hb : b ≤ d.length) (hij : i < j) (h1 : gN d a < gN d i) (h2 : gN d j ≤ gN d a) : HK a b (i + 1) (j - 1) (swp d i j) := by
  have := h.hi; have := h.hj
  have g := uB (d := d) (i := i) (j := j) (by omega) (by omega)
  have ga : gN (swp d i j) a = gN d a := by rw [g, if_neg (by omega), if_neg (by omega)]
  refine ⟨by omega, by omega, by omega, fun k k1 k2 => ?_, fun k k1 k2 => ?_⟩
  · rw [ga, g, if_neg (by omega)]
    by_cases hk : k = i
    · rw [if_pos hk]; exact h2
    · rw [if_neg hk]; exact h.lo k k1 (by omega)
  · rw [ga, g]
    by_cases hk : k = j
    · rw [if_pos hk]; exact h1
    · rw [if_neg hk, if_neg (by omega)]; exact h.up k (by omega) k2

theorem WU {a b i j : Nat} {d : List Int} (h : HK a b i j d) (hb : b ≤ d.length) (hl : d.length < 2305843009213693951) : ∃ i' j' : Nat, HK a b i' j' d ∧ i ≤ i' ∧ j' ≤ j ∧ (j' < i' → j' + 1 = i') ∧ (i' ≤ j' → i' < j' ∧ gN d a < gN d i' ∧ gN d j' ≤ gN d a) ∧
    dF (a : Nat) d (i : Nat) (j : Nat) = eD d (a : Nat) (i' : Nat) (j' : Nat) := by
  have h1 := h.hi; have h2 := h.hij; have h3 := h.hj
  obtain ⟨i', e1, a1, a2, a3, a4⟩ := OW (body := fun s => eE (a : Nat) (j : Nat) s.1 s.2) (d := d) (p := fun k => ¬ gN d a < gN d k) (j := j) (aB2 (a := a) (j := j) (d := d) (by omega) (by omega) hl) (j + 1 - i) i rfl h2
  obtain ⟨j', f1, c1, c2, c3, c4⟩ := HQ (body := fun s => eC (a : Nat) (i' : Nat) s.1 s.2) (d := d) (p := fun k => gN d a < gN d k) (i := i') (m := j) (by omega) (YZ (a := a) (i := i') (m := j) (d := d) (by omega) (by omega) (by omega) hl) j (Nat.le_refl _) a2
  have hend : i' ≤ j' → i' < j' ∧ gN d a < gN d i' ∧ gN d j' ≤ gN d a := fun hh => by
    have k1 : gN d a < gN d i' := Classical.byContradiction fun hn => a4 (by omega) hn
    have k2 : ¬ gN d a < gN d j' := c4 hh
    refine ⟨?_, k1, by omega⟩
    rcases Nat.lt_or_ge i' j' with h | h
    · exact h
    · have : i' = j' := by omega
      rw [this] at k1; exact absurd k1 k2
  refine ⟨i', j', ⟨by omega, by omega, by omega, fun k k1 k2 => ?_, fun k k1 k2 => ?_⟩, a1, c2, fun hh => by omega, hend, ?_⟩
  · by_cases hk : k < i
    · exact h.lo k k1 hk
    · have := a3 k (by omega) k2; omega
  · by_cases hk : j < k
    · exact h.up k hk k2
    · exact c3 k k1 (by omega)
  · unfold dF jK
    rw [show lp (fun s : List Int × Int => eE (a : Nat) (j : Nat) s.1 s.2) (d, (i : Int)) = some (d, (i' : Int)) from e1]
    simp only [Option.bind_some]
    unfold gJ jI
    rw [show lp (fun s : List Int × Int => eC (a : Nat) (i' : Nat) s.1 s.2) (d, (j : Int)) = some (d, (j' : Int)) from f1]
    rfl

theorem aBQ {a b : Nat} : ∀ (n i j : Nat) (d : List Int), j + 1 - i = n → b ≤ d.length → d.length < 2305843009213693951 → HK a b i j d →
    ∃ (d' : List Int) (j' : Nat), lp (fun s : List Int × Int × Int => dF (a : Nat) s.1 s.2.1 s.2.2) (d, (i : Int), (j : Int)) = some (d', ((j' + 1 : Nat) : Int)) ∧ Rel (a + 1) b d d' ∧ HK a b (j' + 1) j' d' := by
  intro n
  induction n using Nat.strongRecOn with
  | ind n ih =>
    intro i j d h1 h2 h3 h
    obtain ⟨i', j', p1, p2, p3, p4, p5, p6⟩ := WU h h2 h3
    have q1 := p1.hi; have q2 := p1.hj; have q3 := p1.hij
    by_cases hlt : j' < i'
    · have hs : dF (a : Nat) d (i : Nat) (j : Nat) = some (.inr (d, (i' : Int))) := by
        rw [p6]
        unfold eD
        have : decide ((j' : Int) < (i' : Int)) = true := by simp; omega
        rw [this, cond_true]
      have := p4 hlt
      exact ⟨d, j', by rw [this]; exact cU hs, Rel.refl .., by rw [this]; exact p1⟩
    · obtain ⟨k1, k2, k3⟩ := p5 (by omega)
      have hs : dF (a : Nat) d (i : Nat) (j : Nat) = some (.inl (swp d i' j', ((i' + 1 : Nat) : Int), ((j' - 1 : Nat) : Int))) := by
        rw [p6]
        unfold eD
        have : decide ((j' : Int) < (i' : Int)) = false := by simp; omega
        rw [this, cond_false]
        simp only [Int.toNat_natCast]
        rw [aM (asN (by omega)), aM (asN (by omega)), aM (asN (by omega)), aM (asN (by omega)), wrN (x := (i' : Int) + 1) (n := i' + 1) (by omega) (by omega), wrN (x := (j' : Int) - 1) (n := j' - 1) (by omega) (by omega)]
        rfl
      obtain ⟨d', j2, e, r, p⟩ := ih (j' - 1 + 1 - (i' + 1)) (by omega) (i' + 1) (j' - 1) (swp d i' j') rfl (by rw [iF]; exact h2) (by rw [iF]; exact h3) (p1.swap h2 k1 k2 k3)
      exact ⟨d', j2, (eX hs).trans e, (Rel.swp (i := i') (j := j') (by omega) (by omega) (by omega) (by omega)).trans r, p⟩

theorem RX {lo hi p : Nat} {d : List Int} (h0 : lo < hi) (hb : hi ≤ d.length) (hl : d.length < 2305843009213693951) (hp : lo ≤ p ∧ p < hi) :
    ∃ (m : Nat) (d' : List Int), fK d (lo : Int) (hi : Int) (p : Int) = some ((m : Int), d') ∧ lo < m ∧ m ≤ hi ∧ Rel lo hi d d' ∧ (∀ k, lo ≤ k → k < m → gN d' k ≤ gN d p) ∧ (∀ k, m ≤ k → k < hi → gN d p < gN d' k) := by
  unfold fK
  rw [aM (asN (by omega)), aM (asN (by omega)), aM (asN (by omega)), aM (asN (by omega)), wrN (x := (lo : Int) + 1) (n := lo + 1) (by omega) (by omega), wrN (x := (hi : Int) - 1) (n := hi - 1) (by omega) (by omega)]
  simp only [Int.toNat_natCast]
  have r0 : Rel lo hi d (swp d lo p) := Rel.swp (i := lo) (j := p) (by omega) (by omega) (by omega) (by omega)
  have l0 : (swp d lo p).length = d.length := iF ..
  have g := uB (d := d) (i := lo) (j := p) (by omega) (by omega)
  have g0 : gN (swp d lo p) lo = gN d p := by
    rw [g]
    by_cases hh : lo = p
    · rw [if_pos hh, hh]
    · rw [if_neg hh, if_pos rfl]
  have inv : HK lo hi (lo + 1) (hi - 1) (swp d lo p) := ⟨by omega, by omega, by omega, fun k k1 k2 => by omega, fun k k1 k2 => by omega⟩
  obtain ⟨d', j', e, r, pp⟩ := aBQ (a := lo) (b := hi) (hi - 1 + 1 - (lo + 1)) (lo + 1) (hi - 1) (swp d lo p) rfl (by rw [l0]; exact hb) (by rw [l0]; exact hl) inv
  have w1 := pp.hi; have w2 := pp.hj
  have ga : gN d' lo = gN d p := by rw [r.out lo (by omega), g0]
  unfold jJ
  rw [show lp (fun s : List Int × Int × Int => dF (lo : Int) s.1 s.2.1 s.2.2) ((List.set (List.set d lo (List.getD d p default)) p (List.getD d lo default)), ((lo + 1 : Nat) : Int), ((hi - 1 : Nat) : Int)) = some (d', ((j' + 1 : Nat) : Int)) from e]
  refine ⟨j' + 1, d', rfl, by omega, by omega, r0.trans (r.mono (by omega) (Nat.le_refl _)), fun k k1 k2 => ?_, fun k k1 k2 => ?_⟩
  · rw [← ga]
    by_cases hk : k = lo
    · rw [hk]; exact Int.le_refl _
    · exact pp.lo k (by omega) k2
  · rw [← ga]; exact pp.up k (by omega) k2

theorem YA {lo i : Nat} {d : List Int} : ∀ (n i' : Nat), i' - i = n → qG lo i d → lo < i → (∀ k, i ≤ k → k < i' → gN d (k - 1) ≤ gN d k) → qG lo i' d
  | 0, i', h, hs, _, _ => fun p q p1 p2 p3 => hs p q p1 p2 (by omega)
  | n + 1, i', h, hs, hl, hk => by
    have ih := YA (d := d) n (i' - 1) (by omega) hs hl fun k k1 k2 => hk k k1 (by omega)
    intro p q p1 p2 p3
    by_cases hq : q = i' - 1
    · by_cases hp : p = q
      · rw [hp]; exact Int.le_refl _
      · have h1 := hk q (by omega) (by omega)
        have h2 := ih p (q - 1) p1 (by omega) (by omega)
        omega
    · exact ih p q p1 p2 (by omega)

theorem aCc {lo hi : Nat} {d : List Int} (x : Int) (hb : hi ≤ d.length) (hl : d.length < 2305843009213693951) : ∀ (n i : Nat), hi - i = n → 1 ≤ i → i ≤ hi →
    ∃ i' : Nat, lp (fun s : List Int × Int => cZ (lo : Nat) (hi : Nat) x s.1 s.2) (d, (i : Int)) = some (d, (i' : Int)) ∧ i ≤ i' ∧ i' ≤ hi ∧ (∀ k, i ≤ k → k < i' → gN d (k - 1) ≤ gN d k) := by
  intro n
  induction n with
  | zero =>
    intro i h1 h2 h3
    refine ⟨i, cU ?_, Nat.le_refl _, h3, fun k k1 k2 => by omega⟩
    show cZ _ _ _ _ _ = _
    have : decide ((i : Int) < (hi : Int)) = false := by simp; omega
    simp only [cZ, this]
    rw [aM (fun h => by cases h), aM (fun h => by cases h)]
    rfl
  | succ n ih =>
    intro i h1 h2 h3
    have hd : decide ((i : Int) < (hi : Int)) = true := by simp; omega
    have hs : cZ (lo : Nat) (hi : Nat) x d (i : Nat) = if gN d i < gN d (i - 1) then some (.inr (d, (i : Int))) else some (.inl (d, ((i + 1 : Nat) : Int))) := by
      unfold cZ
      rw [hd, wrN (x := (i : Int) - 1) (n := i - 1) (by omega) (by omega), wrN (x := (i : Int) + 1) (n := i + 1) (by omega) (by omega), aM fun _ => asN (by omega), aM fun _ => asN (by omega)]
      simp only [cT, cond_true, sV, Option.bind_some, Bool.true_and, Int.toNat_natCast, gN]
      by_cases h : d.getD i default < d.getD (i - 1) default <;> simp [h]
    by_cases h : gN d i < gN d (i - 1)
    · rw [if_pos h] at hs
      exact ⟨i, cU hs, Nat.le_refl _, h3, fun k k1 k2 => by omega⟩
    · rw [if_neg h] at hs
      obtain ⟨i', e, a1, a2, a3⟩ := ih (i + 1) (by omega) (by omega) (by omega)
      refine ⟨i', (eX hs).trans e, by omega, a2, fun k k1 k2 => ?_⟩
      by_cases hk : k = i
      · rw [hk]; omega
      · exact a3 k (by omega) k2

theorem JH {lo hi : Nat} {d d' : List Int} (r : Rel lo hi d d') (h : lo = 0 ∨ ∀ k, lo ≤ k → k < hi → gN d (lo - 1) ≤ gN d k) : lo = 0 ∨ ∀ k, lo ≤ k → k < hi → gN d' (lo - 1) ≤ gN d' k := by
  by_cases h0 : lo = 0
  · exact .inl h0
  · rcases h with h | h
    · exact .inl h
    · exact .inr fun k k1 k2 => by
        rw [r.out (lo - 1) (by omega)]
        exact r.all (p := fun v => gN d (lo - 1) ≤ v) h k k1 k2

theorem aBO {lo hi i : Nat} (x y : Int) : ∀ (j : Nat) (d : List Int), lo ≤ j → j ≤ i → i < d.length → d.length < 2305843009213693951 → HW lo j i d → (lo = 0 ∨ ∀ k, lo ≤ k → k ≤ i → gN d (lo - 1) ≤ gN d k) →
    ∃ d', lp (fun s : List Int × Int => cO (lo : Nat) (hi : Nat) x y s.1 s.2) (d, (j : Int)) = some d' ∧ Rel lo (i + 1) d d' ∧ qG lo (i + 1) d' := by
  intro j
  induction j with
  | zero =>
    intro d h1 h2 h3 h4 h5 h6
    refine ⟨d, cU ?_, Rel.refl .., h5.done h1 (by omega)⟩
    show cO _ _ _ _ _ _ = _
    have : decide ((1 : Int) ≤ ((0 : Nat) : Int)) = false := by simp
    simp only [cO, this, cond_false]
  | succ j ih =>
    intro d h1 h2 h3 h4 h5 h6
    have hd : decide ((1 : Int) ≤ ((j + 1 : Nat) : Int)) = true := by simp; omega
    have hs : cO (lo : Nat) (hi : Nat) x y d ((j + 1 : Nat) : Int) = if gN d (j + 1) < gN d j then some (.inl (swp d (j + 1) j, (j : Int))) else some (.inr d) := by
      unfold cO
      rw [hd, cond_true, wrN (x := ((j + 1 : Nat) : Int) - 1) (n := j) (by omega) (by omega), aM (asN (by omega)), aM (asN (by omega))]
      simp only [sV, Option.bind_some, Int.toNat_natCast, gN]
      by_cases h : d.getD (j + 1) default < d.getD j default
      · simp only [h, decide_true, Bool.not_true, cond_false, if_true]
        rw [aM (asN (by omega)), aM (asN (by omega)), aM (asN (by omega)), aM (asN (by omega))]
        rfl
      · simp only [h, decide_false, Bool.not_false, cond_true, if_false]
    by_cases h : gN d (j + 1) < gN d j
    · rw [if_pos h] at hs
      have hlo : lo < j + 1 := by
        rcases h6 with h6 | h6
        · omega
        · rcases Nat.lt_or_ge lo (j + 1) with hh | hh
          · exact hh
          · have : lo = j + 1 := by omega
            have h7 := h6 (j + 1) (by omega) h2
            rw [this] at h7
            simp only [Nat.add_sub_cancel] at h7
            omega
      have r1 : Rel lo (i + 1) d (swp d (j + 1) j) := Rel.swp (i := j + 1) (j := j) (by omega) (by omega) (by omega) (by omega)
      obtain ⟨d', e, r, s⟩ := ih (swp d (j + 1) j) (by omega) (by omega) (by rw [iF]; exact h3) (by rw [iF]; exact h4) (h5.next hlo h2 h3 h) ((JH r1 (h6.imp id fun h k a b => h k a (by omega))).imp id fun h k a b => h k a (by omega))
      exact ⟨d', (eX hs).trans e, r1.trans r, s⟩
    · rw [if_neg h] at hs
      exact ⟨d, cU hs, Rel.refl .., h5.done h1 fun hh => h hh.2⟩

theorem aDF {lo hi i : Nat} (x y : Int) : ∀ (n j : Nat) (d : List Int), hi - j = n → i < j → hi ≤ d.length → d.length < 2305843009213693951 →
    ∃ d', lp (fun s : List Int × Int => dA (lo : Nat) (hi : Nat) x y s.1 s.2) (d, (j : Int)) = some d' ∧ Rel i hi d d' := by
  intro n
  induction n with
  | zero =>
    intro j d h1 h2 h3 h4
    refine ⟨d, cU ?_, Rel.refl ..⟩
    show dA _ _ _ _ _ _ = _
    have : decide ((j : Int) < (hi : Int)) = false := by simp; omega
    simp only [dA, this, cond_false]
  | succ n ih =>
    intro j d h1 h2 h3 h4
    have hd : decide ((j : Int) < (hi : Int)) = true := by simp; omega
    have hs : dA (lo : Nat) (hi : Nat) x y d (j : Nat) = if gN d j < gN d (j - 1) then some (.inl (swp d j (j - 1), ((j + 1 : Nat) : Int))) else some (.inr d) := by
      unfold dA
      rw [hd, cond_true, wrN (x := (j : Int) - 1) (n := j - 1) (by omega) (by omega), wrN (x := (j : Int) + 1) (n := j + 1) (by omega) (by omega), aM (asN (by omega)), aM (asN (by omega))]
      simp only [sV, Option.bind_some, Int.toNat_natCast, gN]
      by_cases h : d.getD j default < d.getD (j - 1) default
      · simp only [h, decide_true, Bool.not_true, cond_false, if_true]
        rw [aM (asN (by omega)), aM (asN (by omega)), aM (asN (by omega)), aM (asN (by omega))]
        rfl
      · simp only [h, decide_false, Bool.not_false, cond_true, if_false]
    by_cases h : gN d j < gN d (j - 1)
    · rw [if_pos h] at hs
      obtain ⟨d', e, r⟩ := ih (j + 1) (swp d j (j - 1)) (by omega) (by omega) (by rw [iF]; exact h3) (by rw [iF]; exact h4)
      exact ⟨d', (eX hs).trans e, (Rel.swp (i := j) (j := j - 1) (by omega) (by omega) (by omega) (by omega)).trans r⟩
    · rw [if_neg h] at hs
      exact ⟨d, cU hs, Rel.refl ..⟩

theorem aAi {lo hi i : Nat} (x : Int) {d : List Int} (h1 : lo < i) (h2 : i < hi) (h3 : hi ≤ d.length) (h4 : d.length < 2305843009213693951) :
    ∃ d', cN d (lo : Nat) (hi : Nat) (i : Nat) x = some (.inl (d', (i : Int), IntKind.i64.wrap (x + 1))) ∧ Rel i hi d d' := by
  unfold cN
  rw [wrN (x := (hi : Int) - (i : Int)) (n := hi - i) (by omega) (by omega)]
  by_cases h : (2 : Int) ≤ ((hi - i : Nat) : Int)
  · simp only [h, decide_true, cond_true]
    unfold gR
    rw [wrN (x := (i : Int) + 1) (n := i + 1) (by omega) (by omega)]
    obtain ⟨d', e, r⟩ := aDF (lo := lo) (hi := hi) (i := i) (i : Int) x (hi - (i + 1)) (i + 1) d rfl (by omega) h3 h4
    rw [e]
    exact ⟨d', rfl, r⟩
  · simp only [h, decide_false, cond_false]
    exact ⟨d, rfl, Rel.refl ..⟩

theorem aCm {lo hi i : Nat} (x : Int) {d : List Int} (h1 : lo < i) (h2 : i ≤ hi) (h3 : hi ≤ d.length) (h4 : d.length < 2305843009213693951) (hs : qG lo i d) (hb : lo = 0 ∨ ∀ k, lo ≤ k → k < hi → gN d (lo - 1) ≤ gN d k) :
    (∃ (fl : Bool) (d' : List Int), dN d (lo : Nat) (hi : Nat) (i : Nat) x = some (.inr (.inr (fl, d'))) ∧ Rel lo hi d d' ∧ (fl = true → qG lo hi d')) ∨
    (∃ (d' : List Int) (i' : Nat), dN d (lo : Nat) (hi : Nat) (i : Nat) x = some (.inl (d', (i' : Int), IntKind.i64.wrap (x + 1))) ∧ Rel lo hi d d' ∧ lo < i' ∧ i' ≤ hi ∧ qG lo i' d') := by
  unfold dN
  obtain ⟨i', e, a1, a2, a3⟩ := aCc (lo := lo) (hi := hi) x h3 h4 (hi - i) i rfl (by omega) h2
  rw [e]
  simp only [Option.bind_some]
  have hs' := YA (i' - i) i' rfl hs h1 a3
  unfold fA
  by_cases hi' : i' = hi
  · have : decide ((i' : Int) = (hi : Int)) = true := by simp; omega
    rw [this, cond_true]
    left
    exact ⟨true, d, rfl, Rel.refl .., fun _ => hi' ▸ hs'⟩
  · have hne : decide ((i' : Int) = (hi : Int)) = false := by simp; omega
    rw [hne, cond_false, wrN (x := (hi : Int) - (lo : Int)) (n := hi - lo) (by omega) (by omega)]
    by_cases h50 : ((hi - lo : Nat) : Int) < 50
    · simp only [h50, decide_true, cond_true]
      left
      exact ⟨false, d, rfl, Rel.refl .., fun h => by cases h⟩
    · simp only [h50, decide_false, cond_false]
      rw [wrN (x := (i' : Int) - 1) (n := i' - 1) (by omega) (by omega), wrN (x := (i' : Int) - (lo : Int)) (n := i' - lo) (by omega) (by omega)]
      simp only [Int.toNat_natCast]
      rw [aM (asN (by omega)), aM (asN (by omega)), aM (asN (by omega)), aM (asN (by omega))]
      have r1 : Rel lo hi d (swp d i' (i' - 1)) := Rel.swp (i := i') (j := i' - 1) (by omega) (by omega) (by omega) (by omega)
      have l1 : (swp d i' (i' - 1)).length = d.length := iF ..
      have g := uB (d := d) (i := i') (j := i' - 1) (by omega) (by omega)
      right
      by_cases hge : (2 : Int) ≤ ((i' - lo : Nat) : Int)
      · simp only [hge, decide_true, cond_true]
        unfold gQ
        have ins : HW lo (i' - 1) (i' - 1) (swp d i' (i' - 1)) := ⟨fun p q p1 p2 p3 p4 p5 => by
          rw [g, g, if_neg p4, if_neg p5, if_neg (by omega), if_neg (by omega)]
          exact hs' p q p1 p2 (by omega), fun q q1 q2 => by omega⟩
        obtain ⟨d2, e2, r2, s2⟩ := aBO (lo := lo) (hi := hi) (i := i' - 1) (i' : Int) x (i' - 1) (swp d i' (i' - 1)) (by omega) (Nat.le_refl _) (by rw [l1]; omega) (by rw [l1]; exact h4) ins ((JH r1 hb).imp id fun h k a b => h k a (by omega))
        have e2' : lp (fun s : List Int × Int => cO (lo : Int) (hi : Int) (i' : Int) x s.1 s.2) ((List.set (List.set d i' (List.getD d (i' - 1) default)) (i' - 1) (List.getD d i' default)), ((i' - 1 : Nat) : Int)) = some d2 := e2
        rw [e2']
        simp only [Option.bind_some]
        rw [show i' - 1 + 1 = i' by omega] at r2 s2
        have l2 : d2.length = d.length := by rw [r2.len, l1]
        obtain ⟨d3, e3, r3⟩ := aAi (lo := lo) (hi := hi) (i := i') x (d := d2) (by omega) (by omega) (by omega) (by omega)
        rw [e3]
        refine ⟨d3, i', rfl, (r1.trans (r2.mono (Nat.le_refl _) (by omega))).trans (r3.mono (by omega) (Nat.le_refl _)), by omega, a2, fun p q p1 p2 p3 => ?_⟩
        rw [r3.out p (by omega), r3.out q (by omega)]
        exact s2 p q p1 p2 p3
      · simp only [hge, decide_false, cond_false]
        obtain ⟨d3, e3, r3⟩ := aAi (lo := lo) (hi := hi) (i := i') x (d := swp d i' (i' - 1)) (by omega) (by omega) (by omega) (by omega)
        have e3' : cN (List.set (List.set d i' (List.getD d (i' - 1) default)) (i' - 1) (List.getD d i' default)) (lo : Int) (hi : Int) (i' : Int) x = _ := e3
        rw [e3']
        refine ⟨d3, i', rfl, r1.trans (r3.mono (by omega) (Nat.le_refl _)), by omega, a2, ?_⟩
        have : i' = lo + 1 := by omega
        rw [this]; exact KP lo d3

theorem aDx {lo hi : Nat} : ∀ (n x i : Nat) (d : List Int), 5 - x = n → lo < i → i ≤ hi → hi ≤ d.length → d.length < 2305843009213693951 → qG lo i d → (lo = 0 ∨ ∀ k, lo ≤ k → k < hi → gN d (lo - 1) ≤ gN d k) → x ≤ 5 →
    ∃ (fl : Bool) (d' : List Int), (lp (fun s : List Int × Int × Int => cD (lo : Nat) (hi : Nat) s.1 s.2.1 s.2.2) (d, (i : Int), (x : Int))).bind (Sum.elim (fun rr => fB rr) (fun rr => some (rr.1, rr.2))) = some (fl, d') ∧ Rel lo hi d d' ∧ (fl = true → qG lo hi d') := by
  intro n
  induction n with
  | zero =>
    intro x i d h1 h2 h3 h4 h5 h6 h7 h8
    have hs : cD (lo : Nat) (hi : Nat) d (i : Nat) (x : Nat) = some (.inr (.inl d)) := by
      have : decide ((x : Int) < 5) = false := by simp; omega
      simp only [cD, this, cond_false]
    rw [cU (show (fun s : List Int × Int × Int => cD (lo : Nat) (hi : Nat) s.1 s.2.1 s.2.2) (d, (i : Int), (x : Int)) = _ from hs)]
    exact ⟨false, d, rfl, Rel.refl .., fun h => by cases h⟩
  | succ n ih =>
    intro x i d h1 h2 h3 h4 h5 h6 h7 h8
    have hl2 : cD (lo : Nat) (hi : Nat) d (i : Nat) (x : Nat) = dN d (lo : Nat) (hi : Nat) (i : Nat) (x : Nat) := by
      have : decide ((x : Int) < 5) = true := by simp; omega
      simp only [cD, this, cond_true]
    rcases aCm (lo := lo) (hi := hi) (x : Int) h2 h3 h4 h5 h6 h7 with ⟨fl, d', e, r, s⟩ | ⟨d', i', e, r, k1, k2, s⟩
    · rw [cU (show (fun s : List Int × Int × Int => cD (lo : Nat) (hi : Nat) s.1 s.2.1 s.2.2) (d, (i : Int), (x : Int)) = _ from hl2.trans e)]
      exact ⟨fl, d', rfl, r, s⟩
    · rw [wrN (x := (x : Int) + 1) (n := x + 1) (by omega) (by omega)] at e
      obtain ⟨fl, d2, e2, r2, s2⟩ := ih (x + 1) i' d' (by omega) k1 k2 (by rw [r.len]; exact h4) (by rw [r.len]; exact h5) s (JH r h7) (by omega)
      rw [eX (show (fun s : List Int × Int × Int => cD (lo : Nat) (hi : Nat) s.1 s.2.1 s.2.2) (d, (i : Int), (x : Int)) = _ from hl2.trans e)]
      exact ⟨fl, d2, e2, r.trans r2, s2⟩

theorem aCo {lo hi : Nat} {d : List Int} (h0 : lo < hi) (h1 : hi ≤ d.length) (h2 : d.length < 2305843009213693951) (hb : lo = 0 ∨ ∀ k, lo ≤ k → k < hi → gN d (lo - 1) ≤ gN d k) :
    ∃ (fl : Bool) (d' : List Int), fH d (lo : Int) (hi : Int) = some (fl, d') ∧ Rel lo hi d d' ∧ (fl = true → qG lo hi d') := by
  unfold fH gS
  rw [wrN (x := (lo : Int) + 1) (n := lo + 1) (by omega) (by omega)]
  exact aDx (lo := lo) (hi := hi) (5 - 0) 0 (lo + 1) d rfl (by omega) (by omega) h1 h2 (KP lo d) hb (by omega)

end Go.Abs
namespace Go.Abs
open Go
abbrev PS := List Int × Int × Int × Int × Bool × Bool

abbrev PR := List Int → Int → Int → Int → Option (List Int)

def AQ (a b : Nat) (d d' : List Int) : Prop := Rel a b d d' ∧ qG a b d'

structure AA (a b lim : Nat) (d : List Int) : Prop where
  ab : a ≤ b
  bl : b ≤ d.length
  len : d.length < 2305843009213693951
  bnd : a = 0 ∨ ∀ k, a ≤ k → k < b → gN d (a - 1) ≤ gN d k
  lim : lim ≤ 100

def JF (rec : PR) (N : Nat) : Prop := ∀ (d : List Int) (a b lim : Nat), AA a b lim d → (rec d (a : Int) (b : Int) (lim : Int) = none ∧ N ≤ b - a) ∨ ∃ d', rec d (a : Int) (b : Int) (lim : Int) = some d' ∧ AQ a b d d'

def FX (N a b : Nat) (d : List Int) (F : Option (PS ⊕ List Int)) : Prop :=
  (F = none ∧ N + 1 ≤ b - a) ∨ (∃ d', F = some (.inr d') ∧ AQ a b d d') ∨
  ∃ (d' : List Int) (a' b' lim' : Nat) (wb wp : Bool), F = some (.inl (d', (a' : Int), (b' : Int), (lim' : Int), wb, wp)) ∧ b' - a' < b - a ∧ AA a' b' lim' d' ∧ ∀ d'', AQ a' b' d' d'' → AQ a b d d''

theorem AQ.pre {a b : Nat} {d d1 d' : List Int} (r : Rel a b d d1) (h : AQ a b d1 d') : AQ a b d d' := ⟨r.trans h.1, h.2⟩

theorem FX.pre {N a b : Nat} {d d1 : List Int} {F : Option (PS ⊕ List Int)} (r : Rel a b d d1) (h : FX N a b d1 F) : FX N a b d F := by
  rcases h with h | ⟨d', h1, h2⟩ | ⟨d', a', b', lim', wb, wp, h1, h2, h3, h4⟩
  · exact .inl h
  · exact .inr (.inl ⟨d', h1, h2.pre r⟩)
  · exact .inr (.inr ⟨d', a', b', lim', wb, wp, h1, h2, h3, fun d'' hg => (h4 d'' hg).pre r⟩)

theorem AA.rel {a b lim : Nat} {d d1 : List Int} (h : AA a b lim d) (r : Rel a b d d1) : AA a b lim d1 :=
  ⟨h.ab, by rw [r.len]; exact h.bl, by rw [r.len]; exact h.len, JH r h.bnd, h.lim⟩

theorem VF {a m b : Nat} {d : List Int} (hm : m < b) (h1 : ∀ k, a ≤ k → k < m → gN d k ≤ gN d m) (h2 : ∀ k, m < k → k < b → gN d m ≤ gN d k) (s1 : qG a m d) (s2 : qG (m + 1) b d) : qG a b d := by
  intro p q p1 p2 p3
  by_cases hq : q < m
  · exact s1 p q p1 p2 hq
  · by_cases hp : m < p
    · exact s2 p q hp p2 p3
    · have g1 : gN d p ≤ gN d m := by
        by_cases e : p = m
        · rw [e]; exact Int.le_refl _
        · exact h1 p p1 (by omega)
      have g2 : gN d m ≤ gN d q := by
        by_cases e : q = m
        · rw [e]; exact Int.le_refl _
        · exact h2 q (by omega) p3
      omega

theorem aA4 {rec : PR} {N a b lim p : Nat} {d : List Int} (hrec : JF rec N) (hv : AA a b lim d) (h12 : 12 < b - a) (hp : a ≤ p ∧ p < b) (wb wp : Bool) (len : Int) :
    FX N a b d (iE rec d (a : Int) (b : Int) (lim : Int) wb wp len (p : Int)) := by
  have hb := hv.bl; have hl := hv.len
  -- with all equal ones on the left
  have eqc : 0 < a → ¬ gN d (a - 1) < gN d p → FX N a b d ((fK d (a : Int) (b : Int) (p : Int)).bind fun x20 => some (.inl (x20.2, x20.1, (b : Int), (lim : Int), wb, wp))) := by
    intro ha hn
    obtain ⟨m, d', e, m1, m2, r, q1, q2⟩ := RX (lo := a) (hi := b) (p := p) (d := d) (by omega) hb hl hp
    have hall : ∀ k, a ≤ k → k < b → gN d p ≤ gN d' k := by
      refine r.all (p := fun v => gN d p ≤ v) fun k k1 k2 => ?_
      rcases hv.bnd with h | h
      · omega
      · have := h k k1 k2; omega
    rw [e]
    refine .inr (.inr ⟨d', m, b, lim, wb, wp, rfl, by omega, ⟨m2, by rw [r.len]; exact hb, by rw [r.len]; exact hl, .inr fun k k1 k2 => ?_, hv.lim⟩, fun d'' hg => ⟨r.trans (hg.1.mono (by omega) (Nat.le_refl _)), fun x y x1 x2 x3 => ?_⟩⟩)
    · have := q1 (m - 1) (by omega) (by omega); have := q2 k k1 k2; omega
    · by_cases hx : m ≤ x
      · exact hg.2 x y hx x2 x3
      · rw [hg.1.out x (by omega)]
        have g1 := q1 x x1 (by omega)
        by_cases hy : y < m
        · rw [hg.1.out y (by omega)]
          have g2 := hall y (by omega) (by omega); omega
        · have g2 := hg.1.all (p := fun v => gN d p < v) q2 y (by omega) x3
          omega
  -- a partition, and the lesser part first
  have ptc : FX N a b d ((gX d (a : Int) (b : Int) (p : Int)).bind fun x23 =>
      bF ((8 : Int) ≠ 0) <|
      cond (decide ((IntKind.i64.wrap (x23.1.1 - (a : Int))) < (IntKind.i64.wrap ((b : Int) - x23.1.1))))
      ((rec x23.2 (a : Int) x23.1.1 (lim : Int)).bind fun x28 =>
      some (.inl (x28, IntKind.i64.wrap (x23.1.1 + (1 : Int)), (b : Int), (lim : Int), decide ((IntKind.i64.wrap (Int.tdiv len (8 : Int))) ≤ (IntKind.i64.wrap (x23.1.1 - (a : Int)))), x23.1.2)))
      ((rec x23.2 (IntKind.i64.wrap (x23.1.1 + (1 : Int))) (b : Int) (lim : Int)).bind fun x31 =>
      some (.inl (x31, (a : Int), x23.1.1, (lim : Int), decide ((IntKind.i64.wrap (Int.tdiv len (8 : Int))) ≤ (IntKind.i64.wrap ((b : Int) - x23.1.1))), x23.1.2)))) := by
    obtain ⟨m, fl, d1, e, m1, m2, r, q1, q2⟩ := WA (lo := a) (hi := b) (p := p) (d := d) (by omega) hb hl hp
    have hv1 := hv.rel r
    rw [e]
    simp only [Option.bind_some]
    rw [aM (by decide), wrN (x := (m : Int) + 1) (n := m + 1) (by omega) (by omega)]
    have vL : AA a m lim d1 := ⟨m1, by have := hv1.bl; omega, hv1.len, hv1.bnd.imp id fun h k k1 k2 => h k k1 (by omega), hv.lim⟩
    have vR : AA (m + 1) b lim d1 := ⟨by omega, hv1.bl, hv1.len, .inr fun k k1 k2 => by simpa using q2 k (by omega) k2, hv.lim⟩
    cases decide ((IntKind.i64.wrap ((m : Int) - (a : Int))) < (IntKind.i64.wrap ((b : Int) - (m : Int)))) with
    | true =>
      rw [cond_true]
      rcases hrec d1 a m lim vL with ⟨hn, hN⟩ | ⟨d2, e2, g2⟩
      · rw [hn]; exact .inl ⟨rfl, by omega⟩
      · rw [e2]
        simp only [Option.bind_some]
        have top : gN d2 m = gN d1 m := g2.1.out m (by omega)
        refine .inr (.inr ⟨d2, m + 1, b, lim, _, _, rfl, by omega, ⟨by omega, by rw [g2.1.len]; exact hv1.bl, by rw [g2.1.len]; exact hv1.len, .inr fun k k1 k2 => ?_, hv.lim⟩, fun d3 hg => ⟨(r.trans (g2.1.mono (Nat.le_refl _) (by omega))).trans (hg.1.mono (by omega) (Nat.le_refl _)), ?_⟩⟩)
        · rw [show m + 1 - 1 = m by omega, top, g2.1.out k (by omega)]; exact q2 k (by omega) k2
        · have o3 : ∀ k, k ≤ m → gN d3 k = gN d2 k := fun k hk => hg.1.out k (by omega)
          refine VF m2 (fun k k1 k2 => ?_) (fun k k1 k2 => ?_) (fun x y x1 x2 x3 => by rw [o3 x (by omega), o3 y (by omega)]; exact g2.2 x y x1 x2 x3) hg.2
          · rw [o3 k (by omega), o3 m (by omega), top]
            exact g2.1.all (p := fun v => v ≤ gN d1 m) q1 k k1 k2
          · rw [o3 m (by omega), top]
            exact hg.1.all (p := fun v => gN d1 m ≤ v) (fun k k1 k2 => by rw [g2.1.out k (by omega)]; exact q2 k (by omega) k2) k (by omega) k2
    | false =>
      rw [cond_false]
      rcases hrec d1 (m + 1) b lim vR with ⟨hn, hN⟩ | ⟨d2, e2, g2⟩
      · rw [hn]; exact .inl ⟨rfl, by omega⟩
      · rw [e2]
        simp only [Option.bind_some]
        have low : ∀ k, k ≤ m → gN d2 k = gN d1 k := fun k hk => g2.1.out k (by omega)
        refine .inr (.inr ⟨d2, a, m, lim, _, _, rfl, by omega, ⟨m1, by rw [g2.1.len]; have := hv1.bl; omega, by rw [g2.1.len]; exact hv1.len, ?_, hv.lim⟩, fun d3 hg => ⟨(r.trans (g2.1.mono (by omega) (Nat.le_refl _))).trans (hg.1.mono (Nat.le_refl _) (by omega)), ?_⟩⟩)
        · rcases hv1.bnd with h | h
          · exact .inl h
          · exact .inr fun k k1 k2 => by rw [low (a - 1) (by omega), low k (by omega)]; exact h k k1 (by omega)
        · have o3 : ∀ k, m ≤ k → gN d3 k = gN d2 k := fun k hk => hg.1.out k (by omega)
          refine VF m2 (fun k k1 k2 => ?_) (fun k k1 k2 => ?_) hg.2 (fun x y x1 x2 x3 => by rw [o3 x (by omega), o3 y (by omega)]; exact g2.2 x y x1 x2 x3)
          · rw [o3 m (Nat.le_refl _), low m (Nat.le_refl _)]
            exact hg.1.all (p := fun v => v ≤ gN d1 m) (fun k k1 k2 => by rw [low k (by omega)]; exact q1 k k1 k2) k k1 k2
          · rw [o3 m (Nat.le_refl _), low m (Nat.le_refl _), o3 k (by omega)]
            exact g2.1.all (p := fun v => gN d1 m ≤ v) (fun k k1 k2 => q2 k (by omega) k2) k (by omega) k2
  unfold iE
  by_cases ha : 0 < a
  · have hd : decide ((0 : Int) < (a : Int)) = true := by simp; omega
    rw [hd, wrN (x := (a : Int) - 1) (n := a - 1) (by omega) (by omega), aM fun _ => asN (by omega), aM fun _ => asN (by omega)]
    simp only [cT, cond_true, sV, Option.bind_some, Bool.true_and, Int.toNat_natCast]
    by_cases hlt : gN d (a - 1) < gN d p
    · simp only [gN] at hlt
      simp only [hlt, decide_true, Bool.not_true, cond_false]
      exact ptc
    · have := eqc ha hlt
      simp only [gN] at hlt
      simp only [hlt, decide_false, Bool.not_false, cond_true]
      exact this
  · have hd : decide ((0 : Int) < (a : Int)) = false := by simp; omega
    rw [hd, aM (fun h => by cases h), aM (fun h => by cases h)]
    simp only [cT, cond_false, Option.bind_some, Bool.false_and]
    exact ptc

theorem aAf {rec : PR} {N a b lim p : Nat} {d : List Int} (hrec : JF rec N) (hv : AA a b lim d) (h12 : 12 < b - a) (hp : a ≤ p ∧ p < b) (wb wp : Bool) (len hint : Int) :
    FX N a b d (iG rec d (a : Int) (b : Int) (lim : Int) wb wp len (p : Int) hint) := by
  unfold iG
  cases ((wb && wp) && (decide (hint = (1 : Int)))) with
  | false => exact aA4 hrec hv h12 hp wb wp len
  | true =>
    rw [cond_true]
    obtain ⟨fl, d', e, r, s⟩ := aCo (lo := a) (hi := b) (d := d) (by omega) hv.bl hv.len hv.bnd
    rw [e]
    simp only [Option.bind_some]
    cases fl with
    | true => exact .inr (.inl ⟨d', rfl, r, s rfl⟩)
    | false => exact (aA4 hrec (hv.rel r) h12 hp wb wp len).pre r

theorem aBs {rec : PR} {N a b lim : Nat} {d : List Int} (hrec : JF rec N) (hv : AA a b lim d) (h12 : 12 < b - a) (wb wp : Bool) (len : Int) :
    FX N a b d (iH rec d (a : Int) (b : Int) (lim : Int) wb wp len) := by
  have hb := hv.bl; have hl := hv.len
  unfold iH
  obtain ⟨p, h, e, p1, p2⟩ := ZO (lo := a) (hi := b) (d := d) h12 hb hl
  rw [e]
  simp only [Option.bind_some]
  by_cases h2 : h = 2
  · simp only [h2, decide_true, cond_true]
    obtain ⟨d', e2, r⟩ := aA5 (lo := a) (hi := b) (d := d) (by omega) hb (by omega)
    rw [e2]
    simp only [Option.bind_some]
    rw [wrN (x := (b : Int) - 1) (n := b - 1) (by omega) (by omega), wrN (x := (p : Int) - (a : Int)) (n := p - a) (by omega) (by omega), wrN (x := ((b - 1 : Nat) : Int) - ((p - a : Nat) : Int)) (n := b - 1 - (p - a)) (by omega) (by omega)]
    exact (aAf hrec (hv.rel r) h12 ⟨by omega, by omega⟩ wb wp len 1).pre r
  · simp only [h2, decide_false, cond_false]
    exact aAf hrec hv h12 ⟨p1, p2⟩ wb wp len h

theorem aD0 {rec : PR} {N a b lim : Nat} {d : List Int} (hrec : JF rec N) (hv : AA a b lim d) (wb wp : Bool) :
    FX N a b d (eW rec d (a : Int) (b : Int) (lim : Int) wb wp) := by
  have hb := hv.bl; have hl := hv.len; have hab := hv.ab
  unfold eW
  rw [wrN (x := (b : Int) - (a : Int)) (n := b - a) (by omega) (by omega)]
  by_cases h12 : ((b - a : Nat) : Int) ≤ 12
  · simp only [h12, decide_true, cond_true]
    obtain ⟨d', e, r, s⟩ := aBG (lo := a) (hi := b) (d := d) hb (by omega) hab
    rw [e]
    exact .inr (.inl ⟨d', rfl, r, s⟩)
  · simp only [h12, decide_false, cond_false]
    by_cases h0 : lim = 0
    · have : decide ((lim : Int) = 0) = true := by simp; exact h0
      rw [this, cond_true]
      obtain ⟨d', e, r, s⟩ := aBn (lo := a) (hi := b) (d := d) (by omega) hb hl
      rw [e]
      exact .inr (.inl ⟨d', rfl, r, s⟩)
    · have : decide ((lim : Int) = 0) = false := by simp; exact h0
      rw [this, cond_false]
      cases wb with
      | true => exact aBs hrec hv (by omega) true wp _
      | false =>
        simp only [Bool.not_false, cond_true]
        obtain ⟨d', e, r⟩ := aA9 (lo := a) (hi := b) (d := d) (by omega) hb hl
        rw [e]
        simp only [Option.bind_some]
        have hlim := hv.lim
        rw [wrN (x := (lim : Int) - 1) (n := lim - 1) (by omega) (by omega)]
        have hv' := hv.rel r
        exact (aBs hrec ⟨hv'.ab, hv'.bl, hv'.len, hv'.bnd, by omega⟩ (by omega) false wp _).pre r

theorem aCV {S R : Type} {body : S → Option (S ⊕ R)} {s : S} (h : body s = none) : lp body s = none := by
  cases e : lp body s with
  | none => rfl
  | some r =>
    obtain ⟨k, hk⟩ := JI.1 e
    cases k with
    | zero => simp [iter] at hk
    | succ k => simp [iter, h] at hk

theorem aD1 {rec : PR} {N : Nat} (hrec : JF rec N) : ∀ (n a b lim : Nat) (d : List Int) (wb wp : Bool), b - a = n → AA a b lim d →
    (lp (fun s : PS => eW rec s.1 s.2.1 s.2.2.1 s.2.2.2.1 s.2.2.2.2.1 s.2.2.2.2.2) (d, (a : Int), (b : Int), (lim : Int), wb, wp) = none ∧ N + 1 ≤ b - a) ∨
    ∃ d', lp (fun s : PS => eW rec s.1 s.2.1 s.2.2.1 s.2.2.2.1 s.2.2.2.2.1 s.2.2.2.2.2) (d, (a : Int), (b : Int), (lim : Int), wb, wp) = some d' ∧ AQ a b d d' := by
  intro n
  induction n using Nat.strongRecOn with
  | ind n ih =>
    intro a b lim d wb wp hn hv
    rcases aD0 hrec hv wb wp with ⟨h1, h2⟩ | ⟨d', h1, h2⟩ | ⟨d', a', b', lim', wb', wp', h1, h2, h3, h4⟩
    · exact .inl ⟨aCV h1, h2⟩
    · exact .inr ⟨d', cU h1, h2⟩
    · rw [eX (show (fun s : PS => eW rec s.1 s.2.1 s.2.2.1 s.2.2.2.1 s.2.2.2.2.1 s.2.2.2.2.2) (d, (a : Int), (b : Int), (lim : Int), wb, wp) = _ from h1)]
      rcases ih (b' - a') (by omega) a' b' lim' d' wb' wp' rfl h3 with ⟨g1, g2⟩ | ⟨d2, g1, g2⟩
      · exact .inl ⟨g1, by omega⟩
      · exact .inr ⟨d2, g1, h4 d2 g2⟩

theorem SP : ∀ k : Nat, JF (dV k) k
  | 0 => fun _ _ _ _ _ => .inl ⟨rfl, Nat.zero_le _⟩
  | k + 1 => fun d a b lim hv => by
    show (gG (dV k) d a b lim = none ∧ _) ∨ ∃ d', gG (dV k) d a b lim = some d' ∧ _
    unfold gG lO
    rcases aD1 (SP k) (b - a) a b lim d true true rfl hv with ⟨h1, h2⟩ | ⟨d', h1, h2⟩
    · rw [h1]; exact .inl ⟨rfl, h2⟩
    · rw [h1]; exact .inr ⟨d', rfl, h2⟩

theorem aDs {a b lim : Nat} {d : List Int} (hv : AA a b lim d) : ∃ d', kA d (a : Int) (b : Int) (lim : Int) = some d' ∧ AQ a b d d' := by
  unfold kA
  obtain ⟨d', e, g⟩ : ∃ d', dV (b - a + 1) d (a : Int) (b : Int) (lim : Int) = some d' ∧ AQ a b d d' := by
    rcases SP (b - a + 1) d a b lim hv with ⟨_, h⟩ | h
    · omega
    · exact h
  cases hf : TG (fun k => dV k d (a : Int) (b : Int) (lim : Int)) with
  | none =>
    exfalso
    unfold TG at hf
    have hex : ∃ k r, dV k d (a : Int) (b : Int) (lim : Int) = some r := ⟨_, d', e⟩
    rw [dif_pos hex] at hf
    obtain ⟨r, hr⟩ := Classical.choose_spec hex
    have hf' : dV (Classical.choose hex) d (a : Int) (b : Int) (lim : Int) = none := hf
    rw [hr] at hf'
    cases hf'
  | some r =>
    obtain ⟨k, hk⟩ := QA hf
    rcases SP k d a b lim hv with ⟨h, _⟩ | ⟨d2, h, g2⟩
    · rw [h] at hk; cases hk
    · rw [h] at hk; cases hk; exact ⟨_, rfl, g2⟩

theorem aDn {d : List Int} (hl : d.length < 2305843009213693951) : ∃ d', kW d = some d' ∧ d'.Perm d ∧ d'.Pairwise (· ≤ ·) := by
  unfold kW
  have hL : ∃ L : Nat, kU (IntKind.u64.wrap ((List.length d : Nat) : Int)) = some (L : Int) ∧ L ≤ 100 := by
    rw [IS (by omega) (by omega)]
    by_cases h0 : d.length = 0
    · rw [h0]; exact ⟨0, aBW, by omega⟩
    · obtain ⟨k, e, h1, _⟩ := aAE (x := ((List.length d : Nat) : Int)) (by omega) (by omega)
      exact ⟨k + 1, by rw [e]; rfl, by omega⟩
  obtain ⟨L, eL, hL⟩ := hL
  rw [eL]
  simp only [Option.bind_some]
  obtain ⟨d', e, g⟩ := aDs (a := 0) (b := d.length) (lim := L) (d := d) ⟨Nat.zero_le _, Nat.le_refl _, hl, .inl rfl, hL⟩
  have e' : kA d 0 ((List.length d : Nat) : Int) (L : Int) = some d' := e
  rw [e']
  refine ⟨d', rfl, g.1.perm, List.pairwise_iff_getElem.2 fun i j hi hj hij => ?_⟩
  have := g.2 i j (Nat.zero_le _) (by omega) (by rw [g.1.len] at hj; exact hj)
  simp only [gN, List.getD_eq_getElem?_getD, List.getElem?_eq_getElem hi, List.getElem?_eq_getElem hj] at this
  exact this

theorem aDd {d s : List Int} (hl : d.length < 2305843009213693951) (hp : s.Perm d) (hs : s.Pairwise (· ≤ ·)) : kW d = some s := by
  obtain ⟨d', e, p, q⟩ := aDn hl
  rw [e]
  congr 1
  exact (p.trans hp.symm).eq_of_pairwise (le := (· ≤ ·)) (fun a b _ _ h1 h2 => Int.le_antisymm h1 h2) q hs

end Go.Abs
namespace Go.Abs
open Go
theorem NR {t : Int} : ∀ {ps : List Int}, t ∉ ps → (kH t ps).Perm (t :: ps)
  | [], _ => List.Perm.refl _
  | p :: r, h => by
    simp only [List.mem_cons, not_or] at h
    unfold kH
    rw [if_neg (fun e => h.1 e.symm)]
    split
    · exact List.Perm.refl _
    · exact (List.Perm.cons p (NR h.2)).trans (List.Perm.swap ..)

theorem VC : ∀ {ps : List Int} {last : Int}, Inc last ps → ps.Pairwise (· < ·)
  | [], _, _ => List.Pairwise.nil
  | p :: r, last, h => List.Pairwise.cons (fun x hx => (h.2.above x hx).1) (VC h.2)

theorem aCZ {ps : List Int} {last : Int} (h : Inc last ps) : ps.Pairwise (· ≤ ·) := (VC h).imp fun h => by omega

end Go.Abs
namespace Go.Abs
open Go
theorem ZI {l : List aR} (hl : okL l) (hm : oF l = true) : (∀ g ∈ groups l, gE g.2 = true ∧ g.1.length ≤ 4398046510976) ∧ (groups l).length ≤ 4096 := by
  obtain ⟨h1, h2, _⟩ := yP hm
  exact ⟨fun g hg => ⟨(h2 g hg).2, PZ hl hg⟩, by have := FW l; omega⟩

end Go.Abs
namespace Go.Abs
open Go
def jH (hop n : Int) : Int := if n < 0 then 0 else (n / hop + 1) * hop

def sU (size hop : Int) : Bool := (((decide ((1 : Int) ≤ size)) && (decide (size ≤ (1099511627776 : Int)))) && (decide ((1 : Int) ≤ hop))) && (decide (hop ≤ (1099511627776 : Int)))

def kF (t : Int) : Bool := (decide ((0 : Int) ≤ t)) && (decide (t ≤ (1125899906842624 : Int)))

def YV (size hop t : Int) : Int × Int :=
  if !sU size hop then (0, 2) else if !kF t then (0, 13) else if t = 1125899906842624 then (1125899906842624, 0) else (min (jH hop (t - size)) 1125899906842624, 0)

theorem RE {size hop : Int} (h : sU size hop = true) : 1 ≤ size ∧ size ≤ 1099511627776 ∧ 1 ≤ hop ∧ hop ≤ 1099511627776 := by
  simp only [sU, Bool.and_eq_true, decide_eq_true_eq] at h; omega

theorem GA {t : Int} (h : kF t = true) : 0 ≤ t ∧ t ≤ 1125899906842624 := by
  simp only [kF, Bool.and_eq_true, decide_eq_true_eq] at h; omega

theorem VD {n hop : Int} (h : 0 ≤ n) : Int.tdiv n hop = n / hop := Int.tdiv_eq_ediv_of_nonneg h

theorem DG {n hop : Int} (hh : 1 ≤ hop) : n / hop * hop ≤ n ∧ n < (n / hop + 1) * hop := by
  have h1 := Int.mul_ediv_add_emod n hop
  have h2 := Int.emod_nonneg n (show hop ≠ 0 by omega)
  have h3 := Int.emod_lt_of_pos n (show 0 < hop by omega)
  rw [Int.add_mul, Int.mul_comm (n / hop) hop]
  omega

theorem zG {hop n : Int} (hh : 1 ≤ hop) : 0 ≤ jH hop n ∧ n < jH hop n ∧ (0 ≤ n → jH hop n ≤ n + hop) ∧ (n < 0 → jH hop n = 0) ∧ ∃ k : Int, jH hop n = k * hop := by
  unfold jH
  split
  · exact ⟨Int.le_refl _, by omega, by omega, fun _ => rfl, 0, by simp⟩
  · rename_i h
    have := DG (n := n) hh
    rw [Int.add_mul] at this ⊢
    refine ⟨by omega, by omega, by omega, by omega, n / hop + 1, by rw [Int.add_mul]⟩

theorem HY {hop n : Int} (h1 : 1 ≤ hop) (h2 : hop ≤ 1099511627776) (h3 : n ≤ 4503599627370496) : pW hop n = some (jH hop n) := by
  unfold pW
  by_cases hn : n < 0
  · simp [hn, jH]
  · have hn0 : 0 ≤ n := by omega
    have hm : Int.tmod n hop = n % hop := Int.tmod_eq_emod_of_nonneg hn0
    have hr : ¬ n % hop < 0 := by have := Int.emod_nonneg n (show hop ≠ 0 by omega); omega
    have hd0 : 0 ≤ n / hop := Int.ediv_nonneg hn0 (by omega)
    have hd1 : n / hop ≤ n := Int.ediv_le_self _ hn0
    have hf := DG (n := n) h1
    have e1 : wR (Int.tdiv n hop) = n / hop := by rw [VD hn0]; exact dM (by omega) (by omega)
    have e2 : IntKind.i64.wrap (n / hop + 1) = n / hop + 1 := dM (by omega) (by omega)
    have e3 : IntKind.i64.wrap ((n / hop + 1) * hop) = (n / hop + 1) * hop := dM (by omega) (by rw [Int.add_mul]; omega)
    have e0 : xH n hop = some (n / hop, n % hop, 0) := by
      unfold xH
      have hb : decide (hop < 1) = false := by simp; omega
      rw [hb, cond_false, aM (by omega), aM (by omega), hm, decide_eq_false hr, cond_false]
      unfold vC
      rw [show IntKind.i64.wrap (Int.tdiv n hop) = n / hop from e1]
    have hb : decide (n < (0 : Int)) = false := decide_eq_false hn
    rw [hb, cond_false, e0]
    simp only [Option.bind_some, e2, e3, jH, if_neg hn]

theorem aDq {size hop t : Int} : zL size hop t = some (YV size hop t) := by
  unfold zL YV
  simp only [sI, oC, Option.bind_some]
  rw [show ((((decide ((1 : Int) ≤ size)) && (decide (size ≤ (1099511627776 : Int)))) && (decide ((1 : Int) ≤ hop))) && (decide (hop ≤ (1099511627776 : Int)))) = sU size hop from rfl, show ((decide ((0 : Int) ≤ t)) && (decide (t ≤ (1125899906842624 : Int)))) = kF t from rfl]
  cases hm : sU size hop with
  | false => rfl
  | true =>
    cases ht : kF t with
    | false => rfl
    | true =>
      have hm' := RE hm; have ht' := GA ht
      by_cases hf : t = 1125899906842624
      · simp [hf]
      · have e1 : IntKind.i64.wrap (t - size) = t - size := dM (by omega) (by omega)
        simp only [Bool.not_true, cond_false, decide_eq_false hf, Bool.false_eq_true, if_false, if_neg hf, e1]
        rw [HY hm'.2.2.1 hm'.2.2.2 (by omega)]
        simp only [Option.bind_some]
        have : (if (1125899906842624 : Int) < jH hop (t - size) then (1125899906842624 : Int) else jH hop (t - size)) = min (jH hop (t - size)) 1125899906842624 := by
          rw [Int.min_def]; split <;> split <;> omega
        rw [this]

def aCB (hop : Int) : Nat → Int → List Int
  | 0, _ => []
  | n + 1, t => t :: aCB hop n (t + hop)

def yI (hop t b : Int) : List Int := aCB hop ((b - t + hop - 1) / hop).toNat t

theorem CC {hop t b : Int} (hh : 1 ≤ hop) (h : b ≤ t) : yI hop t b = [] := by
  unfold yI
  have : (b - t + hop - 1) / hop ≤ 0 := by
    have h1 : b - t + hop - 1 < 1 * hop := by omega
    have := Int.ediv_lt_of_lt_mul (by omega) h1
    omega
  rw [show ((b - t + hop - 1) / hop).toNat = 0 by omega]; rfl

theorem DY {hop t b : Int} (hh : 1 ≤ hop) (h : t < b) : yI hop t b = t :: yI hop (t + hop) b := by
  unfold yI
  have h1 : (b - t + hop - 1) / hop = (b - (t + hop) + hop - 1) / hop + 1 := by
    rw [show b - t + hop - 1 = (b - (t + hop) + hop - 1) + hop by omega, Int.add_ediv_of_dvd_right (Int.dvd_refl hop), Int.ediv_self (by omega)]
  have h2 : 0 ≤ (b - (t + hop) + hop - 1) / hop := Int.ediv_nonneg (by omega) (by omega)
  rw [h1, show ((b - (t + hop) + hop - 1) / hop + 1).toNat = ((b - (t + hop) + hop - 1) / hop).toNat + 1 by omega]
  rfl

theorem FZ {hop b : Int} (hh : 1 ≤ hop) {C : Int → Prop} (h0 : ∀ t, b ≤ t → C t) (h1 : ∀ t, t < b → C (t + hop) → C t) (t : Int) : C t := by
  generalize hn : (b - t).toNat = n
  induction n using Nat.strongRecOn generalizing t with
  | ind n ih =>
    by_cases h : t < b
    · exact h1 t h (ih (b - (t + hop)).toNat (by omega) _ rfl)
    · exact h0 t (by omega)

theorem VT {hop b x : Int} (hh : 1 ≤ hop) : ∀ t, x ∈ yI hop t b ↔ ∃ k : Nat, x = t + k * hop ∧ x < b := by
  refine FZ hh (b := b) (fun t h => ?_) (fun t h ih => ?_)
  · rw [CC hh h]
    simp only [List.not_mem_nil, false_iff, not_exists, not_and]
    intro k hk
    have : 0 ≤ (k : Int) * hop := Int.mul_nonneg (by omega) (by omega)
    omega
  · rw [DY hh h, List.mem_cons, ih]
    constructor
    · rintro (rfl | ⟨k, rfl, hk⟩)
      · exact ⟨0, by simp, h⟩
      · refine ⟨k + 1, ?_, hk⟩
        rw [Int.natCast_add, Int.add_mul]; omega
    · rintro ⟨k, hk1, hk2⟩
      match k with
      | 0 => left; simpa using hk1
      | k + 1 =>
        right
        refine ⟨k, ?_, hk2⟩
        rw [Int.natCast_add, Int.add_mul] at hk1; omega

theorem QB {hop b : Int} (hh : 1 ≤ hop) : ∀ t, (yI hop t b).Pairwise (· < ·) ∧ ∀ x ∈ yI hop t b, t ≤ x := by
  refine FZ hh (b := b) (fun t h => ?_) (fun t h ih => ?_)
  · rw [CC hh h]; simp
  · rw [DY hh h]
    refine ⟨List.pairwise_cons.2 ⟨fun x hx => ?_, ih.1⟩, fun x hx => ?_⟩
    · have := ih.2 x hx; omega
    · rcases List.mem_cons.1 hx with rfl | hx
      · exact Int.le_refl _
      · have := ih.2 x hx; omega

def uL {σ α : Type} (y : σ → α → Option (σ × Bool)) : List α → σ → Option σ
  | [], s => some s
  | a :: r, s => (y s a).bind fun x => if x.2 then uL y r x.1 else some x.1

def qD (size hop frm : Int) (s : aT) : Int := max (jH hop (s.From - size)) (jH hop (frm - 1))

def lH (front : Int) (s : aT) : Int := min (min s.To front) 1125899906842624

def dB (size hop frm front : Int) (s : aT) : List Int := yI hop (qD size hop frm s) (lH front s)

structure OkH (size hop frm front : Int) : Prop where
  s0 : 1 ≤ size
  s1 : size ≤ 1099511627776
  h0 : 1 ≤ hop
  h1 : hop ≤ 1099511627776
  f0 : 0 ≤ frm
  f1 : frm ≤ 1125899906842624
  r0 : 0 ≤ front
  r1 : front ≤ 1125899906842624

theorem US {σ : Type} {y : σ → Int → Option (σ × Bool)} {hop front : Int} {sp : aT} (hh : 1 ≤ hop) (hh1 : hop ≤ 1099511627776) : ∀ (t : Int) (s s' : σ), 0 ≤ t → uL y (yI hop t (lH front sp)) s = some s' → oV y s hop sp front t = some s' := by
  have main : ∀ (t : Int), ∀ (s s' : σ), 0 ≤ t → uL y (yI hop t (lH front sp)) s = some s' → ∃ x, lp (fun s => jN y hop sp front s.1 s.2) (s, t) = some x ∧ Sum.elim id id x = s' := by
    have hbe : (if (1125899906842624 : Int) < (if front < sp.To then front else sp.To) then (1125899906842624 : Int) else (if front < sp.To then front else sp.To)) = lH front sp := by
      unfold lH; simp only [Int.min_def]; split <;> split <;> split <;> split <;> omega
    refine FZ hh (b := lH front sp) (fun t h s s' ht hi => ?_) (fun t h ih s s' ht hi => ?_)
    · rw [CC hh h] at hi
      simp only [uL, Option.some.injEq] at hi
      refine ⟨.inl s, cU ?_, hi⟩
      show jN _ _ _ _ _ _ = _
      simp only [jN, hbe]
      rw [decide_eq_false (by omega), cond_false]
    · rw [DY hh h] at hi
      simp only [uL] at hi
      obtain ⟨x, hx, hi⟩ := aZ hi
      have hb1 : lH front sp ≤ 1125899906842624 := Int.min_le_right _ _
      have hw : IntKind.i64.wrap (t + hop) = t + hop := dM (by omega) (by omega)
      have hb : (fun s : σ × Int => jN y hop sp front s.1 s.2) (s, t) = some (if x.2 then .inl (x.1, t + hop) else .inr (.inr x.1)) := by
        show jN _ _ _ _ _ _ = _
        simp only [jN, hbe]
        rw [decide_eq_true h, cond_true, hx]
        simp only [Option.bind_some, hw]
        cases x.2 <;> rfl
      cases hx2 : x.2
      · rw [hx2] at hb hi
        simp only [Bool.false_eq_true, if_false, Option.some.injEq] at hb hi
        exact ⟨_, cU hb, hi⟩
      · rw [hx2] at hb hi
        simp only [if_true] at hb hi
        obtain ⟨z, hz1, hz2⟩ := ih x.1 s' (by omega) hi
        exact ⟨z, by rw [eX hb]; exact hz1, hz2⟩
  intro t s s' ht hi
  obtain ⟨x, h1, h2⟩ := main t s s' ht hi
  unfold oV
  rw [h1]
  cases x <;> simpa using h2

theorem NW {σ : Type} {y : σ → Int → Option (σ × Bool)} {size hop frm front : Int} {sp : aT} (ok : OkH size hop frm front) (h1 : -1 ≤ sp.From) (h2 : sp.From ≤ 1125899906842624) {s s' : σ} (h : uL y (dB size hop frm front sp) s = some s') :
    nU y hop sp size frm front s = some s' := by
  obtain ⟨a1, a2, a3, a4, a5, a6, a7, a8⟩ := ok
  unfold nU
  have w1 : IntKind.i64.wrap (sp.From - size) = sp.From - size := dM (by omega) (by omega)
  have w2 : IntKind.i64.wrap (frm - 1) = frm - 1 := dM (by omega) (by omega)
  rw [w1, w2, HY a3 a4 (by omega), HY a3 a4 (by omega)]
  simp only [Option.bind_some]
  have e : (if jH hop (frm - 1) > jH hop (sp.From - size) then jH hop (frm - 1) else jH hop (sp.From - size)) = qD size hop frm sp := by
    unfold qD; rw [Int.max_def]; split <;> split <;> omega
  rw [e]
  refine US a3 a4 _ _ _ ?_ h
  have := (zG (n := sp.From - size) a3).1
  unfold qD; omega

end Go.Abs
namespace Go.Abs
open Go
def okC (x : List cP) : Prop := x.length ≤ 1000000 ∧ ∀ c ∈ x, c.Row.length ≤ 17592186044416

theorem RM {x : List cP} (h : okC x) : oE x x = some true := by
  unfold oE qE
  rw [LU rfl, cond_false]
  have h1 := h.1
  rw [CS (l := x) (body := fun s => lW x x s) (fun i => i) (fun _ => false) (.inr false) (.inl ()) ?_ ?_]
  · simp [nL]
  · intro i a ha
    obtain ⟨d1, d2, d3, d4⟩ := idx ha (by omega)
    simp only [lW, d1, cond_true, aM d2, d3, d4, decide_true, Bool.not_true, Bool.not_false, cT, BE a.Row a.Row (h.2 a (List.mem_of_getElem? ha)), Option.bind_some, Bool.false_or, cond_false]
    rw [aM (fun _ => d2), aM (fun _ => d2)]
    rfl
  · simp only [lW, fO, cond_false]

theorem UT {x : List aP} (h1 : x.length ≤ 1000000) (h : ∀ p ∈ x, okC p.Rows) : vW x x = some true := by
  unfold vW yD
  rw [LU rfl, cond_false]
  rw [CS (l := x) (body := fun s => qK x x s) (fun i => i) (fun _ => false) (.inr false) (.inl ()) ?_ ?_]
  · simp [tH]
  · intro i a ha
    obtain ⟨d1, d2, d3, d4⟩ := idx ha (by omega)
    simp only [qK, d1, cond_true, aM d2, d3, d4, decide_true, Bool.and_self, Bool.not_true, Bool.not_false, cT, RM (h a (List.mem_of_getElem? ha)), Option.bind_some, Bool.false_or, cond_false]
    rw [aM (fun _ => d2), aM (fun _ => d2)]
    rfl
  · simp only [qK, fO, cond_false]

def NL : aC := ⟨1, 1, ByteArray.empty⟩

end Go.Abs
namespace Go.Abs
open Go
theorem aBx {d : List Int} (hd : d.Pairwise (· ≤ ·)) {i j : Nat} (hij : i ≤ j) (hj : j < d.length) : d.getD i 0 ≤ d.getD j 0 := by
  rw [List.getD_eq_getElem?_getD, List.getD_eq_getElem?_getD, List.getElem?_eq_getElem (by omega), List.getElem?_eq_getElem hj]
  rcases Nat.lt_or_ge i j with h | h
  · exact List.pairwise_iff_getElem.1 hd i j (by omega) hj h
  · have : i = j := by omega
    subst this; exact Int.le_refl _

theorem QF {d : List Int} {p : Nat} (hp : p < d.length) : d.take (p + 1) = d.take p ++ [d.getD p 0] := by
  rw [List.take_add_one, List.getElem?_eq_getElem hp, List.getD_eq_getElem?_getD, List.getElem?_eq_getElem hp]; rfl

theorem WI {d : List Int} (hd : d.Pairwise (· ≤ ·)) {p : Nat} (hp : p < d.length) {x : Int} (hx : x ∈ d.take (p + 1)) : x ≤ d.getD p 0 := by
  obtain ⟨i, hi⟩ := List.getElem?_of_mem hx
  rw [List.getElem?_take] at hi
  split at hi
  · rename_i hlt
    have := aBx hd (i := i) (j := p) (by omega) hp
    rw [List.getD_eq_getElem?_getD (i := i), hi] at this
    exact this
  · cases hi

def Kept (d c : List Int) (p : Nat) : Prop := c.Pairwise (· < ·) ∧ ∀ x, x ∈ c ↔ x ∈ d.take p

theorem Kept.same {d c : List Int} {p : Nat} (h : Kept d c p) (h0 : 0 < p) (hp : p < d.length) (e : d.getD p 0 = d.getD (p - 1) 0) : Kept d c (p + 1) := by
  refine ⟨h.1, fun x => ?_⟩
  rw [h.2 x, QF hp, List.mem_append]
  constructor
  · exact .inl
  · rintro (h1 | h1)
    · exact h1
    · rw [List.mem_singleton.1 h1, e]
      have : p - 1 < p := by omega
      refine List.mem_of_getElem? (i := p - 1) ?_
      rw [List.getElem?_take, if_pos this, List.getD_eq_getElem?_getD, List.getElem?_eq_getElem (by omega)]; rfl

theorem Kept.more {d c : List Int} {p : Nat} (hd : d.Pairwise (· ≤ ·)) (h : Kept d c p) (h0 : 0 < p) (hp : p < d.length) (e : d.getD p 0 ≠ d.getD (p - 1) 0) : Kept d (c ++ [d.getD p 0]) (p + 1) := by
  have hle := aBx hd (i := p - 1) (j := p) (by omega) hp
  refine ⟨?_, fun x => by rw [QF hp, List.mem_append, List.mem_append, h.2 x]⟩
  rw [List.pairwise_append]
  refine ⟨h.1, by simp, fun a ha b hb => ?_⟩
  rw [List.mem_singleton.1 hb]
  have ha' := (h.2 a).1 ha
  have : a ≤ d.getD (p - 1) 0 := by
    refine WI hd (by omega) ?_
    rwa [show p - 1 + 1 = p by omega]
  omega

end Go.Abs
namespace Go.Abs
open Go
def inW (a b : Int) (j : aH) : Bool := decide (0 < j.Net) && (decide (a ≤ j.At) && decide (j.At < b))

def zA (a b : Int) (f : List aH) : Int := ((f.filter (inW a b)).map aH.Net).sum

def sK (rs : List cP) : cP := rs.getD (rs.length - 1) default

theorem EA (a b : Int) (j : aH) (f : List aH) : zA a b (j :: f) = (if inW a b j then j.Net else 0) + zA a b f := by
  unfold zA
  by_cases h : inW a b j <;> simp [h]

end Go.Abs
namespace Go.Abs
open Go
theorem w00 : IntKind.i64.wrap 0 = 0 := dM (by omega) (by omega)

def lF : Int → Int → List aH → List aT
  | n, fr, [] => if 0 < n then [⟨fr, 1125899906842624⟩] else []
  | n, fr, j :: r => if n + j.Net = 0 then ⟨if n = 0 then j.At else fr, j.At⟩ :: lF 0 (if n = 0 then j.At else fr) r else lF (n + j.Net) (if n = 0 then j.At else fr) r

def mT (f : List aH) : List aT := lF 0 0 f

def AN (n : Int) (f : List aH) : Prop := n ≤ 1048576 * (2048 - f.length) ∧ -(1048576 * (2048 - f.length)) ≤ n ∧ f.length ≤ 1024

theorem AN.next {n : Int} {j : aH} {r : List aH} (h : AN n (j :: r)) (hj : j.Net ≤ 1048576 ∧ -1048576 ≤ j.Net) : AN (n + j.Net) r := by
  obtain ⟨h1, h2, h3⟩ := h
  simp only [List.length_cons] at h1 h2 h3
  exact ⟨by omega, by omega, by omega⟩

theorem AN.small {n : Int} {f : List aH} (h : AN n f) : n ≤ 4294967296 ∧ -4294967296 ≤ n := by
  obtain ⟨h1, h2, h3⟩ := h
  omega

theorem AN.zero {n : Int} {f : List aH} (h : AN n f) : AN 0 f := by
  obtain ⟨h1, h2, h3⟩ := h
  exact ⟨by omega, by omega, h3⟩

theorem TH {σ : Type} {y : σ → aT → Option (σ × Bool)} {f : List aH} (hl : f.length ≤ 1024) : ∀ (r : List aH) (k : Nat) (last n fr : Int) (s s' : σ), f.drop k = r → k ≤ f.length → pY last r → AN n r → uL y (lF n fr r) s = some s' →
    ∃ x, lp (fun s : σ × Int × Int × Int => gO y f ((f.length : Nat) : Int) s.1 s.2.1 s.2.2.1 s.2.2.2) (s, n, fr, (k : Int)) = some x ∧ Sum.elim (fun rr => nN y rr.1 rr.2.1 rr.2.2) (fun rr => some rr) x = some s' := by
  intro r
  induction r with
  | nil =>
    intro k last n fr s s' hd hk _ _ h
    have hk' : k = f.length := by
      have := congrArg List.length hd
      simp at this; omega
    subst hk'
    refine ⟨.inl (s, n, fr), cU ?_, ?_⟩
    · show gO _ _ _ _ _ _ _ = _
      simp only [gO, fO, cond_false]
    · simp only [Sum.elim_inl, nN]
      by_cases hn : 0 < n
      · simp only [lF, hn, if_true, uL] at h
        obtain ⟨x, hx, h⟩ := aZ h
        rw [decide_eq_true hn, cond_true, hx]
        simp only [Option.bind_some]
        cases hx2 : x.2 <;> rw [hx2] at h <;> simpa using h
      · simp only [lF, hn, if_false, uL] at h
        rw [decide_eq_false hn, cond_false]; exact h
  | cons j r ih =>
    intro k last n fr s s' hd hk hr hroom h
    obtain ⟨hget, hd'⟩ := drop_cons hd
    have hlt : k < f.length := (List.getElem?_eq_some_iff.1 hget).1
    obtain ⟨d1, d2, d3, d4⟩ := idx hget (by omega)
    have hj := hr.1
    have hnx := hroom.next ⟨hj.2.2.2.1, hj.2.2.2.2⟩
    have hsm := hnx.small
    have hw : IntKind.i64.wrap (n + j.Net) = n + j.Net := dM (by omega) (by omega)
    -- what the body does
    have body : gO y f ((f.length : Nat) : Int) s n fr (k : Int) = mL y s n (if n = 0 then j.At else fr) j f ((f.length : Nat) : Int) (k : Int) := by
      simp only [gO, d1, cond_true, aM d2, d3]
      by_cases hn : n = 0 <;> simp [hn]
    by_cases hz : n + j.Net = 0
    · simp only [lF, hz, if_true, uL] at h
      obtain ⟨x, hx, h⟩ := aZ h
      have hb : (fun s : σ × Int × Int × Int => gO y f ((f.length : Nat) : Int) s.1 s.2.1 s.2.2.1 s.2.2.2) (s, n, fr, (k : Int)) = some (if x.2 then .inl (x.1, 0, (if n = 0 then j.At else fr), ((k + 1 : Nat) : Int)) else .inr (.inr x.1)) := by
        show gO _ _ _ _ _ _ _ = _
        rw [body]
        simp only [mL, hw, d4, hz, w00, decide_true, IJ, cond_true, hx, Option.bind_some, Bool.true_and]
        cases x.2 <;> rfl
      cases hx2 : x.2
      · rw [hx2] at hb h
        simp only [Bool.false_eq_true, if_false, Option.some.injEq] at hb h
        exact ⟨_, cU hb, by simpa using h⟩
      · rw [hx2] at hb h
        simp only [if_true] at hb h
        obtain ⟨z, hz1, hz2⟩ := ih (k + 1) j.At 0 _ x.1 s' hd' (by omega) hr.2 hnx.zero h
        exact ⟨z, by rw [eX hb]; exact hz1, hz2⟩
    · simp only [lF, hz, if_false] at h
      have hb : (fun s : σ × Int × Int × Int => gO y f ((f.length : Nat) : Int) s.1 s.2.1 s.2.2.1 s.2.2.2) (s, n, fr, (k : Int)) = some (.inl (s, n + j.Net, (if n = 0 then j.At else fr), ((k + 1 : Nat) : Int))) := by
        show gO _ _ _ _ _ _ _ = _
        rw [body]
        simp only [mL, hw, d4, decide_eq_false hz, IJ, cond_false, Option.bind_some, Bool.false_and]
      obtain ⟨z, hz1, hz2⟩ := ih (k + 1) j.At (n + j.Net) _ s s' hd' (by omega) hr.2 hnx h
      exact ⟨z, by rw [eX hb]; exact hz1, hz2⟩

theorem ZT {σ : Type} {y : σ → aT → Option (σ × Bool)} {f : List aH} (hf : gE f = true) {s s' : σ} (h : uL y (mT f) s = some s') : qV y f s = some s' := by
  obtain ⟨hl, hr⟩ := lM.1 hf
  obtain ⟨x, h1, h2⟩ := TH (y := y) hl f 0 (-2) 0 0 s s' rfl (by omega) hr ⟨by omega, by omega, hl⟩ h
  unfold qV sQ
  simp only [Int.natCast_zero] at h1
  rw [h1]
  exact h2

theorem NB {f : List aH} (hl : f.length ≤ 1024) : ∀ (r : List aH) (k : Nat) (last n fr : Int) (out : List aT), f.drop k = r → k ≤ f.length → pY last r → AN n r → out.length + r.length ≤ 1024 →
    (lp (fun s : List aT × Int × Int × Int => iD f s.1 s.2.1 s.2.2.1 s.2.2.2) (out, n, fr, (k : Int))).bind (fun rr => pL rr.1 rr.2.1 rr.2.2) = some (out ++ lF n fr r) := by
  intro r
  induction r with
  | nil =>
    intro k last n fr out hd hk _ _ ho
    have hk' : k = f.length := by
      have := congrArg List.length hd
      simp at this; omega
    subst hk'
    have hb : (fun s : List aT × Int × Int × Int => iD f s.1 s.2.1 s.2.2.1 s.2.2.2) (out, n, fr, ((f.length : Nat) : Int)) = some (.inr (out, n, fr)) := by
      show iD _ _ _ _ _ = _
      simp only [iD, fO, cond_false]
    rw [cU hb]
    simp only [Option.bind_some, pL, rQ, lF]
    by_cases hn : 0 < n
    · rw [decide_eq_true hn, cond_true, if_pos hn]
      simp only [List.length_nil] at ho
      exact aM (by simp only [List.length_cons, List.length_nil]; omega)
    · rw [decide_eq_false hn, cond_false, if_neg hn, List.append_nil]
  | cons j r ih =>
    intro k last n fr out hd hk hr hroom ho
    obtain ⟨hget, hd'⟩ := drop_cons hd
    have hlt : k < f.length := (List.getElem?_eq_some_iff.1 hget).1
    obtain ⟨d1, d2, d3, d4⟩ := idx hget (by omega)
    have hj := hr.1
    have hnx := hroom.next ⟨hj.2.2.2.1, hj.2.2.2.2⟩
    have hsm := hnx.small
    have hw : IntKind.i64.wrap (n + j.Net) = n + j.Net := dM (by omega) (by omega)
    simp only [List.length_cons] at ho
    have body : iD f out n fr (k : Int) = nQ f out n (if n = 0 then j.At else fr) (k : Int) := by
      simp only [iD, d1, cond_true]
      by_cases hn : n = 0
      · simp only [hn, decide_true, cond_true, aM d2, d3, if_true]
      · simp only [hn, decide_false, cond_false, if_false]
    by_cases hz : n + j.Net = 0
    · have hb : (fun s : List aT × Int × Int × Int => iD f s.1 s.2.1 s.2.2.1 s.2.2.2) (out, n, fr, (k : Int)) = some (.inl (out ++ [⟨if n = 0 then j.At else fr, j.At⟩], 0, (if n = 0 then j.At else fr), ((k + 1 : Nat) : Int))) := by
        show iD _ _ _ _ _ = _
        rw [body]
        simp only [nQ, aM d2, d3, hw, hz, w00, decide_true, cond_true]
        rw [aM (by simp only [List.length_cons, List.length_nil]; omega)]
        simp only [pF, d4]
      rw [eX hb, ih (k + 1) j.At 0 _ _ hd' (by omega) hr.2 hnx.zero (by simp; omega)]
      simp only [lF, hz, if_true, List.append_assoc, List.cons_append, List.nil_append]
    · have hb : (fun s : List aT × Int × Int × Int => iD f s.1 s.2.1 s.2.2.1 s.2.2.2) (out, n, fr, (k : Int)) = some (.inl (out, n + j.Net, (if n = 0 then j.At else fr), ((k + 1 : Nat) : Int))) := by
        show iD _ _ _ _ _ = _
        rw [body]
        simp only [nQ, aM d2, d3, hw, decide_eq_false hz, cond_false]
        simp only [pF, d4]
      rw [eX hb, ih (k + 1) j.At (n + j.Net) _ _ hd' (by omega) hr.2 hnx (by omega)]
      simp only [lF, hz, if_false]

theorem RZ {f : List aH} (hf : gE f = true) : tG f = some (mT f) := by
  obtain ⟨hl, hr⟩ := lM.1 hf
  have := NB hl f 0 (-2) 0 0 [] rfl (by omega) hr ⟨by omega, by omega, hl⟩ (by simpa using hl)
  unfold tG wK mT
  simpa using this

theorem GS : ∀ {f : List aH} {n fr : Int}, (lF n fr f).length ≤ f.length + 1
  | [], n, fr => by unfold lF; split <;> simp
  | j :: r, n, fr => by
    unfold lF
    split
    · have := GS (f := r) (n := 0) (fr := if n = 0 then j.At else fr); simp only [List.length_cons]; omega
    · have := GS (f := r) (n := n + j.Net) (fr := if n = 0 then j.At else fr); simp only [List.length_cons]; omega

theorem GI {x : Int} (hx : x < 1125899906842624) : ∀ {f : List aH} {last n fr : Int}, pY last f → (∀ t, 0 ≤ n + val f t) → (n ≠ 0 → fr ≤ last) →
    ((∃ s ∈ lF n fr f, s.From ≤ x ∧ x < s.To) ↔ (n ≠ 0 → fr ≤ x) ∧ 0 < n + val f x)
  | [], last, n, fr, _, hn, _ => by
    have h0 := hn 0
    simp only [JA, Int.add_zero] at h0 ⊢
    unfold lF
    by_cases h : 0 < n
    · rw [if_pos h]
      simp only [List.mem_singleton]
      constructor
      · rintro ⟨s, rfl, h1, h2⟩; exact ⟨fun _ => h1, h⟩
      · rintro ⟨h1, _⟩; exact ⟨_, rfl, h1 (by omega), hx⟩
    · rw [if_neg h]
      simp [h]
  | j :: r, last, n, fr, hr, hn, hf => by
    have hj := hr.1
    have hab := hr.2.above
    have hv : ∀ t, t ≤ j.At → val r t = 0 := fun t ht => vS fun k hk => by have := (hab k hk).1; omega
    have hn0 : 0 ≤ n := by
      have := hn (j.At - 1)
      rw [gL, if_neg (by omega), hv _ (by omega)] at this; omega
    have hn1 : 0 ≤ n + j.Net := by
      have := hn j.At
      rw [gL, if_pos (by omega), hv _ (by omega)] at this; omega
    have hn2 : ∀ t, 0 ≤ (n + j.Net) + val r t := fun t => by
      by_cases ht : j.At ≤ t
      · have := hn t
        rw [gL, if_pos ht] at this; omega
      · rw [hv t (by omega)]; omega
    rw [gL]
    unfold lF
    by_cases hz : n + j.Net = 0
    · rw [if_pos hz]
      have ih := GI hx (f := r) (last := j.At) (n := 0) (fr := if n = 0 then j.At else fr) hr.2 (fun t => by have := hn2 t; omega) (by simp)
      have e : (∃ s ∈ (⟨if n = 0 then j.At else fr, j.At⟩ : aT) :: lF 0 (if n = 0 then j.At else fr) r, s.From ≤ x ∧ x < s.To) ↔ ((if n = 0 then j.At else fr) ≤ x ∧ x < j.At) ∨ (∃ s ∈ lF 0 (if n = 0 then j.At else fr) r, s.From ≤ x ∧ x < s.To) := by
        simp only [List.mem_cons, or_and_right, exists_or, exists_eq_left]
      rw [e, ih]
      by_cases hnz : n = 0
      · omega
      · rw [if_neg hnz]
        have hfl := hf hnz
        by_cases hxj : j.At ≤ x
        · rw [if_pos hxj]
          constructor
          · rintro (h | h)
            · omega
            · exact ⟨fun _ => by omega, by have := h.2; omega⟩
          · rintro ⟨_, h⟩; right; exact ⟨by simp, by omega⟩
        · rw [if_neg hxj, hv x (by omega)]
          constructor
          · rintro (h | h)
            · exact ⟨fun _ => h.1, by omega⟩
            · have := h.2; omega
          · rintro ⟨h, _⟩; left; exact ⟨h hnz, by omega⟩
    · rw [if_neg hz, GI hx (f := r) (last := j.At) (n := n + j.Net) (fr := if n = 0 then j.At else fr) hr.2 hn2 (fun _ => by
        split
        · exact Int.le_refl _
        · rename_i h; have := hf h; omega)]
      by_cases hnz : n = 0
      · simp only [hnz, if_true]
        by_cases hxj : j.At ≤ x
        · rw [if_pos hxj]
          constructor
          · rintro ⟨_, h⟩; exact ⟨by simp, by omega⟩
          · rintro ⟨_, h⟩; exact ⟨fun _ => hxj, by omega⟩
        · rw [if_neg hxj, hv x (by omega)]
          constructor
          · rintro ⟨h, _⟩; exact absurd (h (by omega)) hxj
          · rintro ⟨_, h⟩; omega
      · rw [if_neg hnz]
        by_cases hxj : j.At ≤ x
        · rw [if_pos hxj]
          constructor
          · rintro ⟨h, h2⟩; exact ⟨fun _ => h hz, by omega⟩
          · rintro ⟨h, h2⟩; exact ⟨fun _ => h hnz, by omega⟩
        · rw [if_neg hxj, hv x (by omega)]
          constructor
          · rintro ⟨h, h2⟩; exact ⟨fun _ => h hz, by omega⟩
          · rintro ⟨h, h2⟩; exact ⟨fun _ => h hnz, by omega⟩

theorem EM : ∀ {f : List aH} {last n fr : Int}, pY last f → -2 ≤ last → last < 1125899906842624 → (n ≠ 0 → fr ≤ last ∧ -1 ≤ fr) → ∀ s ∈ lF n fr f, -1 ≤ s.From ∧ s.From < s.To ∧ s.To ≤ 1125899906842624
  | [], last, n, fr, _, h1, h2, hf, s, hs => by
    unfold lF at hs
    split at hs
    · simp only [List.mem_singleton] at hs; subst hs
      have := hf (by omega)
      exact ⟨this.2, by show fr < 1125899906842624; omega, Int.le_refl _⟩
    · simp at hs
  | j :: r, last, n, fr, hr, h1, h2, hf, s, hs => by
    have hj := hr.1
    have key : (if n = 0 then j.At else fr) ≤ j.At ∧ -1 ≤ (if n = 0 then j.At else fr) := by
      split
      · omega
      · rename_i h; have := hf h; omega
    unfold lF at hs
    split at hs
    · rcases List.mem_cons.1 hs with rfl | hs
      · rename_i hz
        have hnz : n ≠ 0 := by omega
        have := hf hnz
        refine ⟨key.2, ?_, by show j.At ≤ _; omega⟩
        show (if n = 0 then j.At else fr) < j.At
        rw [if_neg hnz]; omega
      · exact EM hr.2 (by omega) (by omega) (by simp) s hs
    · exact EM hr.2 (by omega) (by omega) (fun _ => key) s hs

theorem NG {f : List aH} (hf : gE f = true) (hv : ∀ t, 0 ≤ val f t) {x : Int} (hx : x < 1125899906842624) : (∃ s ∈ mT f, s.From ≤ x ∧ x < s.To) ↔ 0 < val f x := by
  rw [mT, GI hx (lM.1 hf).2 (fun t => by have := hv t; omega) (by simp)]
  simp

theorem ES {f : List aH} (hf : gE f = true) : ∀ s ∈ mT f, -1 ≤ s.From ∧ s.From < s.To ∧ s.To ≤ 1125899906842624 :=
  EM (lM.1 hf).2 (by omega) (by omega) (by simp)

def jU (f : List aH) (a b : Int) : Int := val f a + zA (a + 1) b f

theorem LO (a b : Int) : ∀ {f : List aH}, (∀ j ∈ f, j.Net ≤ 1048576) → 0 ≤ zA a b f ∧ zA a b f ≤ 1048576 * f.length
  | [], _ => by simp [zA]
  | j :: r, h => by
    have ih := LO a b (f := r) fun k hk => h k (List.mem_cons_of_mem _ hk)
    have hj := h j (by simp)
    rw [EA]
    simp only [List.length_cons, Int.natCast_add, Int.natCast_one, Int.mul_add, Int.mul_one]
    by_cases hi : inW a b j = true
    · rw [if_pos hi]
      simp only [inW, Bool.and_eq_true, decide_eq_true_eq] at hi
      omega
    · rw [if_neg hi]; omega

theorem NU {f : List aH} (hf : gE f = true) {w : aT} : tN f w = some (jU f w.From w.To) := by
  obtain ⟨hl, hr⟩ := lM.1 hf
  have hb := hr.above
  have hv := IN (f := f) w.From (show (0 : Int) ≤ 1048576 by omega) fun j hj => ⟨(hb j hj).2.2.2.1, (hb j hj).2.2.2.2⟩
  unfold tN
  rw [aEf, hf]
  simp only [if_true, Option.bind_some]
  unfold wN
  have key := nS (l := f) (body := fun s : Int × Int => pH w f ((f.length : Nat) : Int) s.1 s.2) (fun (n : Int) i => (n, i)) (fun n r => n + zA (w.From + 1) w.To r)
    (fun n r => n ≤ 1048576 * (2048 - r.length) ∧ -(1048576 * (2048 - r.length)) ≤ n ∧ r.length ≤ 1024 ∧ ∀ j ∈ r, j.Net ≤ 1048576 ∧ -1048576 ≤ j.Net) (val f w.From) ?_ ?_ ⟨by omega, by omega, hl, fun j hj => ⟨(hb j hj).2.2.2.1, (hb j hj).2.2.2.2⟩⟩
  · rw [key]
    rfl
  · intro i j r n hj hI
    left
    obtain ⟨d1, d2, d3, d4⟩ := idx hj (by omega)
    obtain ⟨i1, i2, i3, i4⟩ := hI
    simp only [List.length_cons] at i1 i2 i3
    have i5 := i4 j (by simp)
    have hmx : (if (0 : Int) > j.Net then (0 : Int) else j.Net) = if 0 < j.Net then j.Net else 0 := by split <;> split <;> omega
    refine ⟨n + (if inW (w.From + 1) w.To j then j.Net else 0), ?_, ⟨?_, ?_, by omega, fun k hk => i4 k (List.mem_cons_of_mem _ hk)⟩, by rw [EA]; omega⟩
    · have e1 : inW (w.From + 1) w.To j = (decide (0 < j.Net) && ((decide (w.From < j.At)) && (decide (j.At < w.To)))) := by
        unfold inW
        have : decide (w.From + 1 ≤ j.At) = decide (w.From < j.At) := decide_eq_decide.2 (by omega)
        rw [this]
      simp only [pH, d1, cond_true, aM d2, d3, hmx, e1]
      cases hw : (decide (w.From < j.At)) && (decide (j.At < w.To)) with
      | false =>
        simp only [cond_false, pJ, d4, Bool.and_false, Bool.false_eq_true, if_false, Int.add_zero]
      | true =>
        have : IntKind.i64.wrap (n + (if 0 < j.Net then j.Net else 0)) = n + (if 0 < j.Net then j.Net else 0) := dM (by split <;> omega) (by split <;> omega)
        simp only [cond_true, pJ, d4, this, Bool.and_true, decide_eq_true_eq]
    · split <;> omega
    · split <;> omega
  · intro n _
    simp only [pH, fO, cond_false]
    simp [zA]

theorem GY {f : List aH} (hf : gE f = true) {w : aT} : qT f w = some (jU f w.From w.To) := by
  obtain ⟨hl, hr⟩ := lM.1 hf
  have hb := hr.above
  have hv := IN (f := f) w.From (show (0 : Int) ≤ 1048576 by omega) fun j hj => ⟨(hb j hj).2.2.2.1, (hb j hj).2.2.2.2⟩
  unfold qT
  rw [CH hf]
  simp only [Option.bind_some]
  unfold sX
  have key := nS (l := f) (body := fun s : Int × Int => nO f w s.1 s.2) (fun (n : Int) i => (n, i)) (fun n r => n + zA (w.From + 1) w.To r)
    (fun n r => n ≤ 1048576 * (2048 - r.length) ∧ -(1048576 * (2048 - r.length)) ≤ n ∧ r.length ≤ 1024 ∧ ∀ j ∈ r, j.Net ≤ 1048576 ∧ -1048576 ≤ j.Net) (val f w.From) ?_ ?_ ⟨by omega, by omega, hl, fun j hj => ⟨(hb j hj).2.2.2.1, (hb j hj).2.2.2.2⟩⟩
  · rw [key]
    rfl
  · intro i j r n hj hI
    left
    obtain ⟨d1, d2, d3, d4⟩ := idx hj (by omega)
    obtain ⟨i1, i2, i3, i4⟩ := hI
    simp only [List.length_cons] at i1 i2 i3
    have i5 := i4 j (by simp)
    refine ⟨n + (if inW (w.From + 1) w.To j then j.Net else 0), ?_, ⟨?_, ?_, by omega, fun k hk => i4 k (List.mem_cons_of_mem _ hk)⟩, by rw [EA]; omega⟩
    · have e1 : inW (w.From + 1) w.To j = (((decide (w.From < j.At)) && (decide (j.At < w.To))) && (decide (0 < j.Net))) := by
        unfold inW
        have : decide (w.From + 1 ≤ j.At) = decide (w.From < j.At) := decide_eq_decide.2 (by omega)
        rw [this, Bool.and_comm]
      have : IntKind.i64.wrap (n + j.Net) = n + j.Net := dM (by omega) (by omega)
      simp only [nO, d1, cond_true, d3, e1, aM d2, this]
      cases h1 : decide (w.From < j.At) <;> cases h2 : decide (j.At < w.To) <;> cases h3 : decide (0 < j.Net) <;> simp [pX, d4, aM d2, d2.1, d2.2, bF]
    · split <;> omega
    · split <;> omega
  · intro n _
    simp only [nO, fO, cond_false]
    simp [zA]

theorem VA {a b x : Int} (h1 : a ≤ x) (h2 : x < b) : ∀ f : List aH, val f x ≤ val f a + zA (a + 1) b f
  | [] => by simp [zA, JA]
  | j :: r => by
    have ih := VA h1 h2 r
    rw [gL, gL, EA]
    by_cases hi : inW (a + 1) b j = true
    · rw [if_pos hi]
      simp only [inW, Bool.and_eq_true, decide_eq_true_eq] at hi
      split <;> split <;> omega
    · rw [if_neg hi]
      have hi : ¬ (0 < j.Net ∧ a + 1 ≤ j.At ∧ j.At < b) := by simpa [inW] using hi
      split <;> split <;> omega

theorem TK : ∀ {f : List aH} {last : Int}, pY last f → ∀ j ∈ f, val f j.At = val f (j.At - 1) + j.Net
  | [], _, _, j, hj => by simp at hj
  | k :: r, last, hr, j, hj => by
    have hab := hr.2.above
    rw [gL, gL]
    rcases List.mem_cons.1 hj with rfl | hj
    · rw [if_pos (by omega), if_neg (by omega), vS (f := r) fun q hq => (hab q hq).1, vS (f := r) fun q hq => by have := (hab q hq).1; omega]
      omega
    · have := (hab j hj).1
      rw [if_pos (by omega), if_pos (by omega), TK hr.2 j hj]
      omega

theorem KO {f : List aH} (hf : gE f = true) (hv : ∀ t, 0 ≤ val f t) {a b : Int} (hab : a < b) : 0 < jU f a b ↔ ∃ x, a ≤ x ∧ x < b ∧ 0 < val f x := by
  obtain ⟨hl, hr⟩ := lM.1 hf
  have hb := hr.above
  have hg := LO (a + 1) b (f := f) fun j hj => (hb j hj).2.2.2.1
  unfold jU
  constructor
  · intro h
    by_cases h0 : 0 < val f a
    · exact ⟨a, Int.le_refl _, hab, h0⟩
    · have hva := hv a
      have hne : f.filter (inW (a + 1) b) ≠ [] := by
        intro hc
        unfold zA at h
        rw [hc] at h
        simp at h; omega
      obtain ⟨j, hj⟩ := List.exists_mem_of_ne_nil _ hne
      obtain ⟨hj1, hj2⟩ := List.mem_filter.1 hj
      simp only [inW, Bool.and_eq_true, decide_eq_true_eq] at hj2
      have := TK hr j hj1
      have := hv (j.At - 1)
      exact ⟨j.At, by omega, by omega, by omega⟩
  · rintro ⟨x, h1, h2, h3⟩
    have := VA h1 h2 f
    omega

end Go.Abs
namespace Go.Abs
open Go
theorem RI {β : Type} {k : Int} {v : β} : ∀ {m : List (Int × β)}, k ∈ m.map (·.1) → (iC m k v).map (·.1) = m.map (·.1)
  | [], h => by simp at h
  | p :: m, h => by
    by_cases hp : p.1 = k
    · simp [iC, hp]
    · simp only [List.map_cons, List.mem_cons] at h
      rcases h with h | h
      · exact absurd h.symm hp
      · simp only [iC, hp, if_false, List.map_cons, RI h]

theorem QC {β : Type} {k : Int} {v : β} {m : List (Int × β)} (h : k ∉ m.map (·.1)) : (iC m k v).map (·.1) = m.map (·.1) ++ [k] := by
  rw [LK fun p hp e => h (List.mem_map.2 ⟨p, hp, e⟩)]; simp

theorem HA {β : Type} {k : Int} : ∀ {m : List (Int × β)}, fW m k = none ↔ k ∉ m.map (·.1)
  | [] => by simp [fW]
  | p :: m => by
    rw [fW]
    by_cases hp : p.1 = k
    · simp [hp]
    · rw [if_neg hp, HA (m := m)]
      simp only [List.map_cons, List.mem_cons, not_or]
      exact ⟨fun h => ⟨fun e => hp e.symm, h⟩, fun h => h.2⟩

theorem HF {β : Type} {k x : Int} {v : β} : ∀ {m : List (Int × β)}, fW (iC m k v) x = if x = k then some v else fW m x
  | [] => by
    simp only [iC, fW]
    by_cases h : k = x
    · simp [h]
    · rw [if_neg h, if_neg (fun e => h e.symm)]
  | p :: m => by
    by_cases hp : p.1 = k
    · simp only [iC, if_pos hp, fW]
      by_cases h : k = x
      · simp [h]
      · rw [if_neg h, if_neg (fun e => h e.symm), if_neg (by rw [hp]; exact h)]
    · simp only [iC, if_neg hp, fW]
      by_cases h : p.1 = x
      · rw [if_pos h, if_pos h, if_neg (fun e => hp (h.trans e))]
      · rw [if_neg h, if_neg h, HF (m := m)]

theorem HT {S α : Type} {f : S → α → Option S} : ∀ {a b : List α} {s : S}, cS f s (a ++ b) = (cS f s a).bind fun s' => cS f s' b
  | [], b, s => rfl
  | x :: a, b, s => by
    simp only [List.cons_append, cS]
    cases f s x with
    | none => rfl
    | some s' => exact HT (a := a)

def mkW (size t : Int) : aP := ⟨⟨t, min (t + size) 1125899906842624⟩, []⟩

def jM (g : List aC × List aH) (p : aP) : aP :=
  if p.Rows = [] ∨ (sK p.Rows).Row ≠ g.1 then ⟨p.Span, p.Rows ++ [⟨g.1, jU g.2 p.Span.From p.Span.To⟩]⟩ else p

def mI (size : Int) (g : List aC × List aH) (m : List (Int × aP)) (t : Int) : Option (List (Int × aP)) :=
  match fW m t with
  | none => if m.length = 1024 then none else some (iC m t (jM g (mkW size t)))
  | some p => some (iC m t (jM g p))

theorem yU (rs : List cP) (c : cP) : sK (rs ++ [c]) = c := by
  unfold sK
  have : (rs ++ [c]).length - 1 = rs.length := by simp
  rw [this, List.getD_eq_getElem?_getD, List.getElem?_append_right (Nat.le_refl _)]
  simp

theorem WN (g : List aC × List aH) (p : aP) : (jM g p).Rows ≠ [] ∧ (sK (jM g p).Rows).Row = g.1 := by
  unfold jM
  split
  · exact ⟨by simp, by rw [yU]⟩
  · rename_i h
    simp only [not_or, Decidable.not_not] at h
    exact h

theorem UM (g : List aC × List aH) (p : aP) : jM g (jM g p) = jM g p := by
  obtain ⟨h1, h2⟩ := WN g p
  have key : ∀ q : aP, q.Rows ≠ [] → (sK q.Rows).Row = g.1 → jM g q = q := fun q a b => by
    unfold jM
    rw [if_neg (by simp [a, b])]
  exact key _ h1 h2

theorem HI {g : List aC × List aH} (hg : gE g.2 = true) (hr : g.1.length ≤ 4398046510976) {p : aP} (hp : p.Rows.length ≤ 1000000) (hlr : p.Rows ≠ [] → (sK p.Rows).Row.length ≤ 4398046510976) : oS g.1 g.2 p = some (jM g p) := by
  unfold oS
  have hlen : IntKind.i64.wrap (((List.length p.Rows : Nat) : Int) - 1) = ((List.length p.Rows : Nat) : Int) - 1 := dM (by omega) (by omega)
  simp only [wR, lN, gD, hlen]
  cases hR : p.Rows with
  | nil =>
    have h0 : decide ((((List.length ([] : List cP) : Nat) : Int) - 1) < 0) = true := by decide
    simp only [h0, Bool.not_true, Bool.true_or, cond_true, cT, cond_false, Option.bind_some]
    rw [aM (by simp)]
    rw [FP hr, Option.bind_some, NU hg, Option.bind_some, aM (by simp)]
    unfold jM
    rw [if_pos (.inl hR), hR]
  | cons c rs =>
    have hl2 : (c :: rs).length ≤ 1000000 := by rw [← hR]; exact hp
    have hge : 0 ≤ (((List.length (c :: rs) : Nat) : Int) - 1) ∧ (((List.length (c :: rs) : Nat) : Int) - 1) < ((List.length (c :: rs) : Nat) : Int) := by simp only [List.length_cons]; omega
    have h0 : decide ((((List.length (c :: rs) : Nat) : Int) - 1) < 0) = false := decide_eq_false (by omega)
    have hlast : List.getD (c :: rs) (Int.toNat (((List.length (c :: rs) : Nat) : Int) - 1)) default = sK (c :: rs) := by
      unfold sK
      congr 1
      omega
    rw [h0]
    simp only [Bool.not_false, Bool.false_or, cT, cond_true]
    rw [aM (fun _ => hge), hlast]
    have hsame : sN (sK (c :: rs)).Row g.1 = some (decide ((sK (c :: rs)).Row = g.1)) := by
      have := hlr (by rw [hR]; simp)
      rw [hR] at this
      exact OF _ _ (by omega)
    rw [hsame, Option.bind_some]
    unfold jM
    rw [hR]
    by_cases hq : (sK (c :: rs)).Row = g.1
    · rw [decide_eq_true hq, if_neg (by simp [hq])]; rfl
    · rw [decide_eq_false hq, if_pos (.inr hq)]
      simp only [Bool.not_false, cond_true]
      rw [FP hr, Option.bind_some, NU hg, Option.bind_some, aM (by simp only [List.length_cons, List.length_nil] at hl2 ⊢; omega)]

def KR (n : Nat) (r : List aC) (p : aP) : Prop := (p.Rows.length ≤ n ∨ (p.Rows ≠ [] ∧ (sK p.Rows).Row = r ∧ p.Rows.length ≤ n + 1)) ∧ (p.Rows ≠ [] → (sK p.Rows).Row.length ≤ 4398046510976)

theorem KR.add {n : Nat} {g : List aC × List aH} (hr : g.1.length ≤ 4398046510976) {p : aP} (h : KR n g.1 p) : KR n g.1 (jM g p) := by
  obtain ⟨h, h'⟩ := h
  unfold jM
  split
  · rename_i hc
    refine ⟨.inr ⟨by simp, by rw [yU], ?_⟩, fun _ => by rw [yU]; exact hr⟩
    rcases h with h | ⟨h1, h2, h3⟩
    · simp; omega
    · rcases hc with hc | hc
      · exact absurd hc h1
      · exact absurd h2 hc
  · exact ⟨h, h'⟩

def GH (n : Nat) (r : List aC) (m : List (Int × aP)) : Prop := ∀ t p, fW m t = some p → KR n r p

theorem aBY {size : Int} {g : List aC × List aH} (hg : gE g.2 = true) (hr : g.1.length ≤ 4398046510976) {n : Nat} (hn : n ≤ 900000) {m : List (Int × aP)} (hm : GH n g.1 m) {t : Int} (h0 : 0 ≤ t) (h1 : t < 1125899906842624) (hs0 : 0 ≤ size) (hs : size ≤ 1099511627776) (b : Bool) :
    (∀ m', mI size g m t = some m' → nG g.1 g.2 size b m t = some (.inl (b, m')) ∧ GH n g.1 m') ∧ (mI size g m t = none → nG g.1 g.2 size b m t = some (.inr (false, m))) := by
  unfold mI nG
  have small : ∀ p, KR n g.1 p → p.Rows.length ≤ 1000000 := fun p hp => by rcases hp.1 with h | ⟨_, _, h⟩ <;> omega
  have put : ∀ p, KR n g.1 p → GH n g.1 (iC m t (jM g p)) := by
    intro p hp t' p' h
    rw [HF] at h
    split at h
    · cases h; exact hp.add hr
    · exact hm t' p' h
  cases hgt : fW m t with
  | none =>
    simp only
    have hw : IntKind.i64.wrap (t + size) = t + size := dM (by omega) (by omega)
    have hmk : (aP.mk (aT.mk t (if (1125899906842624 : Int) < (wR (t + size)) then (1125899906842624 : Int) else (wR (t + size)))) []) = mkW size t := by
      unfold mkW
      simp only [wR, hw]
      congr 2
      rw [Int.min_def]; split <;> split <;> omega
    have hf : KR n g.1 (mkW size t) := ⟨.inl (by simp [mkW]), fun h => absurd rfl h⟩
    rw [hmk, HI hg hr (small _ hf) hf.2]
    by_cases hl : m.length = 1024
    · have : decide ((lN m) = (1024 : Int)) = true := decide_eq_true (by simp only [lN]; omega)
      rw [this, if_pos hl]
      exact ⟨fun m' h => (by cases h), fun _ => rfl⟩
    · have : decide ((lN m) = (1024 : Int)) = false := decide_eq_false (by simp only [lN]; omega)
      rw [this, if_neg hl]
      refine ⟨fun m' h => ?_, fun h => (by cases h)⟩
      cases h
      exact ⟨rfl, put _ hf⟩
  | some p =>
    simp only
    have hf := hm t p hgt
    rw [HI hg hr (small _ hf) hf.2]
    refine ⟨fun m' h => ?_, fun h => (by cases h)⟩
    cases h
    exact ⟨rfl, put _ hf⟩

theorem UE {size : Int} {g : List aC × List aH} (hg : gE g.2 = true) (hr : g.1.length ≤ 4398046510976) {n : Nat} (hn : n ≤ 900000) (hs0 : 0 ≤ size) (hs : size ≤ 1099511627776) (b : Bool) : ∀ (ts : List Int) (m : List (Int × aP)), GH n g.1 m → (∀ t ∈ ts, 0 ≤ t ∧ t < 1125899906842624) →
    ∃ x, uL (fun st t => rnd (fun (q : Bool × List (Int × aP)) => nG g.1 g.2 size q.1 q.2 t) st) ts (.inl (b, m)) = some x ∧ (∀ m', cS (mI size g) m ts = some m' → x = .inl (b, m') ∧ GH n g.1 m') ∧ (cS (mI size g) m ts = none → ∃ q, q.1 = false ∧ x = .inr q)
  | [], m, hm, _ => ⟨_, rfl, fun m' h => by simp only [cS, Option.some.injEq] at h; subst h; exact ⟨rfl, hm⟩, fun h => by simp [cS] at h⟩
  | t :: ts, m, hm, ht => by
    obtain ⟨h0, h1⟩ := ht t (by simp)
    obtain ⟨a1, a2⟩ := aBY hg hr hn hm h0 h1 hs0 hs b
    simp only [uL, cS]
    cases hst : mI size g m t with
    | none =>
      have e := a2 hst
      refine ⟨.inr (false, m), ?_, fun m' h => (by simp at h), fun _ => ⟨_, rfl, rfl⟩⟩
      simp only [rnd, e, Option.bind_some, Sum.isLeft_inr, Bool.false_eq_true, if_false]
    | some m1 =>
      obtain ⟨e, hm1⟩ := a1 m1 hst
      obtain ⟨x, e1, e2, e3⟩ := UE hg hr hn hs0 hs b ts m1 hm1 fun t' h' => ht t' (by simp [h'])
      refine ⟨x, ?_, e2, e3⟩
      simp only [rnd, e, Option.bind_some, Sum.isLeft_inl, if_true]
      exact e1

def oG (size hop frm front : Int) (f : List aH) : List Int := (mT f).flatMap (dB size hop frm front)

theorem xS {size hop frm front : Int} (ok : OkH size hop frm front) (s : aT) : ∀ t ∈ dB size hop frm front s, 0 ≤ t ∧ t < 1125899906842624 := by
  intro t ht
  unfold dB at ht
  have h1 := (QB (b := lH front s) ok.h0 (qD size hop frm s)).2 t ht
  obtain ⟨k, _, h2⟩ := (VT ok.h0 _).1 ht
  have h3 := (zG (n := s.From - size) ok.h0).1
  have h4 : jH hop (s.From - size) ≤ qD size hop frm s := Int.le_max_left _ _
  have h5 : lH front s ≤ 1125899906842624 := Int.min_le_right _ _
  omega

theorem TZ {size hop frm front : Int} (ok : OkH size hop frm front) {g : List aC × List aH} (hg : gE g.2 = true) (hr : g.1.length ≤ 4398046510976) {n : Nat} (hn : n ≤ 900000) (b : Bool) : ∀ (ss : List aT) (m : List (Int × aP)), GH n g.1 m → (∀ s ∈ ss, -1 ≤ s.From ∧ s.From < s.To ∧ s.To ≤ 1125899906842624) →
    ∃ x, uL (fun st s => rnd (fun (q : Bool × List (Int × aP)) => oP g.1 g.2 size hop frm front q.1 q.2 s) st) ss (.inl (b, m)) = some x ∧ (∀ m', cS (mI size g) m (ss.flatMap (dB size hop frm front)) = some m' → x = .inl (b, m') ∧ GH n g.1 m') ∧ (cS (mI size g) m (ss.flatMap (dB size hop frm front)) = none → ∃ q, q.1 = false ∧ x = .inr q)
  | [], m, hm, _ => ⟨_, rfl, fun m' h => by simp only [List.flatMap_nil, cS, Option.some.injEq] at h; subst h; exact ⟨rfl, hm⟩, fun h => by simp [cS] at h⟩
  | s :: ss, m, hm, hs => by
    have hsp := hs s (by simp)
    obtain ⟨x, e1, e2, e3⟩ := UE hg hr hn (size := size) (by have := ok.s0; omega) ok.s1 b (dB size hop frm front s) m hm (xS ok s)
    have hl : oP g.1 g.2 size hop frm front b m s = (Sum.elim (fun q => some (.inl q)) (fun q => some (.inr q)) x : Option ((Bool × List (Int × aP)) ⊕ (Bool × List (Int × aP)))) := by
      unfold oP
      simp only [rL, Option.bind_some]
      rw [NW ok hsp.1 (by omega) e1]
      rfl
    simp only [uL, List.flatMap_cons, HT]
    cases hst : cS (mI size g) m (dB size hop frm front s) with
    | none =>
      obtain ⟨q, hq, rfl⟩ := e3 hst
      refine ⟨.inr q, ?_, fun m' h => (by simp at h), fun _ => ⟨_, hq, rfl⟩⟩
      simp only [rnd, hl, Sum.elim_inr, Option.bind_some, Sum.isLeft_inr, Bool.false_eq_true, if_false]
    | some m1 =>
      obtain ⟨rfl, hm1⟩ := e2 m1 hst
      obtain ⟨x, f1, f2, f3⟩ := TZ ok hg hr hn b ss m1 hm1 fun s' h' => hs s' (by simp [h'])
      refine ⟨x, ?_, f2, f3⟩
      simp only [rnd, hl, Sum.elim_inl, Option.bind_some, Sum.isLeft_inl, if_true]
      exact f1

theorem aAB {size hop frm front : Int} (ok : OkH size hop frm front) {g : List aC × List aH} (hg : gE g.2 = true) (hr : g.1.length ≤ 4398046510976) {n : Nat} (hn : n ≤ 900000) {m : List (Int × aP)} (hm : GH n g.1 m) :
    ∃ x, vY m g.1 g.2 size hop frm front = some x ∧ (∀ m', cS (mI size g) m (oG size hop frm front g.2) = some m' → x = (true, m') ∧ GH n g.1 m') ∧ (cS (mI size g) m (oG size hop frm front g.2) = none → x.1 = false) := by
  obtain ⟨x, e1, e2, e3⟩ := TZ ok hg hr hn false (mT g.2) m hm (ES hg)
  unfold vY
  simp only [AM, Option.bind_some]
  rw [ZT hg e1, Option.bind_some]
  unfold oG
  cases hst : cS (mI size g) m ((mT g.2).flatMap (dB size hop frm front)) with
  | none =>
    obtain ⟨q, hq, rfl⟩ := e3 hst
    exact ⟨_, rfl, fun m' h => (by cases h), fun _ => hq⟩
  | some m1 =>
    obtain ⟨rfl, hm1⟩ := e2 m1 hst
    exact ⟨_, rfl, fun m' h => (by cases h; exact ⟨rfl, hm1⟩), fun h => (by cases h)⟩

end Go.Abs
namespace Go.Abs
open Go
theorem GX {hop n x : Int} (hh : 1 ≤ hop) (h0 : 0 ≤ x) (hx : ∃ k : Int, x = k * hop) (h : n < x) : jH hop n ≤ x := by
  unfold jH
  split
  · exact h0
  · obtain ⟨k, rfl⟩ := hx
    have hf := DG (n := n) hh
    have : n / hop < k := by
      rcases Int.lt_or_le (n / hop) k with h1 | h1
      · exact h1
      · have := Int.mul_le_mul_of_nonneg_right h1 (show 0 ≤ hop by omega)
        omega
    exact Int.mul_le_mul_of_nonneg_right (show n / hop + 1 ≤ k by omega) (by omega)

theorem KH {size hop frm : Int} {s : aT} (hh : 1 ≤ hop) (hf : 0 ≤ frm) : 0 ≤ qD size hop frm s ∧ (∃ k : Int, qD size hop frm s = k * hop) ∧ s.From - size < qD size hop frm s ∧ frm ≤ qD size hop frm s ∧
    ∀ x : Int, 0 ≤ x → (∃ k : Int, x = k * hop) → s.From - size < x → frm ≤ x → qD size hop frm s ≤ x := by
  obtain ⟨a1, a2, _, _, a5⟩ := zG (n := s.From - size) hh
  obtain ⟨b1, b2, _, _, b5⟩ := zG (n := frm - 1) hh
  unfold qD
  refine ⟨by omega, ?_, by omega, by omega, fun x x0 xk x1 x2 => ?_⟩
  · rcases Int.le_total (jH hop (s.From - size)) (jH hop (frm - 1)) with h | h
    · rw [Int.max_eq_right h]; exact b5
    · rw [Int.max_eq_left h]; exact a5
  · have c1 := GX hh x0 xk x1
    have c2 := GX hh x0 xk (show frm - 1 < x by omega)
    omega

theorem JR {size hop frm front : Int} (ok : OkH size hop frm front) {s : aT} {x : Int} : x ∈ dB size hop frm front s ↔ 0 ≤ x ∧ (∃ k : Int, x = k * hop) ∧ frm ≤ x ∧ x < front ∧ x < 1125899906842624 ∧ s.From - size < x ∧ x < s.To := by
  obtain ⟨f1, ⟨q, f2⟩, f3, f4, f5⟩ := KH (size := size) (s := s) ok.h0 ok.f0
  have hb : x < lH front s ↔ x < s.To ∧ x < front ∧ x < 1125899906842624 := by unfold lH; omega
  unfold dB
  rw [VT ok.h0]
  constructor
  · rintro ⟨k, h1, h2⟩
    have h3 := hb.1 h2
    have h4 : 0 ≤ (k : Int) * hop := Int.mul_nonneg (by omega) (by have := ok.h0; omega)
    refine ⟨by omega, ⟨q + k, ?_⟩, by omega, h3.2.1, h3.2.2, by omega, h3.1⟩
    rw [Int.add_mul]; omega
  · rintro ⟨h1, ⟨k, hk⟩, h2, h3, h4, h5, h6⟩
    have h7 := f5 x h1 ⟨k, hk⟩ h5 h2
    have h8 : q ≤ k := by
      rcases Int.lt_or_le k q with hlt | hle
      · have u := Int.mul_le_mul_of_nonneg_right (show k + 1 ≤ q by omega) (show 0 ≤ hop by have := ok.h0; omega)
        have u0 := ok.h0
        rw [Int.add_mul] at u
        omega
      · exact hle
    refine ⟨(k - q).toNat, ?_, hb.2 ⟨h6, h3, h4⟩⟩
    rw [Int.toNat_of_nonneg (by omega), Int.sub_mul]; omega

theorem UQ {size hop frm front : Int} (ok : OkH size hop frm front) (s : aT) : (dB size hop frm front s).Pairwise (· < ·) := (QB ok.h0 _).1

def AH (size hop : Int) (s : aT) (frm front : Int) : List Int × Int :=
  if !sU size hop then ([], 2) else if !(kF frm && kF front) then ([], 13) else if s.From < -1 ∨ s.To ≤ s.From ∨ 1125899906842624 < s.To then ([], 14)
  else if 1024 < (dB size hop frm front s).length then ([], 7) else (dB size hop frm front s, 0)

theorem JG {size hop frm front : Int} (hm : sU size hop = true) (h1 : kF frm = true) (h2 : kF front = true) : OkH size hop frm front := by
  have a := RE hm; have b := GA h1; have c := GA h2
  exact ⟨a.1, a.2.1, a.2.2.1, a.2.2.2, b.1, b.2, c.1, c.2⟩

theorem RA {c0 : Int} {c1 : aT} {c2 c3 c4 : Int} (a : List Int) (b : Int) : ∀ (ts out : List Int), out.length ≤ 1024 →
    ∃ x, uL (fun st t => rnd (fun (s : (List Int) × Int × List Int) => mE c0 c1 c2 c3 c4 s.1 s.2.1 s.2.2 t) st) ts (.inl (a, b, out)) = some x ∧ (if 1024 < out.length + ts.length then ∃ q, x = .inr ([], 7, q) else x = .inl (a, b, out ++ ts))
  | [], out, ho => ⟨_, rfl, by rw [if_neg (by simp; omega)]; simp⟩
  | t :: ts, out, ho => by
    by_cases hl : out.length = 1024
    · refine ⟨.inr ([], 7, out), ?_, by rw [if_pos (by simp only [List.length_cons]; omega)]; exact ⟨_, rfl⟩⟩
      have hb : mE c0 c1 c2 c3 c4 a b out t = some (.inr ([], 7, out)) := by
        unfold mE
        rw [decide_eq_true (by omega), cond_true]
      simp only [uL, rnd, hb, Option.bind_some, Sum.isLeft_inr, Bool.false_eq_true, if_false]
    · obtain ⟨x, h1, h2⟩ := RA a b ts (out ++ [t]) (by simp; omega)
      refine ⟨x, ?_, ?_⟩
      · have hb : mE c0 c1 c2 c3 c4 a b out t = some (.inl (a, b, out ++ [t])) := by
          unfold mE
          rw [decide_eq_false (by omega), cond_false, aM (by simp only [List.length_cons, List.length_nil]; omega)]
        simp only [uL, rnd, hb, Option.bind_some, Sum.isLeft_inl, if_true]
        exact h1
      · have e : (out ++ [t]).length + ts.length = out.length + (t :: ts).length := by simp; omega
        rw [e] at h2
        simpa using h2

theorem aBh (size hop : Int) (s : aT) (frm front : Int) : vG size hop s frm front = some (AH size hop s frm front) := by
  unfold vG AH
  simp only [sI, oC, Option.bind_some]
  rw [show ((((decide ((1 : Int) ≤ size)) && (decide (size ≤ (1099511627776 : Int)))) && (decide ((1 : Int) ≤ hop))) && (decide (hop ≤ (1099511627776 : Int)))) = sU size hop from rfl, show ((decide ((0 : Int) ≤ frm)) && (decide (frm ≤ (1125899906842624 : Int)))) = kF frm from rfl, show ((decide ((0 : Int) ≤ front)) && (decide (front ≤ (1125899906842624 : Int)))) = kF front from rfl]
  cases hm : sU size hop with
  | false => rfl
  | true =>
    cases h1 : kF frm with
    | false => rfl
    | true =>
      cases h2 : kF front with
      | false => rfl
      | true =>
        simp only [Bool.not_true, cond_false, Bool.not_false, cT, cond_true, Option.bind_some, Bool.or_self, Bool.and_self, Bool.false_eq_true, if_false]
        by_cases hs : s.From < -1 ∨ s.To ≤ s.From ∨ 1125899906842624 < s.To
        · have : (((decide (s.From < (-1 : Int))) || (decide (s.To ≤ s.From))) || (decide ((1125899906842624 : Int) < s.To))) = true := by simp only [Bool.or_eq_true, decide_eq_true_eq]; omega
          rw [this, if_pos hs]; rfl
        · have : (((decide (s.From < (-1 : Int))) || (decide (s.To ≤ s.From))) || (decide ((1125899906842624 : Int) < s.To))) = false := by simp only [Bool.or_eq_false_iff, decide_eq_false_iff_not]; omega
          rw [this, if_neg hs, cond_false]
          have ok := JG hm h1 h2
          simp only [rL, Option.bind_some, xT]
          obtain ⟨x, e1, e2⟩ := RA (c0 := hop) (c1 := s) (c2 := size) (c3 := frm) (c4 := front) [] 0 (dB size hop frm front s) [] (by simp)
          rw [NW ok (by omega) (by omega) e1, Option.bind_some]
          simp only [List.length_nil, Nat.zero_add, List.nil_append] at e2
          by_cases hl : 1024 < (dB size hop frm front s).length
          · rw [if_pos hl] at e2 ⊢
            obtain ⟨q, rfl⟩ := e2
            rfl
          · rw [if_neg hl] at e2 ⊢
            subst e2
            rfl

theorem JY (size hop : Int) : uJ size hop = some (sU size hop) := by
  unfold uJ sU
  have a : decide ((0 : Int) < size) = decide ((1 : Int) ≤ size) := decide_eq_decide.2 (by omega)
  have b : decide ((0 : Int) < hop) = decide ((1 : Int) ≤ hop) := decide_eq_decide.2 (by omega)
  rw [a, b]

theorem IB {size t : Int} (h0 : 0 ≤ t) (h1 : t ≤ 4503599627370496) (h2 : 0 ≤ size) (h3 : size ≤ 1099511627776) : uE size t = some (min (t + size) 1125899906842624) := by
  have hw : IntKind.i64.wrap (t + size) = t + size := dM (by omega) (by omega)
  unfold uE
  rw [hw]
  by_cases hc : 1125899906842624 < t + size
  · rw [decide_eq_true hc, cond_true, Int.min_eq_right (by omega)]
  · rw [decide_eq_false hc, cond_false, Int.min_eq_left (by omega)]

theorem FD {size hop frm front : Int} (ok : OkH size hop frm front) {s : aT} (hs : -1 ≤ s.From) (hs1 : s.From < s.To) (hs2 : s.To ≤ 1125899906842624) : ∀ (t : Int) (out : List Int), 0 ≤ t → frm ≤ t → s.From - size < t → out.length ≤ 1024 →
    lp (fun q : List Int × Int => eV size hop frm front s q.1 q.2) (out, t) = some (if 1024 < out.length + (yI hop t (lH front s)).length then .inr ([], 7) else .inl (out ++ yI hop t (lH front s))) := by
  refine FZ ok.h0 (b := lH front s) (fun t h out h0 h1 h2 ho => ?_) (fun t h ih out h0 h1 h2 ho => ?_)
  · rw [CC ok.h0 h, if_neg (by simp; omega), List.append_nil]
    refine cU ?_
    show eV size hop frm front s out t = _
    unfold eV
    have : (((decide (t < front)) && (decide (t < s.To))) && (decide (t < (1125899906842624 : Int)))) = false := by
      rw [Bool.eq_false_iff]; intro hc
      simp only [Bool.and_eq_true, decide_eq_true_eq] at hc
      unfold lH at h; omega
    rw [this]; rfl
  · rw [DY ok.h0 h]
    have hb : lH front s ≤ 1125899906842624 := Int.min_le_right _ _
    have hw : IntKind.i64.wrap (t + hop) = t + hop := by have := ok.h0; have := ok.h1; exact dM (by omega) (by omega)
    have hE := IB (size := size) h0 (by omega) (by have := ok.s0; omega) ok.s1
    have c1 : (((decide (t < front)) && (decide (t < s.To))) && (decide (t < (1125899906842624 : Int)))) = true := by
      simp only [Bool.and_eq_true, decide_eq_true_eq]
      unfold lH at h; omega
    have c2 : ((decide (frm ≤ t)) && (decide (s.From < min (t + size) 1125899906842624))) = true := by
      simp only [Bool.and_eq_true, decide_eq_true_eq]; omega
    have body : eV size hop frm front s out t = some (if 1024 < out.length + 1 then .inr (.inr ([], 7)) else .inl (out ++ [t], t + hop)) := by
      unfold eV
      rw [c1, cond_true, decide_eq_true h1]
      simp only [cT, cond_true, hE, Option.bind_some]
      rw [decide_eq_true h1] at c2
      rw [c2, cond_true, aM (by simp only [List.length_cons, List.length_nil]; omega)]
      unfold mV
      by_cases hl : 1024 < out.length + 1
      · rw [if_pos hl, decide_eq_true (by simp only [List.length_append, List.length_cons, List.length_nil]; omega), cond_true]
      · rw [if_neg hl, decide_eq_false (by simp only [List.length_append, List.length_cons, List.length_nil]; omega), cond_false, hw]
    by_cases hl : 1024 < out.length + 1
    · rw [if_pos hl] at body
      rw [cU (show (fun q : List Int × Int => eV size hop frm front s q.1 q.2) (out, t) = _ from body), if_pos (by simp only [List.length_cons]; omega)]
    · rw [if_neg hl] at body
      rw [eX (show (fun q : List Int × Int => eV size hop frm front s q.1 q.2) (out, t) = _ from body), ih (out ++ [t]) (by have := ok.h0; omega) (by have := ok.h0; omega) (by have := ok.h0; omega) (by simp; omega)]
      have e : (out ++ [t]).length + (yI hop (t + hop) (lH front s)).length = out.length + (t :: yI hop (t + hop) (lH front s)).length := by simp; omega
      rw [e]
      simp only [List.append_assoc, List.cons_append, List.nil_append]

theorem UZ (size hop : Int) (s : aT) (frm front : Int) : pI size hop s frm front = some (AH size hop s frm front) := by
  unfold pI AH
  rw [JY, show mC frm = some (kF frm) from rfl, show mC front = some (kF front) from rfl]
  simp only [Option.bind_some]
  cases hm : sU size hop with
  | false => rfl
  | true =>
    cases h1 : kF frm with
    | false => rfl
    | true =>
      cases h2 : kF front with
      | false => rfl
      | true =>
        simp only [Bool.not_true, cond_false, Bool.not_false, cT, cond_true, Option.bind_some, Bool.or_self, Bool.and_self, Bool.false_eq_true, if_false]
        by_cases hs : s.From < -1 ∨ s.To ≤ s.From ∨ 1125899906842624 < s.To
        · have : (((decide (s.From < (-1 : Int))) || (decide (s.To ≤ s.From))) || (decide ((1125899906842624 : Int) < s.To))) = true := by simp only [Bool.or_eq_true, decide_eq_true_eq]; omega
          rw [this, if_pos hs]; rfl
        · have : (((decide (s.From < (-1 : Int))) || (decide (s.To ≤ s.From))) || (decide ((1125899906842624 : Int) < s.To))) = false := by simp only [Bool.or_eq_false_iff, decide_eq_false_iff_not]; omega
          rw [this, if_neg hs, cond_false]
          have ok := JG hm h1 h2
          have w1 : IntKind.i64.wrap (s.From - size) = s.From - size := by have := ok.s0; have := ok.s1; exact dM (by omega) (by omega)
          rw [w1]
          have hhop := ok.h0
          -- from the least one on
          have main : ∀ low : Int, frm ≤ low → s.From - size ≤ low → (low = frm ∨ low = s.From - size) → low ≤ 1125899906842624 → oO size hop frm front s low = some (if 1024 < (dB size hop frm front s).length then ([], 7) else (dB size hop frm front s, 0)) := by
            intro low l1 l2 l3 l4
            have l0 : 0 ≤ low := by have := ok.f0; omega
            obtain ⟨f1, ⟨q, f2⟩, f3, f4, f5⟩ := KH (size := size) (s := s) ok.h0 ok.f0
            have hfl := DG (n := low) hhop
            have hd0 : 0 ≤ low / hop := Int.ediv_nonneg l0 (by omega)
            have hd1 : low / hop ≤ low := Int.ediv_le_self _ l0
            have hm0 : 0 ≤ low / hop * hop := Int.mul_nonneg hd0 (by omega)
            rw [Int.add_mul] at hfl
            have v1 : IntKind.i64.wrap (Int.tdiv low hop) = low / hop := by rw [VD l0]; exact dM (by omega) (by omega)
            have v2 : IntKind.i64.wrap (low / hop * hop) = low / hop * hop := dM (by omega) (by omega)
            have v3 : IntKind.i64.wrap (low / hop * hop + hop) = low / hop * hop + hop := dM (by omega) (by have := ok.h1; omega)
            have fin : ∀ r : List Int ⊕ (List Int × Int), r = (if 1024 < (dB size hop frm front s).length then .inr ([], 7) else .inl (dB size hop frm front s)) → (some r).bind (Sum.elim (fun rr => qR rr) (fun rr => some (rr.1, rr.2))) = some (if 1024 < (dB size hop frm front s).length then ([], 7) else (dB size hop frm front s, 0)) := by
              intro r hr
              subst hr
              by_cases hl : 1024 < (dB size hop frm front s).length
              · rw [if_pos hl, if_pos hl]; rfl
              · rw [if_neg hl, if_neg hl]; rfl
            unfold oO
            rw [aM (by omega), v1, v2]
            unfold uM
            by_cases hin : frm ≤ low / hop * hop ∧ s.From - size < low / hop * hop
            · have he : qD size hop frm s = low / hop * hop := by
                have u1 := f5 _ hm0 ⟨low / hop, rfl⟩ hin.2 hin.1
                omega
              rw [FD ok (by omega) (by omega) (by omega) (low / hop * hop) [] hm0 hin.1 hin.2 (by simp)]
              refine fin _ ?_
              simp only [List.length_nil, Nat.zero_add, List.nil_append]
              unfold dB
              rw [he]
            · have hnext : qD size hop frm s = low / hop * hop + hop := by
                have u1 := f5 (low / hop * hop + hop) (by omega) ⟨low / hop + 1, by rw [Int.add_mul]; omega⟩ (by omega) (by omega)
                have u2 : low / hop * hop < qD size hop frm s := by omega
                rw [f2] at u2 u1 ⊢
                have u3 : low / hop < q := by
                  rcases Int.lt_or_le (low / hop) q with h | h
                  · exact h
                  · have := Int.mul_le_mul_of_nonneg_right h (show 0 ≤ hop by omega); omega
                have u4 := Int.mul_le_mul_of_nonneg_right (show low / hop + 1 ≤ q by omega) (show 0 ≤ hop by omega)
                rw [Int.add_mul] at u4
                omega
              -- the first one is left out
              by_cases hlt : low / hop * hop < lH front s
              · have hb : lH front s ≤ 1125899906842624 := Int.min_le_right _ _
                have c1 : (((decide (low / hop * hop < front)) && (decide (low / hop * hop < s.To))) && (decide (low / hop * hop < (1125899906842624 : Int)))) = true := by
                  simp only [Bool.and_eq_true, decide_eq_true_eq]
                  unfold lH at hlt; omega
                have hE := IB (size := size) hm0 (by omega) (by have := ok.s0; omega) ok.s1
                have body : eV size hop frm front s [] (low / hop * hop) = some (.inl ([], low / hop * hop + hop)) := by
                  unfold eV
                  rw [c1, cond_true]
                  by_cases hfr : frm ≤ low / hop * hop
                  · rw [decide_eq_true hfr]
                    simp only [cT, cond_true, hE, Option.bind_some]
                    have : decide (s.From < min (low / hop * hop + size) 1125899906842624) = false := decide_eq_false (by omega)
                    rw [this]
                    simp only [Bool.and_false, cond_false, mV]
                    rw [v3]; rfl
                  · rw [decide_eq_false hfr]
                    simp only [cT, cond_false, Option.bind_some, Bool.false_and, mV]
                    rw [v3]; rfl
                rw [eX (show (fun q : List Int × Int => eV size hop frm front s q.1 q.2) ([], low / hop * hop) = _ from body), FD ok (by omega) (by omega) (by omega) (low / hop * hop + hop) [] (by omega) (by omega) (by omega) (by simp)]
                refine fin _ ?_
                simp only [List.length_nil, Nat.zero_add, List.nil_append]
                unfold dB
                rw [hnext]
              · have hnil : dB size hop frm front s = [] := by
                  unfold dB
                  exact CC hhop (by omega)
                have body : eV size hop frm front s [] (low / hop * hop) = some (.inr (.inl [])) := by
                  unfold eV
                  have : (((decide (low / hop * hop < front)) && (decide (low / hop * hop < s.To))) && (decide (low / hop * hop < (1125899906842624 : Int)))) = false := by
                    rw [Bool.eq_false_iff]; intro hc
                    simp only [Bool.and_eq_true, decide_eq_true_eq] at hc
                    unfold lH at hlt; omega
                  rw [this]; rfl
                rw [cU (show (fun q : List Int × Int => eV size hop frm front s q.1 q.2) ([], low / hop * hop) = _ from body)]
                refine fin _ ?_
                rw [hnil]; rfl
          by_cases hlo : s.From - size < frm
          · rw [decide_eq_true hlo, cond_true]
            exact main frm (Int.le_refl _) (by omega) (.inl rfl) (by have := ok.f1; omega)
          · rw [decide_eq_false hlo, cond_false]
            exact main (s.From - size) (by omega) (Int.le_refl _) (.inr rfl) (by have := ok.s0; omega)

end Go.Abs
namespace Go.Abs
open Go
abbrev G1 := List aC × List aH

def lJ (size t : Int) : Int := min (t + size) 1125899906842624

def tA (size t : Int) (gs : List G1) : List cP := gs.filterMap fun g => if 0 < jU g.2 t (lJ size t) then some ⟨g.1, jU g.2 t (lJ size t)⟩ else none

def rJ (size hop frm front : Int) (gs : List G1) (m : List (Int × aP)) : Option (List (Int × aP)) := cS (fun m g => cS (mI size g) m (oG size hop frm front g.2)) m gs

def oT (size hop frm front : Int) (gs : List G1) : List Int := gs.flatMap fun g => oG size hop frm front g.2

def EO (size hop frm front : Int) (gs : List G1) : List Int := (oT size hop frm front gs).foldl (fun c t => kH t c) []

def lB (c : List Int) (ts : List Int) : List Int := ts.foldl (fun c t => kH t c) c

theorem DV (c : List Int) (t : Int) (ts : List Int) : lB c (t :: ts) = lB (kH t c) ts := rfl

theorem EN (c a b : List Int) : lB c (a ++ b) = lB (lB c a) b := List.foldl_append ..

theorem DB {last : Int} : ∀ {ts c : List Int}, Inc last c → (∀ t ∈ ts, last < t ∧ t < 1125899906842624) → Inc last (lB c ts)
  | [], c, h, _ => h
  | t :: ts, c, h, ht => by
    rw [DV]
    exact DB (DU h (ht t (by simp)).1 (ht t (by simp)).2) fun x hx => ht x (by simp [hx])

theorem LG {x : Int} : ∀ {ts c : List Int}, x ∈ lB c ts ↔ x ∈ ts ∨ x ∈ c
  | [], c => by simp [lB]
  | t :: ts, c => by
    rw [DV, LG, QS]
    simp only [List.mem_cons]
    constructor
    · rintro (h | h | h)
      · exact .inl (.inr h)
      · exact .inl (.inl h)
      · exact .inr h
    · rintro ((h | h) | h)
      · exact .inr (.inl h)
      · exact .inl h
      · exact .inr (.inr h)

theorem LR {t : Int} : ∀ {ps : List Int}, ps.length ≤ (kH t ps).length
  | [] => by simp [kH]
  | p :: r => by
    unfold kH
    split
    · exact Nat.le_refl _
    · split
      · simp
      · simp only [List.length_cons]
        have := LR (t := t) (ps := r)
        omega

theorem AZ : ∀ {ts c : List Int}, c.length ≤ (lB c ts).length
  | [], c => Nat.le_refl _
  | t :: ts, c => by
    rw [DV]
    exact Nat.le_trans LR AZ

theorem MC {size : Int} {g : G1} {last : Int} : ∀ {ts : List Int} {m : List (Int × aP)} {c : List Int}, Inc last c → (∀ t ∈ ts, last < t ∧ t < 1125899906842624) → (m.map (·.1)).Perm c → m.length ≤ 1024 →
    (∀ m', cS (mI size g) m ts = some m' → (m'.map (·.1)).Perm (lB c ts) ∧ m'.length ≤ 1024) ∧ (cS (mI size g) m ts = none → 1024 < (lB c ts).length)
  | [], m, c, _, _, hp, hl => ⟨fun m' h => by simp only [cS, Option.some.injEq] at h; subst h; exact ⟨hp, hl⟩, fun h => by simp [cS] at h⟩
  | t :: ts, m, c, hi, ht, hp, hl => by
    have ht0 := ht t (by simp)
    have hi' := DU hi ht0.1 ht0.2
    have rec1 := fun (m1 : List (Int × aP)) => MC (size := size) (g := g) (last := last) (ts := ts) (m := m1) (c := kH t c) hi' (fun x hx => ht x (by simp [hx]))
    simp only [cS, DV]
    cases hg : fW m t with
    | none =>
      have hk : t ∉ m.map (·.1) := HA.1 hg
      have hk' : t ∉ c := fun h => hk (hp.mem_iff.2 h)
      have hw := NR hk'
      by_cases hf : m.length = 1024
      · have e : mI size g m t = none := by unfold mI; rw [hg]; simp [hf]
        rw [e]
        refine ⟨fun m' h => (by simp at h), fun _ => ?_⟩
        have h1 := hw.length_eq
        have h2 := hp.length_eq
        have h3 := AZ (ts := ts) (c := kH t c)
        simp only [List.length_map, List.length_cons] at h1 h2
        omega
      · have e : mI size g m t = some (iC m t (jM g (mkW size t))) := by unfold mI; rw [hg]; simp [hf]
        rw [e]
        have hp' : ((iC m t (jM g (mkW size t))).map (·.1)).Perm (kH t c) := by
          rw [QC hk]
          exact (List.perm_append_comm.trans (List.Perm.cons _ hp)).trans hw.symm
        refine rec1 _ hp' ?_
        have h1 := congrArg List.length (QC (v := jM g (mkW size t)) hk)
        simp only [List.length_map, List.length_append, List.length_cons, List.length_nil] at h1
        omega
    | some p =>
      have e : mI size g m t = some (iC m t (jM g p)) := by unfold mI; rw [hg]
      rw [e]
      have hk : t ∈ m.map (·.1) := by
        refine Decidable.byContradiction fun h => ?_
        rw [HA.2 h] at hg; cases hg
      have hw : kH t c = c := GC hi (hp.mem_iff.1 hk)
      have hk2 := RI (v := jM g p) hk
      refine rec1 _ (by rw [hk2, hw]; exact hp) ?_
      have h1 := congrArg List.length hk2
      simp only [List.length_map] at h1
      omega

theorem zH {size hop frm front : Int} (ok : OkH size hop frm front) (f : List aH) : ∀ t ∈ oG size hop frm front f, -1 < t ∧ t < 1125899906842624 := by
  intro t ht
  obtain ⟨s, _, hs⟩ := List.mem_flatMap.1 ht
  have := xS ok s t hs
  omega

theorem MN {size hop frm front : Int} (ok : OkH size hop frm front) : ∀ {gs : List G1} {m : List (Int × aP)} {c : List Int}, Inc (-1) c → (m.map (·.1)).Perm c → m.length ≤ 1024 →
    (∀ m', rJ size hop frm front gs m = some m' → (m'.map (·.1)).Perm (lB c (oT size hop frm front gs)) ∧ m'.length ≤ 1024) ∧ (rJ size hop frm front gs m = none → 1024 < (lB c (oT size hop frm front gs)).length)
  | [], m, c, _, hp, hl => ⟨fun m' h => by simp only [rJ, cS, Option.some.injEq] at h; subst h; exact ⟨hp, hl⟩, fun h => by simp [rJ, cS] at h⟩
  | g :: gs, m, c, hi, hp, hl => by
    obtain ⟨k1, k2⟩ := MC (size := size) (g := g) hi (zH ok g.2) hp hl
    have e : oT size hop frm front (g :: gs) = oG size hop frm front g.2 ++ oT size hop frm front gs := rfl
    rw [e, EN]
    simp only [rJ, cS]
    cases hs : cS (mI size g) m (oG size hop frm front g.2) with
    | none =>
      refine ⟨fun m' h => (by simp at h), fun _ => ?_⟩
      have := k2 hs
      have := AZ (ts := oT size hop frm front gs) (c := lB c (oG size hop frm front g.2))
      omega
    | some m1 =>
      obtain ⟨p1, p2⟩ := k1 m1 hs
      exact MN ok (gs := gs) (m := m1) (DB hi (zH ok g.2)) p1 p2

theorem QU {size : Int} {g : G1} (x : Int) : ∀ {ts : List Int} {m m' : List (Int × aP)}, cS (mI size g) m ts = some m' → fW m' x = if x ∈ ts then some (jM g ((fW m x).getD (mkW size x))) else fW m x
  | [], m, m', h => by simp only [cS, Option.some.injEq] at h; subst h; simp
  | t :: ts, m, m', h => by
    simp only [cS] at h
    obtain ⟨m1, h1, h2⟩ := aZ h
    have e : ∃ p, m1 = iC m t (jM g p) ∧ p = (fW m t).getD (mkW size t) := by
      unfold mI at h1
      cases hg : fW m t with
      | none =>
        rw [hg] at h1
        simp only at h1
        split at h1
        · cases h1
        · cases h1; exact ⟨_, rfl, rfl⟩
      | some p => rw [hg] at h1; cases h1; exact ⟨_, rfl, rfl⟩
    obtain ⟨p, rfl, rfl⟩ := e
    rw [QU x h2, HF]
    by_cases hx : x = t
    · subst hx
      simp only [if_true, List.mem_cons, true_or, Option.getD_some, UM, ite_self]
    · simp only [hx, if_false, List.mem_cons, false_or]

def yY (size hop frm front x : Int) (o : Option aP) (gs : List G1) : Option aP :=
  gs.foldl (fun o g => if x ∈ oG size hop frm front g.2 then some (jM g (o.getD (mkW size x))) else o) o

theorem PM {size hop frm front : Int} (x : Int) : ∀ {gs : List G1} {m m' : List (Int × aP)}, rJ size hop frm front gs m = some m' → fW m' x = yY size hop frm front x (fW m x) gs
  | [], m, m', h => by simp only [rJ, cS, Option.some.injEq] at h; subst h; rfl
  | g :: gs, m, m', h => by
    simp only [rJ, cS] at h
    obtain ⟨m1, h1, h2⟩ := aZ h
    have := PM x (gs := gs) h2
    rw [this, QU x h1]
    rfl

def uX (size hop frm front x : Int) (gs : List G1) : List cP := gs.filterMap fun g => if x ∈ oG size hop frm front g.2 then some ⟨g.1, jU g.2 x (lJ size x)⟩ else none

theorem FY {size hop frm front x : Int} : ∀ {gs : List G1} {rs : List cP}, EI gs → rs ≠ [] → (∀ g ∈ gs, (sK rs).Row ≠ g.1) → yY size hop frm front x (some ⟨⟨x, lJ size x⟩, rs⟩) gs = some ⟨⟨x, lJ size x⟩, rs ++ uX size hop frm front x gs⟩
  | [], rs, _, _, _ => by simp [yY, uX]
  | g :: gs, rs, hs, hn, hl => by
    have hs' := List.pairwise_cons.1 hs
    have hg := hl g (by simp)
    simp only [yY, List.foldl_cons, Option.getD_some]
    by_cases hx : x ∈ oG size hop frm front g.2
    · rw [if_pos hx]
      have e : jM g ⟨⟨x, lJ size x⟩, rs⟩ = ⟨⟨x, lJ size x⟩, rs ++ [⟨g.1, jU g.2 x (lJ size x)⟩]⟩ := by
        unfold jM
        rw [if_pos (.inr hg)]
      rw [e]
      have := FY (size := size) (hop := hop) (frm := frm) (front := front) (x := x) (gs := gs) (rs := rs ++ [⟨g.1, jU g.2 x (lJ size x)⟩]) hs'.2 (by simp) (fun q hq => by
        rw [yU]
        intro h
        have := hs'.1 q hq
        unfold ltG at this
        rw [show g.1 = q.1 from h] at this
        exact vV this)
      unfold yY at this
      rw [this]
      simp [uX, hx]
    · rw [if_neg hx]
      have := FY (size := size) (hop := hop) (frm := frm) (front := front) (x := x) (gs := gs) (rs := rs) hs'.2 hn (fun q hq => hl q (by simp [hq]))
      unfold yY at this
      rw [this]
      simp [uX, hx]

theorem NV {size hop frm front x : Int} : ∀ {gs : List G1}, EI gs → yY size hop frm front x none gs = if uX size hop frm front x gs = [] then none else some ⟨⟨x, lJ size x⟩, uX size hop frm front x gs⟩
  | [], _ => by simp [yY, uX]
  | g :: gs, hs => by
    have hs' := List.pairwise_cons.1 hs
    simp only [yY, List.foldl_cons, Option.getD_none]
    by_cases hx : x ∈ oG size hop frm front g.2
    · rw [if_pos hx]
      have e : jM g (mkW size x) = ⟨⟨x, lJ size x⟩, [⟨g.1, jU g.2 x (lJ size x)⟩]⟩ := by
        unfold jM mkW
        rw [if_pos (.inl rfl)]; rfl
      rw [e]
      have := FY (size := size) (hop := hop) (frm := frm) (front := front) (x := x) (gs := gs) (rs := [⟨g.1, jU g.2 x (lJ size x)⟩]) hs'.2 (by simp) (fun q hq h => by
        have h1 := hs'.1 q hq
        unfold ltG at h1
        have h2 : g.1 = q.1 := h
        rw [h2] at h1
        exact vV h1)
      unfold yY at this
      rw [this]
      simp [uX, hx]
    · rw [if_neg hx]
      have := NV (size := size) (hop := hop) (frm := frm) (front := front) (x := x) (gs := gs) hs'.2
      unfold yY at this
      rw [this]
      have e : uX size hop frm front x (g :: gs) = uX size hop frm front x gs := by simp [uX, hx]
      rw [e]

theorem MS {size hop frm front : Int} (ok : OkH size hop frm front) {f : List aH} (hf : gE f = true) (hv : ∀ t, 0 ≤ val f t) {x : Int} : x ∈ oG size hop frm front f ↔ (0 ≤ x ∧ (∃ k : Int, x = k * hop) ∧ frm ≤ x ∧ x < front ∧ x < 1125899906842624) ∧ 0 < jU f x (lJ size x) := by
  have hs0 := ok.s0
  unfold oG
  rw [List.mem_flatMap]
  constructor
  · rintro ⟨s, h1, h2⟩
    obtain ⟨a1, a2, a3, a4, a5, a6, a7⟩ := (JR ok).1 h2
    have hsp := ES hf s h1
    refine ⟨⟨a1, a2, a3, a4, a5⟩, (KO hf hv (by unfold lJ; omega)).2 ⟨max x s.From, by omega, by unfold lJ; omega, ?_⟩⟩
    exact (NG hf hv (by omega)).1 ⟨s, h1, by omega, by omega⟩
  · rintro ⟨⟨a1, a2, a3, a4, a5⟩, h⟩
    obtain ⟨y, y1, y2, y3⟩ := (KO hf hv (by unfold lJ; omega)).1 h
    unfold lJ at y2
    obtain ⟨s, h1, h2, h3⟩ := (NG hf hv (by omega)).2 y3
    exact ⟨s, h1, (JR ok).2 ⟨a1, a2, a3, a4, a5, by omega, by omega⟩⟩

theorem filterMap_eq {α β : Type} {f h : α → Option β} : ∀ {l : List α}, (∀ a ∈ l, f a = h a) → l.filterMap f = l.filterMap h
  | [], _ => rfl
  | a :: l, H => by
    rw [List.filterMap_cons, List.filterMap_cons, H a (by simp), filterMap_eq fun b hb => H b (by simp [hb])]

theorem aBm {size hop frm front x : Int} (ok : OkH size hop frm front) (hx : 0 ≤ x ∧ (∃ k : Int, x = k * hop) ∧ frm ≤ x ∧ x < front ∧ x < 1125899906842624) {gs : List G1} (hg : ∀ g ∈ gs, gE g.2 = true ∧ ∀ t, 0 ≤ val g.2 t) : uX size hop frm front x gs = tA size x gs := by
  unfold uX tA
  refine filterMap_eq fun g h => ?_
  have := MS ok (hg g h).1 (hg g h).2 (x := x)
  by_cases hb : 0 < jU g.2 x (lJ size x)
  · rw [if_pos (this.2 ⟨hx, hb⟩), if_pos hb]
  · rw [if_neg (fun q => hb (this.1 q).2), if_neg hb]

def aAT (size hop frm front : Int) (gs : List G1) : List aP := (EO size hop frm front gs).map fun t => ⟨⟨t, lJ size t⟩, tA size t gs⟩

theorem UH {size hop frm front x : Int} {gs : List G1} : x ∈ EO size hop frm front gs ↔ ∃ g ∈ gs, x ∈ oG size hop frm front g.2 := by
  have : EO size hop frm front gs = lB [] (oT size hop frm front gs) := rfl
  rw [this, LG]
  simp [oT, List.mem_flatMap]

theorem aCh {size hop frm front : Int} (ok : OkH size hop frm front) (gs : List G1) : Inc (-1) (EO size hop frm front gs) := by
  refine DB (ts := oT size hop frm front gs) (c := []) trivial fun t ht => ?_
  obtain ⟨g, _, h⟩ := List.mem_flatMap.1 ht
  exact zH ok g.2 t h

theorem aBB {size hop frm front : Int} (ok : OkH size hop frm front) {gs : List G1} (hs : EI gs) (hg : ∀ g ∈ gs, gE g.2 = true ∧ ∀ t, 0 ≤ val g.2 t) :
    (∀ m', rJ size hop frm front gs [] = some m' → (EO size hop frm front gs).length ≤ 1024 ∧ (m'.map (·.1)).Perm (EO size hop frm front gs) ∧ ∀ x ∈ EO size hop frm front gs, fW m' x = some ⟨⟨x, lJ size x⟩, tA size x gs⟩) ∧
    (rJ size hop frm front gs [] = none → 1024 < (EO size hop frm front gs).length) := by
  obtain ⟨k1, k2⟩ := MN ok (gs := gs) (m := []) (c := []) trivial (List.Perm.refl _) (by simp)
  refine ⟨fun m' h => ?_, k2⟩
  obtain ⟨p1, p2⟩ := k1 m' h
  refine ⟨?_, p1, fun x hx => ?_⟩
  · have := p1.length_eq
    simp only [List.length_map] at this
    show (lB [] (oT size hop frm front gs)).length ≤ 1024
    omega
  · rw [PM x h]
    obtain ⟨g, hgm, hxg⟩ := UH.1 hx
    have hxx := (MS ok (hg g hgm).1 (hg g hgm).2).1 hxg
    have e : fW ([] : List (Int × aP)) x = none := rfl
    rw [e, NV hs, ← aBm ok hxx.1 hg, if_neg]
    intro hc
    have : (⟨g.1, jU g.2 x (lJ size x)⟩ : cP) ∈ uX size hop frm front x gs := List.mem_filterMap.2 ⟨g, hgm, by rw [if_pos hxg]⟩
    rw [hc] at this
    simp at this

end Go.Abs
namespace Go.Abs
open Go
def wX (l : List aR) (size hop frm front : Int) : List aP × Int :=
  if !(sU size hop && oF l) then ([], 2) else if !vA l then ([], 20) else if !(kF frm && kF front) then ([], 13)
  else if 1024 < (EO size hop frm front (groups l)).length then ([], 7) else (aAT size hop frm front (groups l), 0)

def aDE (n : Nat) (m : List (Int × aP)) : Prop := ∀ t p, fW m t = some p → p.Rows.length ≤ n ∧ (p.Rows ≠ [] → (sK p.Rows).Row.length ≤ 4398046510976)

theorem NN {size hop frm front : Int} (ok : OkH size hop frm front) (a : List aP) (b : Int) : ∀ (gs : List G1) (n : Nat) (m : List (Int × aP)), (∀ g ∈ gs, gE g.2 = true ∧ g.1.length ≤ 4398046510976) → n + gs.length ≤ 900000 → aDE n m →
    ∃ x, itG (fun st r f => rnd (fun (q : List aP × Int × List (Int × aP)) => mY size hop frm front q.1 q.2.1 q.2.2 r f) st) gs (.inl (a, b, m)) = some x ∧ (∀ m', rJ size hop frm front gs m = some m' → x = .inl (a, b, m')) ∧ (rJ size hop frm front gs m = none → ∃ q, x = .inr ([], 7, q))
  | [], n, m, _, _, _ => ⟨_, rfl, fun m' h => by simp only [rJ, cS, Option.some.injEq] at h; subst h; rfl, fun h => by simp [rJ, cS] at h⟩
  | g :: gs, n, m, hg, hn, hm => by
    obtain ⟨h1, h2⟩ := hg g (by simp)
    simp only [List.length_cons] at hn
    obtain ⟨y, e1, e2, e3⟩ := aAB ok (g := g) h1 h2 (n := n) (by omega) (m := m) (fun t p h => ⟨.inl (hm t p h).1, (hm t p h).2⟩)
    simp only [itG, rJ, cS]
    cases hs : cS (mI size g) m (oG size hop frm front g.2) with
    | none =>
      have e4 := e3 hs
      refine ⟨.inr ([], 7, y.2), ?_, fun m' h => (by simp at h), fun _ => ⟨_, rfl⟩⟩
      have hb : mY size hop frm front a b m g.1 g.2 = some (.inr ([], 7, y.2)) := by
        unfold mY
        rw [e1, Option.bind_some, e4]; rfl
      simp only [rnd, hb, Option.bind_some, Sum.isLeft_inr, Bool.false_eq_true, if_false]
    | some m1 =>
      obtain ⟨rfl, hf⟩ := e2 m1 hs
      have hm1 : aDE (n + 1) m1 := fun t p h => by
        obtain ⟨q1, q2⟩ := hf t p h
        refine ⟨?_, q2⟩
        rcases q1 with q | ⟨_, _, q⟩ <;> omega
      obtain ⟨x, f1, f2, f3⟩ := NN ok a b gs (n + 1) m1 (fun q hq => hg q (by simp [hq])) (by omega) hm1
      refine ⟨x, ?_, f2, f3⟩
      have hb : mY size hop frm front a b m g.1 g.2 = some (.inl (a, b, m1)) := by
        unfold mY
        rw [e1, Option.bind_some]; rfl
      simp only [rnd, hb, Option.bind_some, Sum.isLeft_inl, if_true]
      exact f1

theorem MR : ∀ (q s : List Int), s.length + q.length ≤ 100000 → cS sE s q = some (s ++ q)
  | [], s, _ => by simp [cS]
  | t :: q, s, h => by
    simp only [List.length_cons] at h
    have e : sE s t = some (s ++ [t]) := by
      unfold sE
      rw [aM (by simp only [List.length_cons, List.length_nil]; omega)]
    simp only [cS, e, Option.bind_some]
    rw [MR q (s ++ [t]) (by simp; omega)]
    simp

theorem aD6 {m : List (Int × aP)} {B : List Int} {mk : Int → aP} (hp : (m.map (·.1)).Perm B) (hs : B.Pairwise (· ≤ ·)) (hl : B.length ≤ 1024) (hg : ∀ x ∈ B, fW m x = some (mk x)) : vU m = some (B.map mk, 0) := by
  have hml : m.length = B.length := by simpa using hp.length_eq
  unfold vU
  rw [aM (by simp only [lN]; omega)]
  refine PV fun q hq => ?_
  have hqB : q.Perm B := hq.trans hp
  have hql := hqB.length_eq
  rw [MR q [] (by simp only [List.length_nil]; omega), Option.bind_some, List.nil_append]
  unfold CL
  rw [aDd (by omega) hqB.symm hs, Option.bind_some, aM (by simp only [lN]; omega)]
  have key := nS (l := B) (body := fun s : List aP × Int => rU m B (lN B) s.1 s.2) (fun (s : List aP) i => (s, i)) (fun s r => s ++ r.map mk)
    (fun s r => s.length + r.length ≤ 100000 ∧ ∀ x ∈ r, x ∈ B) [] ?_ ?_ ⟨by simp only [List.length_nil]; omega, fun x hx => hx⟩
  · rw [key]
    simp
  · rintro i x r s hx ⟨h1, h2⟩
    left
    simp only [List.length_cons] at h1
    obtain ⟨d1, d2, d3, d4⟩ := idx hx (by omega)
    refine ⟨s ++ [mk x], ?_, ⟨by simp; omega, fun y hy => h2 y (by simp [hy])⟩, by simp⟩
    simp only [rU, lN, gD, wR, d1, cond_true, aM d2, d3, d4, hg x (h2 x (by simp))]
    rw [aM (by simp only [List.length_cons, List.length_nil]; omega)]
  · rintro s _
    simp only [rU, lN, fO, cond_false]
    simp

theorem JZ {l : List aR} (hl : okL l) (size hop frm front : Int) : uI l size hop frm front = some (wX l size hop frm front) := by
  unfold uI wX
  simp only [sI, oC, Option.bind_some]
  rw [show ((((decide ((1 : Int) ≤ size)) && (decide (size ≤ (1099511627776 : Int)))) && (decide ((1 : Int) ≤ hop))) && (decide (hop ≤ (1099511627776 : Int)))) = sU size hop from rfl, show ((decide ((0 : Int) ≤ frm)) && (decide (frm ≤ (1125899906842624 : Int)))) = kF frm from rfl, show ((decide ((0 : Int) ≤ front)) && (decide (front ≤ (1125899906842624 : Int)))) = kF front from rfl]
  rw [XO hl, aBe hl]
  cases hm : sU size hop with
  | false => rfl
  | true =>
    cases he : oF l with
    | false => rfl
    | true =>
      simp only [Bool.not_true, Bool.not_false, cT, cond_true, Option.bind_some, Bool.or_self, cond_false, Bool.and_self, Bool.false_eq_true, if_false]
      cases ht : vA l with
      | false => rfl
      | true =>
        simp only [Bool.not_true, cond_false, Bool.false_eq_true, if_false]
        cases h1 : kF frm with
        | false => rfl
        | true =>
          cases h2 : kF front with
          | false => rfl
          | true =>
            simp only [Bool.not_true, Bool.not_false, cond_true, Option.bind_some, Bool.or_self, cond_false, Bool.and_self, Bool.false_eq_true, if_false]
            have ok := JG hm h1 h2
            obtain ⟨e1, e2, e3⟩ := yP he
            have hn := FW l
            have hv : ∀ g ∈ groups l, gE g.2 = true ∧ ∀ t, 0 ≤ val g.2 t := fun g hg => by
              refine ⟨(e2 g hg).2, fun t => ?_⟩
              have := (BP.1 ht).2 g.1 t
              rwa [← wL e3, FO e3 hg] at this
            have hrow : ∀ g ∈ groups l, gE g.2 = true ∧ g.1.length ≤ 4398046510976 := fun g hg => ⟨(e2 g hg).2, PZ hl hg⟩
            unfold DC
            simp only [xX, Option.bind_some]
            obtain ⟨x, f1, f2, f3⟩ := NN ok [] 0 (groups l) 0 [] hrow (by omega) (fun t p h => by simp [fW] at h)
            rw [ZH hl (s' := x) (by rw [he]; exact f1), Option.bind_some]
            obtain ⟨k1, k2⟩ := aBB ok e3 hv
            cases hs : rJ size hop frm front (groups l) [] with
            | none =>
              obtain ⟨q, rfl⟩ := f3 hs
              rw [if_pos (k2 hs)]; rfl
            | some m1 =>
              obtain rfl := f2 m1 hs
              obtain ⟨p1, p2, p3⟩ := k1 m1 hs
              rw [if_neg (by omega)]
              simp only [Sum.elim_inl]
              exact aD6 p2 (aCZ (aCh ok _)) p1 p3

end Go.Abs
namespace Go.Abs
open Go
theorem YN : ∀ {a b : List Int}, a.Nodup → (∀ x ∈ a, x ∈ b) → a.length ≤ b.length
  | [], _, _, _ => Nat.zero_le _
  | x :: a, b, hn, h => by
    have hn' := List.nodup_cons.1 hn
    have hx := h x (by simp)
    have := YN (a := a) (b := b.erase x) hn'.2 fun y hy => (List.mem_erase_of_ne (fun e => hn'.1 (by rw [← e]; exact hy))).2 (h y (by simp [hy]))
    rw [List.length_erase_of_mem hx] at this
    have := List.length_pos_of_mem hx
    simp only [List.length_cons]; omega

theorem aAM {c ts : List Int} (hr : ts.Pairwise (· < ·)) : ts.length ≤ (lB c ts).length :=
  YN (hr.imp fun h => by omega) fun x hx => LG.2 (.inl hx)

def qS (size hop frm front : Int) (c : List Int) (s : aT) : Option (List Int) :=
  if 1024 < (dB size hop frm front s).length ∨ 1024 < (lB c (dB size hop frm front s)).length then none else some (lB c (dB size hop frm front s))

theorem AF {size hop frm front : Int} (ok : OkH size hop frm front) : ∀ {ss : List aT} {c : List Int}, Inc (-1) c →
    (∀ c', cS (qS size hop frm front) c ss = some c' → c' = lB c (ss.flatMap (dB size hop frm front)) ∧ Inc (-1) c' ∧ (c.length ≤ 1024 → c'.length ≤ 1024)) ∧ (cS (qS size hop frm front) c ss = none → 1024 < (lB c (ss.flatMap (dB size hop frm front))).length)
  | [], c, hi => ⟨fun c' h => by simp only [cS, Option.some.injEq] at h; subst h; exact ⟨rfl, hi, id⟩, fun h => by simp [cS] at h⟩
  | s :: ss, c, hi => by
    have hb : ∀ t ∈ dB size hop frm front s, -1 < t ∧ t < 1125899906842624 := fun t ht => by have := xS ok s t ht; omega
    have hi' := DB hi hb
    simp only [cS, List.flatMap_cons, EN]
    by_cases h : 1024 < (dB size hop frm front s).length ∨ 1024 < (lB c (dB size hop frm front s)).length
    · have e : qS size hop frm front c s = none := by unfold qS; rw [if_pos h]
      rw [e]
      refine ⟨fun c' h => (by simp at h), fun _ => ?_⟩
      have h1 := aAM (c := c) (UQ ok s)
      have h2 := AZ (ts := ss.flatMap (dB size hop frm front)) (c := lB c (dB size hop frm front s))
      omega
    · have e : qS size hop frm front c s = some (lB c (dB size hop frm front s)) := by unfold qS; rw [if_neg h]
      rw [e]
      obtain ⟨k1, k2⟩ := AF ok (ss := ss) hi'
      refine ⟨fun c' hc => ?_, k2⟩
      obtain ⟨q1, q2, q3⟩ := k1 c' hc
      exact ⟨q1, q2, fun _ => q3 (by omega)⟩

def AK (size hop frm front : Int) (c : List Int) (gs : List G1) : Option (List Int) := cS (fun c g => cS (qS size hop frm front) c (mT g.2)) c gs

theorem GW {size hop frm front : Int} (ok : OkH size hop frm front) : ∀ {gs : List G1} {c : List Int}, Inc (-1) c →
    (∀ c', AK size hop frm front c gs = some c' → c' = lB c (oT size hop frm front gs) ∧ (c.length ≤ 1024 → c'.length ≤ 1024)) ∧ (AK size hop frm front c gs = none → 1024 < (lB c (oT size hop frm front gs)).length)
  | [], c, hi => ⟨fun c' h => by simp only [AK, cS, Option.some.injEq] at h; subst h; exact ⟨rfl, id⟩, fun h => by simp [AK, cS] at h⟩
  | g :: gs, c, hi => by
    obtain ⟨k1, k2⟩ := AF ok (ss := mT g.2) hi
    have e : oT size hop frm front (g :: gs) = (mT g.2).flatMap (dB size hop frm front) ++ oT size hop frm front gs := rfl
    rw [e, EN]
    simp only [AK, cS]
    cases hs : cS (qS size hop frm front) c (mT g.2) with
    | none =>
      refine ⟨fun c' h => (by simp at h), fun _ => ?_⟩
      have h1 := k2 hs
      have h2 := AZ (ts := oT size hop frm front gs) (c := lB c ((mT g.2).flatMap (dB size hop frm front)))
      omega
    | some c1 =>
      obtain ⟨rfl, q2, q3⟩ := k1 c1 hs
      obtain ⟨r1, r2⟩ := GW ok (gs := gs) q2
      refine ⟨fun c' hc => ?_, r2⟩
      obtain ⟨s1, s2⟩ := r1 c' hc
      exact ⟨s1, fun h => s2 (q3 h)⟩

def HJ : Option (List Int) → List Int ⊕ (List aP × Int)
  | some c => .inl c
  | none => .inr ([], 7)

theorem SY {l0 : List aR} {size hop frm front : Int} {rows : List (List aC)} {i14 : Int} {s15 : List aT} {k16 : Int} {ts c : List Int} (hi : Inc (-1) c) (ht : ∀ t ∈ ts, -1 < t ∧ t < 1125899906842624) (hl : c.length + ts.length ≤ 100000) :
    lp (fun s : List Int × Int => oN l0 size hop frm front rows i14 s15 k16 ts s.1 s.2) (c, 0) = some (lB c ts) := by
  refine nS (l := ts) (fun (c : List Int) i => (c, i)) (fun c r => lB c r) (fun c r => Inc (-1) c ∧ c.length + r.length ≤ 100000 ∧ ∀ t ∈ r, -1 < t ∧ t < 1125899906842624) c ?_ ?_ ⟨hi, hl, ht⟩
  · rintro i t r c hx ⟨h1, h2, h3⟩
    left
    simp only [List.length_cons] at h2
    have hil : i < ts.length := (List.getElem?_eq_some_iff.1 hx).1
    obtain ⟨d1, d2, d3, d4⟩ := idx hx (by omega)
    have h4 := h3 t (by simp)
    have h5 := PT (t := t) (ps := c)
    refine ⟨kH t c, ?_, ⟨DU h1 h4.1 h4.2, by omega, fun x hx => h3 x (by simp [hx])⟩, rfl⟩
    simp only [oN, d1, cond_true, aM d2, d3, d4]
    rw [aC4 h1 (by omega)]; rfl
  · rintro c ⟨h1, _, _⟩
    simp only [oN, fO, cond_false]
    rfl

theorem TM {l0 : List aR} {size hop frm front : Int} (hm : sU size hop = true) (ht1 : kF frm = true) (ht2 : kF front = true) {rows : List (List aC)} {i14 : Int} {ss : List aT} (hss : ∀ s ∈ ss, -1 ≤ s.From ∧ s.From < s.To ∧ s.To ≤ 1125899906842624) (hn : ss.length ≤ 100000) {c : List Int} (hi : Inc (-1) c) (hl : c.length ≤ 1024) :
    lp (fun s : List Int × Int => mW l0 size hop frm front rows i14 ss s.1 s.2) (c, 0) = some (HJ (cS (qS size hop frm front) c ss)) := by
  have ok := JG hm ht1 ht2
  refine nS (l := ss) (fun (c : List Int) i => (c, i)) (fun c r => HJ (cS (qS size hop frm front) c r)) (fun c r => Inc (-1) c ∧ c.length ≤ 1024 ∧ ∀ s ∈ r, -1 ≤ s.From ∧ s.From < s.To ∧ s.To ≤ 1125899906842624) c ?_ ?_ ⟨hi, hl, hss⟩
  · rintro i s r c hx ⟨h1, h2, h3⟩
    have hil : i < ss.length := (List.getElem?_eq_some_iff.1 hx).1
    obtain ⟨d1, d2, d3, d4⟩ := idx hx (by omega)
    have hsp := h3 s (by simp)
    have hb : ∀ t ∈ dB size hop frm front s, -1 < t ∧ t < 1125899906842624 := fun t ht => by have := xS ok s t ht; omega
    have hst : pI size hop s frm front = some (if 1024 < (dB size hop frm front s).length then ([], 7) else (dB size hop frm front s, 0)) := by
      rw [UZ]
      unfold AH
      rw [hm, ht1, ht2]
      simp only [Bool.not_true, Bool.and_self, Bool.false_eq_true, if_false]
      rw [if_neg (by omega)]
    have body : mW l0 size hop frm front rows i14 ss c (i : Int) = some (if 1024 < (dB size hop frm front s).length ∨ 1024 < (lB c (dB size hop frm front s)).length then .inr (.inr ([], 7)) else .inl (lB c (dB size hop frm front s), ((i + 1 : Nat) : Int))) := by
      simp only [mW, d1, cond_true, aM d2, d3]
      rw [hst, Option.bind_some]
      by_cases hq : 1024 < (dB size hop frm front s).length
      · rw [if_pos hq, if_pos (.inl hq)]
        rfl
      · rw [if_neg hq]
        simp only [decide_true, Bool.not_true, cond_false]
        unfold uR
        rw [SY h1 hb (by omega), Option.bind_some]
        unfold qP uS
        by_cases hc : 1024 < (lB c (dB size hop frm front s)).length
        · rw [if_pos (.inr hc), decide_eq_true (by omega), cond_true]
        · rw [if_neg (by omega), decide_eq_false (by omega), cond_false, d4]
    by_cases hq : 1024 < (dB size hop frm front s).length ∨ 1024 < (lB c (dB size hop frm front s)).length
    · right
      have e : qS size hop frm front c s = none := by unfold qS; rw [if_pos hq]
      rw [if_pos hq] at body
      simp only [cS, e]
      exact body
    · left
      have e : qS size hop frm front c s = some (lB c (dB size hop frm front s)) := by unfold qS; rw [if_neg hq]
      rw [if_neg hq] at body
      refine ⟨_, body, ⟨DB h1 hb, by omega, fun x hx => h3 x (by simp [hx])⟩, ?_⟩
      simp only [cS, e, Option.bind_some]
  · rintro c ⟨h1, _, _⟩
    simp only [mW, fO, cond_false, cS, HJ]

theorem XF {l0 : List aR} (hl0 : okL l0) (hn0 : l0.length ≤ 1099511627776) {size hop frm front : Int} (hm : sU size hop = true) (ht1 : kF frm = true) (ht2 : kF front = true) {rows : List (List aC)} (hn : rows.length ≤ 100000) (hj : ∀ r, gE (dD l0 r) = true) {c : List Int} (hi : Inc (-1) c) (hl : c.length ≤ 1024) :
    lp (fun s : List Int × Int => nT l0 size hop frm front rows s.1 s.2) (c, 0) = some (HJ (AK size hop frm front c (rows.map fun r => (r, dD l0 r)))) := by
  have ok := JG hm ht1 ht2
  refine nS (l := rows) (fun (c : List Int) i => (c, i)) (fun c r => HJ (AK size hop frm front c (r.map fun r => (r, dD l0 r)))) (fun c _ => Inc (-1) c ∧ c.length ≤ 1024) c ?_ ?_ ⟨hi, hl⟩
  · rintro i a r c hx ⟨h1, h2⟩
    have hil : i < rows.length := (List.getElem?_eq_some_iff.1 hx).1
    obtain ⟨d1, d2, d3, d4⟩ := idx hx (by omega)
    have hlen := GS (f := dD l0 a) (n := 0) (fr := 0)
    have hjl := (lM.1 (hj a)).1
    have body : nT l0 size hop frm front rows c (i : Int) = some (match cS (qS size hop frm front) c (mT (dD l0 a)) with | some c' => .inl (c', ((i + 1 : Nat) : Int)) | none => .inr (.inr ([], 7))) := by
      simp only [nT, d1, cond_true, aM d2, d3]
      rw [xE hl0 hn0, Option.bind_some, RZ (hj a), Option.bind_some]
      unfold uO
      rw [TM hm ht1 ht2 (ES (hj a)) (by unfold mT; omega) h1 h2, Option.bind_some]
      cases cS (qS size hop frm front) c (mT (dD l0 a)) with
      | none => rfl
      | some c' => simp only [HJ, Sum.elim_inl, rM, d4]
    simp only [List.map_cons, AK, cS]
    cases hs : cS (qS size hop frm front) c (mT (dD l0 a)) with
    | none =>
      right
      rw [hs] at body
      exact body
    | some c' =>
      left
      rw [hs] at body
      obtain ⟨k1, _⟩ := AF ok (ss := mT (dD l0 a)) h1
      obtain ⟨_, q2, q3⟩ := k1 c' hs
      exact ⟨c', body, ⟨q2, q3 h2⟩, rfl⟩
  · rintro c _
    simp only [nT, fO, cond_false, List.map_nil, AK, cS, HJ]

theorem aAb (size t : Int) (g : G1) (gs : List G1) : tA size t (g :: gs) = (if 0 < jU g.2 t (lJ size t) then [⟨g.1, jU g.2 t (lJ size t)⟩] else []) ++ tA size t gs := by
  unfold tA
  by_cases h : 0 < jU g.2 t (lJ size t) <;> simp [h]

theorem WL {l0 : List aR} (hl0 : okL l0) (hn0 : l0.length ≤ 1099511627776) {size : Int} {begins : List Int} {rows : List (List aC)} (hn : rows.length ≤ 100000) (hj : ∀ r, gE (dD l0 r) = true) {k21 : Int} {out : List aP} {t : Int} :
    lp (fun s : List aP × aP × Int => mO l0 size begins rows k21 s.1 s.2.1 s.2.2) (out, ⟨⟨t, lJ size t⟩, []⟩, 0) = some (out, ⟨⟨t, lJ size t⟩, tA size t (rows.map fun r => (r, dD l0 r))⟩) := by
  have key := nS (l := rows) (body := fun s : List aP × aP × Int => mO l0 size begins rows k21 s.1 s.2.1 s.2.2) (fun (rs : List cP) i => (out, ⟨⟨t, lJ size t⟩, rs⟩, i)) (fun rs r => (out, ⟨⟨t, lJ size t⟩, rs ++ tA size t (r.map fun r => (r, dD l0 r))⟩)) (fun rs r => rs.length + r.length ≤ 100000) [] ?_ ?_ (by simpa using hn)
  · rw [key]; rfl
  · rintro i a r rs hx h1
    left
    simp only [List.length_cons] at h1
    have hil : i < rows.length := (List.getElem?_eq_some_iff.1 hx).1
    obtain ⟨d1, d2, d3, d4⟩ := idx hx (by omega)
    simp only [List.map_cons, aAb]
    by_cases hb : 0 < jU (dD l0 a) t (lJ size t)
    · refine ⟨rs ++ [⟨a, jU (dD l0 a) t (lJ size t)⟩], ?_, by simp; omega, by simp [hb]⟩
      simp only [mO, d1, cond_true, aM d2, d3]
      rw [xE hl0 hn0, Option.bind_some, GY (hj a), Option.bind_some, decide_eq_true hb, cond_true, aM (by simp only [List.length_cons, List.length_nil]; omega)]
      simp only [pN, d4]
    · refine ⟨rs, ?_, by omega, by simp [hb]⟩
      simp only [mO, d1, cond_true, aM d2, d3]
      rw [xE hl0 hn0, Option.bind_some, GY (hj a), Option.bind_some, decide_eq_false hb, cond_false]
      simp only [pN, d4]
  · rintro rs _
    simp only [mO, fO, cond_false]
    simp [tA]

theorem VN {l0 : List aR} (hl0 : okL l0) (hn0 : l0.length ≤ 1099511627776) {size : Int} (hs0 : 0 ≤ size) (hs1 : size ≤ 1099511627776) {begins : List Int} (hb : ∀ t ∈ begins, 0 ≤ t ∧ t < 1125899906842624) (hbl : begins.length ≤ 100000) {rows : List (List aC)} (hn : rows.length ≤ 100000) (hj : ∀ r, gE (dD l0 r) = true) :
    lp (fun s : List aP × Int => nP l0 size begins rows s.1 s.2) ([], 0) = some (begins.map fun t => ⟨⟨t, lJ size t⟩, tA size t (rows.map fun r => (r, dD l0 r))⟩) := by
  have key := nS (l := begins) (body := fun s : List aP × Int => nP l0 size begins rows s.1 s.2) (fun (out : List aP) i => (out, i)) (fun out r => out ++ r.map fun t => ⟨⟨t, lJ size t⟩, tA size t (rows.map fun r => (r, dD l0 r))⟩) (fun out r => out.length + r.length ≤ 100000 ∧ ∀ t ∈ r, 0 ≤ t ∧ t < 1125899906842624) [] ?_ ?_ ⟨by simpa using hbl, hb⟩
  · rw [key]; simp
  · rintro i t r out hx ⟨h1, h2⟩
    left
    simp only [List.length_cons] at h1
    have hil : i < begins.length := (List.getElem?_eq_some_iff.1 hx).1
    obtain ⟨d1, d2, d3, d4⟩ := idx hx (by omega)
    have ht := h2 t (by simp)
    refine ⟨out ++ [⟨⟨t, lJ size t⟩, tA size t (rows.map fun r => (r, dD l0 r))⟩], ?_, ⟨by simp; omega, fun x hx => h2 x (by simp [hx])⟩, by simp⟩
    simp only [nP, d1, cond_true, aM d2, d3]
    rw [IB ht.1 (by omega) hs0 hs1, Option.bind_some]
    unfold wW
    rw [show min (t + size) 1125899906842624 = lJ size t from rfl, WL hl0 hn0 hn hj, Option.bind_some]
    unfold rT
    rw [aM (by simp only [List.length_cons, List.length_nil]; omega)]
    simp only [wY, d4]
  · rintro out _
    simp only [nP, fO, cond_false]
    simp

theorem PD {l : List aR} (hl : okL l) (size hop frm front : Int) : tQ l size hop frm front = some (wX l size hop frm front) := by
  unfold tQ wX
  rw [JY, show mC frm = some (kF frm) from rfl, show mC front = some (kF front) from rfl, MZ hl, SV hl]
  simp only [Option.bind_some]
  cases hm : sU size hop with
  | false => rfl
  | true =>
    cases he : oF l with
    | false => rfl
    | true =>
      simp only [Bool.not_true, Bool.not_false, cT, cond_true, Option.bind_some, Bool.or_self, cond_false, Bool.and_self, Bool.false_eq_true, if_false]
      cases ht : vA l with
      | false => rfl
      | true =>
        simp only [Bool.not_true, cond_false, Bool.false_eq_true, if_false]
        cases h1 : kF frm with
        | false => rfl
        | true =>
          cases h2 : kF front with
          | false => rfl
          | true =>
            simp only [Bool.not_true, Bool.not_false, cond_true, Option.bind_some, Bool.or_self, cond_false, Bool.and_self, Bool.false_eq_true, if_false]
            have ok := JG hm h1 h2
            have hn := (yP he).1
            have hr : (rowsOf l).length ≤ 4096 := by
              have q1 : (ZA l).length = (rowsOf l).length := by simp [ZA]
              have q2 := FW l
              rw [JS he] at q1
              omega
            have hgs : (rowsOf l).map (fun r => (r, dD l r)) = groups l := JS he
            rw [FU hl (fun e h => (MG he h).1) (by omega), Option.bind_some]
            unfold wQ
            rw [XF hl (by omega) hm h1 h2 (by omega) (wG he) (c := []) trivial (by simp), Option.bind_some, hgs]
            obtain ⟨k1, k2⟩ := GW ok (gs := groups l) (c := []) trivial
            have hB : EO size hop frm front (groups l) = lB [] (oT size hop frm front (groups l)) := rfl
            cases hs : AK size hop frm front [] (groups l) with
            | none =>
              have := k2 hs
              rw [if_pos (by rw [hB]; exact this)]
              rfl
            | some c' =>
              obtain ⟨e1, e2⟩ := k1 c' hs
              have e3 := e2 (by simp)
              rw [← hB] at e1
              subst e1
              rw [if_neg (by omega)]
              simp only [HJ, Sum.elim_inl, rR, wO]
              rw [VN hl (by omega) (by have := ok.s0; omega) ok.s1 (fun t ht => ?_) (by omega) (by omega) (wG he), Option.bind_some, hgs]
              · rfl
              · obtain ⟨g, _, hg⟩ := UH.1 ht
                have := zH ok g.2 t hg
                omega

end Go.Abs
namespace Go.Abs
open Go
def l28 : List aR := [⟨[NL], 3, 1⟩, ⟨[NL], 7, -1⟩]

theorem aDP : okL l28 := ⟨by decide, by decide⟩

theorem aDX : YV 10 5 12 = (5, 0) := by decide +kernel

theorem aCj : AH 10 5 ⟨3, 7⟩ 0 100 = ([0, 5], 0) := by decide +kernel

theorem aC0 : wX l28 10 5 0 100 = ([⟨⟨0, 10⟩, [⟨[NL], 1⟩]⟩, ⟨⟨5, 15⟩, [⟨[NL], 1⟩]⟩], 0) := by decide +kernel

theorem QW : rW = some true := by
  unfold rW
  have h1 := JZ aDP 10 5 0 100
  rw [aC0] at h1
  simp only [l28, NL] at h1
  rw [aDq, aDX, Option.bind_some, aBh, aCj, Option.bind_some, h1, Option.bind_some, aM (fun _ => by decide), aM (fun _ => by decide), aM (fun _ => by decide)]
  rfl

theorem aAo {gs : List G1} (hg : ∀ g ∈ gs, gE g.2 = true ∧ g.1.length ≤ 4398046510976) (hn : gs.length ≤ 1000000) (size t : Int) : okC (tA size t gs) := by
  refine ⟨by have : (tA size t gs).length ≤ gs.length := List.length_filterMap_le ..; omega, fun c hc => ?_⟩
  obtain ⟨g, h1, h2⟩ := List.mem_filterMap.1 hc
  split at h2
  · simp only [Option.some.injEq] at h2; subst h2
    have := (hg g h1).2; simp only; omega
  · cases h2

theorem WO {l : List aR} (hl : okL l) (size hop frm front : Int) : (wX l size hop frm front).1.length ≤ 1024 ∧ ∀ p ∈ (wX l size hop frm front).1, okC p.Rows := by
  unfold wX
  cases hm : sU size hop && oF l with
  | false => simp
  | true =>
    have he : oF l = true := (Bool.and_eq_true .. |>.mp hm).2
    obtain ⟨g1, g2⟩ := ZI hl he
    simp only [Bool.not_true, Bool.false_eq_true, if_false]
    split
    · simp
    · split
      · simp
      · split
        · simp
        · rename_i h
          refine ⟨by simp only [aAT, List.length_map]; omega, fun p hp => ?_⟩
          obtain ⟨t, _, rfl⟩ := List.mem_map.1 hp
          exact aAo g1 (by omega) _ _

end Go.Abs
namespace Go.Abs
open Go
theorem aDT {l : List aR} (m : ∀ a ∈ l, xR a) (y : List.length l * 40 ≤ 140737488351232) : okL l :=
  ⟨by omega, fun e he => by have := (m e he).1.2; omega⟩

end Go.Abs
namespace Go.Abs
open Go
theorem aBH {l : List aR} (hl : l.length ≤ 4611686018427387900) : ∃ b, xN l = some b := by
  unfold xN yS
  by_cases hn : ((List.length l : Nat) : Int) ≤ 60
  · rw [CS (l := l) (body := fun s => nA l ((List.length l : Nat) : Int) s) (fun i => i) (fun e => decide ((10 : Int) < e.Net)) (.inr false) (.inl ()) ?_ ?_]
    · split
      · exact ⟨_, rfl⟩
      · exact ⟨_, rfl⟩
    · intro i e he
      obtain ⟨d1, d2, d3, d4⟩ := idx he (by omega)
      simp only [nA, d1, decide_eq_true hn, Bool.and_self, cond_true, aM d2, d3, d4]
      cases decide ((10 : Int) < e.Net) <;> rfl
    · simp only [nA, fO, Bool.false_and, cond_false]
  · have hb : (fun s => nA l ((List.length l : Nat) : Int) s) 0 = some (.inr (.inl ())) := by
      show nA l ((List.length l : Nat) : Int) 0 = _
      simp only [nA, decide_eq_false hn, Bool.and_false, cond_false]
    rw [cU hb]
    exact ⟨_, rfl⟩

theorem RP (l0 : (List aR)) (m0 : ∀ a ∈ l0, xR a) (y0 : List.length l0 * 40 ≤ 140737488351232) (a1 : Int) (w1 : yM a1) (a2 : Int) (w2 : yM a2) (a3 : Int) (w3 : yM a3) (a4 : Int) (w4 : yM a4) : sR l0 a1 a2 a3 a4 = some true := by
  have k0 := aDT m0 y0
  unfold sR
  obtain ⟨b, hb⟩ := aBH (l := l0) (by have := k0.1; omega)
  rw [hb, Option.bind_some]
  cases b with
  | false => simp only [Bool.not_false, cond_true, QW, Option.bind_some]
  | true =>
    obtain ⟨h1, h2⟩ := WO k0 a1 a2 a3 a4
    simp only [Bool.not_true, cond_false, JZ k0, PD k0, QW, Option.bind_some, cT, decide_true, Bool.and_self, cond_true, UT (show (wX l0 a1 a2 a3 a4).1.length ≤ 1000000 by omega) h2]

end Go.Abs
